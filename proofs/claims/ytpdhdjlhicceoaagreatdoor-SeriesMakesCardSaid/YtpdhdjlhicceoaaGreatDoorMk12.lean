/- Parts of the proof that follows: The document's segments: Right, Points told. | References 13, 14, 18, 24: what a name, a bound, a scale, a time, a point may be; a segment's last time; which segment begins behind another. No condition but that the segments may be. | A new series: the layer's, the document's. No condition. | Layer span: Least, Most. No condition but that there is a span, and that they may be. | Layer span: Plus, Around. No condition but that the spans may be. | Layer wide: Sub. | Layer answer: a sheet takes a piece. No condition but that the numbers are in their bounds. | A range over a function whose iterator writes a variable of its own ahead of the first round, and whose body never leaves: one law. No condition. | A region that draws its order, in the open fence: all but a tail is walked once, in the order of the text; the tail, behind all of it, may call a range's body. No condition. | answer.pieces: what is asked, piece by piece. No condition but that the series may be. | answer.whole: the sheet of all that is asked. No condition. | answer.whole, and what asks for it alone: At, Count, Sheet, Least, Most. No condition. | answer.whole at a series; and what asks for it alone: At, Count, Sheet, Least, Most. No condition. | answer.Mean. No condition. | What answer says of a series, plainly: whole, At, Count, Sheet, Least, Most, Sum, Mean. No condition. | Reference 25: ends, Total. No condition but that there is one at least, or that they are few. | Reference 25: Total. No condition but that they are few. | Append to a row of one's own: the row stays in its block or is in a new one. No condition. | Reference 25: Bounds. No condition but that they are few. | Reference 25: Back: what is told at each kept time. No condition but that the segments may be. | Reference 24: a series' times, and how many it keeps. No condition but that the segments may be. -/
import Derived.RegionTactic
import Derived.ChangeAlike
import Derived.Test.YtpdhdjlhicceoaaGreatDoorMk11
set_option linter.unusedSimpArgs false
set_option linter.unusedVariables false
namespace Go.Proofs.YtpdhdjlhicceoaaGreatDoor
open Go.RowKit
/-- The segments of which points are told. -/
def PtsDom (s : SegT) : Prop := (s.K = 4 ∧ (s.raw.length : Int) = cnt s.runs) ∨ (s.K ≠ 4 ∧ isLine s.A s.R s.n s.d = true)
end Go.Proofs.YtpdhdjlhicceoaaGreatDoor
namespace Go.Proofs.YtpdhdjlhicceoaaGreatDoor
open Go.RowKit
set_option maxRecDepth 100000 in
set_option maxHeartbeats 2000000 in
theorem c_r18Letter (r : Nat) (w : World) : Calls Tryz.prog 82 #[.int .u8 r] w fun e w' => e = .returned (.bool (letterB r)) ∧ Below w.heap.size w w' := by
  go_enter Tryz.func82, Tryz.ntmps82
  go_upto_region 1 with (fail)
  refine wp_cutB w (Bz) ?_
  rintro W1 hW z2 hL
  refine wp_regS 15 17 hW hL ?_
  iterate 3 refine dA ?_
  iterate 2 refine gA ?_
  refine pA ?_
  refine dA ?_
  iterate 3 refine gA ?_
  iterate 2 refine gB ?_
  refine pgA ?_
  refine pO ?_
  refine dA ?_
  clear hW hL
  rintro W3 hW z4 hL
  simp only [ndR]
  intros
  repeat (rename GDet _ _ _ _ => hgd; clear hgd)
  simp only [ndS]
  refine wpList_nil ?_
  obtain ⟨-⟩ := hL
  go_wp2
  refine bodyPost_ret (v := .bool ((decide (97 ≤ (r : Int)) && decide ((r : Int) ≤ 122)) || (decide (48 ≤ (r : Int)) && decide ((r : Int) ≤ 57)))) (by simp [results, Tryz.results82, go_sem]) rfl ⟨?_, by exact belowAny⟩
  congr 2
  unfold letterB
  rw [Bool.eq_iff_iff]
  simp only [Bool.or_eq_true, Bool.and_eq_true, decide_eq_true_eq]
  omega
set_option maxRecDepth 100000 in
set_option maxHeartbeats 2000000 in
theorem c_r13Eps (n : Int) (w : World) : Calls Tryz.prog 40 #[.int .i64 n] w fun e w' => e = .returned (.bool (btw n (0) 1099511627776)) ∧ Below w.heap.size w w' := by
  unfold btw
  go_enter Tryz.func40, Tryz.ntmps40
  go_upto_region 1 with (fail)
  refine wp_cutB w (Bz) ?_
  rintro W1 hW z2 hL
  refine wp_regS 7 9 hW hL ?_
  iterate 3 refine dA ?_
  iterate 2 refine gA ?_
  refine pA ?_
  refine dA ?_
  clear hW hL
  rintro W3 hW z4 hL
  simp only [ndR]
  intros
  repeat (rename GDet _ _ _ _ => hgd; clear hgd)
  simp only [ndS]
  refine wpList_nil ?_
  obtain ⟨-⟩ := hL
  go_wp2
  refine bodyPost_ret (by simp [results, Tryz.results40, go_sem]) rfl ⟨rfl, by exact belowAny⟩
set_option maxRecDepth 100000 in
set_option maxHeartbeats 2000000 in
theorem c_r24Scale (n : Int) (w : World) : Calls Tryz.prog 41 #[.int .i64 n] w fun e w' => e = .returned (.bool (btw n (-40) 40)) ∧ Below w.heap.size w w' := by
  unfold btw
  go_enter Tryz.func41, Tryz.ntmps41
  go_upto_region 1 with (fail)
  refine wp_cutB w (Bz) ?_
  rintro W1 hW z2 hL
  refine wp_regS 7 9 hW hL ?_
  iterate 3 refine dA ?_
  iterate 2 refine gA ?_
  refine pA ?_
  refine dA ?_
  clear hW hL
  rintro W3 hW z4 hL
  simp only [ndR]
  intros
  repeat (rename GDet _ _ _ _ => hgd; clear hgd)
  simp only [ndS]
  refine wpList_nil ?_
  obtain ⟨-⟩ := hL
  go_wp2
  refine bodyPost_ret (by simp [results, Tryz.results41, go_sem]) rfl ⟨rfl, by exact belowAny⟩
theorem let_step (s : ByteArray) (f pos : Nat) (h : pos < s.size) : lettersB s (f + 1) pos = (letterB (s[pos]'h).toNat && lettersB s f (pos + 1)) := by
  have e : lettersB s (f + 1) pos = (letterB (Utf8.decode s pos).1 && lettersB s f (pos + (Utf8.decode s pos).2)) := by simp [lettersB, h]
  rw [e]
  by_cases ha : (s[pos]'h).toNat < 128
  · rw [decode_ascii s pos h ha]
  · have h1 := (decode_high s pos h (by omega)).1
    have n1 : letterB (Utf8.decode s pos).1 = false := by unfold letterB; simp; omega
    have n2 : letterB (s[pos]'h).toNat = false := by unfold letterB; simp; omega
    rw [n1, n2, Bool.false_and, Bool.false_and]
def nm18Rel (w : World) (s : ByteArray) (a' : Act) (W : World) : Prop :=
  Below w.heap.size w W ∧ ∃ i f : Nat, (∃ u : Nat → Value, a' = { tmps := #[.string s, u 1, u 2, u 3, .string s, .int .i64 (s.size : Int), .int .i64 (i : Int), u 7, u 8, u 9, u 10, u 11, u 12, u 13, u 14, u 15, u 16, u 17, u 18, u 19, u 20, u 21, u 22], defers := [] }) ∧ s.size ≤ i + f ∧ lettersB s f i = lettersB s s.size 0 ∧ i ≤ s.size
set_option maxRecDepth 100000 in
set_option maxHeartbeats 2000000 in
theorem c_r18Name (s : ByteArray) (w : World) (hs9 : s.size ≤ 1000) : Calls Tryz.prog 39 #[.string s] w fun e w' => e = .returned (.bool (nameB s)) ∧ Below w.heap.size w w' := by
  go_enter Tryz.func39, Tryz.ntmps39
  go_wp2
  refine wp_loop (nm18Rel w s) (fun a' _ => s.size - (intAt (a'.tmps.getD 6 undef)).toNat) ?_ ?_
  · unfold nm18Rel
    exact ⟨Below.refl _ _, 0, s.size, frame_ex rfl, by omega, rfl, by omega⟩
  · rintro a' W ⟨hW, i, f, ⟨u, rfl⟩, hf, hlet, hi⟩
    have hz := hW.size
    rcases Nat.lt_or_ge i s.size with hlt | hge
    · obtain ⟨f, rfl⟩ : ∃ g, f = g + 1 := ⟨f - 1, by omega⟩
      rw [let_step s f i hlt] at hlet
      obtain ⟨c, hc⟩ : ∃ c, (s[i]'hlt).toNat = c := ⟨_, rfl⟩
      have hix : ∀ W, (Instr.index 9 (.string s) (.int .i64 (i : Int))).run Tryz.prog W = .ok (.int .u8 (c : Int)) W := fun W => by
        rw [run_index_string _ _ _ _ _ (by kernel_rfl), dif_pos (by omega)]
        simp only [Int.toNat_natCast, hc]
      rw [hc] at hlet
      have cl := fun W => c_r18Letter c W
      obtain ⟨b, hb⟩ : ∃ b, letterB c = b := ⟨_, rfl⟩
      rw [hb] at cl hlet
      clear hc hb
      replace cl := Lib.hid cl
      replace hlet := Lib.hid hlet
      cases b with
      | true =>
        go_wp2_with fail
        refine (cl.out _).mono ?_
        rintro e w5 ⟨rfl, hb5⟩
        go_wp2
        rw [show (i : Int) + 1 = ((i + 1 : Nat) : Int) by omega]
        refine ⟨?_, by simp [intAt]; omega⟩
        unfold nm18Rel
        exact ⟨hW.trans (hb5.mono hz), i + 1, f, frame_ex rfl, by omega, by rw [← hlet.out]; rfl, by omega⟩
      | false =>
        have hno := Lib.hid (show nameB s = false by unfold nameB; rw [← hlet.out]; simp)
        go_wp2_with fail
        refine (cl.out _).mono ?_
        rintro e w5 ⟨rfl, hb5⟩
        go_wp2
        go_ret
        exact ⟨by rw [hno.out]; rfl, hW.trans (hb5.mono hz)⟩
    · have hall : lettersB s s.size 0 = true := by
        rw [← hlet]
        cases f with
        | zero => rfl
        | succ f => simp [lettersB, Nat.not_lt.2 hge]
      clear hlet
      have hnm : nameB s = (decide (1 ≤ (s.size : Int)) && decide ((s.size : Int) ≤ 12)) := by
        unfold nameB
        rw [hall, Bool.and_true, Bool.eq_iff_iff]
        simp only [Bool.and_eq_true, decide_eq_true_eq]
        omega
      replace hnm := Lib.hid hnm
      clear hall
      go_upto_region 7 with (fail)
      refine wp_cutB w (Bz) ?_
      clear hW
      rintro W21 hW z22 hL
      refine wp_regS 9 23 hW hL ?_
      iterate 4 refine dA ?_
      iterate 3 refine gA ?_
      refine pA ?_
      refine dA ?_
      clear hW hL
      rintro W23 hW z24 hL
      simp only [ndR]
      intros
      repeat (rename GDet _ _ _ _ => hgd; clear hgd)
      simp only [ndS]
      refine wpList_nil ?_
      obtain ⟨-⟩ := hL
      go_wp2
      refine bodyPost_ret (v := .bool (decide (1 ≤ (s.size : Int)) && decide ((s.size : Int) ≤ 12))) (by simp [results, Tryz.results39, go_sem]) rfl ⟨by rw [hnm.out], by exact belowAny⟩
end Go.Proofs.YtpdhdjlhicceoaaGreatDoor
namespace Go.Proofs.YtpdhdjlhicceoaaGreatDoor
open Go.RowKit
/-- a new series, and the error -/
def newV (s : ByteArray) (eps scale : Int) : Value :=
  if nameB s = true then (if btw eps 0 1099511627776 = true then (if btw scale (-40) 40 = true then .tuple #[.agg #[.string s, .int .i64 eps, .int .i64 0, .int .i64 (-1), .int .i64 scale, .slice none 0 0, .slice none 0 0], .int .i64 0] else .tuple #[.agg #[.string { data := #[] }, .int .i64 0, .int .i64 0, .int .i64 0, .int .i64 0, .slice none 0 0, .slice none 0 0], .int .i64 2]) else .tuple #[.agg #[.string { data := #[] }, .int .i64 0, .int .i64 0, .int .i64 0, .int .i64 0, .slice none 0 0, .slice none 0 0], .int .i64 231]) else .tuple #[.agg #[.string { data := #[] }, .int .i64 0, .int .i64 0, .int .i64 0, .int .i64 0, .slice none 0 0, .slice none 0 0], .int .i64 341]
set_option maxRecDepth 100000 in
set_option maxHeartbeats 2000000 in
theorem c_sNew (s : ByteArray) (eps scale : Int) (w : World) : Calls Tryz.prog 12 #[.string s, .int .i64 eps, .int .i64 scale] w fun e w' => e = .returned (newV s eps scale) ∧ Below w.heap.size w w' := by
  have c1 := fun W (_ : Below w.heap.size w W) => c_recName s W
  have c2 := fun W (_ : Below w.heap.size w W) => c_srBtw eps 0 1099511627776 W
  have c3 := fun W (_ : Below w.heap.size w W) => c_srScl scale W
  unfold newV
  cases h1 : nameB s with
  | false =>
    simp only [h1, if_neg Bool.false_ne_true] at c1 ⊢
    clear c2 c3
    have H_c1 := Lib.hid c1
    clear c1
    go_enter Tryz.func12, Tryz.ntmps12
    go_wp2_with fail
    refine (H_c1.out _ belowAny).mono ?_
    rintro e w1 ⟨rfl, hb1⟩
    have z2 := hb1.size
    try simp at z2
    refine haveB w w1 (Bc w.heap.size #[.string { data := #[] }, .int .i64 0, .int .i64 0, .int .i64 0, .int .i64 0, .slice none 0 0, .slice none 0 0] 26 <| Bz) ?_
    rintro hW z3 ⟨⟨b1, yb1, k1, f1⟩, -⟩
    clear hb1
    go_wp2
    refine bodyPost_ret (by simp [results, Tryz.results12, go_sem, k1, f1, yb1]) rfl ⟨rfl, by exact belowAny⟩
  | true =>
  cases h2 : btw eps 0 1099511627776 with
  | false =>
    simp only [h1, h2, if_true, if_neg Bool.false_ne_true] at c1 c2 ⊢
    clear c3
    have H_c1 := Lib.hid c1
    clear c1
    have H_c2 := Lib.hid c2
    clear c2
    go_enter Tryz.func12, Tryz.ntmps12
    go_wp2_with fail
    refine (H_c1.out _ belowAny).mono ?_
    rintro e w1 ⟨rfl, hb1⟩
    have z2 := hb1.size
    try simp at z2
    refine haveB w w1 (Bc w.heap.size #[.string { data := #[] }, .int .i64 0, .int .i64 0, .int .i64 0, .int .i64 0, .slice none 0 0, .slice none 0 0] 26 <| Bz) ?_
    rintro hW z3 ⟨⟨b1, yb1, k1, f1⟩, -⟩
    clear hb1
    go_wp2_with fail
    refine (H_c2.out _ belowAny).mono ?_
    rintro e w4 ⟨rfl, hb4⟩
    have z5 := hb4.size
    try simp at z5
    clear k1 f1
    refine haveB w w4 (Bc w.heap.size #[.string { data := #[] }, .int .i64 0, .int .i64 0, .int .i64 0, .int .i64 0, .slice none 0 0, .slice none 0 0] 26 <| Bz) ?_
    clear b1 hW
    rintro hW z6 ⟨⟨b1, yb1, k1, f1⟩, -⟩
    clear hb4
    go_wp2
    refine bodyPost_ret (by simp [results, Tryz.results12, go_sem, k1, f1, yb1]) rfl ⟨rfl, by exact belowAny⟩
  | true =>
  cases h3 : btw scale (-40) 40 with
  | false =>
    simp only [h1, h2, h3, if_true, if_neg Bool.false_ne_true] at c1 c2 c3 ⊢
    have H_c1 := Lib.hid c1
    clear c1
    have H_c2 := Lib.hid c2
    clear c2
    have H_c3 := Lib.hid c3
    clear c3
    go_enter Tryz.func12, Tryz.ntmps12
    go_wp2_with fail
    refine (H_c1.out _ belowAny).mono ?_
    rintro e w1 ⟨rfl, hb1⟩
    have z2 := hb1.size
    try simp at z2
    refine haveB w w1 (Bc w.heap.size #[.string { data := #[] }, .int .i64 0, .int .i64 0, .int .i64 0, .int .i64 0, .slice none 0 0, .slice none 0 0] 26 <| Bz) ?_
    rintro hW z3 ⟨⟨b1, yb1, k1, f1⟩, -⟩
    clear hb1
    go_wp2_with fail
    refine (H_c2.out _ belowAny).mono ?_
    rintro e w4 ⟨rfl, hb4⟩
    have z5 := hb4.size
    try simp at z5
    clear k1 f1
    refine haveB w w4 (Bc w.heap.size #[.string { data := #[] }, .int .i64 0, .int .i64 0, .int .i64 0, .int .i64 0, .slice none 0 0, .slice none 0 0] 26 <| Bz) ?_
    clear b1 hW
    rintro hW z6 ⟨⟨b1, yb1, k1, f1⟩, -⟩
    clear hb4
    go_wp2_with fail
    refine (H_c3.out _ belowAny).mono ?_
    rintro e w7 ⟨rfl, hb7⟩
    have z8 := hb7.size
    try simp at z8
    clear k1 f1
    refine haveB w w7 (Bc w.heap.size #[.string { data := #[] }, .int .i64 0, .int .i64 0, .int .i64 0, .int .i64 0, .slice none 0 0, .slice none 0 0] 26 <| Bz) ?_
    clear b1 hW
    rintro hW z9 ⟨⟨b1, yb1, k1, f1⟩, -⟩
    clear hb7
    go_wp2
    refine bodyPost_ret (by simp [results, Tryz.results12, go_sem, k1, f1, yb1]) rfl ⟨rfl, by exact belowAny⟩
  | true =>
    simp only [h1, h2, h3, if_true] at c1 c2 c3 ⊢
    have H_c1 := Lib.hid c1
    clear c1
    have H_c2 := Lib.hid c2
    clear c2
    have H_c3 := Lib.hid c3
    clear c3
    go_enter Tryz.func12, Tryz.ntmps12
    go_wp2_with fail
    refine (H_c1.out _ belowAny).mono ?_
    rintro e w1 ⟨rfl, hb1⟩
    have z2 := hb1.size
    try simp at z2
    refine haveB w w1 (Bc w.heap.size #[.string { data := #[] }, .int .i64 0, .int .i64 0, .int .i64 0, .int .i64 0, .slice none 0 0, .slice none 0 0] 26 <| Bz) ?_
    rintro hW z3 ⟨⟨b1, yb1, k1, f1⟩, -⟩
    clear hb1
    go_wp2_with fail
    refine (H_c2.out _ belowAny).mono ?_
    rintro e w4 ⟨rfl, hb4⟩
    have z5 := hb4.size
    try simp at z5
    clear k1 f1
    refine haveB w w4 (Bc w.heap.size #[.string { data := #[] }, .int .i64 0, .int .i64 0, .int .i64 0, .int .i64 0, .slice none 0 0, .slice none 0 0] 26 <| Bz) ?_
    clear b1 hW
    rintro hW z6 ⟨⟨b1, yb1, k1, f1⟩, -⟩
    clear hb4
    go_wp2_with fail
    refine (H_c3.out _ belowAny).mono ?_
    rintro e w7 ⟨rfl, hb7⟩
    have z8 := hb7.size
    try simp at z8
    clear k1 f1
    refine haveB w w7 (Bc w.heap.size #[.string { data := #[] }, .int .i64 0, .int .i64 0, .int .i64 0, .int .i64 0, .slice none 0 0, .slice none 0 0] 26 <| Bz) ?_
    clear b1 hW
    rintro hW z9 ⟨⟨b1, yb1, k1, f1⟩, -⟩
    clear hb7
    go_wp2
    refine bodyPost_ret (by simp [results, Tryz.results12, go_sem, k1, f1, yb1]) rfl ⟨rfl, by exact belowAny⟩
set_option maxRecDepth 100000 in
set_option maxHeartbeats 2000000 in
theorem c_r24New (s : ByteArray) (eps scale : Int) (w : World) (hs : s.size ≤ 1000) : Calls Tryz.prog 13 #[.string s, .int .i64 eps, .int .i64 scale] w fun e w' => e = .returned (newV s eps scale) ∧ Below w.heap.size w w' := by
  have c1 := fun W (_ : Below w.heap.size w W) => c_r18Name s W hs
  have c2 := fun W (_ : Below w.heap.size w W) => c_r13Eps eps W
  have c3 := fun W (_ : Below w.heap.size w W) => c_r24Scale scale W
  unfold newV
  cases h1 : nameB s with
  | false =>
    simp only [h1, if_neg Bool.false_ne_true] at c1 ⊢
    clear c2 c3
    have H_c1 := Lib.hid c1
    clear c1
    go_enter Tryz.func13, Tryz.ntmps13
    go_wp2_with fail
    refine (H_c1.out _ belowAny).mono ?_
    rintro e w1 ⟨rfl, hb1⟩
    have z2 := hb1.size
    try simp at z2
    refine haveB w w1 (Bc w.heap.size #[.string { data := #[] }, .int .i64 0, .int .i64 0, .int .i64 0, .int .i64 0, .slice none 0 0, .slice none 0 0] 26 <| Bz) ?_
    rintro hW z3 ⟨⟨b1, yb1, k1, f1⟩, -⟩
    clear hb1
    go_wp2
    refine bodyPost_ret (by simp [results, Tryz.results13, go_sem, k1, f1, yb1]) rfl ⟨rfl, by exact belowAny⟩
  | true =>
  cases h2 : btw eps 0 1099511627776 with
  | false =>
    simp only [h1, h2, if_true, if_neg Bool.false_ne_true] at c1 c2 ⊢
    clear c3
    have H_c1 := Lib.hid c1
    clear c1
    have H_c2 := Lib.hid c2
    clear c2
    go_enter Tryz.func13, Tryz.ntmps13
    go_wp2_with fail
    refine (H_c1.out _ belowAny).mono ?_
    rintro e w1 ⟨rfl, hb1⟩
    have z2 := hb1.size
    try simp at z2
    refine haveB w w1 (Bc w.heap.size #[.string { data := #[] }, .int .i64 0, .int .i64 0, .int .i64 0, .int .i64 0, .slice none 0 0, .slice none 0 0] 26 <| Bz) ?_
    rintro hW z3 ⟨⟨b1, yb1, k1, f1⟩, -⟩
    clear hb1
    go_wp2_with fail
    refine (H_c2.out _ belowAny).mono ?_
    rintro e w4 ⟨rfl, hb4⟩
    have z5 := hb4.size
    try simp at z5
    clear k1 f1
    refine haveB w w4 (Bc w.heap.size #[.string { data := #[] }, .int .i64 0, .int .i64 0, .int .i64 0, .int .i64 0, .slice none 0 0, .slice none 0 0] 26 <| Bz) ?_
    clear b1 hW
    rintro hW z6 ⟨⟨b1, yb1, k1, f1⟩, -⟩
    clear hb4
    go_wp2
    refine bodyPost_ret (by simp [results, Tryz.results13, go_sem, k1, f1, yb1]) rfl ⟨rfl, by exact belowAny⟩
  | true =>
  cases h3 : btw scale (-40) 40 with
  | false =>
    simp only [h1, h2, h3, if_true, if_neg Bool.false_ne_true] at c1 c2 c3 ⊢
    have H_c1 := Lib.hid c1
    clear c1
    have H_c2 := Lib.hid c2
    clear c2
    have H_c3 := Lib.hid c3
    clear c3
    go_enter Tryz.func13, Tryz.ntmps13
    go_wp2_with fail
    refine (H_c1.out _ belowAny).mono ?_
    rintro e w1 ⟨rfl, hb1⟩
    have z2 := hb1.size
    try simp at z2
    refine haveB w w1 (Bc w.heap.size #[.string { data := #[] }, .int .i64 0, .int .i64 0, .int .i64 0, .int .i64 0, .slice none 0 0, .slice none 0 0] 26 <| Bz) ?_
    rintro hW z3 ⟨⟨b1, yb1, k1, f1⟩, -⟩
    clear hb1
    go_wp2_with fail
    refine (H_c2.out _ belowAny).mono ?_
    rintro e w4 ⟨rfl, hb4⟩
    have z5 := hb4.size
    try simp at z5
    clear k1 f1
    refine haveB w w4 (Bc w.heap.size #[.string { data := #[] }, .int .i64 0, .int .i64 0, .int .i64 0, .int .i64 0, .slice none 0 0, .slice none 0 0] 26 <| Bz) ?_
    clear b1 hW
    rintro hW z6 ⟨⟨b1, yb1, k1, f1⟩, -⟩
    clear hb4
    go_wp2_with fail
    refine (H_c3.out _ belowAny).mono ?_
    rintro e w7 ⟨rfl, hb7⟩
    have z8 := hb7.size
    try simp at z8
    clear k1 f1
    refine haveB w w7 (Bc w.heap.size #[.string { data := #[] }, .int .i64 0, .int .i64 0, .int .i64 0, .int .i64 0, .slice none 0 0, .slice none 0 0] 26 <| Bz) ?_
    clear b1 hW
    rintro hW z9 ⟨⟨b1, yb1, k1, f1⟩, -⟩
    clear hb7
    go_wp2
    refine bodyPost_ret (by simp [results, Tryz.results13, go_sem, k1, f1, yb1]) rfl ⟨rfl, by exact belowAny⟩
  | true =>
    simp only [h1, h2, h3, if_true] at c1 c2 c3 ⊢
    have H_c1 := Lib.hid c1
    clear c1
    have H_c2 := Lib.hid c2
    clear c2
    have H_c3 := Lib.hid c3
    clear c3
    go_enter Tryz.func13, Tryz.ntmps13
    go_wp2_with fail
    refine (H_c1.out _ belowAny).mono ?_
    rintro e w1 ⟨rfl, hb1⟩
    have z2 := hb1.size
    try simp at z2
    refine haveB w w1 (Bc w.heap.size #[.string { data := #[] }, .int .i64 0, .int .i64 0, .int .i64 0, .int .i64 0, .slice none 0 0, .slice none 0 0] 26 <| Bz) ?_
    rintro hW z3 ⟨⟨b1, yb1, k1, f1⟩, -⟩
    clear hb1
    go_wp2_with fail
    refine (H_c2.out _ belowAny).mono ?_
    rintro e w4 ⟨rfl, hb4⟩
    have z5 := hb4.size
    try simp at z5
    clear k1 f1
    refine haveB w w4 (Bc w.heap.size #[.string { data := #[] }, .int .i64 0, .int .i64 0, .int .i64 0, .int .i64 0, .slice none 0 0, .slice none 0 0] 26 <| Bz) ?_
    clear b1 hW
    rintro hW z6 ⟨⟨b1, yb1, k1, f1⟩, -⟩
    clear hb4
    go_wp2_with fail
    refine (H_c3.out _ belowAny).mono ?_
    rintro e w7 ⟨rfl, hb7⟩
    have z8 := hb7.size
    try simp at z8
    clear k1 f1
    refine haveB w w7 (Bc w.heap.size #[.string { data := #[] }, .int .i64 0, .int .i64 0, .int .i64 0, .int .i64 0, .slice none 0 0, .slice none 0 0] 26 <| Bz) ?_
    clear b1 hW
    rintro hW z9 ⟨⟨b1, yb1, k1, f1⟩, -⟩
    clear hb7
    go_wp2
    refine bodyPost_ret (by simp [results, Tryz.results13, go_sem, k1, f1, yb1]) rfl ⟨rfl, by exact belowAny⟩
end Go.Proofs.YtpdhdjlhicceoaaGreatDoor
namespace Go.Proofs.YtpdhdjlhicceoaaGreatDoor
open Go.RowKit
end Go.Proofs.YtpdhdjlhicceoaaGreatDoor
namespace Go.Proofs.YtpdhdjlhicceoaaGreatDoor
open Go.RowKit
def plS1 (i : Nat) (S : Int) : Int := if 1 ≤ i then S else 0
def plS2 (i : Nat) (S : Int) : Int := if 2 ≤ i then S else 0
def plusV (f : Bool) (S1 S2 : Int) : Array Value := if f = true then #[.int .i64 S1, .int .i64 S2] else #[.int .i64 0, .int .i64 0]
def plusE (f : Bool) : Int := if f = true then 0 else 5
def spA (l : List (Int × Int)) : Int := lsum (l.map (·.1))
def spB (l : List (Int × Int)) : Int := lsum (l.map (·.2))
end Go.Proofs.YtpdhdjlhicceoaaGreatDoor
namespace Go.Proofs.YtpdhdjlhicceoaaGreatDoor
open Go.RowKit
end Go.Proofs.YtpdhdjlhicceoaaGreatDoor
namespace Go.Proofs.YtpdhdjlhicceoaaGreatDoor
open Go.RowKit
section
variable {P : Program} {ops : Array Oper} {C : World → Prop} {X : List (Nat × Nat)} {a0 : Act} {Fin : List (Option Tmp × Spec) → Prop} {i : Nat} {o : Oper} {rest : List Oper} {acc : List (Option Tmp × Spec)}
end
/-- A slice of two spans. -/
def SPV (l : List (Int × Int)) : Spec := fun v w => ∃ k, v = .slice (some ⟨k, 0, none⟩) 2 2 ∧ PtsIn w (some ⟨k, 0, none⟩) l
theorem SPV.closed (l : List (Int × Int)) : Closed [] (SPV l) := fun _ _ _ hr ⟨k, e, h⟩ => ⟨k, e, h.rex hr rfl⟩
/-- A piece: some values, and how far. -/
def pcA (vs : List Int) (far : Int) : Array Value := #[.int .i64 vs.length, .int .i64 (minL vs), .int .i64 (maxL vs), .int .i64 (hiW (lsum vs)), .int .u64 (loW (lsum vs)), .int .i64 far]
end Go.Proofs.YtpdhdjlhicceoaaGreatDoor
namespace Go.Proofs.YtpdhdjlhicceoaaGreatDoor
open Go.RowKit Go.Shelf
attribute [local go_sem] Oper.semAt_some

/-- What such an iterator promises: its own variable lies in block Ba. -/
def SeqWr {α : Type} (F : Fence) (n : Nat) (P : Program) (g : Nat) (lb : Array Value) (encs : α → Array Value) (Kp : World → World → Prop) (xs : List α) (Ba : Nat) (w : World) : Prop :=
  ∀ (l : Nat) (J : List α → World → Prop) (W : World), Below w.heap.size w W → AbidesFrom W.heap.size J → (∀ pre W1 v, J pre W1 → J pre (W1.setCell ⟨Ba, 0, none⟩ v)) →
    (∀ pre x W1, J pre W1 → pre ++ [x] <+: xs → YieldAt F (n - 1) P l (encs x) W1 fun e W' => e = .returned (.bool true) ∧ J (pre ++ [x]) W' ∧ Kp W1 W') →
    J [] W → CallsIn F n P g (#[.func (.yield l) #[] #[]] ++ lb) W fun e W' => (∃ v, e = .returned v) ∧ J xs W'

/-- What a round of a body that never leaves must achieve. -/
def goesOn {α : Type} (B : Nat) (Kp : World → World → Prop) (I : List α → World → Prop) (pre : List α) (W : World) : Exit → Act → World → Prop
  | .normal, _, W' => KeepsFrom B W W' ∧ Kp W W' ∧ I pre W'
  | _, _, _ => False

end Go.Proofs.YtpdhdjlhicceoaaGreatDoor
namespace Go.Proofs.YtpdhdjlhicceoaaGreatDoor
open Go.RowKit
attribute [local go_sem] Oper.semAt_some
section
variable {P : Program} {ops : Array Oper} {C : World → Prop} {X : List (Nat × Nat)} {a0 : Act} {n nn : Nat} {Q : Exit → Act → World → Prop}
/-- Each of the first n operations stands ahead of each later one. -/
def allFirstB (ops : Array Oper) (n : Nat) : Bool := (List.range n).all fun i => (List.range ops.size).all fun t => decide (t < n) || ancB ops 8 t i
end
end Go.Proofs.YtpdhdjlhicceoaaGreatDoor
namespace Go.Proofs.YtpdhdjlhicceoaaGreatDoor
open Go.RowKit Go.Shelf
attribute [local go_sem] Oper.semAt_some
end Go.Proofs.YtpdhdjlhicceoaaGreatDoor
namespace Go.Proofs.YtpdhdjlhicceoaaGreatDoor
open Go.RowKit Go.Shelf
attribute [local go_sem] Oper.semAt_some
/-- What a piece is. -/
def PcOk (x : List Int × Int) : Prop := x.1 ≠ [] ∧ x.1.length ≤ 256 ∧ 0 ≤ x.2 ∧ x.2 ≤ 1099511627776 ∧ ∀ v, v ∈ x.1 → -2305844108725321728 ≤ v ∧ v ≤ 2305844108725321728
def WholeOut (s : SerT) (a b : Int) (e : Ending) : Prop := e = .returned (.tuple #[.agg (shA ((pcsL s a b).flatMap pairs)), .int .i64 (if (pcsL s a b).flatMap pairs = [] then 9 else 0)])
end Go.Proofs.YtpdhdjlhicceoaaGreatDoor
namespace Go.Proofs.YtpdhdjlhicceoaaGreatDoor
open Go.RowKit
end Go.Proofs.YtpdhdjlhicceoaaGreatDoor
namespace Go.Proofs.YtpdhdjlhicceoaaGreatDoor
open Go.RowKit
end Go.Proofs.YtpdhdjlhicceoaaGreatDoor
namespace Go.Proofs.YtpdhdjlhicceoaaGreatDoor
open Go.RowKit
end Go.Proofs.YtpdhdjlhicceoaaGreatDoor
namespace Go.Proofs.YtpdhdjlhicceoaaGreatDoor
open Go.RowKit
/-- What is told is in its bounds. -/
def TellOk (l : List (Int × Int)) : Prop := (∀ x, x ∈ l → -2305844108725321728 ≤ x.1 ∧ x.1 ≤ 2305844108725321728 ∧ 0 ≤ x.2 ∧ x.2 ≤ 1099511627776) ∧ l.length ≤ 100000
def sumV (l : List (Int × Int)) : Array Value := if inI (lsum (loL l)) && inI (lsum (hiL l)) then #[.int .i64 (lsum (loL l)), .int .i64 (lsum (hiL l))] else #[.int .i64 0, .int .i64 0]
def sumE (l : List (Int × Int)) (e : Int) : Int := if e = 0 then (if inI (lsum (loL l)) && inI (lsum (hiL l)) then 0 else 5) else e
def meanV (l : List (Int × Int)) : Array Value := #[.int .i64 l.length, .int .i64 (lsum (loL l) / l.length), .int .i64 (lsum (loL l) % l.length), .int .i64 (lsum (hiL l) / l.length), .int .i64 (lsum (hiL l) % l.length)]
def minA (l : List (Int × Int)) : Array Value := #[.int .i64 (minL (loL l)), .int .i64 (minL (hiL l))]
def maxA (l : List (Int × Int)) : Array Value := #[.int .i64 (maxL (loL l)), .int .i64 (maxL (hiL l))]
end Go.Proofs.YtpdhdjlhicceoaaGreatDoor
namespace Go.Proofs.YtpdhdjlhicceoaaGreatDoor
open Go.RowKit
def IntsF (w : World) (p : Option Addr) (l : List Int) : Prop := IntsIn w p l
theorem IntsF.rex {L : List Nat} {w w' : World} {p : Option Addr} {l : List Int} (h : IntsF w p l) (hr : Rex L w w') (hL : L = []) : IntsF w' p l := by subst hL; exact IntsIn.below h hr.below
def enRel (w : World) (p : Option Addr) (l : List Int) (cap : Nat) (x0 : Int) (a' : Act) (W : World) : Prop :=
  Below w.heap.size w W ∧ ∃ i : Nat, (∃ u : Nat → Value, a' = { tmps := #[.slice p l.length cap, u 1, u 2, u 3, .int .i64 (minL (x0 :: l.take i)), .int .i64 (maxL (x0 :: l.take i)), .int .i64 (i : Int), u 7, u 8, u 9, u 10, u 11, u 12, u 13, u 14, u 15, u 16, u 17, u 18, u 19, u 20, u 21, u 22, u 23, u 24, u 25, u 26, u 27, u 28, u 29, u 30, u 31, u 32, u 33, u 34, u 35, u 36, u 37, u 38, u 39, u 40], defers := [] }) ∧ i ≤ l.length
end Go.Proofs.YtpdhdjlhicceoaaGreatDoor
namespace Go.Proofs.YtpdhdjlhicceoaaGreatDoor
open Go.RowKit
def toRel (w : World) (gs : Nat) (p : Option Addr) (cap : Nat) (l : List Int) (a' : Act) (W : World) : Prop :=
  Below w.heap.size w W ∧ ∃ (i : Nat) (S : Int) (ps : Option Addr) (ls cs : Nat), (∃ u : Nat → Value, a' = { tmps := #[.slice p l.length cap, u 1, .pointer (some ⟨w.heap.size, 0, none⟩), .pointer (some ⟨gs, 0, none⟩), .int .i64 (i : Int), u 5, u 6, u 7, u 8, u 9, u 10, u 11, u 12, u 13, u 14, u 15, u 16, u 17, u 18, u 19], defers := [] }) ∧ S = lsum (l.take i) ∧ i ≤ l.length ∧ Blk W w.heap.size #[.bool false, .slice none 0 0] 206 ∧ Blk W gs #[.bool (decide (S < 0)), .slice ps ls cs] 206 ∧ Bits W (.slice ps ls cs) S.natAbs
end Go.Proofs.YtpdhdjlhicceoaaGreatDoor
namespace Go.Proofs.YtpdhdjlhicceoaaGreatDoor
open Go.RowKit
section
variable {P : Program} {w : World}
end
end Go.Proofs.YtpdhdjlhicceoaaGreatDoor
namespace Go.Proofs.YtpdhdjlhicceoaaGreatDoor
open Go.RowKit
def OneV (B : Nat) (d : Int) : Spec := fun v w => ∃ g, v = .slice (some ⟨g, 0, none⟩) 1 1 ∧ B ≤ g ∧ Blk w g #[.int .i64 d] 2
theorem OneV.closed (B : Nat) (d : Int) : Closed [] (OneV B d) := fun _ _ _ hr ⟨g, e1, h1, h⟩ => ⟨g, e1, h1, h.rex hr (by simp)⟩
def Apart2 (v1 v2 : Value) : Prop := ∀ g, v1.ownBlock = some g → v2.ownBlock = some g → False
theorem Apart2.symm {v1 v2 : Value} (h : Apart2 v1 v2) : Apart2 v2 v1 := fun g a b => h g b a
def loB (x : RunT) : Int := x.s - x.c
def hiB (x : RunT) : Int := x.s + x.c
def boRel (w : World) (p : Option Addr) (cap : Nat) (l : List RunT) (a' : Act) (W : World) : Prop :=
  Below w.heap.size w W ∧ ∃ (i : Nat) (v1 v2 : Value), (∃ u : Nat → Value, a' = { tmps := #[.slice p l.length cap, u 1, .slice none 0 0, .slice none 0 0, v1, v2, .int .i64 (i : Int), u 7, u 8, u 9, u 10, u 11, u 12, u 13, u 14, u 15, u 16, u 17, u 18, u 19, u 20, u 21, u 22, u 23, u 24, u 25, u 26, u 27, u 28, u 29, u 30, u 31, u 32, u 33, u 34, u 35, u 36, u 37, u 38, u 39, u 40, u 41, u 42], defers := [] }) ∧ i ≤ l.length ∧
    OwnR W w.heap.size 2 1 v1 i (((l.take i).map loB).map (Value.int .i64)) ∧ OwnR W w.heap.size 2 1 v2 i (((l.take i).map hiB).map (Value.int .i64)) ∧ Apart2 v1 v2
end Go.Proofs.YtpdhdjlhicceoaaGreatDoor
namespace Go.Proofs.YtpdhdjlhicceoaaGreatDoor
open Go.RowKit
theorem SerIn.rex {L : List Nat} {w w' : World} {s : SerT} {ps po : Option Addr} (h : SerIn w s ps po) (hr : Rex L w w') (hL : L = []) : SerIn w' s ps po := by subst hL; exact h.below hr.below
theorem SerIn.drew {w : World} {s : SerT} {ps po : Option Addr} (h : SerIn w s ps po) : SerIn w.drew s ps po :=
  ⟨⟨fun i r hr => by
    obtain ⟨b, o, p', q', cap, vc, e, h1, h2, h3⟩ := h.segs.at' i r hr
    exact ⟨b, o, p', q', cap, vc, e, h1, ⟨⟨h2.runs.at'⟩, ⟨h2.raw.at'⟩, h2.fewR, h2.fewV⟩, h3⟩⟩, h.opn.drew, h.fewS, h.fewO⟩
def bkT (x : Int × Int × Int) : RunT := ⟨x.1, x.2.1, x.2.2⟩
end Go.Proofs.YtpdhdjlhicceoaaGreatDoor
namespace Go.Proofs.YtpdhdjlhicceoaaGreatDoor
open Go.RowKit
def tm24aRel (w : World) (s : SerT) (ps : Option Addr) (cs : Nat) (po : Option Addr) (co : Nat) (a' : Act) (W : World) : Prop :=
  Below w.heap.size w W ∧ Blk W w.heap.size #[.string s.name, .int .i64 s.eps, .int .i64 s.floor, .int .i64 s.last, .int .i64 s.scale, .slice ps s.segs.length cs, .slice po s.opn.length co] 26 ∧ ∃ (k : Nat) (v : Value), (∃ u : Nat → Value, a' = { tmps := #[.agg #[.string s.name, .int .i64 s.eps, .int .i64 s.floor, .int .i64 s.last, .int .i64 s.scale, .slice ps s.segs.length cs, .slice po s.opn.length co], .pointer (some ⟨w.heap.size, 0, none⟩), u 2, v, u 4, u 5, u 6, u 7, u 8, .slice ps s.segs.length cs, .int .i64 (s.segs.length : Int), .int .i64 (k : Int), u 12, u 13, u 14, u 15, u 16, u 17, u 18, u 19, u 20, u 21, u 22, u 23, u 24, u 25, u 26, u 27, u 28, u 29, u 30, u 31, u 32, u 33, u 34], defers := [] }) ∧ OwnR W w.heap.size 2 1 v ((s.segs.take k).flatMap fun x : SegT => timesL x.runs).length (((s.segs.take k).flatMap fun x : SegT => timesL x.runs).map (Value.int .i64)) ∧ k ≤ s.segs.length
def tm24bRel (w : World) (s : SerT) (ps : Option Addr) (cs : Nat) (po : Option Addr) (co : Nat) (a' : Act) (W : World) : Prop :=
  Below w.heap.size w W ∧ Blk W w.heap.size #[.string s.name, .int .i64 s.eps, .int .i64 s.floor, .int .i64 s.last, .int .i64 s.scale, .slice ps s.segs.length cs, .slice po s.opn.length co] 26 ∧ ∃ (k : Nat) (v : Value), (∃ u : Nat → Value, a' = { tmps := #[.agg #[.string s.name, .int .i64 s.eps, .int .i64 s.floor, .int .i64 s.last, .int .i64 s.scale, .slice ps s.segs.length cs, .slice po s.opn.length co], .pointer (some ⟨w.heap.size, 0, none⟩), u 2, v, u 4, u 5, u 6, u 7, u 8, u 9, u 10, u 11, u 12, u 13, u 14, u 15, u 16, u 17, u 18, u 19, u 20, u 21, .slice po s.opn.length co, .int .i64 (s.opn.length : Int), .int .i64 (k : Int), u 25, u 26, u 27, u 28, u 29, u 30, u 31, u 32, u 33, u 34], defers := [] }) ∧ OwnR W w.heap.size 2 1 v ((s.segs.flatMap fun x : SegT => timesL x.runs) ++ (s.opn.take k).map (·.1)).length (((s.segs.flatMap fun x : SegT => timesL x.runs) ++ (s.opn.take k).map (·.1)).map (Value.int .i64)) ∧ k ≤ s.opn.length
def kp24Rel (w : World) (s : SerT) (ps : Option Addr) (cs : Nat) (po : Option Addr) (co : Nat) (T : List Int) (p : Option Addr) (c : Nat) (a' : Act) (W : World) : Prop :=
  Below w.heap.size w W ∧ Blk W w.heap.size #[.string s.name, .int .i64 s.eps, .int .i64 s.floor, .int .i64 s.last, .int .i64 s.scale, .slice ps s.segs.length cs, .slice po s.opn.length co] 26 ∧ IntsIn W p T ∧ ∃ k : Nat, (∃ u : Nat → Value, a' = { tmps := #[.agg #[.string s.name, .int .i64 s.eps, .int .i64 s.floor, .int .i64 s.last, .int .i64 s.scale, .slice ps s.segs.length cs, .slice po s.opn.length co], .pointer (some ⟨w.heap.size, 0, none⟩), u 2, .int .i64 (keptL s.floor (T.take k) : Int), u 4, u 5, u 6, .slice p T.length c, .int .i64 (T.length : Int), .int .i64 (k : Int), u 10, u 11, u 12, u 13, u 14, u 15, u 16, u 17, u 18, u 19, u 20], defers := [] }) ∧ k ≤ T.length
end Go.Proofs.YtpdhdjlhicceoaaGreatDoor
