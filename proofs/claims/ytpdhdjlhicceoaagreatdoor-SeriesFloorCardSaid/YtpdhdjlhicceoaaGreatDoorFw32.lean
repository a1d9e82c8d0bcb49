/- Parts of the proof that follows: A series that is let go below a floor, plainly: it may be, and twice is once. No condition. -/
import Derived.Test.YtpdhdjlhicceoaaGreatDoorFw31
set_option linter.unusedSimpArgs false
set_option linter.unusedVariables false
namespace Go.Proofs.YtpdhdjlhicceoaaGreatDoor
open Go.RowKit
/-- What is left of a series at a floor. -/
def retS (s : SerT) (f : Int) : SerT := ⟨s.name, s.eps, f, s.last, s.scale, s.segs.filter (fun x => decide (f ≤ lastT x.runs)), s.opn.filter (fun q => decide (f ≤ q.1))⟩
def retE (s : SerT) (f : Int) : Int := if checkB s = false then 340 else if btw f 0 281474976710656 = false then 2 else if f < s.floor then 343 else 0
theorem first_last {x : SegT} (h : segB x = true) : firstT x.runs ≤ lastT x.runs := by
  have hr := segB_runs h
  have hc := cnt_pos hr
  exact at_mono hr (by omega) (by omega) (by omega)
theorem rowB_weak {l : List SegT} {b b' : Int} (h : b ≤ b') (hr : rowB b' l = true) : rowB b l = true := by
  cases l with
  | nil => rfl
  | cons x l =>
    simp only [rowB, Bool.and_eq_true, decide_eq_true_eq] at hr ⊢
    exact ⟨hr.1, by omega, hr.2.2⟩
theorem rowB_filter (p : SegT → Bool) : ∀ {l : List SegT} {b : Int}, rowB b l = true → rowB b (l.filter p) = true
  | [], _, _ => rfl
  | x :: l, b, h => by
    simp only [rowB, Bool.and_eq_true, decide_eq_true_eq] at h
    have ih := rowB_filter p h.2.2
    cases hp : p x with
    | false =>
      rw [List.filter_cons, hp]
      exact rowB_weak (by have := first_last h.1; omega) ih
    | true =>
      rw [List.filter_cons, hp]
      simp only [if_true, rowB, Bool.and_eq_true, decide_eq_true_eq]
      exact ⟨h.1, h.2.1, ih⟩
theorem riseB_weak {l : List Int} {b b' : Int} (h : b ≤ b') (hr : riseB b' l = true) : riseB b l = true := by
  cases l with
  | nil => rfl
  | cons x l =>
    simp only [riseB, Bool.and_eq_true, decide_eq_true_eq] at hr ⊢
    exact ⟨by omega, hr.2⟩
theorem riseB_sub {l l' : List Int} (h : l'.Sublist l) : ∀ b, riseB b l = true → riseB b l' = true := by
  induction h with
  | slnil => exact fun _ h => h
  | cons a _ ih =>
    intro b hr
    simp only [riseB, Bool.and_eq_true, decide_eq_true_eq] at hr
    exact riseB_weak (Int.le_of_lt hr.1) (ih _ hr.2)
  | cons_cons a _ ih =>
    intro b hr
    simp only [riseB, Bool.and_eq_true, decide_eq_true_eq] at hr ⊢
    exact ⟨hr.1, ih _ hr.2⟩
theorem rise_pair : ∀ {l : List Int} {b : Int}, riseB b l = true → l.Pairwise (· < ·) ∧ ∀ t, t ∈ l → b < t
  | [], _, _ => ⟨.nil, fun t h => by cases h⟩
  | x :: l, b, h => by
    simp only [riseB, Bool.and_eq_true, decide_eq_true_eq] at h
    obtain ⟨h1, h2⟩ := rise_pair h.2
    refine ⟨List.pairwise_cons.2 ⟨h2, h1⟩, fun t ht => ?_⟩
    rcases List.mem_cons.1 ht with rfl | ht
    · exact h.1
    · have := h2 t ht; omega
theorem flat_sub {α β : Type} (g : α → List β) {l l' : List α} (h : l'.Sublist l) : (l'.flatMap g).Sublist (l.flatMap g) := by
  induction h with
  | slnil => exact List.Sublist.refl _
  | cons a _ ih =>
    rw [List.flatMap_cons]
    exact ih.trans (List.sublist_append_right _ _)
  | cons_cons a _ ih =>
    rw [List.flatMap_cons, List.flatMap_cons]
    exact List.Sublist.append (List.Sublist.refl _) ih
theorem times_sub (s : SerT) (f : Int) : (timesS (retS s f)).Sublist (timesS s) :=
  List.Sublist.append (flat_sub _ List.filter_sublist) (List.filter_sublist.map _)
theorem times_last {l : List RunT} (h : RunsOk l) : ∃ T, timesL l = T ++ [lastT l] := by
  have hc := cnt_pos h
  have hl := length_times h
  obtain ⟨k, hk⟩ : ∃ k : Nat, cnt l = (k : Int) + 1 := ⟨(cnt l - 1).toNat, by omega⟩
  have hx := at_times h (k := k) (by omega)
  have hkl : k < (timesL l).length := by omega
  refine ⟨(timesL l).take k, ?_⟩
  have e : (timesL l).drop k = [lastT l] := by
    rw [List.drop_eq_getElem_cons hkl, List.drop_eq_nil_of_le (by omega)]
    have : (timesL l)[k] = lastT l := by
      rw [List.getElem?_eq_getElem hkl] at hx
      injection hx with hx
      rw [hx]
      unfold lastT
      congr 1
      omega
    rw [this]
  rw [← e, List.take_append_drop]
theorem lastT_mem {l : List RunT} (h : RunsOk l) : lastT l ∈ timesL l := by
  obtain ⟨T, e⟩ := times_last h
  rw [e]
  simp
theorem ret_tail {s : SerT} {f : Int} (hr : riseB (-1) (timesS s) = true) (hv : ∀ x, x ∈ s.segs → segB x = true) : timesS (retS s f) = [] ∨ ∃ U U' t, timesS s = U ++ [t] ∧ timesS (retS s f) = U' ++ [t] := by
  have hp := (rise_pair hr).1
  unfold timesS at hp
  have hp2 := List.pairwise_append.1 hp
  have hno : ∀ (P : Int), (∀ x, x ∈ s.segs → lastT x.runs ≤ P) → (∀ q, q ∈ s.opn → q.1 ≤ P) → ¬f ≤ P → timesS (retS s f) = [] := fun P h1 h2 hf => by
    have e1 : (retS s f).segs = [] := List.filter_eq_nil_iff.2 fun x hx => by
      have := h1 x hx
      rw [decide_eq_true_eq]
      omega
    have e2 : (retS s f).opn = [] := List.filter_eq_nil_iff.2 fun q hq => by
      have := h2 q hq
      rw [decide_eq_true_eq]
      omega
    unfold timesS
    rw [e1, e2]
    rfl
  rcases List.eq_nil_or_concat s.opn with ho | ⟨o, p, ho⟩
  · rcases List.eq_nil_or_concat s.segs with hs | ⟨l, x, hs⟩
    · left
      unfold timesS retS
      rw [ho, hs]
      rfl
    · rw [List.concat_eq_append] at hs
      have hx := segB_runs (hv x (by rw [hs]; simp))
      obtain ⟨T, eT⟩ := times_last hx
      by_cases hf : f ≤ lastT x.runs
      · refine .inr ⟨l.flatMap (fun x => timesL x.runs) ++ T, (l.filter (fun x => decide (f ≤ lastT x.runs))).flatMap (fun x => timesL x.runs) ++ T, lastT x.runs, ?_, ?_⟩
        · unfold timesS
          rw [ho, hs, List.flatMap_append, List.flatMap_singleton, eT]
          simp
        · unfold timesS retS
          simp only [ho, hs, List.filter_append, List.filter_cons, decide_eq_true hf, if_true, List.filter_nil, List.flatMap_append, List.flatMap_singleton, eT]
          simp
      · refine .inl (hno (lastT x.runs) (fun y hy => ?_) (fun q hq => by rw [ho] at hq; cases hq) hf)
        rw [hs] at hy hp2
        rcases List.mem_append.1 hy with hy | hy
        · have h1 := hp2.1
          rw [List.flatMap_append, List.flatMap_singleton] at h1
          have h2 := (List.pairwise_append.1 h1).2.2
          have hyb := segB_runs (hv y (by rw [hs]; exact List.mem_append_left _ hy))
          exact Int.le_of_lt (h2 _ (List.mem_flatMap.2 ⟨y, hy, lastT_mem hyb⟩) _ (lastT_mem hx))
        · rw [List.mem_singleton.1 hy]
          exact Int.le_refl _
  · rw [List.concat_eq_append] at ho
    by_cases hf : f ≤ p.1
    · refine .inr ⟨s.segs.flatMap (fun x => timesL x.runs) ++ o.map (·.1), (retS s f).segs.flatMap (fun x => timesL x.runs) ++ (o.filter (fun q => decide (f ≤ q.1))).map (·.1), p.1, ?_, ?_⟩
      · unfold timesS
        rw [ho]
        simp
      · unfold timesS retS
        simp only [ho, List.filter_append, List.filter_cons, decide_eq_true hf, if_true, List.filter_nil]
        simp
    · refine .inl (hno p.1 (fun y hy => ?_) (fun q hq => ?_) hf)
      · have hyb := segB_runs (hv y hy)
        exact Int.le_of_lt (hp2.2.2 _ (List.mem_flatMap.2 ⟨y, hy, lastT_mem hyb⟩) _ (by rw [ho]; simp))
      · have h1 := hp2.2.1
        rw [ho, List.map_append] at h1
        rw [ho] at hq
        rcases List.mem_append.1 hq with hq | hq
        · exact Int.le_of_lt ((List.pairwise_append.1 h1).2.2 _ (List.mem_map_of_mem hq) _ (by simp))
        · rw [List.mem_singleton.1 hq]
          exact Int.le_refl _
theorem checkB_ret {s : SerT} {f : Int} (hc : checkB s = true) (hb : btw f 0 281474976710656 = true) (hf : s.floor ≤ f) : checkB (retS s f) = true := by
  unfold checkB at hc ⊢
  simp only [Bool.and_eq_true] at hc ⊢
  obtain ⟨h1, h2, h3, h4, h5, h6, h7, h8⟩ := hc
  refine ⟨?_, rowB_filter _ h2, ?_, ?_, ?_, riseB_sub (times_sub s f) _ h6, ?_, ?_⟩
  · unfold numsB at h1 ⊢
    simp only [Bool.and_eq_true] at h1 ⊢
    exact ⟨h1.1, h1.2.1, h1.2.2.1, hb, h1.2.2.2.2⟩
  · rw [decide_eq_true_eq] at h3 ⊢
    exact Nat.lt_of_le_of_lt (List.length_filter_le _ _) h3
  · rw [List.all_eq_true] at h4 ⊢
    intro x hx
    obtain ⟨hx1, hx2⟩ := List.mem_filter.1 hx
    have := h4 x hx1
    unfold inSegB at this ⊢
    rw [Bool.and_eq_true] at this ⊢
    exact ⟨this.1, hx2⟩
  · rw [List.all_eq_true] at h5 ⊢
    intro q hq
    obtain ⟨hq1, hq2⟩ := List.mem_filter.1 hq
    have := h5 q hq1
    unfold inOpnB btw at this ⊢
    simp only [Bool.and_eq_true] at this ⊢
    exact ⟨⟨hq2, this.1.2⟩, this.2⟩
  · rcases ret_tail (f := f) h6 (rowB_seg h2) with e | ⟨U, U', t, e1, e2⟩
    · unfold lastB
      rw [e]
      rfl
    · unfold lastB at h7 ⊢
      rw [e1, lastOr_snoc] at h7
      rw [e2, lastOr_snoc]
      exact h7
  · rw [decide_eq_true_eq] at h8 ⊢
    refine Nat.le_trans ?_ h8
    unfold keptN
    have e : (timesS s).filter (fun t => decide (f ≤ t)) = ((timesS s).filter (fun t => decide (s.floor ≤ t))).filter (fun t => decide (f ≤ t)) := by
      rw [List.filter_filter]
      congr 1
      funext t
      by_cases h9 : f ≤ t
      · simp [h9, show s.floor ≤ t by omega]
      · simp [h9]
    have h10 : ((timesS (retS s f)).filter (fun t => decide (f ≤ t))).length ≤ ((timesS s).filter (fun t => decide (f ≤ t))).length := ((times_sub s f).filter _).length_le
    rw [e] at h10
    exact Nat.le_trans h10 (List.length_filter_le _ _)
theorem ret_ret {s : SerT} {a b : Int} (h : a ≤ b) : retS (retS s a) b = retS s b := by
  unfold retS
  simp only [List.filter_filter, SerT.mk.injEq, true_and]
  constructor
  · congr 1
    funext x
    by_cases h9 : b ≤ lastT x.runs
    · simp [h9, show a ≤ lastT x.runs by omega]
    · simp [h9]
  · congr 1
    funext x
    by_cases h9 : b ≤ x.1
    · simp [h9, show a ≤ x.1 by omega]
    · simp [h9]
theorem retE_zero {s : SerT} {f : Int} (h : retE s f = 0) : checkB s = true ∧ btw f 0 281474976710656 = true ∧ s.floor ≤ f := by
  unfold retE at h
  cases h1 : checkB s with
  | false => rw [h1] at h; cases h
  | true =>
    rw [h1, if_neg (by decide)] at h
    cases h2 : btw f 0 281474976710656 with
    | false => rw [h2] at h; cases h
    | true =>
      rw [h2, if_neg (by decide)] at h
      by_cases h3 : f < s.floor
      · rw [if_pos h3] at h; cases h
      · exact ⟨rfl, rfl, by omega⟩
theorem retE_ok {s : SerT} {f : Int} (h1 : checkB s = true) (h2 : btw f 0 281474976710656 = true) (h3 : s.floor ≤ f) : retE s f = 0 := by
  unfold retE
  rw [h1, h2, if_neg (by decide), if_neg (by decide), if_neg (by omega)]
theorem retE_out {s : SerT} {f : Int} (h1 : checkB s = true) (h2 : btw f 0 281474976710656 = false) : retE s f = 2 := by
  unfold retE
  rw [h1, h2, if_neg (by decide), if_pos rfl]
theorem retE_low {s : SerT} {f : Int} (h1 : checkB s = true) (h2 : btw f 0 281474976710656 = true) (h3 : f < s.floor) : retE s f = 343 := by
  unfold retE
  rw [h1, h2, if_neg (by decide), if_neg (by decide), if_pos h3]
/-- Twice is once, and what is gone does not come back. -/
theorem floor_bad {s : SerT} {a b : Int} (h : a ≤ b) (h1 : retE s a = 0) (h2 : retE (retS s a) b ≠ 0) : retE (retS s a) b = 2 ∧ retE s b = 2 := by
  obtain ⟨c1, c2, c3⟩ := retE_zero h1
  have c4 := checkB_ret c1 c2 c3
  cases hb : btw b 0 281474976710656 with
  | false => exact ⟨retE_out c4 hb, retE_out c1 hb⟩
  | true => exact absurd (retE_ok c4 hb (show a ≤ b from h)) h2
theorem floor_ok {s : SerT} {a b : Int} (h : a ≤ b) (h1 : retE s a = 0) (h2 : retE (retS s a) b = 0) : retE s b = 0 ∧ (a < b → retE (retS s b) a = 343) ∧ (a = b → retE (retS s b) a = 0) := by
  obtain ⟨c1, c2, c3⟩ := retE_zero h1
  obtain ⟨d1, d2, d3⟩ := retE_zero h2
  have c4 := checkB_ret c1 d2 (show s.floor ≤ b by omega)
  exact ⟨retE_ok c1 d2 (by omega), fun e => retE_low c4 c2 (show a < b from e), fun e => retE_ok c4 c2 (show b ≤ a by omega)⟩
end Go.Proofs.YtpdhdjlhicceoaaGreatDoor
