/- Parts of the proof that follows: The document's times: Rising. | The document's runs of times: Of. | The document's runs of times: Same, Right. -/
import Derived.Test.YtbanjolokkghdaaGreatDoorWz22
set_option linter.unusedSimpArgs false
set_option linter.unusedVariables false
namespace Go.Proofs.YtbanjolokkghdaaGreatDoor
open Go.RowKit
/-- The first n are times that may be, one above the other. -/
structure UpTo (T : List Int) (n : Nat) : Prop where
  lo : ∀ (k : Nat) (x : Int), k < n → T[k]? = some x → 0 ≤ x ∧ x ≤ 281474976710656
  up : ∀ (k : Nat) (x y : Int), k + 1 < n → T[k]? = some x → T[k + 1]? = some y → x < y
theorem UpTo.pair : ∀ {T : List Int}, UpTo T T.length → T.Pairwise (· < ·)
  | [], _ => List.Pairwise.nil
  | [a], _ => by simp
  | a :: b :: l, h => by
    have ht : UpTo (b :: l) (b :: l).length := ⟨fun k x hk hx => h.lo (k + 1) x (by simp at hk ⊢; omega) (by simpa using hx), fun k x y hk hx hy => h.up (k + 1) x y (by simp at hk ⊢; omega) (by simpa using hx) (by simpa using hy)⟩
    have ih := ht.pair
    have hab : a < b := h.up 0 a b (by simp) (by simp) (by simp)
    refine List.pairwise_cons.2 ⟨fun c hc => ?_, ih⟩
    rcases List.mem_cons.1 hc with rfl | hc
    · exact hab
    · have := (List.pairwise_cons.1 ih).1 c hc; omega
theorem UpTo.rising {T : List Int} (h : UpTo T T.length) (h0 : 1 ≤ T.length) (h1 : T.length ≤ 256) : risingB T = true :=
  (risingB_iff T).2 ⟨h0, h1, h.pair, fun x hx => by
    obtain ⟨k, hk⟩ := List.getElem?_of_mem hx
    exact h.lo k x (List.getElem?_eq_some_iff.1 hk).1 hk⟩
theorem rising_bad {T : List Int} (h : ¬ (1 ≤ T.length ∧ T.length ≤ 256 ∧ Rising T)) : risingB T = false := by
  rcases hb : risingB T with _ | _
  · rfl
  · exact absurd ((risingB_iff T).1 hb) h
def risRel (w : World) (b o cap : Nat) (T : List Int) (a' : Act) (W : World) : Prop :=
  Below w.heap.size w W ∧ ∃ (i : Nat), (∃ u : Nat → Value, a' = { tmps := #[.slice (some ⟨b, o, none⟩) T.length cap, u 1, .bool false, .int .i64 (i : Int), u 4, u 5, u 6, u 7, u 8, u 9, u 10, u 11, u 12, u 13, u 14, u 15, u 16, u 17, u 18, u 19, u 20, u 21, u 22, u 23, u 24, u 25, u 26, u 27, u 28, u 29, u 30, u 31, u 32, u 33, u 34, u 35, u 36, u 37, u 38, u 39, u 40, u 41, u 42, u 43, u 44, u 45], defers := [] }) ∧ i ≤ T.length ∧ UpTo T i
set_option maxRecDepth 100000 in
set_option maxHeartbeats 8000000 in
theorem c_refrising (p : Option Addr) (cap : Nat) (T : List Int) (w : World) (hlen : T.length ≤ 1000000) (hT0 : IntsIn w p T) :
    Calls Tryz.prog 54 #[.slice p T.length cap] w fun e w' => e = .returned (.bool (risingB T)) ∧ Below w.heap.size w w' := by
  go_enter Tryz.func54, Tryz.ntmps54
  rcases Nat.lt_or_ge T.length 1 with h1 | h1
  · have hr := rising_bad (T := T) (by omega)
    rw [hr]
    clear hr
    go_wp2
    go_ret
    exact ⟨rfl, Below.refl _ _⟩
  rcases Nat.lt_or_ge 256 T.length with h2 | h2
  · have hr := rising_bad (T := T) (by omega)
    rw [hr]
    clear hr
    go_wp2
    go_ret
    exact ⟨rfl, Below.refl _ _⟩
  obtain ⟨b, o, rfl⟩ : ∃ b o, p = some ⟨b, o, none⟩ := by
    obtain ⟨b, o, e, _⟩ := hT0.at' 0 _ (List.getElem?_eq_getElem (show 0 < T.length by omega))
    exact ⟨b, o, e⟩
  go_wp2
  refine wp_loop (risRel w b o cap T) (fun a' _ => T.length - (intAt (a'.tmps.getD 3 undef)).toNat) ?_ ?_
  · unfold risRel
    exact ⟨Below.refl _ _, 0, frame_ex rfl, by omega, ⟨fun k x hk => by omega, fun k x y hk => by omega⟩⟩
  · rintro a' W ⟨hW0, i, ⟨u, rfl⟩, hi', hup⟩
    have hz := hW0.size
    have hT : IntsP W b o T := ⟨hT0.below hW0⟩
    replace hup := Lib.hid hup
    rcases Nat.lt_or_ge i T.length with hlt | hge
    · obtain ⟨x, tx⟩ : ∃ x, T[i]? = some x := ⟨T[i]'(by omega), List.getElem?_eq_getElem (by omega)⟩
      replace tx := Lib.hid tx
      rcases Nat.eq_zero_or_pos i with hi0 | hi0
      · have e10 := Lib.hid (show decide (0 < (i : Int)) = false by simp; omega)
        replace hi0 := Lib.hid hi0
        go_upto_region 6 with (fail)
        refine wp_cutB W (Rc (fun W' => IntsP W' b o T) <| Bz) ?_ (hI := by exact belowAny) (hR := (Rc.mk (by exact hT.below belowAny) <| trivial))
        rintro W1 hW z2 hL
        obtain ⟨b1, -⟩ := id hL
        refine wp_regQ 28 46 hW hL ?_
        iterate 6 refine dE (fun W' hC => aI (hC.2.1.cellAt tx.out) (aI hlt e10.out)) ?_
        iterate 5 refine gE (fun W' hC => aI (hC.2.1.cellAt tx.out) (aI hlt e10.out)) ?_
        refine pO ?_
        refine dE (fun W' hC => aI (hC.2.1.cellAt tx.out) (aI hlt e10.out)) ?_
        iterate 3 refine gE (fun W' hC => aI (hC.2.1.cellAt tx.out) (aI hlt e10.out)) ?_
        apply nd_detg (p := _) (c := undef) (hg := rfl) (hd := rfl) (hal := rfl)
        · intro v W' h
          exact h
        · intro hp hx
          exfalso
          simp at hx
          have := hi0.out
          omega
        apply nd_detg (p := _) (c := undef) (hg := rfl) (hd := rfl) (hal := rfl)
        · intro v W' h
          exact h
        · intro hp hx
          exfalso
          simp at hx
          have := hi0.out
          omega
        apply nd_detg (p := _) (c := undef) (hg := rfl) (hd := rfl) (hal := rfl)
        · intro v W' h
          exact h
        · intro hp hx
          exfalso
          simp at hx
          have := hi0.out
          omega
        apply nd_detg (p := _) (c := undef) (hg := rfl) (hd := rfl) (hal := rfl)
        · intro v W' h
          exact h
        · intro hp hx
          exfalso
          simp at hx
          have := hi0.out
          omega
        apply nd_detg (p := _) (c := undef) (hg := rfl) (hd := rfl) (hal := rfl)
        · intro v W' h
          exact h
        · intro hp hx
          exfalso
          simp at hx
          have := hi0.out
          omega
        apply nd_detg (p := _) (c := undef) (hg := rfl) (hd := rfl) (hal := rfl)
        · intro v W' h
          exact h
        · intro hp hx
          exfalso
          simp at hx
          have := hi0.out
          omega
        apply nd_detg (p := _) (c := undef) (hg := rfl) (hd := rfl) (hal := rfl)
        · intro v W' h
          exact h
        · intro hp hx
          exfalso
          simp at hx
          have := hi0.out
          omega
        apply nd_detg (p := _) (c := undef) (hg := rfl) (hd := rfl) (hal := rfl)
        · intro v W' h
          exact h
        · intro hp hx
          exfalso
          simp at hx
          have := hi0.out
          omega
        apply nd_detg (p := _) (c := undef) (hg := rfl) (hd := rfl) (hal := rfl)
        · intro v W' h
          exact h
        · intro hp hx
          exfalso
          simp at hx
          have := hi0.out
          omega
        apply nd_detg (p := _) (c := undef) (hg := rfl) (hd := rfl) (hal := rfl)
        · intro v W' h
          exact h
        · intro hp hx
          exfalso
          simp at hx
          have := hi0.out
          omega
        apply nd_pickg_and (y := false) (p := true) (ho := rfl) (hg := rfl) (hd := rfl)
        · intro v W' h
          simp [envOf, Det] at h
          simp
          exact h
        · intro _ hx v W' h
          simp [envOf, Det, GDet, hx] at h
          exact h
        · intro hp hx v W' h hy
          exfalso
          simp at hy
          have := hi0.out
          omega
        refine pO ?_
        clear hW hL b1
        rintro W3 hW z4 hL
        simp only [ndR]
        intros
        repeat (rename GDet _ _ _ _ => hgd; clear hgd)
        simp only [ndS]
        refine wpList_nil ?_
        obtain ⟨b1, -⟩ := hL
        obtain ⟨F, hF⟩ : ∃ F, (decide (x < 0) || decide (281474976710656 < x) || false) = F := ⟨_, rfl⟩
        rw [hF]
        cases F with
        | true =>
          have hr := Lib.hid (show risingB T = false from rising_bad (fun hh => by
            have h3 := hh.2.2.lo x (List.mem_of_getElem? tx.out)
            simp at hF; omega))
          clear hF
          go_wp2
          go_ret
          exact ⟨by rw [hr.out]; rfl, hW0.trans (hW.mono hz)⟩
        | false =>
          have hup' := Lib.hid (show UpTo T (i + 1) from ⟨fun k v hk hv => by
              rcases Nat.lt_or_ge k i with h | h
              · exact hup.out.lo k v h hv
              · obtain rfl : k = i := by omega
                rw [tx.out] at hv
                injection hv with hv
                subst hv
                simp at hF; omega, fun k v v' hk hv hw => by
              rcases Nat.lt_or_ge (k + 1) i with h | h
              · exact hup.out.up k v v' h hv hw
              · have e : k + 1 = i := by omega
                have := hi0.out; omega⟩)
          clear hF
          go_wp2
          rw [show (i : Int) + 1 = ((i + 1 : Nat) : Int) by omega]
          refine ⟨?_, by simp [intAt]; omega⟩
          unfold risRel
          exact ⟨hW0.trans (hW.mono hz), i + 1, frame_ex rfl, by omega, hup'.out⟩
      · obtain ⟨y, ty⟩ : ∃ y, T[i - 1]? = some y := ⟨T[i - 1]'(by omega), List.getElem?_eq_getElem (by omega)⟩
        replace ty := Lib.hid ty
        have e8 := Lib.hid (show wrap64 ((i : Int) - 1) = ((i - 1 : Nat) : Int) by rw [wrap64_eq]; omega)
        have e9 : i - 1 < T.length := by omega
        have e10 := Lib.hid (show decide (0 < (i : Int)) = true by simp; omega)
        go_upto_region 6 with (fail)
        refine wp_cutB W (Rc (fun W' => IntsP W' b o T) <| Bz) ?_ (hI := by exact belowAny) (hR := (Rc.mk (by exact hT.below belowAny) <| trivial))
        rintro W1 hW z2 hL
        obtain ⟨b1, -⟩ := id hL
        refine wp_regQ 28 46 hW hL ?_
        iterate 6 refine dE (fun W' hC => aI (hC.2.1.cellAt tx.out) (aI (hC.2.1.cellAt ty.out) (aI e8.out (aI e9 (aI e10.out hlt))))) ?_
        iterate 5 refine gE (fun W' hC => aI (hC.2.1.cellAt tx.out) (aI (hC.2.1.cellAt ty.out) (aI e8.out (aI e9 (aI e10.out hlt))))) ?_
        refine pO ?_
        refine dE (fun W' hC => aI (hC.2.1.cellAt tx.out) (aI (hC.2.1.cellAt ty.out) (aI e8.out (aI e9 (aI e10.out hlt))))) ?_
        iterate 3 refine gE (fun W' hC => aI (hC.2.1.cellAt tx.out) (aI (hC.2.1.cellAt ty.out) (aI e8.out (aI e9 (aI e10.out hlt))))) ?_
        iterate 10 refine gF (fun W' hC => aI (hC.2.1.cellAt tx.out) (aI (hC.2.1.cellAt ty.out) (aI e8.out (aI e9 (aI e10.out hlt))))) ?_
        refine pgA ?_
        refine pO ?_
        clear hW hL b1
        rintro W3 hW z4 hL
        simp only [ndR]
        intros
        repeat (rename GDet _ _ _ _ => hgd; clear hgd)
        simp only [ndS]
        refine wpList_nil ?_
        obtain ⟨b1, -⟩ := hL
        obtain ⟨F, hF⟩ : ∃ F, (decide (x < 0) || decide (281474976710656 < x) || decide (0 < i) && decide (x ≤ y)) = F := ⟨_, rfl⟩
        rw [hF]
        cases F with
        | true =>
          have hr := Lib.hid (show risingB T = false from rising_bad (fun hh => by
            have h3 := hh.2.2.lo x (List.mem_of_getElem? tx.out)
            have h4 := List.pairwise_iff_getElem.1 hh.2.2.up (i - 1) i e9 hlt (by omega); have t1 := tx.out; have t2 := ty.out; rw [List.getElem?_eq_getElem hlt] at t1; rw [List.getElem?_eq_getElem e9] at t2; injection t1 with t1; injection t2 with t2; rw [t1, t2] at h4; simp at hF; omega))
          clear hF
          go_wp2
          go_ret
          exact ⟨by rw [hr.out]; rfl, hW0.trans (hW.mono hz)⟩
        | false =>
          have hup' := Lib.hid (show UpTo T (i + 1) from ⟨fun k v hk hv => by
              rcases Nat.lt_or_ge k i with h | h
              · exact hup.out.lo k v h hv
              · obtain rfl : k = i := by omega
                rw [tx.out] at hv
                injection hv with hv
                subst hv
                simp at hF; omega, fun k v v' hk hv hw => by
              rcases Nat.lt_or_ge (k + 1) i with h | h
              · exact hup.out.up k v v' h hv hw
              · have e : k + 1 = i := by omega
                rw [e, tx.out] at hw; rw [show k = i - 1 by omega, ty.out] at hv; injection hv with hv; injection hw with hw; subst hv; subst hw; simp at hF; omega⟩)
          clear hF
          go_wp2
          rw [show (i : Int) + 1 = ((i + 1 : Nat) : Int) by omega]
          refine ⟨?_, by simp [intAt]; omega⟩
          unfold risRel
          exact ⟨hW0.trans (hW.mono hz), i + 1, frame_ex rfl, by omega, hup'.out⟩
    · obtain rfl : i = T.length := by omega
      have hr := Lib.hid (hup.out.rising h1 h2)
      go_wp2
      go_ret
      exact ⟨by rw [hr.out]; rfl, hW0⟩
end Go.Proofs.YtbanjolokkghdaaGreatDoor
namespace Go.Proofs.YtbanjolokkghdaaGreatDoor
open Go.RowKit
theorem cell_three_new (W : World) (a b c : Value) (t : TypeId) (j : Nat) (u : Value) (h : [a, b, c][j]? = some u) : (W.alloc (.cells #[a, b, c] t)).cell? ((⟨W.heap.size, 0, none⟩ : Addr).add j) = some u := by
  have hb : Blk (W.alloc (.cells #[a, b, c] t)) W.heap.size #[a, b, c] t := Blk.new' rfl
  have hadd : (⟨W.heap.size, 0, none⟩ : Addr).add j = ⟨W.heap.size, j, none⟩ := by unfold Addr.add; split <;> simp_all
  rw [hadd, hb.cell]
  simpa using h
theorem flatCells_snoc (L : List RunT) (r : RunT) : flatCells (L ++ [r]) = flatCells L ++ [.int .i64 r.f, .int .i64 r.s, .int .i64 r.c] := by
  induction L with
  | nil => rfl
  | cons q L ih => simp only [List.cons_append, flatCells, ih]
theorem drop_two {T : List Int} {i : Nat} {a b : Int} (ha : T[i]? = some a) (hb : T[i + 1]? = some b) : T.drop i = a :: b :: T.drop (i + 2) := by
  obtain ⟨h1, rfl⟩ := List.getElem?_eq_some_iff.1 ha
  obtain ⟨h2, rfl⟩ := List.getElem?_eq_some_iff.1 hb
  rw [List.drop_eq_getElem_cons h1, List.drop_eq_getElem_cons h2]
theorem of_step {T : List Int} {i j : Nat} {a b : Int} (ha : T[i]? = some a) (hb : T[i + 1]? = some b) (hij : i + 1 ≤ j) (hx : extn (b - a) b (T.drop (i + 2)) = j - i - 1) : ofL (T.drop i) = ⟨a, b - a, ((j - i + 1 : Nat) : Int)⟩ :: ofL (T.drop (j + 1)) := by
  rw [drop_two ha hb, ofL_more, hx, List.drop_drop]
  congr 2
  · rw [show j - i - 1 + 2 = j - i + 1 by omega]
  · congr 1; omega
theorem of_last {T : List Int} {i : Nat} {a : Int} (ha : T[i]? = some a) (hl : i + 1 = T.length) : ofL (T.drop i) = [⟨a, 0, 1⟩] := by
  obtain ⟨h1, rfl⟩ := List.getElem?_eq_some_iff.1 ha
  rw [List.drop_eq_getElem_cons h1, List.drop_eq_nil_of_le (by omega), ofL_one]
theorem extn_on {T : List Int} {j : Nat} {x y s : Int} (hy : T[j + 1]? = some y) (h : y - x = s) : extn s x (T.drop (j + 1)) = extn s y (T.drop (j + 2)) + 1 := by
  obtain ⟨h1, rfl⟩ := List.getElem?_eq_some_iff.1 hy
  rw [List.drop_eq_getElem_cons h1]
  simp only [extn]
  rw [if_pos h]
theorem extn_off {T : List Int} {j : Nat} {x y s : Int} (hy : T[j + 1]? = some y) (h : ¬ y - x = s) : extn s x (T.drop (j + 1)) = 0 := by
  obtain ⟨h1, rfl⟩ := List.getElem?_eq_some_iff.1 hy
  rw [List.drop_eq_getElem_cons h1]
  simp only [extn]
  rw [if_neg h]
theorem extn_end {T : List Int} {j : Nat} {x s : Int} (h : j + 1 = T.length) : extn s x (T.drop (j + 1)) = 0 := by
  rw [List.drop_eq_nil_of_le (by omega)]; rfl
def ofRel (w : World) (b o cap : Nat) (T : List Int) (a' : Act) (W : World) : Prop :=
  Below w.heap.size w W ∧ ∃ (i : Nat) (L : List RunT) (v : Value), (∃ u : Nat → Value, a' = { tmps := #[.slice (some ⟨b, o, none⟩) T.length cap, u 1, .slice none 0 0, v, .int .i64 (i : Int), u 5, u 6, u 7, u 8, u 9, u 10, u 11, u 12, u 13, u 14, u 15, u 16, u 17, u 18, u 19, u 20, u 21, u 22, u 23, u 24, u 25, u 26, u 27, u 28, u 29, u 30, u 31, u 32, u 33, u 34, u 35, u 36, u 37, u 38, u 39, u 40, u 41, u 42, u 43, u 44, u 45, u 46, u 47, u 48, u 49, u 50, u 51, u 52, u 53, u 54, u 55, u 56, u 57, u 58, u 59, u 60, u 61, u 62, u 63, u 64, u 65, u 66, u 67, u 68, u 69, u 70, u 71, u 72, u 73, u 74, u 75, u 76, u 77, u 78, u 79, u 80], defers := [] }) ∧
    OwnR W w.heap.size 94 3 v L.length (flatCells L) ∧ ofL T = L ++ ofL (T.drop i) ∧ i ≤ T.length ∧ L.length ≤ i
def ojRel (w : World) (b o cap : Nat) (T : List Int) (i : Nat) (v : Value) (L : List RunT) (s x1 : Int) (a' : Act) (W : World) : Prop :=
  Below w.heap.size w W ∧ ∃ (j : Nat) (x : Int), (∃ u : Nat → Value, a' = { tmps := #[.slice (some ⟨b, o, none⟩) T.length cap, u 1, .slice none 0 0, v, .int .i64 (i : Int), .int .i64 (j : Int), u 6, u 7, u 8, u 9, u 10, u 11, u 12, u 13, u 14, u 15, u 16, u 17, u 18, u 19, u 20, u 21, u 22, u 23, u 24, u 25, u 26, u 27, u 28, u 29, u 30, u 31, u 32, u 33, u 34, u 35, u 36, u 37, u 38, u 39, u 40, u 41, u 42, u 43, u 44, u 45, u 46, u 47, u 48, u 49, u 50, u 51, u 52, u 53, u 54, u 55, u 56, u 57, u 58, u 59, u 60, u 61, u 62, u 63, u 64, u 65, u 66, u 67, u 68, u 69, u 70, u 71, u 72, u 73, u 74, u 75, u 76, u 77, u 78, u 79, u 80], defers := [] }) ∧
    OwnR W w.heap.size 94 3 v L.length (flatCells L) ∧ i + 1 ≤ j ∧ j < T.length ∧ T[j]? = some x ∧ extn s x1 (T.drop (i + 2)) = (j - i - 1) + extn s x (T.drop (j + 1))
set_option maxRecDepth 100000 in
set_option maxHeartbeats 8000000 in
theorem refof_w (b o cap : Nat) (T : List Int) (w : World) (hlen : T.length ≤ 256) (hr : Rising T) (hT0 : IntsP w b o T) :
    Calls Tryz.prog 56 #[.slice (some ⟨b, o, none⟩) T.length cap] w fun e w' => ∃ v, e = .returned v ∧ OwnR w' w.heap.size 94 3 v (ofL T).length (flatCells (ofL T)) ∧ Below w.heap.size w w' := by
  obtain ⟨i0, hi, hz0, hz1, hz2⟩ := info_parts Tryz.infoRun
  have hbd := Lib.hid (fun (k : Nat) (x : Int) (h : T[k]? = some x) => hr.lo x (List.mem_of_getElem? h))
  clear hr
  go_enter Tryz.func56, Tryz.ntmps56
  go_wp2
  refine wp_loop (ofRel w b o cap T) (fun a' _ => T.length - (intAt (a'.tmps.getD 4 undef)).toNat) ?_ ?_
  · unfold ofRel
    exact ⟨Below.refl _ _, 0, [], _, frame_ex rfl, OwnR.nil _ _ _ _, by simp, by omega, by simp⟩
  · rintro a' W ⟨hW0, i, L, v, ⟨u, rfl⟩, hown, hL, hi', hLi⟩
    have hz := hW0.size
    have hT := hT0.below hW0
    have hown' := hown.own
    replace hL := Lib.hid hL
    rcases Nat.lt_or_ge i T.length with hlt | hge
    · obtain ⟨a, ta⟩ : ∃ a, T[i]? = some a := ⟨T[i]'(by omega), List.getElem?_eq_getElem (by omega)⟩
      have ba := hbd.out i a ta
      rcases Nat.lt_or_ge (i + 1) T.length with hlt1 | hge1
      · obtain ⟨x1, tb⟩ : ∃ x1, T[i + 1]? = some x1 := ⟨T[i + 1]'(by omega), List.getElem?_eq_getElem (by omega)⟩
        have bb := hbd.out (i + 1) x1 tb
        replace ta := Lib.hid ta
        replace tb := Lib.hid tb
        clear hown'
        go_wp2
        refine wp_loop (ojRel w b o cap T i v L (x1 - a) x1) (fun a' _ => T.length - (intAt (a'.tmps.getD 5 undef)).toNat) ?_ ?_
        · unfold ojRel
          rw [show (i : Int) + 1 = ((i + 1 : Nat) : Int) by omega]
          exact ⟨hW0, i + 1, x1, frame_ex rfl, hown, by omega, hlt1, tb.out, by rw [show i + 1 - i - 1 = 0 by omega, Nat.zero_add]⟩
        · rintro a' W ⟨hW1, j, x, ⟨u, rfl⟩, hown, hij, hjl, tx, hex⟩
          have ya := hW1.size
          have hT := hT0.below hW1
          have bx := hbd.out j x tx
          replace tx := Lib.hid tx
          replace hex := Lib.hid hex
          have l1 := hlt
          have l2 := hlt1
          have l3 := hjl
          have E2 := Lib.hid (show wrap64 (x1 - a) = x1 - a by rw [wrap64_eq]; omega)
          have E3 := Lib.hid (show wrap64 ((j : Int) + 1) = ((j + 1 : Nat) : Int) by rw [wrap64_eq]; omega)
          have E4 := Lib.hid (show wrap64 ((i : Int) + 1) = ((i + 1 : Nat) : Int) by rw [wrap64_eq]; omega)
          have G2 := Lib.hid (show 0 ≤ (i : Int) + 1 ∧ (i : Int) + 1 < (T.length : Int) by omega)
          rcases Nat.lt_or_ge (j + 1) T.length with hj1 | hj1
          · obtain ⟨y, ty⟩ : ∃ y, T[j + 1]? = some y := ⟨T[j + 1]'(by omega), List.getElem?_eq_getElem (by omega)⟩
            have by' := hbd.out (j + 1) y ty
            replace ty := Lib.hid ty
            have l4 := hj1
            have G1 := Lib.hid (show 0 ≤ (j : Int) + 1 ∧ (j : Int) + 1 < (T.length : Int) by omega)
            have E1 := Lib.hid (show wrap64 (y - x) = y - x by rw [wrap64_eq]; omega)
            have E5 := Lib.hid (show decide (((j + 1 : Nat) : Int) < (T.length : Int)) = true by simp; omega)
            go_upto_region 8 with (fail)
            refine wp_cutB W (Rc (fun W' => IntsP W' b o T) <| Rc (fun W' => OwnR W' w.heap.size 94 3 v L.length (flatCells L)) <| Bz) ?_ (hI := by exact belowAny) (hR := (Rc.mk (by exact hT.below belowAny) <| Rc.mk (by exact hown.below belowAny) <| trivial))
            rintro W1 hW z2 hL
            obtain ⟨b1, b2, -⟩ := id hL
            refine wp_regQ 28 81 hW hL ?_
            iterate 6 refine dE (fun W' hC => aI (hC.2.1.cellAt ta.out) (aI (hC.2.1.cellAt tb.out) (aI (hC.2.1.cellAt tx.out) (aI (hC.2.1.cellAt ty.out) (aI E1.out (aI E2.out (aI E3.out (aI E4.out (aI l1 (aI l2 (aI l3 (aI l4 (aI E5.out (aI G1.out G2.out)))))))))))))) ?_
            iterate 21 refine gE (fun W' hC => aI (hC.2.1.cellAt ta.out) (aI (hC.2.1.cellAt tb.out) (aI (hC.2.1.cellAt tx.out) (aI (hC.2.1.cellAt ty.out) (aI E1.out (aI E2.out (aI E3.out (aI E4.out (aI l1 (aI l2 (aI l3 (aI l4 (aI E5.out (aI G1.out G2.out)))))))))))))) ?_
            refine pA ?_
            clear hW hL b1 b2
            rintro W3 hW z4 hL
            simp only [ndR]
            intros
            simp only [ndS]
            refine wpList_nil ?_
            obtain ⟨b1, b2, -⟩ := hL
            by_cases hs : y - x = x1 - a
            ·
              rw [show (true && y - x == x1 - a) = true by simp [hs]]
              have hex' := Lib.hid (show extn (x1 - a) x1 (T.drop (i + 2)) = (j + 1 - i - 1) + extn (x1 - a) y (T.drop (j + 1 + 1)) by rw [hex.out, extn_on ty.out hs, show j + 1 + 1 = j + 2 from rfl]; omega)
              clear hs hex E1 E2 E3 E4 E5 G1 G2
              go_wp2
              rw [show (j : Int) + 1 = ((j + 1 : Nat) : Int) by omega]
              refine ⟨?_, by simp [intAt]; omega⟩
              unfold ojRel
              exact ⟨hW1.trans (hW.mono ya), j + 1, y, frame_ex rfl, b2, by omega, hj1, ty.out, hex'.out⟩
            · rw [show (true && y - x == x1 - a) = false by simp [hs]]
              have hX := Lib.hid (show extn (x1 - a) x1 (T.drop (i + 2)) = j - i - 1 by rw [hex.out, extn_off ty.out hs, Nat.add_zero])
              clear hs hex E1 G1
              have hWc := hW1.trans (hW.mono ya)
              have yb := hWc.size
              clear hW hW1 ya
              have E6 := Lib.hid (show wrap64 ((j : Int) - (i : Int)) = ((j - i : Nat) : Int) by rw [wrap64_eq]; omega)
              have E7 := Lib.hid (show wrap64 (((j - i : Nat) : Int) + 1) = ((j - i + 1 : Nat) : Int) by rw [wrap64_eq]; omega)
              go_upto_region 10 with (fail)
              refine wp_cutB W3 (Rc (fun W' => IntsP W' b o T) <| Rc (fun W' => OwnR W' w.heap.size 94 3 v L.length (flatCells L)) <| Bz) ?_ (hI := by exact belowAny) (hR := (Rc.mk (by exact b1.below belowAny) <| Rc.mk (by exact b2.below belowAny) <| trivial))
              rintro W11 hW z12 hL
              obtain ⟨b1, b2, -⟩ := id hL
              refine wp_regD 20 81 hW hL ?_
              iterate 20 refine dE (fun W' hC => aI (hC.2.1.cellAt ta.out) (aI (hC.2.1.cellAt tb.out) (aI E2.out (aI E4.out (aI l1 (aI l2 (aI E6.out (aI E7.out G2.out)))))))) ?_
              clear hW hL b1 b2
              rintro W13 hW z14 hL
              simp only [ndR]
              intros
              simp only [ndS]
              obtain ⟨b1, b2, -⟩ := hL
              have hWd := hWc.trans (hW.mono yb)
              have yc := hWd.size
              have hown' := b2.own
              clear hW b2 b1 E6 E7 E2 E3 E4 E5 G2 hown hT
              go_wp2_with (at_builtin; refine wpList_append_own _ rfl (.tmp 56) (.tmp 76) 24 rfl w.heap.size 94 i0 (.agg #[.int .i64 0, .int .i64 0, .int .i64 0]) 3 24 (by kernel_rfl) hi hz0 hz1 hz2 rfl (by decide) _ _ _ rfl (hown'.alloc _) ⟨W13.heap.size, 0, none⟩ 1 1 [.int .i64 a, .int .i64 (x1 - a), .int .i64 ((j - i + 1 : Nat) : Int)] rfl rfl (cell_three_new _ _ _ _ _) (by simp [Value.oneCell']) (by simp [maxLen]; omega) (by omega) (by simp; omega) ?_)
              intro v' w1 hown2 hgr _
              have hB := Lib.hid (below_append hWd yc hown' hgr)
              have hOL := Lib.hid (show ofL T = (L ++ [⟨a, x1 - a, ((j - i + 1 : Nat) : Int)⟩]) ++ ofL (T.drop (j + 1)) by rw [hL.out, of_step ta.out tb.out hij hX.out, List.append_assoc]; rfl)
              replace hown2 := Lib.hid hown2
              clear hgr hown' hWd hWc hX
              go_wp2
              rw [show (j : Int) + 1 = ((j + 1 : Nat) : Int) by omega]
              refine ⟨?_, by simp [intAt]; omega⟩
              unfold ofRel
              exact ⟨hB.out, j + 1, L ++ [⟨a, x1 - a, ((j - i + 1 : Nat) : Int)⟩], v', frame_ex rfl, ⟨by rw [flatCells_snoc]; simpa using hown2.out⟩, hOL.out, by omega, by simp; omega⟩
          · have E5 := Lib.hid (show decide (((j + 1 : Nat) : Int) < (T.length : Int)) = false by simp; omega)
            go_upto_region 8 with (fail)
            refine wp_cutB W (Rc (fun W' => IntsP W' b o T) <| Rc (fun W' => OwnR W' w.heap.size 94 3 v L.length (flatCells L)) <| Bz) ?_ (hI := by exact belowAny) (hR := (Rc.mk (by exact hT.below belowAny) <| Rc.mk (by exact hown.below belowAny) <| trivial))
            rintro W1 hW z2 hL
            obtain ⟨b1, b2, -⟩ := id hL
            refine wp_regQ 28 81 hW hL ?_
            iterate 6 refine dE (fun W' hC => aI E3.out E5.out) ?_
            apply nd_detg (p := true) (c := undef) (hg := rfl) (hd := rfl) (hal := rfl)
            · intro v W' h
              simp [envOf, Det] at h
              simp
              exact h
            · intro hp hx
              exfalso
              simp at hx
              omega
            apply nd_detg (p := true) (c := undef) (hg := rfl) (hd := rfl) (hal := rfl)
            · intro v W' h
              simp [envOf, Det] at h
              simp
              exact h
            · intro hp hx
              exfalso
              simp at hx
              omega
            apply nd_detg (p := true) (c := undef) (hg := rfl) (hd := rfl) (hal := rfl)
            · intro v W' h
              simp [envOf, Det] at h
              simp
              exact h
            · intro hp hx
              exfalso
              simp at hx
              omega
            apply nd_detg (p := true) (c := undef) (hg := rfl) (hd := rfl) (hal := rfl)
            · intro v W' h
              simp [envOf, Det] at h
              simp
              exact h
            · intro hp hx
              exfalso
              simp at hx
              omega
            apply nd_detg (p := true) (c := undef) (hg := rfl) (hd := rfl) (hal := rfl)
            · intro v W' h
              simp [envOf, Det] at h
              simp
              exact h
            · intro hp hx
              exfalso
              simp at hx
              omega
            apply nd_detg (p := true) (c := undef) (hg := rfl) (hd := rfl) (hal := rfl)
            · intro v W' h
              simp [envOf, Det] at h
              simp
              exact h
            · intro hp hx
              exfalso
              simp at hx
              omega
            apply nd_detg (p := true) (c := undef) (hg := rfl) (hd := rfl) (hal := rfl)
            · intro v W' h
              simp [envOf, Det] at h
              simp
              exact h
            · intro hp hx
              exfalso
              simp at hx
              omega
            apply nd_detg (p := true) (c := undef) (hg := rfl) (hd := rfl) (hal := rfl)
            · intro v W' h
              simp [envOf, Det] at h
              simp
              exact h
            · intro hp hx
              exfalso
              simp at hx
              omega
            apply nd_detg (p := true) (c := undef) (hg := rfl) (hd := rfl) (hal := rfl)
            · intro v W' h
              simp [envOf, Det] at h
              simp
              exact h
            · intro hp hx
              exfalso
              simp at hx
              omega
            apply nd_detg (p := true) (c := undef) (hg := rfl) (hd := rfl) (hal := rfl)
            · intro v W' h
              simp [envOf, Det] at h
              simp
              exact h
            · intro hp hx
              exfalso
              simp at hx
              omega
            apply nd_detg (p := true) (c := undef) (hg := rfl) (hd := rfl) (hal := rfl)
            · intro v W' h
              simp [envOf, Det] at h
              simp
              exact h
            · intro hp hx
              exfalso
              simp at hx
              omega
            apply nd_detg (p := true) (c := undef) (hg := rfl) (hd := rfl) (hal := rfl)
            · intro v W' h
              simp [envOf, Det] at h
              simp
              exact h
            · intro hp hx
              exfalso
              simp at hx
              omega
            apply nd_detg (p := true) (c := undef) (hg := rfl) (hd := rfl) (hal := rfl)
            · intro v W' h
              simp [envOf, Det] at h
              simp
              exact h
            · intro hp hx
              exfalso
              simp at hx
              omega
            apply nd_detg (p := true) (c := undef) (hg := rfl) (hd := rfl) (hal := rfl)
            · intro v W' h
              simp [envOf, Det] at h
              simp
              exact h
            · intro hp hx
              exfalso
              simp at hx
              omega
            apply nd_detg (p := true) (c := undef) (hg := rfl) (hd := rfl) (hal := rfl)
            · intro v W' h
              simp [envOf, Det] at h
              simp
              exact h
            · intro hp hx
              exfalso
              simp at hx
              omega
            apply nd_detg (p := true) (c := undef) (hg := rfl) (hd := rfl) (hal := rfl)
            · intro v W' h
              simp [envOf, Det] at h
              simp
              exact h
            · intro hp hx
              exfalso
              simp at hx
              omega
            apply nd_detg (p := true) (c := undef) (hg := rfl) (hd := rfl) (hal := rfl)
            · intro v W' h
              simp [envOf, Det] at h
              simp
              exact h
            · intro hp hx
              exfalso
              simp at hx
              omega
            apply nd_detg (p := true) (c := undef) (hg := rfl) (hd := rfl) (hal := rfl)
            · intro v W' h
              simp [envOf, Det] at h
              simp
              exact h
            · intro hp hx
              exfalso
              simp at hx
              omega
            apply nd_detg (p := true) (c := undef) (hg := rfl) (hd := rfl) (hal := rfl)
            · intro v W' h
              simp [envOf, Det] at h
              simp
              exact h
            · intro hp hx
              exfalso
              simp at hx
              omega
            apply nd_detg (p := true) (c := undef) (hg := rfl) (hd := rfl) (hal := rfl)
            · intro v W' h
              simp [envOf, Det] at h
              simp
              exact h
            · intro hp hx
              exfalso
              simp at hx
              omega
            apply nd_detg (p := true) (c := undef) (hg := rfl) (hd := rfl) (hal := rfl)
            · intro v W' h
              simp [envOf, Det] at h
              simp
              exact h
            · intro hp hx
              exfalso
              simp at hx
              omega
            apply nd_pick_and (y := false) (ho := rfl) (hg := rfl)
            · intro v W' h
              simp [envOf, Det] at h
              exact h
            · intro v W' h hx
              exfalso
              simp at hx
              omega
            clear hW hL b1 b2
            rintro W3 hW z4 hL
            simp only [ndR]
            intros
            repeat (rename GDet _ _ _ _ => hgd; clear hgd)
            simp only [ndS]
            refine wpList_nil ?_
            obtain ⟨b1, b2, -⟩ := hL
            rw [Bool.and_false]
            have hX := Lib.hid (show extn (x1 - a) x1 (T.drop (i + 2)) = j - i - 1 by rw [hex.out, extn_end (by omega), Nat.add_zero])
            clear hex
            have hWc := hW1.trans (hW.mono ya)
            have yb := hWc.size
            clear hW hW1 ya
            have E6 := Lib.hid (show wrap64 ((j : Int) - (i : Int)) = ((j - i : Nat) : Int) by rw [wrap64_eq]; omega)
            have E7 := Lib.hid (show wrap64 (((j - i : Nat) : Int) + 1) = ((j - i + 1 : Nat) : Int) by rw [wrap64_eq]; omega)
            go_upto_region 10 with (fail)
            refine wp_cutB W3 (Rc (fun W' => IntsP W' b o T) <| Rc (fun W' => OwnR W' w.heap.size 94 3 v L.length (flatCells L)) <| Bz) ?_ (hI := by exact belowAny) (hR := (Rc.mk (by exact b1.below belowAny) <| Rc.mk (by exact b2.below belowAny) <| trivial))
            rintro W11 hW z12 hL
            obtain ⟨b1, b2, -⟩ := id hL
            refine wp_regD 20 81 hW hL ?_
            iterate 20 refine dE (fun W' hC => aI (hC.2.1.cellAt ta.out) (aI (hC.2.1.cellAt tb.out) (aI E2.out (aI E4.out (aI l1 (aI l2 (aI E6.out (aI E7.out G2.out)))))))) ?_
            clear hW hL b1 b2
            rintro W13 hW z14 hL
            simp only [ndR]
            intros
            simp only [ndS]
            obtain ⟨b1, b2, -⟩ := hL
            have hWd := hWc.trans (hW.mono yb)
            have yc := hWd.size
            have hown' := b2.own
            clear hW b2 b1 E6 E7 E2 E3 E4 E5 G2 hown hT
            go_wp2_with (at_builtin; refine wpList_append_own _ rfl (.tmp 56) (.tmp 76) 24 rfl w.heap.size 94 i0 (.agg #[.int .i64 0, .int .i64 0, .int .i64 0]) 3 24 (by kernel_rfl) hi hz0 hz1 hz2 rfl (by decide) _ _ _ rfl (hown'.alloc _) ⟨W13.heap.size, 0, none⟩ 1 1 [.int .i64 a, .int .i64 (x1 - a), .int .i64 ((j - i + 1 : Nat) : Int)] rfl rfl (cell_three_new _ _ _ _ _) (by simp [Value.oneCell']) (by simp [maxLen]; omega) (by omega) (by simp; omega) ?_)
            intro v' w1 hown2 hgr _
            have hB := Lib.hid (below_append hWd yc hown' hgr)
            have hOL := Lib.hid (show ofL T = (L ++ [⟨a, x1 - a, ((j - i + 1 : Nat) : Int)⟩]) ++ ofL (T.drop (j + 1)) by rw [hL.out, of_step ta.out tb.out hij hX.out, List.append_assoc]; rfl)
            replace hown2 := Lib.hid hown2
            clear hgr hown' hWd hWc hX
            go_wp2
            rw [show (j : Int) + 1 = ((j + 1 : Nat) : Int) by omega]
            refine ⟨?_, by simp [intAt]; omega⟩
            unfold ofRel
            exact ⟨hB.out, j + 1, L ++ [⟨a, x1 - a, ((j - i + 1 : Nat) : Int)⟩], v', frame_ex rfl, ⟨by rw [flatCells_snoc]; simpa using hown2.out⟩, hOL.out, by omega, by simp; omega⟩
      · have hl1 : i + 1 = T.length := by omega
        have hfin := Lib.hid (of_last ta hl1)
        replace ta := Lib.hid ta
        have q1 := hT.cellAt ta.out
        go_wp2_with (at_builtin; refine wpList_append_own _ rfl (.tmp 15) (.tmp 21) 24 rfl w.heap.size 94 i0 (.agg #[.int .i64 0, .int .i64 0, .int .i64 0]) 3 24 (by kernel_rfl) hi hz0 hz1 hz2 rfl (by decide) _ _ _ rfl (hown'.alloc _) ⟨W.heap.size, 0, none⟩ 1 1 [.int .i64 a, .int .i64 0, .int .i64 1] rfl rfl (cell_three_new _ _ _ _ _) (by simp [Value.oneCell']) (by simp [maxLen]; omega) (by omega) (by simp; omega) ?_)
        intro v' w1 hown2 hgr _
        have hB := Lib.hid (below_append hW0 hz hown' hgr)
        clear hgr hown' hown
        have hOL := Lib.hid (show ofL T = L ++ [⟨a, 0, 1⟩] by rw [hL.out, hfin.out])
        replace hown2 := Lib.hid hown2
        clear q1
        go_wp2
        go_ret
        exact ⟨_, rfl, ⟨by rw [hOL.out, flatCells_snoc]; simpa using hown2.out⟩, hB.out⟩
    · obtain rfl : i = T.length := by omega
      have hOL := Lib.hid (show ofL T = L by rw [hL.out, List.drop_eq_nil_of_le (Nat.le_refl _), ofL_nil, List.append_nil])
      go_wp2
      go_ret
      exact ⟨_, rfl, by rw [hOL.out]; exact hown, hW0⟩
end Go.Proofs.YtbanjolokkghdaaGreatDoor
namespace Go.Proofs.YtbanjolokkghdaaGreatDoor
open Go.RowKit
theorem length_timesG (l : List RunT) : (timesG l).length ≤ 256 := by
  unfold timesG
  split
  · next h =>
    unfold fitL at h
    simp only [Bool.and_eq_true, List.all_eq_true, decide_eq_true_eq] at h
    have := length_timesL l fun r hr => by have := h.1 r hr; unfold fitR at this; simp at this; omega
    omega
  · simp
theorem length_of (T : List Int) : (ofL T).length ≤ T.length := by
  have key : ∀ (n : Nat) (T : List Int), T.length ≤ n → (ofL T).length ≤ T.length := by
    intro n
    induction n with
    | zero => intro T h; have : T = [] := List.length_eq_zero_iff.1 (by omega); subst this; simp [ofL_nil]
    | succ n ih =>
      intro T h
      match T, h with
      | [], _ => simp [ofL_nil]
      | [t], _ => simp [ofL_one]
      | a :: b :: l, h =>
        rw [ofL_more]
        have := ih (l.drop (extn (b - a) b l)) (by simp at h ⊢; omega)
        simp at this ⊢
        omega
  exact key _ T (Nat.le_refl _)
structure RunsP (w : World) (b o : Nat) (l : List RunT) : Prop where
  runs : RunsIn w (some ⟨b, o, none⟩) l
theorem RunsP.below {w w' : World} {b o : Nat} {l : List RunT} (h : RunsP w b o l) (hb : Below w.heap.size w w') : RunsP w' b o l := ⟨h.runs.below hb⟩
theorem RunsP.rex {L : List Nat} {w w' : World} {b o : Nat} {l : List RunT} (h : RunsP w b o l) (hr : Rex L w w') (hL : L = []) : RunsP w' b o l := by subst hL; exact h.below hr.below
theorem RunsP.drew {w : World} {b o : Nat} {l : List RunT} (h : RunsP w b o l) : RunsP w.drew b o l := ⟨⟨h.runs.at'⟩⟩
theorem RunsP.cellAt {w : World} {b o : Nat} {l : List RunT} (h : RunsP w b o l) {i : Nat} {r : RunT} (hx : l[i]? = some r) :
    w.cell? ⟨b, o + i * 3, none⟩ = some (.int .i64 r.f) ∧ w.cell? ⟨b, o + i * 3 + 1, none⟩ = some (.int .i64 r.s) ∧ w.cell? ⟨b, o + i * 3 + 2, none⟩ = some (.int .i64 r.c) := h.runs.cells hx
theorem ite_eq3 {a b c d e f : Int} {w : World} : ((if a = b then (if c = d then (if e = f then Result.ok (Go.Next.value (Value.bool false)) w else Result.ok (Go.Next.value (Value.bool true)) w) else Result.ok (Go.Next.value (Value.bool true)) w) else Result.ok (Go.Next.value (Value.bool true)) w) : Result Go.Next) = Result.ok (Go.Next.value (Value.bool (!(decide (a = b) && decide (c = d) && decide (e = f))))) w := by
  by_cases h1 : a = b <;> by_cases h2 : c = d <;> by_cases h3 : e = f <;> simp [h1, h2, h3]
def smRel (w : World) (p : Option Addr) (cap : Nat) (p' : Option Addr) (cap' : Nat) (A B : List RunT) (a' : Act) (W : World) : Prop :=
  Below w.heap.size w W ∧ ∃ (i : Nat), (∃ u : Nat → Value, a' = { tmps := #[.slice p A.length cap, .slice p' A.length cap', u 2, u 3, .bool false, .int .i64 (i : Int), u 6, u 7, u 8, u 9, u 10, u 11, u 12, u 13, u 14, u 15, u 16, u 17, u 18, u 19, u 20, u 21, u 22, u 23, u 24, u 25], defers := [] }) ∧ i ≤ A.length ∧ ∀ k, k < i → A[k]? = B[k]?
set_option maxRecDepth 100000 in
set_option maxHeartbeats 8000000 in
theorem refsame_w (p : Option Addr) (cap : Nat) (p' : Option Addr) (cap' : Nat) (A B : List RunT) (w : World) (hl : A.length = B.length) (hlen : A.length ≤ 1000000) (hA0 : RunsIn w p A) (hB0 : RunsIn w p' B) :
    Calls Tryz.prog 55 #[.slice p A.length cap, .slice p' A.length cap'] w fun e w' => e = .returned (.bool (decide (A = B))) ∧ Below w.heap.size w w' := by
  go_enter Tryz.func55, Tryz.ntmps55
  replace hl := Lib.hid hl
  go_wp2
  refine wp_loop (smRel w p cap p' cap' A B) (fun a' _ => A.length - (intAt (a'.tmps.getD 5 undef)).toNat) ?_ ?_
  · unfold smRel
    exact ⟨Below.refl _ _, 0, frame_ex rfl, by omega, fun k hk => by omega⟩
  · rintro a' W ⟨hW0, i, ⟨u, rfl⟩, hi', hall⟩
    have hz := hW0.size
    replace hall := Lib.hid hall
    rcases Nat.lt_or_ge i A.length with hlt | hge
    · obtain ⟨r, tr⟩ : ∃ r, A[i]? = some r := ⟨A[i]'(by omega), List.getElem?_eq_getElem (by omega)⟩
      obtain ⟨q, tq⟩ : ∃ q, B[i]? = some q := ⟨B[i]'(by have := hl.out; omega), List.getElem?_eq_getElem (by have := hl.out; omega)⟩
      obtain ⟨b, o, rfl, -⟩ := hA0.at' i r tr
      obtain ⟨b', o', rfl, -⟩ := hB0.at' i q tq
      have hA : RunsP W b o A := ⟨hA0.below hW0⟩
      have hB : RunsP W b' o' B := ⟨hB0.below hW0⟩
      replace tr := Lib.hid tr
      replace tq := Lib.hid tq
      have l1 := hlt
      have l2 : i < B.length := by have := hl.out; omega
      go_upto_region 6 with (fail)
      refine wp_cutB W (Rc (fun W' => RunsP W' b o A) <| Rc (fun W' => RunsP W' b' o' B) <| Bz) ?_ (hI := by exact belowAny) (hR := (Rc.mk (by exact hA.below belowAny) <| Rc.mk (by exact hB.below belowAny) <| trivial))
      rintro W1 hW z2 hL
      obtain ⟨b1, b2, -⟩ := id hL
      refine wp_regQ 9 26 hW hL ?_
      iterate 9
        apply nd_det (hg := rfl) (hal := rfl)
        · intro a W' hC hE
          obtain ⟨_, k1, k2, -⟩ := hC
          obtain ⟨q0, q1, q2⟩ := k1.cellAt tr.out; obtain ⟨q3, q4, q5⟩ := k2.cellAt tq.out
          first
            | (simp [Oper.looksAt, Op.operands, Call.operands, envOf, Det] at hE; simp [go_sem, Act.eval, IntWalk.i64_left, hE, k1, k2, q0, q1, q2, q3, q4, q5, l1, l2, ite_eq3]; try rfl)
            | (clear hE; simp [go_sem, Act.eval, IntWalk.i64_left, k1, k2, q0, q1, q2, q3, q4, q5, l1, l2, ite_eq3]; try rfl)
      clear hW hL b1 b2
      rintro W3 hW z4 hL
      simp only [ndR]
      intros
      simp only [ndS]
      refine wpList_nil ?_
      obtain ⟨b1, b2, -⟩ := hL
      by_cases hrq : r = q
      · have hall' := Lib.hid (show ∀ k, k < i + 1 → A[k]? = B[k]? from fun k hk => by
          rcases Nat.lt_or_ge k i with h | h
          · exact hall.out k h
          · obtain rfl : k = i := by omega
            rw [tr.out, tq.out, hrq])
        rw [show (!decide (r.f = q.f) || !decide (r.s = q.s) || !decide (r.c = q.c)) = false by subst hrq; simp]
        clear hrq
        go_wp2
        rw [show (i : Int) + 1 = ((i + 1 : Nat) : Int) by omega]
        refine ⟨?_, by simp [intAt]; omega⟩
        unfold smRel
        exact ⟨hW0.trans (hW.mono hz), i + 1, frame_ex rfl, by omega, hall'.out⟩
      · have hne := Lib.hid (show decide (A = B) = false by
          rw [decide_eq_false_iff_not]
          rintro rfl
          rw [tr.out] at tq
          exact hrq (Option.some.inj tq.out))
        rw [show (!decide (r.f = q.f) || !decide (r.s = q.s) || !decide (r.c = q.c)) = true by
          obtain ⟨r1, r2, r3⟩ := r
          obtain ⟨q1, q2, q3⟩ := q
          simp at hrq
          simp
          by_cases h1 : r1 = q1 <;> by_cases h2 : r2 = q2 <;> simp [h1, h2] at hrq ⊢
          exact hrq]
        clear hrq
        go_wp2
        go_ret
        exact ⟨by rw [hne.out]; rfl, hW0.trans (hW.mono hz)⟩
    · obtain rfl : i = A.length := by omega
      have heq := Lib.hid (show decide (A = B) = true by
        rw [decide_eq_true_eq]
        apply List.ext_getElem?
        intro k
        rcases Nat.lt_or_ge k A.length with h | h
        · exact hall.out k h
        · rw [List.getElem?_eq_none h, List.getElem?_eq_none (by have := hl.out; omega)])
      go_wp2
      go_ret
      exact ⟨by rw [heq.out]; rfl, hW0⟩
set_option maxRecDepth 100000 in
set_option maxHeartbeats 8000000 in
theorem refsame_len (p : Option Addr) (n cap : Nat) (p' : Option Addr) (m cap' : Nat) (w : World) (hl : ¬ n = m) :
    Calls Tryz.prog 55 #[.slice p n cap, .slice p' m cap'] w fun e w' => e = .returned (.bool false) ∧ Below w.heap.size w w' := by
  go_enter Tryz.func55, Tryz.ntmps55
  go_wp2
  go_ret
  exact ⟨rfl, Below.refl _ _⟩
theorem c_refsame (p : Option Addr) (cap : Nat) (p' : Option Addr) (cap' : Nat) (A B : List RunT) (w : World) (hlen : A.length ≤ 1000000) (hA0 : RunsIn w p A) (hB0 : RunsIn w p' B) :
    Calls Tryz.prog 55 #[.slice p A.length cap, .slice p' B.length cap'] w fun e w' => e = .returned (.bool (decide (A = B))) ∧ Below w.heap.size w w' := by
  by_cases h : A.length = B.length
  · rw [← h]; exact refsame_w p cap p' cap' A B w h hlen hA0 hB0
  · rw [show decide (A = B) = false by rw [decide_eq_false_iff_not]; rintro rfl; exact h rfl]
    exact refsame_len p _ cap p' _ cap' w h
set_option maxRecDepth 100000 in
set_option maxHeartbeats 8000000 in
theorem refright_no (p : Option Addr) (cap : Nat) (l : List RunT) (w : World) (hlen : l.length ≤ 1000) (h : RunsIn w p l) (hb : risingB (timesG l) = false) :
    Calls Tryz.prog 29 #[.slice p l.length cap] w fun e w' => e = .returned (.bool false) ∧ Below w.heap.size w w' := by
  have ct := Lib.hid (fun W (hW : Below w.heap.size w W) => reftimes_w p cap l W (h.below hW) hlen)
  have hTl := length_timesG l
  obtain ⟨T, hT⟩ : ∃ T, T = timesG l := ⟨_, rfl⟩
  rw [← hT] at ct hb hTl
  clear hT
  replace hTl := Lib.hid hTl
  replace hb := Lib.hid hb
  go_enter Tryz.func29, Tryz.ntmps29
  go_wp2_with fail
  refine (ct.out _ belowAny).mono ?_
  rintro e w1 ⟨v, rfl, hown, hB1⟩
  have hz1 := hB1.size
  obtain ⟨pt, cp, rfl, -, -, -, -⟩ := hown.form
  have hI := hown.ints
  clear hown ct
  have cr := c_refrising pt cp T w1 (by exact Nat.le_trans hTl.out (by omega)) hI
  rw [hb.out] at cr
  replace cr := Lib.hid cr
  go_wp2_with fail
  refine cr.out.mono ?_
  rintro e w2 ⟨rfl, hB2⟩
  have hz2 := hB2.size
  clear cr
  go_wp2
  go_ret
  exact ⟨rfl, hB1.trans (hB2.mono hz1)⟩
set_option maxRecDepth 100000 in
set_option maxHeartbeats 8000000 in
theorem refright_yes (p : Option Addr) (cap : Nat) (l : List RunT) (w : World) (hlen : l.length ≤ 1000) (h : RunsIn w p l) (hb : risingB (timesG l) = true) (T : List Int) (hT : T = timesG l) :
    Calls Tryz.prog 29 #[.slice p l.length cap] w fun e w' => e = .returned (.bool (decide (ofL T = l))) ∧ Below w.heap.size w w' := by
  have ct := Lib.hid (fun W (hW : Below w.heap.size w W) => hT ▸ reftimes_w p cap l W (h.below hW) hlen)
  obtain ⟨hl1, hl2, hris⟩ := (risingB_iff T).1 (hT ▸ hb)
  rw [← hT] at hb
  clear hT
  replace hris := Lib.hid hris
  replace hb := Lib.hid hb
  go_enter Tryz.func29, Tryz.ntmps29
  go_wp2_with fail
  refine (ct.out _ belowAny).mono ?_
  rintro e w1 ⟨v, rfl, hown, hB1⟩
  have hz1 := hB1.size
  obtain ⟨pt, cp, rfl, -, -, -, -⟩ := hown.form
  have hI := hown.ints
  clear hown ct
  have cr := c_refrising pt cp T w1 (by omega) hI
  rw [hb.out] at cr
  replace cr := Lib.hid cr
  go_wp2_with fail
  refine cr.out.mono ?_
  rintro e w2 ⟨rfl, hB2⟩
  have hz2 := hB2.size
  clear cr
  obtain ⟨b, o, rfl⟩ : ∃ b o, pt = some ⟨b, o, none⟩ := by
    obtain ⟨b, o, e, _⟩ := hI.at' 0 _ (List.getElem?_eq_getElem (show 0 < T.length by omega))
    exact ⟨b, o, e⟩
  have co := Lib.hid (refof_w b o cp T w2 hl2 hris.out ⟨hI.below hB2⟩)
  go_wp2_with fail
  refine co.out.mono ?_
  rintro e w3 ⟨v, rfl, hown, hB3⟩
  have hz3 := hB3.size
  obtain ⟨po, cq, rfl, -, -, -, -⟩ := hown.form
  have hR := hown.runs
  clear hown co
  have hW := hB1.trans ((hB2.trans (hB3.mono hz2)).mono hz1)
  have hOl := length_of T
  have cs := Lib.hid (c_refsame po cq p cap (ofL T) l w3 (by omega) hR (h.below hW))
  clear hOl
  go_wp2_with fail
  refine cs.out.mono ?_
  rintro e w4 ⟨rfl, hB4⟩
  have hz4 := hW.size
  clear cs
  go_wp2
  go_ret
  exact ⟨rfl, hW.trans (hB4.mono hz4)⟩
theorem c_refright (p : Option Addr) (cap : Nat) (l : List RunT) (w : World) (hlen : l.length ≤ 1000) (h : RunsIn w p l) :
    Calls Tryz.prog 29 #[.slice p l.length cap] w fun e w' => e = .returned (.bool (risesB l)) ∧ Below w.heap.size w w' := by
  rw [← rightR_is]
  unfold rightR
  cases hb : risingB (timesG l) with
  | false => rw [Bool.false_and]; exact refright_no p cap l w hlen h hb
  | true => rw [Bool.true_and]; exact refright_yes p cap l w hlen h hb _ rfl
end Go.Proofs.YtbanjolokkghdaaGreatDoor
