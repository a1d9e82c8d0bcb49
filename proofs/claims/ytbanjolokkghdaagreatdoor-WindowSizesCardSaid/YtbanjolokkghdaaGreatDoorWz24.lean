/- Parts of the proof that follows: The document's segments: Kind, Points walked. | The document's segments: Kind, Right walked. | The document's segments: Right, Points told. -/
import Derived.Test.YtbanjolokkghdaaGreatDoorWz23
set_option linter.unusedSimpArgs false
set_option linter.unusedVariables false
namespace Go.Proofs.YtbanjolokkghdaaGreatDoor
open Go.RowKit
def ptRel (w1 : World) (g bt ot ct : Nat) (T V : List Int) (a' : Act) (W : World) : Prop :=
  Below w1.heap.size w1 W ∧ ∃ (i : Nat) (v : Value), (∃ u : Nat → Value, a' = { tmps := #[u 0, .pointer (some ⟨g, 0, none⟩), .slice none 0 0, .bool false, .slice (some ⟨bt, ot, none⟩) T.length ct, v, .int .i64 (i : Int), u 7, u 8, u 9, u 10, u 11, u 12, u 13, u 14, u 15, u 16, u 17, u 18, u 19, u 20, u 21, u 22, u 23, u 24, u 25, u 26, u 27, u 28, u 29, u 30, u 31, u 32, u 33, u 34, u 35, u 36, u 37, u 38, u 39, u 40, u 41, u 42, u 43, u 44, u 45, u 46, u 47, u 48, u 49, u 50, u 51, u 52, u 53, u 54, u 55, u 56, u 57, u 58, u 59], defers := [] }) ∧
    OwnR W w1.heap.size 56 2 v i (flatPts ((T.zip V).take i)) ∧ i ≤ T.length ∧ ∀ (k : Nat) (y : Int), k < i → V[k]? = some y → isBack y = true
def PtsPost (w : World) (T V : List Int) (e : Ending) (w' : World) : Prop :=
  Below w.heap.size w w' ∧ ((V.all isBack = true ∧ ∃ v, e = .returned (.tuple #[v, .bool true]) ∧ OwnR w' w.heap.size 56 2 v T.length (flatPts (T.zip V))) ∨ (V.all isBack = false ∧ e = .returned (.tuple #[.slice none 0 0, .bool false])))
theorem ownsRow_setCell_new {w : World} {B : Nat} {e : TypeId} {s n g : Nat} {v : Value} {xs : List Value} (h : w.ownsRow B e s v n xs) (hg : ∀ k, v.ownBlock = some k → k ≠ g) (i : Nat) (u : Value) : (w.setCell ⟨g, i, none⟩ u).ownsRow B e s v n xs := by
  obtain ⟨h1, h2⟩ := h
  refine ⟨h1, ?_⟩
  rcases h2 with h2 | ⟨k, cap, cur, hv, hk, hh, rest⟩
  · exact .inl h2
  · refine .inr ⟨k, cap, cur, hv, hk, ?_, rest⟩
    have hne : k ≠ g := hg k (by rw [hv]; rfl)
    exact (heap_setCell_other w ⟨g, i, none⟩ k u hne).trans hh
theorem zip_take {T V : List Int} {i : Nat} {x y : Int} (hx : T[i]? = some x) (hy : V[i]? = some y) : (T.zip V).take (i + 1) = (T.zip V).take i ++ [(x, y)] := by
  have h : (T.zip V)[i]? = some (x, y) := by rw [List.getElem?_zip_eq_some]; exact ⟨hx, hy⟩
  rw [List.take_add_one, h]; rfl
theorem not_all {V : List Int} {i : Nat} {y : Int} (hy : V[i]? = some y) (hb : isBack y = false) : V.all isBack = false := by
  cases h : V.all isBack with
  | false => rfl
  | true => rw [List.all_eq_true.1 h y (List.mem_of_getElem? hy)] at hb; cases hb
theorem yes_all {V : List Int} {n : Nat} (hn : V.length ≤ n) (h : ∀ (k : Nat) (y : Int), k < n → V[k]? = some y → isBack y = true) : V.all isBack = true := by
  rw [List.all_eq_true]
  intro y hy
  obtain ⟨k, hk⟩ := List.getElem?_of_mem hy
  exact h k y (by have := (List.getElem?_eq_some_iff.1 hk).1; omega) hk
set_option maxRecDepth 100000 in
set_option maxHeartbeats 8000000 in
theorem pts_raw (A R n d E : Int) (p : Option Addr) (len cap b o vc : Nat) (T V : List Int) (w : World) (hV0 : IntsP w b o V) (hTV : V.length = T.length) (h0 : 1 ≤ T.length) (h256 : T.length ≤ 256)
    (c1 : ∀ W, Below w.heap.size w W → Calls Tryz.prog 30 #[.slice p len cap] W fun e w' => ∃ v, e = .returned v ∧ OwnR w' W.heap.size 2 1 v T.length (T.map (Value.int .i64)) ∧ Below W.heap.size W w') :
    Calls Tryz.prog 33 #[.agg #[.int .i64 4, .slice p len cap, .int .i64 A, .int .i64 R, .int .i64 n, .int .i64 d, .slice (some ⟨b, o, none⟩) V.length vc, .int .i64 E]] w (PtsPost w T V) := by
  obtain ⟨i0, hi, hz0, hz1, hz2⟩ := info_parts Tryz.infoPoint
  replace hTV := Lib.hid hTV
  have H_c1 := Lib.hid c1
  clear c1
  go_enter Tryz.func33, Tryz.ntmps33
  go_wp2_with fail
  refine (H_c1.out _ belowAny).mono ?_
  rintro e w1 ⟨v0, rfl, hT0, hb1⟩
  have z2 := hb1.size
  try simp at z2
  refine haveB w w1 (Bc w.heap.size #[.int .i64 4, .slice p len cap, .int .i64 A, .int .i64 R, .int .i64 n, .int .i64 d, .slice (some ⟨b, o, none⟩) V.length vc, .int .i64 E] 29 <| Bz) ?_
  rintro hW z3 ⟨⟨b1, yb1, k1, f1⟩, -⟩
  obtain ⟨pt, ct, rfl, -, -, -, -⟩ := hT0.form
  have hI := hT0.ints
  clear hT0
  obtain ⟨bt, ot, rfl⟩ : ∃ b o, pt = some ⟨b, o, none⟩ := by
    obtain ⟨b, o, e, _⟩ := hI.at' 0 _ (List.getElem?_eq_getElem (show 0 < T.length by omega))
    exact ⟨b, o, e⟩
  have hT1 : IntsP w1 bt ot T := ⟨hI⟩
  have hWW := hW
  have hV1 := hV0.below hW
  clear hI
  go_wp2
  refine wp_loop (ptRel w1 w.heap.size bt ot ct T V) (fun a' _ => T.length - (intAt (a'.tmps.getD 6 undef)).toNat) ?_ ?_
  · unfold ptRel
    exact ⟨Below.refl _ _, 0, _, frame_ex rfl, OwnR.nil _ _ _ _, by omega, fun k y hk => by omega⟩
  · rintro a' W ⟨hW0, i, v, ⟨u, rfl⟩, hown, hi', hall⟩
    have hz := hW0.size
    have hT := hT1.below hW0
    have hV := hV1.below hW0
    have b1 := b1.below hW0
    have zb := b1.lt
    replace hall := Lib.hid hall
    rcases Nat.lt_or_ge i T.length with hlt | hge
    · obtain ⟨x, tx⟩ : ∃ x, T[i]? = some x := ⟨T[i]'(by omega), List.getElem?_eq_getElem (by omega)⟩
      obtain ⟨y, ty⟩ : ∃ y, V[i]? = some y := ⟨V[i]'(by have := hTV.out; omega), List.getElem?_eq_getElem (by have := hTV.out; omega)⟩
      replace tx := Lib.hid tx
      replace ty := Lib.hid ty
      have l2 : i < V.length := by have := hTV.out; omega
      cases hbk : isBack y with
      | false =>
        replace hbk := Lib.hid hbk
        have k1 := b1.cell
        have f1 := b1.frozen
        have q1 := hT.cellAt tx.out
        have q2 := hV.cellAt ty.out
        have zv := cell_lt q2
        have zt := cell_lt q1
        try simp at zv
        try simp at zt
        have cb := c_rback y
        rw [hbk.out] at cb
        replace cb := Lib.hid cb
        go_wp2_with fail
        refine (cb.out _).mono ?_
        rintro e w21 ⟨rfl, hb21⟩
        have z22 := hb21.size
        try simp at z22
        clear k1 f1
        refine haveB W w21 (Bc w.heap.size #[.int .i64 4, .slice p len cap, .int .i64 A, .int .i64 R, .int .i64 n, .int .i64 d, .slice (some ⟨b, o, none⟩) V.length vc, .int .i64 E] 29 <| Bc W.heap.size #[.int .i64 x, .int .i64 y] 56 <| Bz) ?_
        clear b1
        rintro hW z23 ⟨⟨b1, yb1, k1, f1⟩, ⟨b2, yb2, k2, f2⟩, -⟩
        clear hb21
        go_wp2
        go_ret2
        exact ⟨hWW.trans (((hW0.trans (hW.mono hz))).mono hWW.size), .inr ⟨not_all ty.out hbk.out, rfl⟩⟩
      | true =>
        replace hbk := Lib.hid hbk
        have k1 := b1.cell
        have f1 := b1.frozen
        have q1 := hT.cellAt tx.out
        have q2 := hV.cellAt ty.out
        have zv := cell_lt q2
        have zt := cell_lt q1
        try simp at zv
        try simp at zt
        have cb := c_rback y
        rw [hbk.out] at cb
        replace cb := Lib.hid cb
        go_wp2_with fail
        refine (cb.out _).mono ?_
        rintro e w21 ⟨rfl, hb21⟩
        have z22 := hb21.size
        try simp at z22
        clear k1 f1
        refine haveB W w21 (Bc w.heap.size #[.int .i64 4, .slice p len cap, .int .i64 A, .int .i64 R, .int .i64 n, .int .i64 d, .slice (some ⟨b, o, none⟩) V.length vc, .int .i64 E] 29 <| Bc W.heap.size #[.int .i64 x, .int .i64 y] 56 <| Bz) ?_
        clear b1
        rintro hW z23 ⟨⟨b1, yb1, k1, f1⟩, ⟨b2, yb2, k2, f2⟩, -⟩
        clear hb21
        have hown' := (hown.below hW).own
        have hW9 := hW0.trans (hW.mono hz)
        have ya9 := hW9.size
        clear cb hown hW
        go_wp2_with (at_builtin; refine wpList_append_own _ rfl (.tmp 55) (.tmp 57) 47 rfl w1.heap.size 56 i0 (.agg #[.int .i64 0, .int .i64 0]) 2 16 (by kernel_rfl) hi hz0 hz1 hz2 rfl (by decide) _ _ _ rfl (hown'.alloc _) ⟨w21.heap.size, 0, none⟩ 1 1 [.int .i64 x, .int .i64 y] rfl rfl (cell_two_new _ _ _ _) (by simp [Value.oneCell']) (by simp [maxLen]; omega) (by omega) (by simp; omega) ?_)
        intro v' w9 hown2 hgr _
        have hB := Lib.hid (below_append hW9 ya9 hown' hgr)
        replace hown2 := Lib.hid hown2
        have hall' := Lib.hid (show ∀ k y, k < i + 1 → V[k]? = some y → isBack y = true from fun k z hk hz => by
          rcases Nat.lt_or_ge k i with h | h
          · exact hall.out k z h hz
          · obtain rfl : k = i := by omega
            rw [ty.out] at hz
            injection hz with hz
            rw [← hz]; exact hbk.out)
        clear hgr hown'
        go_wp2
        rw [show (i : Int) + 1 = ((i + 1 : Nat) : Int) by omega]
        refine ⟨?_, by simp [intAt]; omega⟩
        unfold ptRel
        exact ⟨hB.out, i + 1, v', frame_ex rfl, ⟨by rw [zip_take tx.out ty.out, flatPts_snoc]; simpa using hown2.out⟩, by omega, hall'.out⟩
    · obtain rfl : i = T.length := by omega
      have hya := Lib.hid (yes_all (by have := hTV.out; omega) hall.out)
      have htk := Lib.hid (show (T.zip V).take T.length = T.zip V from List.take_of_length_le (by rw [List.length_zip]; exact Nat.min_le_left _ _))
      go_wp2
      go_ret2
      exact ⟨hWW.trans (hW0.mono hWW.size), .inl ⟨hya.out, _, rfl, by have := hown.mono hWW.size; rw [htk.out] at this; exact this⟩⟩
set_option maxRecDepth 100000 in
set_option maxHeartbeats 8000000 in
theorem pts_line (K A R n d E x0 : Int) (p q : Option Addr) (len cap m vc : Nat) (T V : List Int) (w : World) (hK : (K == 4) = false) (hTV : V.length = T.length) (h0 : 1 ≤ T.length) (h256 : T.length ≤ 256) (t0 : T[0]? = some x0) (hbd : ∀ x, x ∈ T → 0 ≤ x ∧ x ≤ 281474976710656)
    (c1 : ∀ W, Below w.heap.size w W → Calls Tryz.prog 30 #[.slice p len cap] W fun e w' => ∃ v, e = .returned v ∧ OwnR w' W.heap.size 2 1 v T.length (T.map (Value.int .i64)) ∧ Below W.heap.size W w')
    (c2 : ∀ W (i : Nat) x y, T[i]? = some x → V[i]? = some y → isBack y = true → Calls Tryz.prog 60 #[.agg #[.int .i64 A, .int .i64 R, .int .i64 n, .int .i64 d], .int .i64 (x - x0)] W fun e w' => e = .returned (.tuple #[.int .i64 y, .bool true]) ∧ Below W.heap.size W w')
    (c3 : ∀ W (i : Nat) x y, T[i]? = some x → V[i]? = some y → isBack y = false → Calls Tryz.prog 60 #[.agg #[.int .i64 A, .int .i64 R, .int .i64 n, .int .i64 d], .int .i64 (x - x0)] W fun e w' => e = .returned (.tuple #[.int .i64 0, .bool false]) ∧ Below W.heap.size W w') :
    Calls Tryz.prog 33 #[.agg #[.int .i64 K, .slice p len cap, .int .i64 A, .int .i64 R, .int .i64 n, .int .i64 d, .slice q m vc, .int .i64 E]] w (PtsPost w T V) := by
  obtain ⟨i0, hi, hz0, hz1, hz2⟩ := info_parts Tryz.infoPoint
  replace hTV := Lib.hid hTV
  have bx0 := hbd x0 (List.mem_of_getElem? t0)
  replace hbd := Lib.hid hbd
  replace t0 := Lib.hid t0
  replace c2 := Lib.hid c2
  replace c3 := Lib.hid c3
  have H_c1 := Lib.hid c1
  clear c1
  go_enter Tryz.func33, Tryz.ntmps33
  go_wp2_with fail
  refine (H_c1.out _ belowAny).mono ?_
  rintro e w1 ⟨v0, rfl, hT0, hb1⟩
  have z2 := hb1.size
  try simp at z2
  refine haveB w w1 (Bc w.heap.size #[.int .i64 K, .slice p len cap, .int .i64 A, .int .i64 R, .int .i64 n, .int .i64 d, .slice q m vc, .int .i64 E] 29 <| Bz) ?_
  rintro hW z3 ⟨⟨b1, yb1, k1, f1⟩, -⟩
  obtain ⟨pt, ct, rfl, -, -, -, -⟩ := hT0.form
  have hI := hT0.ints
  clear hT0
  obtain ⟨bt, ot, rfl⟩ : ∃ b o, pt = some ⟨b, o, none⟩ := by
    obtain ⟨b, o, e, _⟩ := hI.at' 0 _ (List.getElem?_eq_getElem (show 0 < T.length by omega))
    exact ⟨b, o, e⟩
  have hT1 : IntsP w1 bt ot T := ⟨hI⟩
  have hWW := hW
  clear hI
  go_wp2
  refine wp_loop (ptRel w1 w.heap.size bt ot ct T V) (fun a' _ => T.length - (intAt (a'.tmps.getD 6 undef)).toNat) ?_ ?_
  · unfold ptRel
    exact ⟨Below.refl _ _, 0, _, frame_ex rfl, OwnR.nil _ _ _ _, by omega, fun k y hk => by omega⟩
  · rintro a' W ⟨hW0, i, v, ⟨u, rfl⟩, hown, hi', hall⟩
    have hz := hW0.size
    have hT := hT1.below hW0
    have b1 := b1.below hW0
    have zb := b1.lt
    replace hall := Lib.hid hall
    rcases Nat.lt_or_ge i T.length with hlt | hge
    · obtain ⟨x, tx⟩ : ∃ x, T[i]? = some x := ⟨T[i]'(by omega), List.getElem?_eq_getElem (by omega)⟩
      obtain ⟨y, ty⟩ : ∃ y, V[i]? = some y := ⟨V[i]'(by have := hTV.out; omega), List.getElem?_eq_getElem (by have := hTV.out; omega)⟩
      have bx := hbd.out x (List.mem_of_getElem? tx)
      replace tx := Lib.hid tx
      replace ty := Lib.hid ty
      have l1 := hlt
      have l2 : 0 < T.length := h0
      cases hbk : isBack y with
      | false =>
        have cb := Lib.hid (fun W => c3.out W i x y tx.out ty.out hbk)
        replace hbk := Lib.hid hbk
        have k1 := b1.cell
        have f1 := b1.frozen
        have q1 := hT.cellAt tx.out
        have zt := cell_lt q1
        try simp at zt
        have E1 := Lib.hid (show wrap64 (x - x0) = x - x0 by rw [wrap64_eq]; omega)
        have hown7 := Lib.hid hown
        clear hown
        go_upto_region 11 with (fail)
        clear k1 f1
        refine wp_cutB W (Bc w.heap.size #[.int .i64 K, .slice p len cap, .int .i64 A, .int .i64 R, .int .i64 n, .int .i64 d, .slice q m vc, .int .i64 E] 29 <| Bc W.heap.size #[.int .i64 x, .int .i64 0] 56 <| Rc (fun W' => IntsP W' bt ot T) <| Bz) ?_ (hI := by exact belowAny) (hR := (Bc.mk (by exact blkAny2) <| Bc.mk (by exact blkAny2) <| Rc.mk (by exact hT.below belowAny) <| trivial))
        clear b1
        rintro W21 hW z22 hL
        obtain ⟨⟨b1, yb1, k1, f1⟩, ⟨b2, yb2, k2, f2⟩, b3, -⟩ := id hL
        clear k1 f1 k2 f2
        refine wp_regQ 16 60 hW hL ?_
        iterate 10 refine dE (fun W' hC => aI (hC.2.2.2.1.cellAt tx.out) (aI (hC.2.2.2.1.cellAt t0.out) (aI l1 (aI l2 E1.out)))) ?_
        refine cE (fun W' hC => aI (hC.2.2.2.1.cellAt tx.out) (aI (hC.2.2.2.1.cellAt t0.out) (aI l1 (aI l2 E1.out)))) (fun W' hC => cb.out W') ?_
        iterate 5 refine dE (fun W' hC => aI (hC.2.2.2.1.cellAt tx.out) (aI (hC.2.2.2.1.cellAt t0.out) (aI l1 (aI l2 E1.out)))) ?_
        clear hW hL b1 b2 b3
        rintro W23 hW z24 hL
        simp only [ndR]
        intros
        simp only [ndS]
        refine wpList_nil ?_
        obtain ⟨⟨b1, yb1, k1, f1⟩, ⟨b2, yb2, k2, f2⟩, b3, -⟩ := hL
        go_wp2
        go_ret2
        exact ⟨hWW.trans (((hW0.trans (hW.mono hz))).mono hWW.size), .inr ⟨not_all ty.out hbk.out, rfl⟩⟩
      | true =>
        have cb := Lib.hid (fun W => c2.out W i x y tx.out ty.out hbk)
        replace hbk := Lib.hid hbk
        have k1 := b1.cell
        have f1 := b1.frozen
        have q1 := hT.cellAt tx.out
        have zt := cell_lt q1
        try simp at zt
        have E1 := Lib.hid (show wrap64 (x - x0) = x - x0 by rw [wrap64_eq]; omega)
        have hown7 := Lib.hid hown
        clear hown
        go_upto_region 11 with (fail)
        clear k1 f1
        refine wp_cutB W (Bc w.heap.size #[.int .i64 K, .slice p len cap, .int .i64 A, .int .i64 R, .int .i64 n, .int .i64 d, .slice q m vc, .int .i64 E] 29 <| Bc W.heap.size #[.int .i64 x, .int .i64 0] 56 <| Rc (fun W' => IntsP W' bt ot T) <| Bz) ?_ (hI := by exact belowAny) (hR := (Bc.mk (by exact blkAny2) <| Bc.mk (by exact blkAny2) <| Rc.mk (by exact hT.below belowAny) <| trivial))
        clear b1
        rintro W21 hW z22 hL
        obtain ⟨⟨b1, yb1, k1, f1⟩, ⟨b2, yb2, k2, f2⟩, b3, -⟩ := id hL
        clear k1 f1 k2 f2
        refine wp_regQ 16 60 hW hL ?_
        iterate 10 refine dE (fun W' hC => aI (hC.2.2.2.1.cellAt tx.out) (aI (hC.2.2.2.1.cellAt t0.out) (aI l1 (aI l2 E1.out)))) ?_
        refine cE (fun W' hC => aI (hC.2.2.2.1.cellAt tx.out) (aI (hC.2.2.2.1.cellAt t0.out) (aI l1 (aI l2 E1.out)))) (fun W' hC => cb.out W') ?_
        iterate 5 refine dE (fun W' hC => aI (hC.2.2.2.1.cellAt tx.out) (aI (hC.2.2.2.1.cellAt t0.out) (aI l1 (aI l2 E1.out)))) ?_
        clear hW hL b1 b2 b3
        rintro W23 hW z24 hL
        simp only [ndR]
        intros
        simp only [ndS]
        refine wpList_nil ?_
        obtain ⟨⟨b1, yb1, k1, f1⟩, ⟨b2, yb2, k2, f2⟩, b3, -⟩ := hL
        have z97 := b1.lt
        have z98 := b2.lt
        have hown' := (hown7.out.below hW).own
        have hne9 := Lib.hid (show ∀ k, v.ownBlock = some k → k ≠ W.heap.size from fun k hk => by have := (hown7.out.own.lt k hk).2; omega)
        clear cb b3
        go_upto_region 15 with (fail)
        clear k1 f1 k2 f2
        refine wp_cutB W (Bc W.heap.size #[.int .i64 x, .int .i64 y] 56 <| Rc (fun W' => OwnR W' w1.heap.size 56 2 v i (flatPts ((T.zip V).take i))) <| Bz) ?_ (hI := by exact belowAny) (hR := (Bc.mk (by exact blkAny2) <| Rc.mk (by exact ⟨ownsRow_setCell_new hown' hne9.out 1 (.int .i64 y)⟩) <| trivial))
        clear b1 b2 hW
        rintro W25 hW z26 ⟨⟨b1, yb1, k1, f1⟩, b2, -⟩
        have hown9 := b2.own
        have hW9 := hW0.trans (hW.mono hz)
        have ya9 := hW9.size
        clear hW hown' b2
        go_wp2_with (at_builtin; refine wpList_append_own _ rfl (.tmp 55) (.tmp 57) 47 rfl w1.heap.size 56 i0 (.agg #[.int .i64 0, .int .i64 0]) 2 16 (by kernel_rfl) hi hz0 hz1 hz2 rfl (by decide) _ _ _ rfl (hown9.alloc _) ⟨W25.heap.size, 0, none⟩ 1 1 [.int .i64 x, .int .i64 y] rfl rfl (cell_two_new _ _ _ _) (by simp [Value.oneCell']) (by simp [maxLen]; omega) (by omega) (by simp; omega) ?_)
        intro v' w9 hown2 hgr _
        have hB := Lib.hid (below_append hW9 ya9 hown9 hgr)
        replace hown2 := Lib.hid hown2
        have hall' := Lib.hid (show ∀ k y, k < i + 1 → V[k]? = some y → isBack y = true from fun k z hk hz => by
          rcases Nat.lt_or_ge k i with h | h
          · exact hall.out k z h hz
          · obtain rfl : k = i := by omega
            rw [ty.out] at hz
            injection hz with hz
            rw [← hz]; exact hbk.out)
        clear hgr hown9
        go_wp2
        rw [show (i : Int) + 1 = ((i + 1 : Nat) : Int) by omega]
        refine ⟨?_, by simp [intAt]; omega⟩
        unfold ptRel
        exact ⟨hB.out, i + 1, v', frame_ex rfl, ⟨by rw [zip_take tx.out ty.out, flatPts_snoc]; simpa using hown2.out⟩, by omega, hall'.out⟩
    · obtain rfl : i = T.length := by omega
      have hya := Lib.hid (yes_all (by have := hTV.out; omega) hall.out)
      have htk := Lib.hid (show (T.zip V).take T.length = T.zip V from List.take_of_length_le (by rw [List.length_zip]; exact Nat.min_le_left _ _))
      go_wp2
      go_ret2
      exact ⟨hWW.trans (hW0.mono hWW.size), .inl ⟨hya.out, _, rfl, by have := hown.mono hWW.size; rw [htk.out] at this; exact this⟩⟩
end Go.Proofs.YtbanjolokkghdaaGreatDoor
namespace Go.Proofs.YtbanjolokkghdaaGreatDoor
open Go.RowKit
theorem ite_z4 {A R n d : Int} {w : World} : ((if A = 0 then (if R = 0 then (if n = 0 then (if d = 0 then Result.ok (Go.Next.value (Value.bool false)) w else Result.ok (Go.Next.value (Value.bool true)) w) else Result.ok (Go.Next.value (Value.bool true)) w) else Result.ok (Go.Next.value (Value.bool true)) w) else Result.ok (Go.Next.value (Value.bool true)) w) : Result Go.Next) = Result.ok (Go.Next.value (Value.bool (!(lineZ A R n d)))) w := by
  unfold lineZ
  by_cases h1 : A = 0 <;> by_cases h2 : R = 0 <;> by_cases h3 : n = 0 <;> by_cases h4 : d = 0 <;> simp [h1, h2, h3, h4]
/-- An operation behind a guard that holds. -/
theorem nd_on {P : Program} {ops : Array Oper} {C : World → Prop} {X : List (Nat × Nat)} {a0 : Act} {Fin : List (Option Tmp × Spec) → Prop} {i : Nat} {o : Oper} {rest : List Oper} {acc : List (Option Tmp × Spec)}
    (Φ : Spec) (want : Bool) (k : Nat) (d : Tmp) (hcl : Closed (others X i) Φ) (hg : o.guard = some (k, want)) (hd : wrOf ops k = some d) (hx : ∀ v w, envOf a0 acc d v w → v = .bool want)
    (h : ∀ (a : Act) (w : World), C w → (∀ s ∈ o.looksAt ops, envOf a0 acc s (a.tmps.getD s undef) w) → runND P o (priv X i) Φ w ((execOp a.eval o).run P w))
    (hr : ndWalk P ops C X a0 Fin (i + 1) rest ((o.dst, Φ) :: acc)) : ndWalk P ops C X a0 Fin i (o :: rest) acc := by
  refine ⟨Φ, hcl, fun a w hC hE => ?_, hr⟩
  have hin : d ∈ o.looksAt ops := by
    unfold wrOf at hd
    simp [Oper.looksAt, hg, hd]
  have hv := hx _ _ (hE d hin)
  have hw := wanted_some (o := o) hg hd hv
  refine ⟨fun _ => h a w hC hE, fun e => ?_⟩
  rw [hw] at e
  simp at e
theorem nd_oncall {P : Program} {ops : Array Oper} {C : World → Prop} {X : List (Nat × Nat)} {a0 : Act} {Fin : List (Option Tmp × Spec) → Prop} {i : Nat} {o : Oper} {rest : List Oper} {acc : List (Option Tmp × Spec)}
    (Φ : Spec) {want : Bool} {k : Nat} {d : Tmp} (hcl : Closed (others X i) Φ) (hg : o.guard = some (k, want)) (hd : wrOf ops k = some d) (hal : isAlloc o = false) (hx : ∀ v w, envOf a0 acc d v w → v = .bool want)
    (h : ∀ (a : Act) (w : World), C w → (∀ s ∈ o.looksAt ops, envOf a0 acc s (a.tmps.getD s undef) w) → ∃ f args, (execOp a.eval o).run P w = .ok (.enter f args) w ∧ Calls P f args w fun e w' => ∃ u, e = .returned u ∧ Below w.heap.size w w' ∧ Φ u w')
    (hr : ndWalk P ops C X a0 Fin (i + 1) rest ((o.dst, Φ) :: acc)) : ndWalk P ops C X a0 Fin i (o :: rest) acc :=
  nd_on Φ want k d hcl hg hd hx (fun a w hC hE => by
    obtain ⟨f, args, h1, h2⟩ := h a w hC hE
    rw [h1]
    exact ⟨rfl, hal, h2.mono fun e w' ⟨u, he, hb, hΦ⟩ => ⟨u, he, Rex.of_below hb, hΦ⟩⟩) hr
theorem nd_onval {P : Program} {ops : Array Oper} {C : World → Prop} {X : List (Nat × Nat)} {a0 : Act} {Fin : List (Option Tmp × Spec) → Prop} {i : Nat} {o : Oper} {rest : List Oper} {acc : List (Option Tmp × Spec)}
    (Φ : Spec) {want : Bool} {k : Nat} {d : Tmp} (hcl : Closed (others X i) Φ) (hg : o.guard = some (k, want)) (hd : wrOf ops k = some d) (hal : isAlloc o = false) (hx : ∀ v w, envOf a0 acc d v w → v = .bool want)
    (h : ∀ (a : Act) (w : World), C w → (∀ s ∈ o.looksAt ops, envOf a0 acc s (a.tmps.getD s undef) w) → ∃ v, (execOp a.eval o).run P w = .ok (.value v) w ∧ Φ v w)
    (hr : ndWalk P ops C X a0 Fin (i + 1) rest ((o.dst, Φ) :: acc)) : ndWalk P ops C X a0 Fin i (o :: rest) acc :=
  nd_on Φ want k d hcl hg hd hx (fun a w hC hE => by
    obtain ⟨v, h1, h2⟩ := h a w hC hE
    rw [h1]
    exact ⟨Rex.refl _ _, h2, fun e => by rw [hal] at e; cases e⟩) hr
/-- A row of numbers of its own, as a drawn step's value. -/
def OV (B : Nat) (T : List Int) : Spec := fun v w => OwnR w B 2 1 v T.length (T.map (Value.int .i64))
theorem OV.closed (B : Nat) (T : List Int) : Closed [] (OV B T) := fun _ _ _ hr h => OwnR.rex h hr rfl
def kindR (R n : Int) : Int := if n = 0 then 1 else if R = 0 then 2 else 3
set_option maxRecDepth 100000 in
set_option maxHeartbeats 1000000 in
theorem c_rkind (A R n d : Int) (w : World) : Calls Tryz.prog 32 #[.agg #[.int .i64 A, .int .i64 R, .int .i64 n, .int .i64 d]] w fun e w' => e = .returned (.int .i64 (kindR R n)) ∧ Below w.heap.size w w' := by
  unfold kindR
  go_enter Tryz.func32, Tryz.ntmps32
  by_cases h1 : n = 0
  · subst h1
    rw [if_pos rfl]
    go_wp2
    go_ret
    exact ⟨rfl, belowAny⟩
  · rw [if_neg h1]
    have h1' : (n == 0) = false := by simp [h1]
    by_cases h2 : R = 0
    · subst h2
      rw [if_pos rfl]
      go_wp2
      go_ret
      exact ⟨rfl, belowAny⟩
    · rw [if_neg h2]
      have h2' : (R == 0) = false := by simp [h2]
      go_wp2
      go_ret
      exact ⟨rfl, belowAny⟩
set_option maxRecDepth 100000 in
set_option maxHeartbeats 8000000 in
theorem rr_no1 (K A R n d E : Int) (p q : Option Addr) (len cap m vc : Nat) (w : World) (c1 : ∀ W, Below w.heap.size w W → Calls Tryz.prog 29 #[.slice p len cap] W fun e w' => e = .returned (.bool false) ∧ Below W.heap.size W w') :
    Calls Tryz.prog 7 #[.agg #[.int .i64 K, .slice p len cap, .int .i64 A, .int .i64 R, .int .i64 n, .int .i64 d, .slice q m vc, .int .i64 E]] w fun e w' => e = .returned (.bool false) ∧ Below w.heap.size w w' := by
  have H_c1 := Lib.hid c1
  clear c1
  go_enter Tryz.func7, Tryz.ntmps7
  go_wp2_with fail
  refine (H_c1.out _ belowAny).mono ?_
  rintro e w1 ⟨rfl, hb1⟩
  have z2 := hb1.size
  try simp at z2
  refine haveB w w1 (Bc w.heap.size #[.int .i64 K, .slice p len cap, .int .i64 A, .int .i64 R, .int .i64 n, .int .i64 d, .slice q m vc, .int .i64 E] 29 <| Bz) ?_
  rintro hW z3 ⟨⟨b1, yb1, k1, f1⟩, -⟩
  clear hb1
  go_wp2
  refine bodyPost_ret (v := .bool false) (by simp [results, Tryz.results7, go_sem, k1, f1, yb1]) rfl ⟨rfl, hW⟩
set_option maxRecDepth 100000 in
set_option maxHeartbeats 8000000 in
theorem rr_no2 (K A R n d E : Int) (p q : Option Addr) (len cap m vc : Nat) (w : World) (hE : E < 0 ∨ 1099511627776 < E) (c1 : ∀ W, Below w.heap.size w W → Calls Tryz.prog 29 #[.slice p len cap] W fun e w' => e = .returned (.bool true) ∧ Below W.heap.size W w') :
    Calls Tryz.prog 7 #[.agg #[.int .i64 K, .slice p len cap, .int .i64 A, .int .i64 R, .int .i64 n, .int .i64 d, .slice q m vc, .int .i64 E]] w fun e w' => e = .returned (.bool false) ∧ Below w.heap.size w w' := by
  rcases hE with hE | hE
  · have H_c1 := Lib.hid c1
    clear c1
    go_enter Tryz.func7, Tryz.ntmps7
    go_wp2_with fail
    refine (H_c1.out _ belowAny).mono ?_
    rintro e w1 ⟨rfl, hb1⟩
    have z2 := hb1.size
    try simp at z2
    refine haveB w w1 (Bc w.heap.size #[.int .i64 K, .slice p len cap, .int .i64 A, .int .i64 R, .int .i64 n, .int .i64 d, .slice q m vc, .int .i64 E] 29 <| Bz) ?_
    rintro hW z3 ⟨⟨b1, yb1, k1, f1⟩, -⟩
    clear hb1
    go_wp2
    refine bodyPost_ret (v := .bool false) (by simp [results, Tryz.results7, go_sem, k1, f1, yb1]) rfl ⟨rfl, hW⟩
  · have H_c1 := Lib.hid c1
    clear c1
    go_enter Tryz.func7, Tryz.ntmps7
    go_wp2_with fail
    refine (H_c1.out _ belowAny).mono ?_
    rintro e w1 ⟨rfl, hb1⟩
    have z2 := hb1.size
    try simp at z2
    refine haveB w w1 (Bc w.heap.size #[.int .i64 K, .slice p len cap, .int .i64 A, .int .i64 R, .int .i64 n, .int .i64 d, .slice q m vc, .int .i64 E] 29 <| Bz) ?_
    rintro hW z3 ⟨⟨b1, yb1, k1, f1⟩, -⟩
    clear hb1
    go_wp2
    refine bodyPost_ret (v := .bool false) (by simp [results, Tryz.results7, go_sem, k1, f1, yb1]) rfl ⟨rfl, hW⟩
set_option maxRecDepth 100000 in
set_option maxHeartbeats 8000000 in
theorem rr_raw0 (A R n d E : Int) (p q : Option Addr) (len cap m vc : Nat) (w : World) (hE0 : 0 ≤ E) (hE1 : E ≤ 1099511627776) (hz : Hid (lineZ A R n d = false)) (c1 : ∀ W, Below w.heap.size w W → Calls Tryz.prog 29 #[.slice p len cap] W fun e w' => e = .returned (.bool true) ∧ Below W.heap.size W w') :
    Calls Tryz.prog 7 #[.agg #[.int .i64 4, .slice p len cap, .int .i64 A, .int .i64 R, .int .i64 n, .int .i64 d, .slice q m vc, .int .i64 E]] w fun e w' => e = .returned (.bool false) ∧ Below w.heap.size w w' := by
  have H_c1 := Lib.hid c1
  clear c1
  go_enter Tryz.func7, Tryz.ntmps7
  go_wp2_with fail
  refine (H_c1.out _ belowAny).mono ?_
  rintro e w1 ⟨rfl, hb1⟩
  have z2 := hb1.size
  try simp at z2
  refine haveB w w1 (Bc w.heap.size #[.int .i64 4, .slice p len cap, .int .i64 A, .int .i64 R, .int .i64 n, .int .i64 d, .slice q m vc, .int .i64 E] 29 <| Bz) ?_
  rintro hW z3 ⟨⟨b1, yb1, k1, f1⟩, -⟩
  clear hb1
  go_upto_region 4 with (fail)
  clear k1 f1
  refine wp_cutB w (Bc w.heap.size #[.int .i64 4, .slice p len cap, .int .i64 A, .int .i64 R, .int .i64 n, .int .i64 d, .slice q m vc, .int .i64 E] 29 <| Bz) ?_
  clear b1 hW
  rintro W4 hW z5 hL
  obtain ⟨⟨b1, yb1, k1, f1⟩, -⟩ := id hL
  clear k1 f1
  refine wp_regD 14 60 hW hL ?_
  iterate 5
    apply nd_det (hg := rfl) (hal := rfl)
    · intro a W' hC hE
      obtain ⟨_, ⟨-, -, k1, -⟩, -⟩ := hC
      first
        | (simp [Oper.looksAt, Op.operands, Call.operands, envOf, Det] at hE; simp [go_sem, Act.eval, IntWalk.i64_left, hE, k1, ite_z4, hz.out]; try rfl)
        | (clear hE; simp [go_sem, Act.eval, IntWalk.i64_left, k1, ite_z4, hz.out]; try rfl)
  apply nd_detg (p := true) (c := undef) (hg := rfl) (hd := rfl) (hal := rfl)
  · intro v W' h
    simp [envOf, Det] at h
    simp
    exact h
  · intro hp hx
    exact absurd hx (by decide)
  apply nd_detg (p := true) (c := undef) (hg := rfl) (hd := rfl) (hal := rfl)
  · intro v W' h
    simp [envOf, Det] at h
    simp
    exact h
  · intro hp hx
    exact absurd hx (by decide)
  apply nd_detg (p := true) (c := undef) (hg := rfl) (hd := rfl) (hal := rfl)
  · intro v W' h
    simp [envOf, Det] at h
    simp
    exact h
  · intro hp hx
    exact absurd hx (by decide)
  apply nd_detg (p := true) (c := undef) (hg := rfl) (hd := rfl) (hal := rfl)
  · intro v W' h
    simp [envOf, Det] at h
    simp
    exact h
  · intro hp hx
    exact absurd hx (by decide)
  apply nd_detg (p := true) (c := undef) (hg := rfl) (hd := rfl) (hal := rfl)
  · intro v W' h
    simp [envOf, Det] at h
    simp
    exact h
  · intro hp hx
    exact absurd hx (by decide)
  apply nd_detg (p := true) (c := undef) (hg := rfl) (hd := rfl) (hal := rfl)
  · intro v W' h
    simp [envOf, Det] at h
    simp
    exact h
  · intro hp hx
    exact absurd hx (by decide)
  apply nd_detg (p := true) (c := undef) (hg := rfl) (hd := rfl) (hal := rfl)
  · intro v W' h
    simp [envOf, Det] at h
    simp
    exact h
  · intro hp hx
    exact absurd hx (by decide)
  apply nd_detg (p := true) (c := undef) (hg := rfl) (hd := rfl) (hal := rfl)
  · intro v W' h
    simp [envOf, Det] at h
    simp
    exact h
  · intro hp hx
    exact absurd hx (by decide)
  apply nd_pick_or (y := false) (ho := rfl) (hg := rfl)
  · intro v W' h
    simp [envOf, Det] at h
    exact h
  · intro v W' h hx
    exact absurd hx (by decide)
  clear hW hL b1
  rintro W6 hW z7 hL
  simp only [ndR]
  intros
  repeat (rename GDet _ _ _ _ => hgd; clear hgd)
  simp only [ndS]
  refine wpList_nil ?_
  obtain ⟨⟨b1, yb1, k1, f1⟩, -⟩ := hL
  rw [Bool.true_or]
  go_wp2
  refine bodyPost_ret (v := .bool false) (by simp [results, Tryz.results7, go_sem, k1, f1, yb1]) rfl ⟨rfl, hW⟩
set_option maxRecDepth 100000 in
set_option maxHeartbeats 8000000 in
theorem rr_raw2 (A R n d E : Int) (p q : Option Addr) (len cap m vc : Nat) (w : World) (T : List Int) (ok : Bool) (hm : Hid (m = T.length)) (hE0 : 0 ≤ E) (hE1 : E ≤ 1099511627776) (hz : Hid (lineZ A R n d = true)) (c1 : ∀ W, Below w.heap.size w W → Calls Tryz.prog 29 #[.slice p len cap] W fun e w' => e = .returned (.bool true) ∧ Below W.heap.size W w') (c2 : ∀ W, Below w.heap.size w W → Calls Tryz.prog 30 #[.slice p len cap] W fun e w' => ∃ v, e = .returned v ∧ OwnR w' W.heap.size 2 1 v T.length (T.map (Value.int .i64)) ∧ Below W.heap.size W w') (c3 : ∀ W, Below w.heap.size w W → Calls Tryz.prog 33 #[.agg #[.int .i64 4, .slice p len cap, .int .i64 A, .int .i64 R, .int .i64 n, .int .i64 d, .slice q m vc, .int .i64 E]] W fun e w' => ∃ v, e = .returned (.tuple #[v, .bool ok]) ∧ Below W.heap.size W w') :
    Calls Tryz.prog 7 #[.agg #[.int .i64 4, .slice p len cap, .int .i64 A, .int .i64 R, .int .i64 n, .int .i64 d, .slice q m vc, .int .i64 E]] w fun e w' => e = .returned (.bool ok) ∧ Below w.heap.size w w' := by
  have H_c1 := Lib.hid c1
  clear c1
  have H_c2 := Lib.hid c2
  clear c2
  have H_c3 := Lib.hid c3
  clear c3
  go_enter Tryz.func7, Tryz.ntmps7
  go_wp2_with fail
  refine (H_c1.out _ belowAny).mono ?_
  rintro e w1 ⟨rfl, hb1⟩
  have z2 := hb1.size
  try simp at z2
  refine haveB w w1 (Bc w.heap.size #[.int .i64 4, .slice p len cap, .int .i64 A, .int .i64 R, .int .i64 n, .int .i64 d, .slice q m vc, .int .i64 E] 29 <| Bz) ?_
  rintro hW z3 ⟨⟨b1, yb1, k1, f1⟩, -⟩
  clear hb1
  have c2 := H_c2.out
  go_upto_region 4 with (fail)
  clear k1 f1
  refine wp_cutB w (Bc w.heap.size #[.int .i64 4, .slice p len cap, .int .i64 A, .int .i64 R, .int .i64 n, .int .i64 d, .slice q m vc, .int .i64 E] 29 <| Bz) ?_
  clear b1 hW
  rintro W4 hW z5 hL
  obtain ⟨⟨b1, yb1, k1, f1⟩, -⟩ := id hL
  clear k1 f1
  refine wp_regD 14 60 hW hL ?_
  iterate 5
    apply nd_det (hg := rfl) (hal := rfl)
    · intro a W' hC hE
      obtain ⟨_, ⟨-, -, k1, -⟩, -⟩ := hC
      first
        | (simp [Oper.looksAt, Op.operands, Call.operands, envOf, Det] at hE; simp [go_sem, Act.eval, IntWalk.i64_left, hE, k1, ite_z4, hz.out]; try rfl)
        | (clear hE; simp [go_sem, Act.eval, IntWalk.i64_left, k1, ite_z4, hz.out]; try rfl)
  iterate 5
    apply nd_detg (p := true) (hg := rfl) (hd := rfl) (hal := rfl)
    · intro v W' h
      simp [envOf, Det, GDet] at h
      simp
      exact h
    · intro hp hx a W' hC hE
      obtain ⟨_, ⟨-, -, k1, -⟩, -⟩ := hC
      simp [Oper.looksAt, Op.operands, Call.operands, envOf, Det, GDet, hx] at hE
      simp [go_sem, Act.eval, IntWalk.i64_left, hE, k1, ite_z4, hz.out]
      try rfl
  apply nd_oncall (OV 0 T) (hg := rfl) (hd := rfl) (hal := rfl)
  · exact OV.closed _ _
  · intro v W' h
    simp [envOf, Det] at h
    exact h
  · intro a W' hC hE
    obtain ⟨hR9, k1⟩ := hC
    simp [Oper.looksAt, Op.operands, Call.operands, envOf, Det, GDet] at hE
    refine ⟨_, _, ?_, (H_c2.out W' (hW.trans (hR9.of_priv hW.size))).mono ?_⟩
    · simp [go_sem, Act.eval, hE]
      try rfl
    · rintro e w' ⟨v, rfl, hv, hB⟩
      exact ⟨_, rfl, hB, hv.mono (Nat.zero_le _)⟩
  apply nd_onval (Det (.int .i64 (T.length : Int))) (hg := rfl) (hd := rfl) (hal := rfl)
  · exact closed_det _ _
  · intro v W' h
    simp [envOf, Det] at h
    exact h
  · intro a W' hC hE
    simp [Oper.looksAt, Op.operands, Call.operands, envOf, Det, GDet] at hE
    obtain ⟨h1, h2⟩ := hE
    obtain ⟨p9, c9, e9, -, -, -, -⟩ := OwnR.form h1
    refine ⟨_, ?_, rfl⟩
    simp [go_sem, Act.eval, e9]
  iterate 1
    apply nd_detg (p := true) (hg := rfl) (hd := rfl) (hal := rfl)
    · intro v W' h
      simp [envOf, Det, GDet] at h
      simp
      exact h
    · intro hp hx a W' hC hE
      obtain ⟨_, ⟨-, -, k1, -⟩, -⟩ := hC
      simp [Oper.looksAt, Op.operands, Call.operands, envOf, Det, GDet, hx] at hE
      simp [go_sem, Act.eval, IntWalk.i64_left, hE, k1, ite_z4, hz.out]
      try rfl
  refine pO ?_
  clear hW hL b1
  rintro W6 hW z7 hL
  simp only [ndR]
  intros
  repeat (rename GDet _ _ _ _ => hgd; clear hgd)
  simp only [ndS]
  refine wpList_nil ?_
  obtain ⟨⟨b1, yb1, k1, f1⟩, -⟩ := hL
  clear c2
  rw [show (false || (m : Int) != (T.length : Int)) = false by simp [hm.out]]
  have z77 := hW.size
  go_wp2_with fail
  refine (H_c3.out _ belowAny).mono ?_
  rintro e w8 ⟨v9, rfl, hb8⟩
  have z9 := hb8.size
  try simp at z9
  clear k1 f1
  refine haveB w w8 (Bc w.heap.size #[.int .i64 4, .slice p len cap, .int .i64 A, .int .i64 R, .int .i64 n, .int .i64 d, .slice q m vc, .int .i64 E] 29 <| Bz) ?_
  clear b1 hW
  rintro hW z10 ⟨⟨b1, yb1, k1, f1⟩, -⟩
  go_wp2
  refine bodyPost_ret (v := .bool ok) (by simp [results, Tryz.results7, go_sem, k1, f1, yb1]) rfl ⟨rfl, hW⟩
set_option maxRecDepth 100000 in
set_option maxHeartbeats 8000000 in
theorem rr_line0 (K A R n d E : Int) (p q : Option Addr) (len cap m vc : Nat) (w : World) (hK : (K == 4) = false) (hF : Hid ((decide (0 < m) || !isLine A R n d || K != kindR R n) = true)) (hE0 : 0 ≤ E) (hE1 : E ≤ 1099511627776) (c1 : ∀ W, Below w.heap.size w W → Calls Tryz.prog 29 #[.slice p len cap] W fun e w' => e = .returned (.bool true) ∧ Below W.heap.size W w') :
    Calls Tryz.prog 7 #[.agg #[.int .i64 K, .slice p len cap, .int .i64 A, .int .i64 R, .int .i64 n, .int .i64 d, .slice q m vc, .int .i64 E]] w fun e w' => e = .returned (.bool false) ∧ Below w.heap.size w w' := by
  have H_c1 := Lib.hid c1
  clear c1
  go_enter Tryz.func7, Tryz.ntmps7
  go_wp2_with fail
  refine (H_c1.out _ belowAny).mono ?_
  rintro e w1 ⟨rfl, hb1⟩
  have z2 := hb1.size
  try simp at z2
  refine haveB w w1 (Bc w.heap.size #[.int .i64 K, .slice p len cap, .int .i64 A, .int .i64 R, .int .i64 n, .int .i64 d, .slice q m vc, .int .i64 E] 29 <| Bz) ?_
  rintro hW z3 ⟨⟨b1, yb1, k1, f1⟩, -⟩
  clear hb1
  go_upto_region 6 with (fail)
  clear k1 f1
  refine wp_cutB w (Bc w.heap.size #[.int .i64 K, .slice p len cap, .int .i64 A, .int .i64 R, .int .i64 n, .int .i64 d, .slice q m vc, .int .i64 E] 29 <| Bz) ?_
  clear b1 hW
  rintro W4 hW z5 hL
  refine wp_regD 18 60 hW hL ?_
  iterate 5 refine dA ?_
  iterate 2 refine gA ?_
  refine cG (fun hp hx W' hC => c_rline A R n d W') ?_
  refine gA ?_
  refine pO ?_
  refine dA ?_
  iterate 4 refine gA ?_
  refine cG (fun hp hx W' hC => c_rkind A R n d W') ?_
  refine gA ?_
  refine pO ?_
  clear hW hL
  rintro W6 hW z7 hL
  simp only [ndR]
  intros
  repeat (rename GDet _ _ _ _ => hgd; clear hgd)
  simp only [ndS]
  refine wpList_nil ?_
  obtain ⟨⟨b1, yb1, k1, f1⟩, -⟩ := hL
  rw [hF.out]
  go_wp2
  refine bodyPost_ret (v := .bool false) (by simp [results, Tryz.results7, go_sem, k1, f1, yb1]) rfl ⟨rfl, hW⟩
set_option maxRecDepth 100000 in
set_option maxHeartbeats 8000000 in
theorem rr_line1 (K A R n d E : Int) (p q : Option Addr) (len cap m vc : Nat) (w : World) (ok : Bool) (hK : (K == 4) = false) (hF : Hid ((decide (0 < m) || !isLine A R n d || K != kindR R n) = false)) (hE0 : 0 ≤ E) (hE1 : E ≤ 1099511627776) (c1 : ∀ W, Below w.heap.size w W → Calls Tryz.prog 29 #[.slice p len cap] W fun e w' => e = .returned (.bool true) ∧ Below W.heap.size W w') (c3 : ∀ W, Below w.heap.size w W → Calls Tryz.prog 33 #[.agg #[.int .i64 K, .slice p len cap, .int .i64 A, .int .i64 R, .int .i64 n, .int .i64 d, .slice q m vc, .int .i64 E]] W fun e w' => ∃ v, e = .returned (.tuple #[v, .bool ok]) ∧ Below W.heap.size W w') :
    Calls Tryz.prog 7 #[.agg #[.int .i64 K, .slice p len cap, .int .i64 A, .int .i64 R, .int .i64 n, .int .i64 d, .slice q m vc, .int .i64 E]] w fun e w' => e = .returned (.bool ok) ∧ Below w.heap.size w w' := by
  have H_c1 := Lib.hid c1
  clear c1
  have H_c3 := Lib.hid c3
  clear c3
  go_enter Tryz.func7, Tryz.ntmps7
  go_wp2_with fail
  refine (H_c1.out _ belowAny).mono ?_
  rintro e w1 ⟨rfl, hb1⟩
  have z2 := hb1.size
  try simp at z2
  refine haveB w w1 (Bc w.heap.size #[.int .i64 K, .slice p len cap, .int .i64 A, .int .i64 R, .int .i64 n, .int .i64 d, .slice q m vc, .int .i64 E] 29 <| Bz) ?_
  rintro hW z3 ⟨⟨b1, yb1, k1, f1⟩, -⟩
  clear hb1
  go_upto_region 6 with (fail)
  clear k1 f1
  refine wp_cutB w (Bc w.heap.size #[.int .i64 K, .slice p len cap, .int .i64 A, .int .i64 R, .int .i64 n, .int .i64 d, .slice q m vc, .int .i64 E] 29 <| Bz) ?_
  clear b1 hW
  rintro W4 hW z5 hL
  refine wp_regD 18 60 hW hL ?_
  iterate 5 refine dA ?_
  iterate 2 refine gA ?_
  refine cG (fun hp hx W' hC => c_rline A R n d W') ?_
  refine gA ?_
  refine pO ?_
  refine dA ?_
  iterate 4 refine gA ?_
  refine cG (fun hp hx W' hC => c_rkind A R n d W') ?_
  refine gA ?_
  refine pO ?_
  clear hW hL
  rintro W6 hW z7 hL
  simp only [ndR]
  intros
  repeat (rename GDet _ _ _ _ => hgd; clear hgd)
  simp only [ndS]
  refine wpList_nil ?_
  obtain ⟨⟨b1, yb1, k1, f1⟩, -⟩ := hL
  rw [hF.out]
  have z77 := hW.size
  go_wp2_with fail
  refine (H_c3.out _ belowAny).mono ?_
  rintro e w8 ⟨v9, rfl, hb8⟩
  have z9 := hb8.size
  try simp at z9
  clear k1 f1
  refine haveB w w8 (Bc w.heap.size #[.int .i64 K, .slice p len cap, .int .i64 A, .int .i64 R, .int .i64 n, .int .i64 d, .slice q m vc, .int .i64 E] 29 <| Bz) ?_
  clear b1 hW
  rintro hW z10 ⟨⟨b1, yb1, k1, f1⟩, -⟩
  go_wp2
  refine bodyPost_ret (v := .bool ok) (by simp [results, Tryz.results7, go_sem, k1, f1, yb1]) rfl ⟨rfl, hW⟩
set_option maxRecDepth 100000 in
set_option maxHeartbeats 8000000 in
theorem rr_raw1 (A R n d E : Int) (p q : Option Addr) (len cap m vc : Nat) (w : World) (T : List Int) (hm : ¬ m = T.length) (hE0 : 0 ≤ E) (hE1 : E ≤ 1099511627776) (hz : Hid (lineZ A R n d = true)) (c1 : ∀ W, Below w.heap.size w W → Calls Tryz.prog 29 #[.slice p len cap] W fun e w' => e = .returned (.bool true) ∧ Below W.heap.size W w') (c2 : ∀ W, Below w.heap.size w W → Calls Tryz.prog 30 #[.slice p len cap] W fun e w' => ∃ v, e = .returned v ∧ OwnR w' W.heap.size 2 1 v T.length (T.map (Value.int .i64)) ∧ Below W.heap.size W w') :
    Calls Tryz.prog 7 #[.agg #[.int .i64 4, .slice p len cap, .int .i64 A, .int .i64 R, .int .i64 n, .int .i64 d, .slice q m vc, .int .i64 E]] w fun e w' => e = .returned (.bool false) ∧ Below w.heap.size w w' := by
  have H_c1 := Lib.hid c1
  clear c1
  have H_c2 := Lib.hid c2
  clear c2
  go_enter Tryz.func7, Tryz.ntmps7
  go_wp2_with fail
  refine (H_c1.out _ belowAny).mono ?_
  rintro e w1 ⟨rfl, hb1⟩
  have z2 := hb1.size
  try simp at z2
  refine haveB w w1 (Bc w.heap.size #[.int .i64 4, .slice p len cap, .int .i64 A, .int .i64 R, .int .i64 n, .int .i64 d, .slice q m vc, .int .i64 E] 29 <| Bz) ?_
  rintro hW z3 ⟨⟨b1, yb1, k1, f1⟩, -⟩
  clear hb1
  have c2 := H_c2.out
  go_upto_region 4 with (fail)
  clear k1 f1
  refine wp_cutB w (Bc w.heap.size #[.int .i64 4, .slice p len cap, .int .i64 A, .int .i64 R, .int .i64 n, .int .i64 d, .slice q m vc, .int .i64 E] 29 <| Bz) ?_
  clear b1 hW
  rintro W4 hW z5 hL
  obtain ⟨⟨b1, yb1, k1, f1⟩, -⟩ := id hL
  clear k1 f1
  refine wp_regD 14 60 hW hL ?_
  iterate 5
    apply nd_det (hg := rfl) (hal := rfl)
    · intro a W' hC hE
      obtain ⟨_, ⟨-, -, k1, -⟩, -⟩ := hC
      first
        | (simp [Oper.looksAt, Op.operands, Call.operands, envOf, Det] at hE; simp [go_sem, Act.eval, IntWalk.i64_left, hE, k1, ite_z4, hz.out]; try rfl)
        | (clear hE; simp [go_sem, Act.eval, IntWalk.i64_left, k1, ite_z4, hz.out]; try rfl)
  iterate 5
    apply nd_detg (p := true) (hg := rfl) (hd := rfl) (hal := rfl)
    · intro v W' h
      simp [envOf, Det, GDet] at h
      simp
      exact h
    · intro hp hx a W' hC hE
      obtain ⟨_, ⟨-, -, k1, -⟩, -⟩ := hC
      simp [Oper.looksAt, Op.operands, Call.operands, envOf, Det, GDet, hx] at hE
      simp [go_sem, Act.eval, IntWalk.i64_left, hE, k1, ite_z4, hz.out]
      try rfl
  apply nd_oncall (OV 0 T) (hg := rfl) (hd := rfl) (hal := rfl)
  · exact OV.closed _ _
  · intro v W' h
    simp [envOf, Det] at h
    exact h
  · intro a W' hC hE
    obtain ⟨hR9, k1⟩ := hC
    simp [Oper.looksAt, Op.operands, Call.operands, envOf, Det, GDet] at hE
    refine ⟨_, _, ?_, (H_c2.out W' (hW.trans (hR9.of_priv hW.size))).mono ?_⟩
    · simp [go_sem, Act.eval, hE]
      try rfl
    · rintro e w' ⟨v, rfl, hv, hB⟩
      exact ⟨_, rfl, hB, hv.mono (Nat.zero_le _)⟩
  apply nd_onval (Det (.int .i64 (T.length : Int))) (hg := rfl) (hd := rfl) (hal := rfl)
  · exact closed_det _ _
  · intro v W' h
    simp [envOf, Det] at h
    exact h
  · intro a W' hC hE
    simp [Oper.looksAt, Op.operands, Call.operands, envOf, Det, GDet] at hE
    obtain ⟨h1, h2⟩ := hE
    obtain ⟨p9, c9, e9, -, -, -, -⟩ := OwnR.form h1
    refine ⟨_, ?_, rfl⟩
    simp [go_sem, Act.eval, e9]
  iterate 1
    apply nd_detg (p := true) (hg := rfl) (hd := rfl) (hal := rfl)
    · intro v W' h
      simp [envOf, Det, GDet] at h
      simp
      exact h
    · intro hp hx a W' hC hE
      obtain ⟨_, ⟨-, -, k1, -⟩, -⟩ := hC
      simp [Oper.looksAt, Op.operands, Call.operands, envOf, Det, GDet, hx] at hE
      simp [go_sem, Act.eval, IntWalk.i64_left, hE, k1, ite_z4, hz.out]
      try rfl
  refine pO ?_
  clear hW hL b1
  rintro W6 hW z7 hL
  simp only [ndR]
  intros
  repeat (rename GDet _ _ _ _ => hgd; clear hgd)
  simp only [ndS]
  refine wpList_nil ?_
  obtain ⟨⟨b1, yb1, k1, f1⟩, -⟩ := hL
  clear c2
  rw [show (false || (m : Int) != (T.length : Int)) = true by simp; omega]
  go_wp2
  refine bodyPost_ret (v := .bool false) (by simp [results, Tryz.results7, go_sem, k1, f1, yb1]) rfl ⟨rfl, hW⟩
end Go.Proofs.YtbanjolokkghdaaGreatDoor
namespace Go.Proofs.YtbanjolokkghdaaGreatDoor
open Go.RowKit
theorem line_first {A R n d : Int} (h : isLine A R n d = true) (hn : n = 0) : R = 0 := by
  unfold isLine at h
  simp only [Bool.and_eq_true, decide_eq_true_eq] at h
  obtain ⟨⟨⟨⟨_, hs⟩, hg⟩, h0⟩, h1⟩ := h
  have := isSlope_bd hs
  subst hn
  unfold gcdI at hg
  simp at hg
  omega
theorem ends_iff {s : SegT} (hl : RunsOk s.runs) (hi : isLine s.A s.R s.n s.d = true) : endsOk s.A s.R s.n s.d 0 (lastT s.runs - firstT s.runs) = ((timesL s.runs).map (valAt s)).all isBack := by
  rw [Bool.eq_iff_iff]
  constructor
  · intro h
    have hL : LineSeg s := ⟨hl, isLine_ok.1 hi, h⟩
    rw [List.all_eq_true]
    intro y hy
    obtain ⟨t, ht, rfl⟩ := List.mem_map.1 hy
    have := mem_times hl ht
    exact hL.back this.1 this.2.1
  · intro h
    rw [List.all_eq_true] at h
    have hc := cnt_pos hl
    have key : ∀ i : Int, 0 ≤ i → i < cnt s.runs → isBack (valAt s (atV s.runs i)) = true := by
      intro i h0 h1
      obtain ⟨v, _, hm, e, _⟩ := atL_some hl h0 h1
      rw [e]
      exact h _ (List.mem_map_of_mem hm)
    have a := key 0 (by omega) (by omega)
    have b := key (cnt s.runs - 1) (by omega) (by omega)
    unfold endsOk
    unfold valAt firstT at a b
    rw [show atV s.runs 0 - atV s.runs 0 = 0 by omega] at a
    rw [Bool.and_eq_true]
    exact ⟨a, b⟩
theorem vals_line {s : SegT} (hK : s.K ≠ 4) : vals s = (timesL s.runs).map (valAt s) := by unfold vals; rw [if_neg hK]
theorem vals_raw {s : SegT} (hK : s.K = 4) : vals s = s.raw := by unfold vals; rw [if_pos hK]
theorem kindB_line {s : SegT} (hl : RunsOk s.runs) (hK : s.K ≠ 4) : kindB s = (!(decide (0 < s.raw.length) || !isLine s.A s.R s.n s.d || s.K != kindR s.R s.n) && (vals s).all isBack) := by
  rw [vals_line hK]
  unfold kindB lineIsB
  cases hi : isLine s.A s.R s.n s.d with
  | false => simp [hK]
  | true =>
    rw [← ends_iff hl hi]
    generalize endsOk s.A s.R s.n s.d 0 (lastT s.runs - firstT s.runs) = e
    have hr : s.raw.isEmpty = !decide (0 < s.raw.length) := by cases s.raw <;> simp
    rw [hr]
    unfold kindR
    by_cases h1 : s.n = 0
    · have h2 := line_first hi h1
      by_cases k1 : s.K = 1
      · simp [h1, k1, Bool.and_comm]
      · by_cases k2 : s.K = 2
        · simp [h1, k2]
        · by_cases k3 : s.K = 3
          · simp [h1, h2, k3]
          · simp [h1, k1, k2, k3, hK]
    · by_cases h2 : s.R = 0
      · by_cases k1 : s.K = 1
        · simp [h1, h2, k1]
        · by_cases k2 : s.K = 2
          · simp [h1, h2, k2, Bool.and_comm]
          · by_cases k3 : s.K = 3
            · simp [h1, h2, k3]
            · simp [h1, h2, k1, k2, k3, hK]
      · by_cases k1 : s.K = 1
        · simp [h1, h2, k1]
        · by_cases k2 : s.K = 2
          · simp [h1, h2, k2]
          · by_cases k3 : s.K = 3
            · simp [h1, h2, k3, Bool.and_comm]
            · simp [h1, h2, k1, k2, k3, hK]
theorem kindB_raw {s : SegT} (hK : s.K = 4) : kindB s = (lineZ s.A s.R s.n s.d && (s.raw.length : Int) == cnt s.runs && (vals s).all isBack) := by
  rw [vals_raw hK]
  unfold kindB
  simp [hK]
theorem c_refTimes {p : Option Addr} {cap : Nat} {l : List RunT} {w : World} (hl : RunsOk l) (h : RunsIn w p l) (hlen : l.length ≤ 300) : ∀ W, Below w.heap.size w W → Calls Tryz.prog 30 #[.slice p l.length cap] W fun e w' => ∃ v, e = .returned v ∧ OwnR w' W.heap.size 2 1 v (timesL l).length ((timesL l).map (Value.int .i64)) ∧ Below W.heap.size W w' := by
  intro W hW
  have := reftimes_w p cap l W (h.below hW) (by omega)
  rw [times_ok hl] at this
  exact this
/-- The segments of which points are told. -/
def PtsDom (s : SegT) : Prop := (s.K = 4 ∧ (s.raw.length : Int) = cnt s.runs) ∨ (s.K ≠ 4 ∧ isLine s.A s.R s.n s.d = true)
theorem length_tl {l : List RunT} (hl : RunsOk l) : 1 ≤ (timesL l).length ∧ (timesL l).length ≤ 256 := by
  have h1 := length_times hl
  have h2 := cnt_pos hl
  omega
theorem c_refPts (s : SegT) (p q : Option Addr) (cap vc : Nat) (w : World) (h : SegIn w s p q) (hl : RunsOk s.runs) (hd : PtsDom s) :
    Calls Tryz.prog 33 #[.agg (segA s p q cap vc)] w (PtsPost w (timesL s.runs) (vals s)) := by
  have ht := length_times hl
  have h256 := length_tl hl
  have c1 := fun (W : World) (hW : Below w.heap.size w W) => c_refTimes (cap := cap) hl h.runs h.fewR W hW
  rcases hd with ⟨hK, hr⟩ | ⟨hK, hi⟩
  · rw [vals_raw hK]
    obtain ⟨b, o, e, _⟩ := h.raw.at' 0 _ (List.getElem?_eq_getElem (show 0 < s.raw.length by omega))
    have hraw := h.raw
    rw [e] at hraw
    have := pts_raw s.A s.R s.n s.d s.E p s.runs.length cap b o vc (timesL s.runs) s.raw w ⟨hraw⟩ (by omega) h256.1 h256.2 c1
    unfold segA
    rw [hK, e]
    exact this
  · rw [vals_line hK]
    have hx0 : (timesL s.runs)[0]? = some (firstT s.runs) := at_times hl (k := 0) (by omega)
    have hv : ∀ (i : Nat) (x y : Int), (timesL s.runs)[i]? = some x → ((timesL s.runs).map (valAt s))[i]? = some y → 0 ≤ x - firstT s.runs ∧ x - firstT s.runs ≤ 281474976710656 ∧ y = lineVal s.A s.R s.n s.d (x - firstT s.runs) := by
      intro i x y hx hy
      rw [List.getElem?_map, hx] at hy
      have hm := mem_times hl (List.mem_of_getElem? hx)
      have hf := first_in hl
      simp at hy
      exact ⟨by omega, by omega, by rw [← hy]; rfl⟩
    refine pts_line s.K s.A s.R s.n s.d s.E (firstT s.runs) p q s.runs.length cap s.raw.length vc (timesL s.runs) _ w (by simp [hK]) (by simp) h256.1 h256.2 hx0 (fun x hx => by have := mem_times hl hx; omega) c1 ?_ ?_
    · intro W i x y hx hy hb
      obtain ⟨a1, a2, rfl⟩ := hv i x y hx hy
      exact c_rat_yes hi a1 a2 hb W
    · intro W i x y hx hy hb
      obtain ⟨a1, a2, rfl⟩ := hv i x y hx hy
      exact c_rat_no hi a1 a2 hb W
theorem c_refPtsOk (s : SegT) (p q : Option Addr) (cap vc : Nat) (w : World) (h : SegIn w s p q) (hl : RunsOk s.runs) (hd : PtsDom s) :
    Calls Tryz.prog 33 #[.agg (segA s p q cap vc)] w fun e w' => ∃ v, e = .returned (.tuple #[v, .bool ((vals s).all isBack)]) ∧ Below w.heap.size w w' := by
  refine (c_refPts s p q cap vc w h hl hd).mono ?_
  rintro e w' ⟨hB, ⟨h1, v, rfl, _⟩ | ⟨h1, rfl⟩⟩
  · exact ⟨v, by rw [h1], hB⟩
  · exact ⟨_, by rw [h1], hB⟩
/-- Which segments may be, the document says as the program does. -/
theorem c_refRight (s : SegT) (p q : Option Addr) (cap vc : Nat) (w : World) (h : SegIn w s p q) :
    Calls Tryz.prog 7 #[.agg (segA s p q cap vc)] w fun e w' => e = .returned (.bool (segB s)) ∧ Below w.heap.size w w' := by
  have c1 := fun (W : World) (hW : Below w.heap.size w W) => c_refright p cap s.runs W (by have := h.fewR; omega) (h.runs.below hW)
  unfold segB
  cases hr : risesB s.runs with
  | false =>
    rw [hr] at c1
    rw [Bool.false_and]
    exact rr_no1 s.K s.A s.R s.n s.d s.E p q s.runs.length cap s.raw.length vc w c1
  | true =>
    rw [hr] at c1
    rw [Bool.true_and]
    have hl := (risesB_iff _).1 hr
    by_cases hE : s.E < 0 ∨ 1099511627776 < s.E
    · rw [show (decide (0 ≤ s.E) && decide (s.E ≤ 1099511627776) && kindB s) = false by
        rcases hE with hE | hE
        · rw [decide_eq_false (show ¬ 0 ≤ s.E by omega)]; rfl
        · rw [decide_eq_false (show ¬ s.E ≤ 1099511627776 by omega), Bool.and_false]; rfl]
      exact rr_no2 s.K s.A s.R s.n s.d s.E p q s.runs.length cap s.raw.length vc w hE c1
    · have hE0 : 0 ≤ s.E := by omega
      have hE1 : s.E ≤ 1099511627776 := by omega
      rw [decide_eq_true hE0, decide_eq_true hE1, Bool.true_and, Bool.true_and]
      by_cases hK : s.K = 4
      · rw [kindB_raw hK]
        have ht := length_times hl
        have c2 := fun (W : World) (hW : Below w.heap.size w W) => c_refTimes (cap := cap) hl h.runs h.fewR W hW
        cases hz : lineZ s.A s.R s.n s.d with
        | false =>
          have := rr_raw0 s.A s.R s.n s.d s.E p q s.runs.length cap s.raw.length vc w hE0 hE1 (Lib.hid hz) c1
          unfold segA
          rw [hK]
          exact this
        | true =>
          by_cases hm : (s.raw.length : Int) = cnt s.runs
          · rw [show ((s.raw.length : Int) == cnt s.runs) = true by simp [hm], Bool.true_and, Bool.true_and]
            have c3 := fun (W : World) (hW : Below w.heap.size w W) => c_refPtsOk s p q cap vc W (h.below hW) hl (.inl ⟨hK, hm⟩)
            unfold segA at c3 ⊢
            rw [hK] at c3 ⊢
            exact rr_raw2 s.A s.R s.n s.d s.E p q s.runs.length cap s.raw.length vc w (timesL s.runs) _ (Lib.hid (by omega)) hE0 hE1 (Lib.hid hz) c1 c2 c3
          · rw [show ((s.raw.length : Int) == cnt s.runs) = false by simp [hm], Bool.and_false, Bool.false_and]
            have := rr_raw1 s.A s.R s.n s.d s.E p q s.runs.length cap s.raw.length vc w (timesL s.runs) (by omega) hE0 hE1 (Lib.hid hz) c1 c2
            unfold segA
            rw [hK]
            exact this
      · rw [kindB_line hl hK]
        cases hF : (decide (0 < s.raw.length) || !isLine s.A s.R s.n s.d || s.K != kindR s.R s.n) with
        | true => exact rr_line0 s.K s.A s.R s.n s.d s.E p q s.runs.length cap s.raw.length vc w (by simp [hK]) (Lib.hid hF) hE0 hE1 c1
        | false =>
          have hi : isLine s.A s.R s.n s.d = true := by
            cases hi : isLine s.A s.R s.n s.d with
            | true => rfl
            | false => rw [hi] at hF; simp at hF
          rw [Bool.not_false, Bool.true_and]
          exact rr_line1 s.K s.A s.R s.n s.d s.E p q s.runs.length cap s.raw.length vc w _ (by simp [hK]) (Lib.hid hF) hE0 hE1 c1 (fun W hW => c_refPtsOk s p q cap vc W (h.below hW) hl (.inr ⟨hK, hi⟩))
end Go.Proofs.YtbanjolokkghdaaGreatDoor
