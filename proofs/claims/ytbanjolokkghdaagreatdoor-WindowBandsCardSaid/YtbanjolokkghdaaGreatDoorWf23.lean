/- Parts of the proof that follows: Reference 25: Bounds. No condition but that they are few. | Layer window: the bands of points; the document's. No condition but that points and bound may be. | slices.Equal of bands that are one. No condition. | References 13, 14, 18, 24: what a name, a bound, a scale, a time, a point may be; a segment's last time; which segment begins behind another. No condition but that the segments may be. | slices.Clone, of segments and points, and of runs and numbers that may be nil. No condition. | A region that draws its order, in which one step writes into a block of the call's own, and what that block holds is told before and behind: the step may stand ahead of some that only read. No condition. | The laws of chapter 26: own. No condition. -/
import Derived.Test.YtbanjolokkghdaaGreatDoorWf22
set_option linter.unusedSimpArgs false
set_option linter.unusedVariables false
namespace Go.Proofs.YtbanjolokkghdaaGreatDoor
open Go.RowKit
def OneV (B : Nat) (d : Int) : Spec := fun v w => ∃ g, v = .slice (some ⟨g, 0, none⟩) 1 1 ∧ B ≤ g ∧ Blk w g #[.int .i64 d] 2
theorem OneV.closed (B : Nat) (d : Int) : Closed [] (OneV B d) := fun _ _ _ hr ⟨g, e1, h1, h⟩ => ⟨g, e1, h1, h.rex hr (by simp)⟩
def Apart2 (v1 v2 : Value) : Prop := ∀ g, v1.ownBlock = some g → v2.ownBlock = some g → False
theorem Apart2.symm {v1 v2 : Value} (h : Apart2 v1 v2) : Apart2 v2 v1 := fun g a b => h g b a
theorem grown_below {B : Nat} {w0 w w' : World} {r : Option Nat} (h : Below B w0 w) (hB : B ≤ w.heap.size) (hg : w.grownBy w' r) (hr : ∀ g, r = some g → B ≤ g) : Below B w0 w' :=
  h.trans ⟨hg.os, hg.tape, hg.output, hg.size, fun k hk => hg.block k (by omega) fun e => by have := hr k e.symm; omega⟩
def loB (x : RunT) : Int := x.s - x.c
def hiB (x : RunT) : Int := x.s + x.c
def boRel (w : World) (p : Option Addr) (cap : Nat) (l : List RunT) (a' : Act) (W : World) : Prop :=
  Below w.heap.size w W ∧ ∃ (i : Nat) (v1 v2 : Value), (∃ u : Nat → Value, a' = { tmps := #[.slice p l.length cap, u 1, .slice none 0 0, .slice none 0 0, v1, v2, .int .i64 (i : Int), u 7, u 8, u 9, u 10, u 11, u 12, u 13, u 14, u 15, u 16, u 17, u 18, u 19, u 20, u 21, u 22, u 23, u 24, u 25, u 26, u 27, u 28, u 29, u 30, u 31, u 32, u 33, u 34, u 35, u 36, u 37, u 38, u 39, u 40, u 41, u 42], defers := [] }) ∧ i ≤ l.length ∧
    OwnR W w.heap.size 2 1 v1 i (((l.take i).map loB).map (Value.int .i64)) ∧ OwnR W w.heap.size 2 1 v2 i (((l.take i).map hiB).map (Value.int .i64)) ∧ Apart2 v1 v2
end Go.Proofs.YtbanjolokkghdaaGreatDoor
namespace Go.Proofs.YtbanjolokkghdaaGreatDoor
open Go.RowKit
/-- The bands of points. -/
def bndL (eps : Int) (l : List (Int × Int)) : List RunT := l.map fun q => ⟨q.1, q.2 - eps, q.2 + eps⟩
theorem bnd_next {eps t y : Int} {l : List (Int × Int)} {i : Nat} (h : l[i]? = some (t, y)) : flatCells (bndL eps (l.take (i + 1))) = flatCells (bndL eps (l.take i)) ++ [.int .i64 t, .int .i64 (y - eps), .int .i64 (y + eps)] := by
  unfold bndL
  rw [List.take_add_one, h, Option.toList_some, List.map_append]
  exact flatCells_snoc _ _
def ValOk (l : List (Int × Int)) (eps : Int) : Prop := (∀ x, x ∈ l → -2305843009213693952 ≤ x.2 ∧ x.2 ≤ 2305843009213693952) ∧ 0 ≤ eps ∧ eps ≤ 1099511627776
theorem Tryz.infoBand : (Tryz.prog.info? 44).map (fun i => (i.zero, i.size, i.bytes)) = some (some (.agg #[.int .i64 0, .int .i64 0, .int .i64 0]), 3, 24) := by kernel_rfl
set_option maxRecDepth 100000 in
set_option maxHeartbeats 2000000 in
theorem c_bnd1 (t y eps : Int) (o6 : Nat) (w : World) (h6 : Blk w o6 #[.int .i64 eps] 2) (hy : -2305843009213693952 ≤ y ∧ y ≤ 2305843009213693952) (he : 0 ≤ eps ∧ eps ≤ 1099511627776) : Calls Tryz.prog 76 #[.agg #[.int .i64 t, .int .i64 y], .pointer (some ⟨o6, 0, none⟩)] w fun e w' => e = .returned (.agg #[.int .i64 t, .int .i64 (y - eps), .int .i64 (y + eps)]) ∧ Below w.heap.size w w' := by
  obtain ⟨hy1, hy2⟩ := hy
  obtain ⟨he1, he2⟩ := he
  go_enter Tryz.func76, Tryz.ntmps76
  go_upto_region 1 with (fail)
  refine wp_cutB w (Bc o6 #[.int .i64 eps] 2 <| Bc w.heap.size #[.int .i64 t, .int .i64 y] 56 <| Bc (w.heap.size + 1) #[.int .i64 0, .int .i64 0, .int .i64 0] 44 <| Bz) ?_
  rintro W1 hW z2 ⟨⟨b1, yb1, k1, f1⟩, ⟨b2, yb2, k2, f2⟩, ⟨b3, yb3, k3, f3⟩, -⟩
  go_wp2
  refine bodyPost_ret (by simp [results, Tryz.results76, go_sem, k1, f1, k2, f2, k3, f3, yb1, yb2, yb3]) rfl ⟨rfl, by exact belowAny⟩
def alRel (w : World) (p : Option Addr) (cap : Nat) (l : List (Int × Int)) (eps : Int) (o6 : Nat) (a' : Act) (W : World) : Prop :=
  Below w.heap.size w W ∧ Blk W o6 #[.int .i64 eps] 2 ∧ ∃ (i : Nat) (v : Value), (∃ u : Nat → Value, a' = { tmps := #[.slice p l.length cap, .func (.func 76) #[] #[.pointer (some ⟨o6, 0, none⟩)], u 2, u 3, u 4, v, u 6, u 7, u 8, u 9, u 10, .slice p l.length cap, .int .i64 (l.length : Int), .int .i64 (i : Int), u 14, u 15, u 16, u 17, u 18, u 19, u 20, u 21, u 22, u 23, u 24], defers := [] }) ∧ OwnR W w.heap.size 44 3 v i (flatCells (bndL eps (l.take i))) ∧ i ≤ l.length
set_option maxRecDepth 100000 in
set_option maxHeartbeats 2000000 in
theorem c_allBnd (p : Option Addr) (cap : Nat) (l : List (Int × Int)) (eps : Int) (o6 : Nat) (w : World) (hin : PtsIn w p l) (hmx : l.length ≤ 1000) (hv : ValOk l eps) (h6 : Blk w o6 #[.int .i64 eps] 2) :
    Calls Tryz.prog 75 #[.slice p l.length cap, .func (.func 76) #[] #[.pointer (some ⟨o6, 0, none⟩)]] w fun e w' => ∃ v, e = .returned v ∧ Below w.heap.size w w' ∧ OwnR w' w.heap.size 44 3 v l.length (flatCells (bndL eps l)) := by
  obtain ⟨i0, hi, hz0, hz1, hz2⟩ := info_parts Tryz.infoBand
  go_enter Tryz.func75, Tryz.ntmps75
  go_wp2_with (at_make; refine wpList_make_own _ rfl (.const (.int .i64 0)) (.tmp 9) 38 rfl w.heap.size 44 i0 (.agg #[.int .i64 0, .int .i64 0, .int .i64 0]) 3 (by kernel_rfl) hi hz0 hz1 .i64 .i64 _ l.length rfl rfl rfl (by rw [hz2]; omega) (by simp [maxLen]; omega) (Nat.le_refl _) ?_)
  intro w5 hown5 hgr5
  have h5 : Below w.heap.size w w5 := Below.grown (Below.refl _ _) hgr5 (Nat.le_refl _) (fun k hk => by cases hk)
  have b1 := h6.below h5
  clear hgr5
  go_wp2
  refine wp_loop (alRel w p cap l eps o6) (fun a' _ => l.length - (intAt (a'.tmps.getD 13 undef)).toNat) ?_ ?_
  · unfold alRel
    exact ⟨h5, b1, 0, _, frame_ex rfl, ⟨hown5⟩, Nat.zero_le _⟩
  clear h5 b1 hown5
  rintro a' W ⟨hW, b1, i, v, ⟨u, rfl⟩, hown, hi'⟩
  have hz := hW.size
  have yb1 := b1.lt
  rcases Nat.lt_or_ge i l.length with hlt | hge
  · obtain ⟨⟨t, y⟩, tr⟩ : ∃ x, l[i]? = some x := ⟨l[i]'(by omega), List.getElem?_eq_getElem (by omega)⟩
    obtain ⟨b, o, rfl, q0, q1⟩ := (hin.below hW).at' i _ tr
    have zq := cell_lt q0
    try simp only at zq
    have hy := hv.1 _ (List.mem_of_getElem? tr)
    have c1 := Lib.hid (fun W (hb : Blk W o6 #[.int .i64 eps] 2) => c_bnd1 t y eps o6 W hb hy hv.2)
    replace tr := Lib.hid tr
    replace hown := Lib.hid hown
    have k1 := b1.cell
    have f1 := b1.frozen
    go_wp2_with fail
    refine (c1.out _ (b1.below (by exact belowAny))).mono ?_
    rintro e w9 ⟨rfl, hB9⟩
    have hA : Below W.heap.size W (W.alloc (.cells #[.int .i64 t, .int .i64 y] 56)) := belowAny
    have hWb := hA.trans (hB9.mono hA.size)
    have hO := hown.out.below hWb
    have d1 := b1.below hWb
    have hV := hW.trans (hWb.mono hW.size)
    have zz := hV.size
    clear hown hA hWb hB9 b1 hW q0 q1 k1 f1
    go_wp2_with (at_builtin; refine wpList_append_own _ rfl (.tmp 17) (.tmp 21) 38 rfl w.heap.size 44 i0 (.agg #[.int .i64 0, .int .i64 0, .int .i64 0]) 3 24 (by kernel_rfl) hi hz0 hz1 hz2 rfl (by decide) _ _ _ rfl (hO.own.alloc _) ⟨w9.heap.size, 0, none⟩ 1 1 [.int .i64 t, .int .i64 (y - eps), .int .i64 (y + eps)] rfl rfl (cell_three_new _ _ _ _ _) (by simp [Value.oneCell']) (by simp [maxLen]; omega) (by omega) (by simp; omega) ?_)
    intro v' w8 hown2 hgr _
    have hB := Lib.hid (below_append hV zz hO.own hgr)
    have e1 := d1.grown hO.own (by decide) hgr
    replace hown2 := Lib.hid hown2
    clear hgr hO d1
    go_wp2
    rw [show (i : Int) + 1 = ((i + 1 : Nat) : Int) by omega]
    refine ⟨?_, by simp [intAt]; omega⟩
    unfold alRel
    exact ⟨hB.out, e1, i + 1, v', frame_ex rfl, ⟨by rw [bnd_next tr.out]; exact hown2.out⟩, by omega⟩
  · obtain rfl : i = l.length := by omega
    rw [List.take_length] at hown
    replace hown := Lib.hid hown
    go_wp2
    go_ret
    exact ⟨_, rfl, hW, hown.out⟩
set_option maxRecDepth 100000 in
set_option maxHeartbeats 2000000 in
theorem c_wnBandsI (p : Option Addr) (cap : Nat) (l : List (Int × Int)) (eps : Int) (w : World) (hin : PtsIn w p l) (hmx : l.length ≤ 1000) (hv : ValOk l eps) :
    Calls Tryz.prog 51 #[.slice p l.length cap, .int .i64 eps] w fun e w' => ∃ v, e = .returned v ∧ Below w.heap.size w w' ∧ OwnR w' w.heap.size 44 3 v l.length (flatCells (bndL eps l)) := by
  have hin9 := hin.below (show Below w.heap.size w (w.alloc (.cells #[.int .i64 eps] 2)) from belowAny)
  have cA := Lib.hid (fun o6 (h6 : Blk (w.alloc (.cells #[.int .i64 eps] 2)) o6 #[.int .i64 eps] 2) => c_allBnd p cap l eps o6 _ hin9 hmx hv h6)
  go_enter Tryz.func51, Tryz.ntmps51
  go_wp2_with fail
  refine (cA.out _ (by exact blkAny2)).mono ?_
  rintro e w9 ⟨v, rfl, hB9, hO⟩
  have hA : Below w.heap.size w (w.alloc (.cells #[.int .i64 eps] 2)) := belowAny
  replace hB9 := Lib.hid (hA.trans (hB9.mono hA.size))
  replace hO := Lib.hid (OwnR.mono hO hA.size)
  go_wp2
  go_ret
  exact ⟨v, rfl, hB9.out, hO.out⟩
def BndB (B : Nat) (x y z : Int) : Spec := fun v w => ∃ g, v = .slice (some ⟨g, 0, none⟩) 1 1 ∧ B ≤ g ∧ Blk w g #[.int .i64 x, .int .i64 y, .int .i64 z] 44
theorem BndB.closed (B : Nat) (x y z : Int) : Closed [] (BndB B x y z) := fun _ _ _ hr ⟨g, e1, h1, h⟩ => ⟨g, e1, h1, h.rex hr (by simp)⟩
theorem three_new9 {W : World} {g : Nat} {x y z : Int} {t : TypeId} (h : Blk W g #[.int .i64 x, .int .i64 y, .int .i64 z] t) {j : Nat} {u : Value} (hu : [Value.int .i64 x, .int .i64 y, .int .i64 z][j]? = some u) : W.cell? ((⟨g, 0, none⟩ : Addr).add j) = some u := by
  have hadd : (⟨g, 0, none⟩ : Addr).add j = ⟨g, j, none⟩ := by unfold Addr.add; split <;> simp_all
  rw [hadd, h.cell]
  simpa using hu
def rbRel (w : World) (p : Option Addr) (cap : Nat) (l : List (Int × Int)) (eps : Int) (a' : Act) (W : World) : Prop :=
  Below w.heap.size w W ∧ ∃ (i : Nat) (v : Value), (∃ u : Nat → Value, a' = { tmps := #[.slice p l.length cap, .int .i64 eps, u 2, u 3, u 4, v, .int .i64 (i : Int), u 7, u 8, u 9, u 10, u 11, u 12, u 13, u 14, u 15, u 16, u 17, u 18, u 19, u 20, u 21, u 22, u 23, u 24, u 25, u 26, u 27, u 28, u 29, u 30, u 31, u 32, u 33, u 34, u 35, u 36], defers := [] }) ∧ OwnR W w.heap.size 44 3 v i (flatCells (bndL eps (l.take i))) ∧ i ≤ l.length
set_option maxRecDepth 100000 in
set_option maxHeartbeats 2000000 in
theorem c_r13Bands (p : Option Addr) (cap : Nat) (l : List (Int × Int)) (eps : Int) (w : World) (hin : PtsIn w p l) (hmx : l.length ≤ 1000) (hv : ValOk l eps) :
    Calls Tryz.prog 24 #[.slice p l.length cap, .int .i64 eps] w fun e w' => ∃ v, e = .returned v ∧ Below w.heap.size w w' ∧ OwnR w' w.heap.size 44 3 v l.length (flatCells (bndL eps l)) := by
  obtain ⟨i0, hi, hz0, hz1, hz2⟩ := info_parts Tryz.infoBand
  go_enter Tryz.func24, Tryz.ntmps24
  go_wp2
  refine wp_loop (rbRel w p cap l eps) (fun a' _ => l.length - (intAt (a'.tmps.getD 6 undef)).toNat) ?_ ?_
  · unfold rbRel
    exact ⟨Below.refl _ _, 0, _, frame_ex rfl, OwnR.nil _ _ _ _, Nat.zero_le _⟩
  rintro a' W ⟨hW0, i, v, ⟨u, rfl⟩, hown, hi'⟩
  have hz := hW0.size
  replace hown := Lib.hid hown
  rcases Nat.lt_or_ge i l.length with hlt | hge
  · obtain ⟨⟨t, y⟩, tr⟩ : ∃ x, l[i]? = some x := ⟨l[i]'(by omega), List.getElem?_eq_getElem (by omega)⟩
    obtain ⟨b, o, rfl, q0, q1⟩ := (hin.below hW0).at' i _ tr
    have hI : PtsP W b o l := ⟨hin.below hW0⟩
    have zq := cell_lt q0
    try simp only at zq
    obtain ⟨hy1, hy2⟩ := hv.1 _ (List.mem_of_getElem? tr)
    obtain ⟨he1, he2⟩ := hv.2
    simp only at hy1 hy2
    have E1 := Lib.hid (show wrap64 (y - eps) = y - eps by rw [wrap64_eq]; omega)
    have E2 := Lib.hid (show wrap64 (y + eps) = y + eps by rw [wrap64_eq]; omega)
    replace tr := Lib.hid tr
    go_upto_region 5 with (fail)
    refine wp_cutB W (Rc (fun W' => PtsP W' b o l) <| Bz) ?_ (hI := by exact belowAny) (hR := (Rc.mk (by first | exact hI | exact hI.below belowAny) <| trivial))
    rintro W21 hW z22 hL
    obtain ⟨b1, -⟩ := id hL
    refine wp_regD 22 37 hW hL ?_
    iterate 21 refine dE (fun W' hC => aI (hC.2.1.cellAt tr.out) (aI hlt (aI (Nat.not_le.2 hlt) (aI E1.out E2.out)))) ?_
    apply nd_mem (BndB W21.heap.size t (y - eps) (y + eps)) (hg := rfl) (hal := rfl)
    · exact BndB.closed _ _ _ _
    · intro a' W' hC hE
      simp [Oper.looksAt, Op.operands, Call.operands, envOf, Det] at hE
      refine ⟨.slice (some ⟨W'.heap.size, 0, none⟩) 1 1, W'.alloc (.cells #[.int .i64 t, .int .i64 (y - eps), .int .i64 (y + eps)] 44), ?_, (Below.refl _ _).alloc (Nat.le_refl _) _, W'.heap.size, rfl, hC.1.size, Blk.new' rfl⟩
      simp [go_sem, execOp, Act.eval, hE]
      try rfl
      done
    clear hW hL b1
    rintro W23 hW z24 hL
    simp only [ndR]
    intros
    simp only [ndS]
    obtain ⟨b1, -⟩ := hL
    rename BndB _ _ _ _ _ _ => ho
    obtain ⟨g1, rfl, hg1, bg⟩ := ho
    have y1 := bg.lt
    have hV := hW0.trans (hW.mono hz)
    have hO := hown.out.below hW
    have zz := hV.size
    have hlo := fun g e => hO.own.lt g e
    clear hown hW
    go_wp2_with (at_builtin; refine wpList_append_own2 rfl (.tmp 13) (.tmp 34) 38 rfl w.heap.size 44 i0 (.agg #[.int .i64 0, .int .i64 0, .int .i64 0]) 3 24 (by kernel_rfl) hi hz0 hz1 hz2 rfl (by decide) _ _ _ rfl hO.own ⟨g1, 0, none⟩ 1 1 [.int .i64 t, .int .i64 (y - eps), .int .i64 (y + eps)] rfl rfl (fun j u hu => three_new9 bg hu) (by simp [Value.oneCell']) (by simp [maxLen]; omega) (by omega) (by omega) ?_)
    intro v' w9 hown2 hgr hst
    have hB := Lib.hid (grown_below hV (by omega) hgr (fun g e => (hlo g e).1))
    replace hown2 := Lib.hid hown2
    clear hgr hst hO hlo bg
    go_wp2
    rw [show (i : Int) + 1 = ((i + 1 : Nat) : Int) by omega]
    refine ⟨?_, by simp [intAt]; omega⟩
    unfold rbRel
    exact ⟨hB.out, i + 1, v', frame_ex rfl, ⟨by rw [bnd_next tr.out]; exact hown2.out⟩, by omega⟩
  · obtain rfl : i = l.length := by omega
    rw [List.take_length] at hown
    go_wp2
    go_ret
    exact ⟨_, rfl, hW0, hown.out⟩
end Go.Proofs.YtbanjolokkghdaaGreatDoor
namespace Go.Proofs.YtbanjolokkghdaaGreatDoor
open Go.RowKit
def eqbRel (w : World) (p : Option Addr) (cap : Nat) (p' : Option Addr) (cap' : Nat) (l : List RunT) (a' : Act) (W : World) : Prop :=
  Below w.heap.size w W ∧ ∃ (i : Nat), (∃ u : Nat → Value, a' = { tmps := #[.slice p l.length cap, .slice p' l.length cap', u 2, u 3, .bool false, u 5, u 6, u 7, u 8, u 9, u 10, u 11, .int .i64 (l.length : Int), .int .i64 (i : Int), u 14, u 15, u 16, u 17, u 18, u 19, u 20, u 21, u 22, u 23, u 24, u 25], defers := [] }) ∧ i ≤ l.length
set_option maxRecDepth 100000 in
set_option maxHeartbeats 2000000 in
theorem c_eqBnd (p : Option Addr) (cap : Nat) (p' : Option Addr) (cap' : Nat) (l : List RunT) (w : World) (hlen : l.length ≤ 1000000) (hA0 : RunsIn w p l) (hB0 : RunsIn w p' l) :
    Calls Tryz.prog 16 #[.slice p l.length cap, .slice p' l.length cap'] w fun e w' => e = .returned (.bool true) ∧ Below w.heap.size w w' := by
  go_enter Tryz.func16, Tryz.ntmps16
  go_wp2
  refine wp_loop (eqbRel w p cap p' cap' l) (fun a' _ => l.length - (intAt (a'.tmps.getD 13 undef)).toNat) ?_ ?_
  · unfold eqbRel
    exact ⟨Below.refl _ _, 0, frame_ex rfl, by omega⟩
  · rintro a' W ⟨hW0, i, ⟨u, rfl⟩, hi'⟩
    have hz := hW0.size
    rcases Nat.lt_or_ge i l.length with hlt | hge
    · obtain ⟨r, tr⟩ : ∃ r, l[i]? = some r := ⟨l[i]'(by omega), List.getElem?_eq_getElem (by omega)⟩
      obtain ⟨b, o, rfl, -⟩ := hA0.at' i r tr
      obtain ⟨b', o', rfl, -⟩ := hB0.at' i r tr
      have hA : RunsP W b o l := ⟨hA0.below hW0⟩
      have hB : RunsP W b' o' l := ⟨hB0.below hW0⟩
      replace tr := Lib.hid tr
      go_upto_region 6 with (fail)
      refine wp_cutB W (Rc (fun W' => RunsP W' b o l) <| Rc (fun W' => RunsP W' b' o' l) <| Bz) ?_ (hI := by exact belowAny) (hR := (Rc.mk (by exact hA.below belowAny) <| Rc.mk (by exact hB.below belowAny) <| trivial))
      rintro W1 hW z2 hL
      obtain ⟨b1, b2, -⟩ := id hL
      refine wp_regQ 9 26 hW hL ?_
      iterate 9 refine dE (fun W' hC => aI (hC.2.1.cellAt tr.out) (aI (hC.2.2.1.cellAt tr.out) hlt)) ?_
      clear hW hL b1 b2
      rintro W3 hW z4 hL
      simp only [ndR]
      intros
      simp only [ndS]
      refine wpList_nil ?_
      obtain ⟨b1, b2, -⟩ := hL
      go_wp2
      rw [show (i : Int) + 1 = ((i + 1 : Nat) : Int) by omega]
      refine ⟨?_, by simp [intAt]; omega⟩
      unfold eqbRel
      exact ⟨hW0.trans (hW.mono hz), i + 1, frame_ex rfl, by omega⟩
    · obtain rfl : i = l.length := by omega
      go_wp2
      go_ret
      exact ⟨rfl, hW0⟩
end Go.Proofs.YtbanjolokkghdaaGreatDoor
namespace Go.Proofs.YtbanjolokkghdaaGreatDoor
open Go.RowKit
set_option maxRecDepth 100000 in
set_option maxHeartbeats 2000000 in
theorem c_r13Eps (n : Int) (w : World) : Calls Tryz.prog 48 #[.int .i64 n] w fun e w' => e = .returned (.bool (btw n (0) 1099511627776)) ∧ Below w.heap.size w w' := by
  unfold btw
  go_enter Tryz.func48, Tryz.ntmps48
  go_upto_region 1 with (fail)
  refine wp_cutB w (Bz) ?_
  rintro W1 hW z2 hL
  refine wp_regS 7 9 hW hL ?_
  iterate 3 refine dA ?_
  iterate 2 refine gA ?_
  refine pA ?_
  refine dA ?_
  clear hW hL
  rintro W3 hW z4 hL
  simp only [ndR]
  intros
  repeat (rename GDet _ _ _ _ => hgd; clear hgd)
  simp only [ndS]
  refine wpList_nil ?_
  obtain ⟨-⟩ := hL
  go_wp2
  refine bodyPost_ret (by simp [results, Tryz.results48, go_sem]) rfl ⟨rfl, by exact belowAny⟩
set_option maxRecDepth 100000 in
set_option maxHeartbeats 2000000 in
theorem c_r13Point (t v : Int) (w : World) : Calls Tryz.prog 49 #[.agg #[.int .i64 t, .int .i64 v]] w fun e w' => e = .returned (.bool (btw t 0 281474976710656 && btw v (-2305843009213693952) 2305843009213693952)) ∧ Below w.heap.size w w' := by
  unfold btw
  rw [← Bool.and_assoc]
  go_enter Tryz.func49, Tryz.ntmps49
  go_upto_region 1 with (fail)
  refine wp_cutB w (Bc w.heap.size #[.int .i64 t, .int .i64 v] 56 <| Bz) ?_
  rintro W1 hW z2 hL
  refine wp_regS 19 21 hW hL ?_
  iterate 4 refine dA ?_
  iterate 3 refine gA ?_
  refine pA ?_
  refine dA ?_
  iterate 3 refine gA ?_
  refine pA ?_
  refine dA ?_
  iterate 3 refine gA ?_
  refine pA ?_
  refine dA ?_
  clear hW hL
  rintro W3 hW z4 hL
  simp only [ndR]
  intros
  repeat (rename GDet _ _ _ _ => hgd; clear hgd)
  simp only [ndS]
  refine wpList_nil ?_
  obtain ⟨⟨b1, yb1, k1, f1⟩, -⟩ := hL
  go_wp2
  refine bodyPost_ret (by simp [results, Tryz.results49, go_sem, k1, f1, yb1]) rfl ⟨rfl, by exact belowAny⟩
def nm18Rel (w : World) (s : ByteArray) (a' : Act) (W : World) : Prop :=
  Below w.heap.size w W ∧ ∃ i f : Nat, (∃ u : Nat → Value, a' = { tmps := #[.string s, u 1, u 2, u 3, .string s, .int .i64 (s.size : Int), .int .i64 (i : Int), u 7, u 8, u 9, u 10, u 11, u 12, u 13, u 14, u 15, u 16, u 17, u 18, u 19, u 20, u 21, u 22], defers := [] }) ∧ s.size ≤ i + f ∧ lettersB s f i = lettersB s s.size 0 ∧ i ≤ s.size
end Go.Proofs.YtbanjolokkghdaaGreatDoor
namespace Go.Proofs.YtbanjolokkghdaaGreatDoor
open Go.RowKit
/-- A row that lies in a block of its own. -/
def RowOwn (w : World) (e : TypeId) (n k : Nat) (news : List Value) (v : Value) (w' : World) : Prop := ∃ g cap' cur, v = .slice (some ⟨g, 0, none⟩) n cap' ∧ w.heap.size ≤ g ∧ Blk w' g cur e ∧ n ≤ cap' ∧ cur.toList.take k = news
end Go.Proofs.YtbanjolokkghdaaGreatDoor
namespace Go.Proofs.YtbanjolokkghdaaGreatDoor
open Go.RowKit
section
variable {P : Program} {ops : Array Oper} {C : World → Prop} {X : List (Nat × Nat)} {a0 : Act} {n : Nat} {Q : Exit → Act → World → Prop}
end
end Go.Proofs.YtbanjolokkghdaaGreatDoor
namespace Go.Proofs.YtbanjolokkghdaaGreatDoor
open Go.RowKit
/-- A row in a block of its own. -/
def RowS (B : Nat) (e : TypeId) (n k : Nat) (news : List Value) : Spec := fun v w => ∃ g cap cur, v = .slice (some ⟨g, 0, none⟩) n cap ∧ B ≤ g ∧ Blk w g cur e ∧ n ≤ cap ∧ cur.toList.take k = news
theorem RowS.closed (B : Nat) (e : TypeId) (n k : Nat) (news : List Value) : Closed [] (RowS B e n k news) := fun _ _ _ hr ⟨g, c, cur, e1, h1, h, h2, h3⟩ => ⟨g, c, cur, e1, h1, h.rex hr (by simp), h2, h3⟩
/-- Points in a block of their own, or nil. -/
def PtS (B N : Nat) (l : List (Int × Int)) : Spec := fun v w => (v = .slice none 0 0 ∧ l = [] ∧ N = 0) ∨ RowS B 56 N (N * 2) (flatPts l) v w
theorem PtS.closed (B N : Nat) (l : List (Int × Int)) : Closed [] (PtS B N l) := fun _ _ _ hr h => by
  rcases h with h | h
  · exact .inl h
  · exact .inr (RowS.closed _ _ _ _ _ _ _ _ hr h)
def ownK (s : SegT) : SegT := ⟨s.K, s.runs.take 257, s.A, s.R, s.n, s.d, s.raw.take 257, s.E⟩
/-- A segment of one's own. -/
structure OwnSegK (W : World) (g : Nat) (r0 r : SegR) : Prop where
  says : r.s = ownK r0.s
  runs : RunsIn W r.p r.s.runs
  raw : IntsIn W r.q r.s.raw
  capV : r.s.raw.length ≤ r.vc
  farR : ∀ a, r.p = some a → g < a.block
  farV : ∀ a, r.q = some a → g < a.block
theorem OwnSegK.rex {W W' : World} {g : Nat} {r0 r : SegR} {L : List Nat} (h : OwnSegK W g r0 r) (hL : ∀ x, x ∈ L → x ≤ g) (hr : Rex L W W') : OwnSegK W' g r0 r := ⟨h.says, h.runs.rex1 hL h.farR hr, h.raw.rex1 hL h.farV hr, h.capV, h.farR, h.farV⟩
structure OwnToK (W : World) (g : Nat) (rows R : List SegR) (i : Nat) : Prop where
  len : R.length = rows.length
  rest : ∀ k, i ≤ k → R[k]? = rows[k]?
  own : ∀ k, k < i → ∀ r, R[k]? = some r → ∃ r0, rows[k]? = some r0 ∧ OwnSegK W g r0 r
theorem OwnToK.rex {W W' : World} {g i : Nat} {rows R : List SegR} {L : List Nat} (h : OwnToK W g rows R i) (hL : ∀ x, x ∈ L → x ≤ g) (hr : Rex L W W') : OwnToK W' g rows R i := ⟨h.len, h.rest, fun k hk r hR => by
  obtain ⟨r0, h1, h2⟩ := h.own k hk r hR
  exact ⟨r0, h1, h2.rex hL hr⟩⟩
theorem OwnToK.step {W : World} {g i : Nat} {rows R : List SegR} {r0 r1 : SegR} (h : OwnToK W g rows R i) (h0 : rows[i]? = some r0) (h1 : OwnSegK W g r0 r1) : OwnToK W g rows (R.set i r1) (i + 1) := ⟨by rw [List.length_set]; exact h.len, fun k hk => by rw [List.getElem?_set_ne (by omega)]; exact h.rest k (by omega), fun k hk r hR => by
  rw [List.getElem?_set] at hR
  split at hR
  · rename_i e
    subst e
    split at hR
    · injection hR with hR
      subst hR
      exact ⟨r0, h0, h1⟩
    · cases hR
  · exact h.own k (by omega) r hR⟩
structure PtRow (w : World) (B : Nat) (p : Option Addr) (l : List (Int × Int)) : Prop where
  at' : (p = none ∧ l = []) ∨ ∃ g cur k, p = some ⟨g, 0, none⟩ ∧ B ≤ g ∧ Blk w g cur 56 ∧ cur.toList.take k = flatPts l
theorem PtRow.pts {w : World} {B : Nat} {p : Option Addr} {l : List (Int × Int)} (h : PtRow w B p l) : PtsIn w p l := by
  rcases h.at' with ⟨rfl, rfl⟩ | ⟨g, cur, k, rfl, _, hb, ht⟩
  · exact ⟨fun i r hr => by simp at hr⟩
  · exact pts_in hb ht
theorem PtRow.keep {w w' : World} {B : Nat} {p : Option Addr} {l : List (Int × Int)} (h : PtRow w B p l) (hk : ∀ g cs, B ≤ g → Blk w g cs 56 → Blk w' g cs 56) : PtRow w' B p l := by
  rcases h.at' with h | ⟨g, cur, k, e, hB, hb, ht⟩
  · exact ⟨.inl h⟩
  · exact ⟨.inr ⟨g, cur, k, e, hB, hk g cur hB hb, ht⟩⟩
theorem PtRow.below {w w' : World} {B : Nat} {p : Option Addr} {l : List (Int × Int)} (h : PtRow w B p l) (hb : Below w.heap.size w w') : PtRow w' B p l := h.keep fun _ _ _ h => h.below hb
theorem PtRow.mono {w : World} {B B' : Nat} {p : Option Addr} {l : List (Int × Int)} (h : PtRow w B p l) (hB : B' ≤ B) : PtRow w B' p l := by
  rcases h.at' with h | ⟨g, cur, k, e, h1, hb, ht⟩
  · exact ⟨.inl h⟩
  · exact ⟨.inr ⟨g, cur, k, e, Nat.le_trans hB h1, hb, ht⟩⟩
theorem PtRow.setO {w : World} {B o : Nat} {p : Option Addr} {l : List (Int × Int)} (h : PtRow w B p l) (ho : o < B) (i : Nat) (v : Value) : PtRow (w.setCell ⟨o, i, none⟩ v) B p l := h.keep fun g _ hg h => h.setO (by omega) i v
/-- What holds, whatever is written into blocks below B. -/
def Lasts (B : Nat) (w : World) (F : World → Prop) : Prop := ∀ L W, (∀ x, x ∈ L → x < B) → Rex L w W → F W
theorem Lasts.now {B : Nat} {w : World} {F : World → Prop} (h : Lasts B w F) : F w := h [] w (fun x hx => by cases hx) (Rex.refl _ _)
theorem PtRow.rex {w w' : World} {B gS : Nat} {cs : Array Value} {p : Option Addr} {l : List (Int × Int)} (h : PtRow w B p l) (hS : Blk w gS cs 29) (hr : Rex [gS] w w') : PtRow w' B p l := h.keep fun g c _ hg => hg.rex hr (by
  simp
  rintro rfl
  unfold Blk at hg hS
  rw [hS] at hg
  injection hg with hg
  injection hg with _ h2 _
  revert h2
  decide)
theorem PtS.form {B N : Nat} {l : List (Int × Int)} {v : Value} {w : World} (h : PtS B N l v w) : ∃ p cap, v = .slice p N cap ∧ PtRow w B p l ∧ N ≤ cap := by
  rcases h with ⟨rfl, rfl, rfl⟩ | ⟨g, cap, cur, rfl, hg, hb, hc, ht⟩
  · exact ⟨none, 0, rfl, ⟨.inl ⟨rfl, rfl⟩⟩, Nat.le_refl _⟩
  · exact ⟨_, cap, rfl, ⟨.inr ⟨g, cur, _, rfl, hg, hb, ht⟩⟩, hc⟩
/-- A copy of runs, of numbers, in a block of its own. -/
def RunC (B K : Nat) (l : List RunT) : Spec := fun v w => ∃ p c, v = .slice p K c ∧ RunsIn w p l ∧ K ≤ c ∧ ∀ a, p = some a → B ≤ a.block
theorem RunC.closed (B K : Nat) (l : List RunT) : Closed [] (RunC B K l) := fun _ _ _ hr ⟨p, c, e, h, h2⟩ => ⟨p, c, e, h.rex hr rfl, h2⟩
def IntC (B K : Nat) (l : List Int) : Spec := fun v w => ∃ p c, v = .slice p K c ∧ IntsIn w p l ∧ K ≤ c ∧ ∀ a, p = some a → B ≤ a.block
theorem IntC.closed (B K : Nat) (l : List Int) : Closed [] (IntC B K l) := fun _ _ _ hr ⟨p, c, e, h, h2⟩ => ⟨p, c, e, h.below hr.below, h2⟩
end Go.Proofs.YtbanjolokkghdaaGreatDoor
