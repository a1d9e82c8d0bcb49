/- Parts of the proof that follows: Layer window: which points may be; a bound. No condition. | Reference 25: ends, Total. No condition but that there is one at least, or that they are few. | Reference 25: Total. No condition but that they are few. | Append to a row of one's own: the row stays in its block or is in a new one. No condition. | Reference 25: Bounds. No condition but that they are few. | Layer window: the bands of points; the document's. No condition but that points and bound may be. | Layer merge: the times of a segment that may be, what may be said there. No condition but that the segment may be and the bound is one for it. -/
import Derived.Test.YtbanjolokkghdaaGreatDoorMz22
set_option maxRecDepth 100000
set_option maxHeartbeats 8000000
set_option linter.unusedSimpArgs false
set_option linter.unusedVariables false
namespace Go.Proofs.YtbanjolokkghdaaGreatDoor
open Go.RowKit
def winB (l : List (Int × Int)) : Bool := (decide (1 <= l.length) && decide (l.length <= 32)) && rawPtsB 0 (-1) l
def wckRel (w : World) (p : Option Addr) (cap : Nat) (l : List (Int × Int)) (a' : Act) (W : World) : Prop :=
 Below w.heap.size w W /\ ∃ i : Nat, (∃ u : Nat -> Value, a' = { tmps := #[.slice p l.length cap, u 1, .int .i64 0, u 3, u 4, u 5, u 6, u 7, u 8, u 9, u 10, u 11, u 12, .slice p l.length cap, .int .i64 (l.length : Int), .int .i64 (i : Int), u 16, u 17, u 18, u 19, u 20, u 21, u 22, u 23, u 24, u 25, u 26, u 27, u 28, u 29, u 30, u 31, u 32, u 33, u 34, u 35, u 36, u 37, u 38, u 39, u 40, u 41, u 42, u 43, u 44, u 45, u 46, u 47, u 48, u 49, u 50, u 51, u 52, u 53], defers := [] }) /\ rawPtsB 0 (-1) (l.take i) = true /\ i <= l.length
def bothE (l : List (Int × Int)) (eps : Int) : Int := if winB l = true then (if btw eps 0 1099511627776 = true then 0 else 231) else 230
def IntsF (w : World) (p : Option Addr) (l : List Int) : Prop := IntsIn w p l
theorem IntsF.rex {L : List Nat} {w w' : World} {p : Option Addr} {l : List Int} (h : IntsF w p l) (hr : Rex L w w') (hL : L = []) : IntsF w' p l := by subst hL; exact IntsIn.below h hr.below
def enRel (w : World) (p : Option Addr) (l : List Int) (cap : Nat) (x0 : Int) (a' : Act) (W : World) : Prop :=
 Below w.heap.size w W /\ ∃ i : Nat, (∃ u : Nat -> Value, a' = { tmps := #[.slice p l.length cap, u 1, u 2, u 3, .int .i64 (minL (x0 :: l.take i)), .int .i64 (maxL (x0 :: l.take i)), .int .i64 (i : Int), u 7, u 8, u 9, u 10, u 11, u 12, u 13, u 14, u 15, u 16, u 17, u 18, u 19, u 20, u 21, u 22, u 23, u 24, u 25, u 26, u 27, u 28, u 29, u 30, u 31, u 32, u 33, u 34, u 35, u 36, u 37, u 38, u 39, u 40], defers := [] }) /\ i <= l.length
def toRel (w : World) (gs : Nat) (p : Option Addr) (cap : Nat) (l : List Int) (a' : Act) (W : World) : Prop :=
 Below w.heap.size w W /\ ∃ (i : Nat) (S : Int) (ps : Option Addr) (ls cs : Nat), (∃ u : Nat -> Value, a' = { tmps := #[.slice p l.length cap, u 1, .pointer (some ⟨w.heap.size, 0, none⟩), .pointer (some ⟨gs, 0, none⟩), .int .i64 (i : Int), u 5, u 6, u 7, u 8, u 9, u 10, u 11, u 12, u 13, u 14, u 15, u 16, u 17, u 18, u 19], defers := [] }) /\ S = lsum (l.take i) /\ i <= l.length /\ Blk W w.heap.size #[.bool false, .slice none 0 0] 140 /\ Blk W gs #[.bool (decide (S < 0)), .slice ps ls cs] 140 /\ Bits W (.slice ps ls cs) S.natAbs
section
variable {P : Program} {w : World}
end
def OneV (B : Nat) (d : Int) : Spec := fun v w => ∃ g, v = .slice (some ⟨g, 0, none⟩) 1 1 /\ B <= g /\ Blk w g #[.int .i64 d] 2
theorem OneV.closed (B : Nat) (d : Int) : Closed [] (OneV B d) := fun _ _ _ hr ⟨g, e1, h1, h⟩ => ⟨g, e1, h1, h.rex hr (by simp)⟩
def Apart2 (v1 v2 : Value) : Prop := ∀ g, v1.ownBlock = some g -> v2.ownBlock = some g -> False
theorem Apart2.symm {v1 v2 : Value} (h : Apart2 v1 v2) : Apart2 v2 v1 := fun g a b => h g b a
def loB (x : RunT) : Int := x.s - x.c
def hiB (x : RunT) : Int := x.s + x.c
def boRel (w : World) (p : Option Addr) (cap : Nat) (l : List RunT) (a' : Act) (W : World) : Prop :=
 Below w.heap.size w W /\ ∃ (i : Nat) (v1 v2 : Value), (∃ u : Nat -> Value, a' = { tmps := #[.slice p l.length cap, u 1, .slice none 0 0, .slice none 0 0, v1, v2, .int .i64 (i : Int), u 7, u 8, u 9, u 10, u 11, u 12, u 13, u 14, u 15, u 16, u 17, u 18, u 19, u 20, u 21, u 22, u 23, u 24, u 25, u 26, u 27, u 28, u 29, u 30, u 31, u 32, u 33, u 34, u 35, u 36, u 37, u 38, u 39, u 40, u 41, u 42], defers := [] }) /\ i <= l.length /\
  OwnR W w.heap.size 2 1 v1 i (((l.take i).map loB).map (Value.int .i64)) /\ OwnR W w.heap.size 2 1 v2 i (((l.take i).map hiB).map (Value.int .i64)) /\ Apart2 v1 v2
/-- The bands of points. -/
def bndL (eps : Int) (l : List (Int × Int)) : List RunT := l.map fun q => ⟨q.1, q.2 - eps, q.2 + eps⟩
def ValOk (l : List (Int × Int)) (eps : Int) : Prop := (∀ x, x ∈ l → -2305843009213693952 ≤ x.2 ∧ x.2 ≤ 2305843009213693952) ∧ 0 ≤ eps ∧ eps ≤ 1099511627776
theorem Tryz.infoBand : (Tryz.prog.info? 44).map (fun i => (i.zero, i.size, i.bytes)) = some (some (.agg #[.int .i64 0, .int .i64 0, .int .i64 0]), 3, 24) := by kernel_rfl
def alRel (w : World) (p : Option Addr) (cap : Nat) (l : List (Int × Int)) (eps : Int) (o6 : Nat) (a' : Act) (W : World) : Prop :=
  Below w.heap.size w W ∧ Blk W o6 #[.int .i64 eps] 2 ∧ ∃ (i : Nat) (v : Value), (∃ u : Nat → Value, a' = { tmps := #[.slice p l.length cap, .func (.func 76) #[] #[.pointer (some ⟨o6, 0, none⟩)], u 2, u 3, u 4, v, u 6, u 7, u 8, u 9, u 10, .slice p l.length cap, .int .i64 (l.length : Int), .int .i64 (i : Int), u 14, u 15, u 16, u 17, u 18, u 19, u 20, u 21, u 22, u 23, u 24], defers := [] }) ∧ OwnR W w.heap.size 44 3 v i (flatCells (bndL eps (l.take i))) ∧ i ≤ l.length
def BndB (B : Nat) (x y z : Int) : Spec := fun v w => ∃ g, v = .slice (some ⟨g, 0, none⟩) 1 1 ∧ B ≤ g ∧ Blk w g #[.int .i64 x, .int .i64 y, .int .i64 z] 44
theorem BndB.closed (B : Nat) (x y z : Int) : Closed [] (BndB B x y z) := fun _ _ _ hr ⟨g, e1, h1, h⟩ => ⟨g, e1, h1, h.rex hr (by simp)⟩
theorem three_new9 {W : World} {g : Nat} {x y z : Int} {t : TypeId} (h : Blk W g #[.int .i64 x, .int .i64 y, .int .i64 z] t) {j : Nat} {u : Value} (hu : [Value.int .i64 x, .int .i64 y, .int .i64 z][j]? = some u) : W.cell? ((⟨g, 0, none⟩ : Addr).add j) = some u := by
  have hadd : (⟨g, 0, none⟩ : Addr).add j = ⟨g, j, none⟩ := by unfold Addr.add; split <;> simp_all
  rw [hadd, h.cell]
  simpa using hu
def rbRel (w : World) (p : Option Addr) (cap : Nat) (l : List (Int × Int)) (eps : Int) (a' : Act) (W : World) : Prop :=
  Below w.heap.size w W ∧ ∃ (i : Nat) (v : Value), (∃ u : Nat → Value, a' = { tmps := #[.slice p l.length cap, .int .i64 eps, u 2, u 3, u 4, v, .int .i64 (i : Int), u 7, u 8, u 9, u 10, u 11, u 12, u 13, u 14, u 15, u 16, u 17, u 18, u 19, u 20, u 21, u 22, u 23, u 24, u 25, u 26, u 27, u 28, u 29, u 30, u 31, u 32, u 33, u 34, u 35, u 36], defers := [] }) ∧ OwnR W w.heap.size 44 3 v i (flatCells (bndL eps (l.take i))) ∧ i ≤ l.length
theorem c_PtsM (s : SegT) (p q : Option Addr) (cap vc : Nat) (w : World) (h : SegIn w s p q) (hs : segB s = true) :
    Calls Tryz.prog 74 #[.agg (segA s p q cap vc)] w fun e w' => ∃ g cp, e = .returned (.tuple #[.slice (some ⟨g, 0, none⟩) (ptsL s).length cp, .int .i64 0]) ∧ Below w.heap.size w w' ∧ PtsIn w' (some ⟨g, 0, none⟩) (ptsL s) ∧ w.heap.size ≤ g := by
  refine (c_Points s p q cap vc w h hs).mono ?_
  rintro e w' ⟨v, rfl, hv, hB⟩
  have hn := length_pts hs
  have hc := cnt_pos (segB_runs hs)
  obtain ⟨g, cp, cur, rfl, hg, hcp, _, hb, _, htk⟩ := pts_is hv (by omega)
  exact ⟨g, cp, rfl, hB, pts_in hb htk, hg⟩
/-- The times of a segment: time, what was said there, how far that was at most. -/
def oldsL (s : SegT) : List RunT := (ptsL s).map fun x => ⟨x.1, x.2, s.E⟩
/-- What may be said there. -/
def bandM (eps : Int) (o : RunT) : RunT := ⟨o.f, mx (o.s - (eps - o.c)) (-2305844108725321728), mn (o.s + (eps - o.c)) 2305844108725321728⟩
def bandsM (eps : Int) (l : List RunT) : List RunT := l.map (bandM eps)
def OldOk (eps : Int) (o : RunT) : Prop := (-2305844108725321728 ≤ o.s ∧ o.s ≤ 2305844108725321728) ∧ 0 ≤ o.c ∧ o.c ≤ eps ∧ eps ≤ 1099511627776
theorem old_next {s : SegT} {t y : Int} {i : Nat} (h : (ptsL s)[i]? = some (t, y)) : flatCells ((oldsL s).take (i + 1)) = flatCells ((oldsL s).take i) ++ [.int .i64 t, .int .i64 y, .int .i64 s.E] := by
  have e : (oldsL s)[i]? = some ⟨t, y, s.E⟩ := by unfold oldsL; rw [List.getElem?_map, h]; rfl
  rw [List.take_add_one, e, Option.toList_some]
  exact flatCells_snoc _ _
theorem bdm_next {eps t y far : Int} {l : List RunT} {i : Nat} (h : l[i]? = some ⟨t, y, far⟩) : flatCells (bandsM eps (l.take (i + 1))) = flatCells (bandsM eps (l.take i)) ++ [.int .i64 t, .int .i64 (mx (y - (eps - far)) (-2305844108725321728)), .int .i64 (mn (y + (eps - far)) 2305844108725321728)] := by
  unfold bandsM
  rw [List.take_add_one, h, Option.toList_some, List.map_append]
  exact flatCells_snoc _ _
theorem Tryz.infoOld : (Tryz.prog.info? 116).map (fun i => (i.zero, i.size, i.bytes)) = some (some (.agg #[.int .i64 0, .int .i64 0, .int .i64 0]), 3, 24) := by kernel_rfl
set_option maxRecDepth 100000 in
set_option maxHeartbeats 2000000 in
theorem c_band (t y far eps : Int) (w : World) (h : OldOk eps ⟨t, y, far⟩) : Calls Tryz.prog 73 #[.agg #[.int .i64 t, .int .i64 y, .int .i64 far], .int .i64 eps] w fun e w' => e = .returned (.agg #[.int .i64 t, .int .i64 (mx (y - (eps - far)) (-2305844108725321728)), .int .i64 (mn (y + (eps - far)) 2305844108725321728)]) ∧ Below w.heap.size w w' := by
  obtain ⟨⟨h1, h2⟩, h3, h4, h5⟩ := h
  simp only at h1 h2 h3 h4
  have hmin : ∀ ts t x y w, (Builtin.min_ ts t #[.int .i64 x, .int .i64 y]).run Tryz.prog w = .ok (.int .i64 (mn x y)) w := fun ts t x y w => by simp [Builtin.min_, Builtin.min2, mn]
  have hmax : ∀ ts t x y w, (Builtin.max_ ts t #[.int .i64 x, .int .i64 y]).run Tryz.prog w = .ok (.int .i64 (mx x y)) w := fun ts t x y w => by simp [Builtin.max_, Builtin.max2, mx]
  go_enter Tryz.func73, Tryz.ntmps73
  go_upto_region 1 with (fail)
  refine wp_cutB w (Bc w.heap.size #[.int .i64 t, .int .i64 y, .int .i64 far] 116 <| Bc (w.heap.size + 1) #[.int .i64 0, .int .i64 0, .int .i64 0] 44 <| Bz) ?_
  rintro W1 hW z2 ⟨⟨b1, yb1, k1, f1⟩, ⟨b2, yb2, k2, f2⟩, -⟩
  go_wp2
  refine bodyPost_ret (by simp [results, Tryz.results73, go_sem, k1, f1, k2, f2, yb1, yb2]) rfl ⟨rfl, by exact belowAny⟩
def olRel (w w9 : World) (s : SegT) (g cp : Nat) (a' : Act) (W : World) : Prop :=
  Below w9.heap.size w9 W ∧ ∃ (i : Nat) (v : Value), (∃ u : Nat → Value, a' = { tmps := #[u 0, .pointer (some ⟨w.heap.size, 0, none⟩), .slice none 0 0, .slice (some ⟨g, 0, none⟩) (ptsL s).length cp, u 4, v, u 6, u 7, u 8, u 9, u 10, u 11, u 12, .slice (some ⟨g, 0, none⟩) (ptsL s).length cp, .int .i64 ((ptsL s).length : Int), .int .i64 (i : Int), u 16, u 17, u 18, u 19, u 20, u 21, u 22, u 23, u 24, u 25, u 26, u 27], defers := [] }) ∧ OwnR W w9.heap.size 116 3 v i (flatCells ((oldsL s).take i)) ∧ i ≤ (ptsL s).length
set_option maxRecDepth 100000 in
set_option maxHeartbeats 2000000 in
theorem c_olds (s : SegT) (p q : Option Addr) (cap vc : Nat) (w : World) (h : SegIn w s p q) (hs : segB s = true) :
    Calls Tryz.prog 47 #[.agg (segA s p q cap vc)] w fun e w' => ∃ v, e = .returned v ∧ Below w.heap.size w w' ∧ OwnR w' w.heap.size 116 3 v (oldsL s).length (flatCells (oldsL s)) := by
  obtain ⟨i0, hi, hz0, hz1, hz2⟩ := info_parts Tryz.infoOld
  have c1 := fun W (hW : Below w.heap.size w W) => c_PtsM s p q cap vc W (h.below hW) hs
  have hmx : (ptsL s).length ≤ 100000 := by
    have h1 := length_pts hs
    have h2 := (segB_runs hs).count
    omega
  unfold segA at c1 ⊢
  replace c1 := Lib.hid c1
  go_enter Tryz.func47, Tryz.ntmps47
  go_wp2_with fail
  refine (c1.out _ (by exact belowAny)).mono ?_
  rintro e w9 ⟨g, cp, rfl, hB9, hP9, hg9⟩
  have hA : Below w.heap.size w (w.alloc (.cells #[.int .i64 s.K, .slice p s.runs.length cap, .int .i64 s.A, .int .i64 s.R, .int .i64 s.n, .int .i64 s.d, .slice q s.raw.length vc, .int .i64 s.E] 29)) := belowAny
  have b1 : Blk w9 w.heap.size #[.int .i64 s.K, .slice p s.runs.length cap, .int .i64 s.A, .int .i64 s.R, .int .i64 s.n, .int .i64 s.d, .slice q s.raw.length vc, .int .i64 s.E] 29 := Blk.below (by exact blkAny2) hB9
  replace hB9 := Lib.hid (hA.trans (hB9.mono hA.size))
  clear hA
  go_wp2
  refine wp_loop (olRel w w9 s g cp) (fun a' _ => (ptsL s).length - (intAt (a'.tmps.getD 15 undef)).toNat) ?_ ?_
  · unfold olRel
    exact ⟨Below.refl _ _, 0, _, frame_ex rfl, OwnR.nil _ _ _ _, Nat.zero_le _⟩
  have b9 := Lib.hid b1
  have y9 := hB9.out.size
  clear b1 c1
  rintro a' W ⟨hW, i, v, ⟨u, rfl⟩, hown, hi'⟩
  have hz := hW.size
  have b1 := b9.out.below hW
  have yb1 := b1.lt
  rcases Nat.lt_or_ge i (ptsL s).length with hlt | hge
  · obtain ⟨⟨t, y⟩, tr⟩ : ∃ x, (ptsL s)[i]? = some x := ⟨(ptsL s)[i]'(by omega), List.getElem?_eq_getElem (by omega)⟩
    obtain ⟨b, o, e9, q0, q1⟩ := (hP9.below hW).at' i _ tr
    injection e9 with e9
    injection e9 with e1 e2
    subst e1
    subst e2
    have zq := cell_lt q0
    try simp only at zq
    simp only [Nat.zero_add] at q0 q1
    replace tr := Lib.hid tr
    replace hown := Lib.hid hown
    have k1 := b1.cell
    have f1 := b1.frozen
    have hA : Below W.heap.size W (W.alloc (.cells #[.int .i64 t, .int .i64 y] 56)) := belowAny
    have hO := hown.out.below hA
    have hV := hW.trans (hA.mono hW.size)
    have zz := hV.size
    clear hown hA hW
    go_wp2_with (at_builtin; refine wpList_append_own _ rfl (.tmp 19) (.tmp 24) 83 rfl w9.heap.size 116 i0 (.agg #[.int .i64 0, .int .i64 0, .int .i64 0]) 3 24 (by kernel_rfl) hi hz0 hz1 hz2 rfl (by decide) _ _ _ rfl (hO.own.alloc _) ⟨W.heap.size + 1, 0, none⟩ 1 1 [.int .i64 t, .int .i64 y, .int .i64 s.E] rfl rfl (fun j u hu => three_new9 (by exact blkAny2) hu) (by simp [Value.oneCell']) (by simp [maxLen]; omega) (by omega) (by simp; omega) ?_)
    intro v' w8 hown2 hgr _
    have hB := Lib.hid (below_append hV zz hO.own hgr)
    replace hown2 := Lib.hid hown2
    clear hgr hO
    go_wp2
    rw [show (i : Int) + 1 = ((i + 1 : Nat) : Int) by omega]
    refine ⟨?_, by simp [intAt]; omega⟩
    unfold olRel
    exact ⟨hB.out, i + 1, v', frame_ex rfl, ⟨by rw [old_next tr.out]; exact hown2.out⟩, by omega⟩
  · obtain rfl : i = (ptsL s).length := by omega
    rw [List.take_of_length_le (by unfold oldsL; rw [List.length_map]; exact Nat.le_refl _)] at hown
    replace hown := Lib.hid (OwnR.mono hown y9)
    go_wp2
    go_ret
    exact ⟨_, rfl, hB9.out.trans (hW.mono y9), by rw [show (oldsL s).length = (ptsL s).length by unfold oldsL; rw [List.length_map]]; exact hown.out⟩
def bsRel (w : World) (p : Option Addr) (cap : Nat) (l : List RunT) (eps : Int) (a' : Act) (W : World) : Prop :=
  Below w.heap.size w W ∧ ∃ (i : Nat) (v : Value), (∃ u : Nat → Value, a' = { tmps := #[.slice p l.length cap, .int .i64 eps, u 2, u 3, .slice none 0 0, v, u 6, u 7, .slice p l.length cap, .int .i64 (l.length : Int), .int .i64 (i : Int), u 11, u 12, u 13, u 14, u 15, u 16, u 17, u 18, u 19, u 20, u 21], defers := [] }) ∧ OwnR W w.heap.size 44 3 v i (flatCells (bandsM eps (l.take i))) ∧ i ≤ l.length
set_option maxRecDepth 100000 in
set_option maxHeartbeats 2000000 in
theorem c_mgBands (p : Option Addr) (cap : Nat) (l : List RunT) (eps : Int) (w : World) (hin : RunsIn w p l) (hmx : l.length ≤ 100000) (hv : ∀ o, o ∈ l → OldOk eps o) :
    Calls Tryz.prog 46 #[.slice p l.length cap, .int .i64 eps] w fun e w' => ∃ v, e = .returned v ∧ Below w.heap.size w w' ∧ OwnR w' w.heap.size 44 3 v l.length (flatCells (bandsM eps l)) := by
  obtain ⟨i0, hi, hz0, hz1, hz2⟩ := info_parts Tryz.infoBand
  go_enter Tryz.func46, Tryz.ntmps46
  go_wp2
  refine wp_loop (bsRel w p cap l eps) (fun a' _ => l.length - (intAt (a'.tmps.getD 10 undef)).toNat) ?_ ?_
  · unfold bsRel
    exact ⟨Below.refl _ _, 0, _, frame_ex rfl, OwnR.nil _ _ _ _, Nat.zero_le _⟩
  rintro a' W ⟨hW, i, v, ⟨u, rfl⟩, hown, hi'⟩
  have hz := hW.size
  rcases Nat.lt_or_ge i l.length with hlt | hge
  · obtain ⟨⟨t, y, far⟩, tr⟩ : ∃ x, l[i]? = some x := ⟨l[i]'(by omega), List.getElem?_eq_getElem (by omega)⟩
    obtain ⟨b, o, rfl, q0, q1, q2⟩ := (hin.below hW).at' i _ tr
    have zq := cell_lt q0
    try simp only at zq q0 q1 q2
    have c1 := Lib.hid (fun W => c_band t y far eps W (hv _ (List.mem_of_getElem? tr)))
    replace tr := Lib.hid tr
    replace hown := Lib.hid hown
    go_wp2_with fail
    refine (c1.out _).mono ?_
    rintro e w9 ⟨rfl, hB9⟩
    have hA : Below W.heap.size W (W.alloc (.cells #[.int .i64 t, .int .i64 y, .int .i64 far] 116)) := belowAny
    have hWb := hA.trans (hB9.mono hA.size)
    have hO := hown.out.below hWb
    have hV := hW.trans (hWb.mono hW.size)
    have zz := hV.size
    clear hown hA hWb hB9 hW q0 q1 q2
    go_wp2_with (at_builtin; refine wpList_append_own _ rfl (.tmp 14) (.tmp 18) 38 rfl w.heap.size 44 i0 (.agg #[.int .i64 0, .int .i64 0, .int .i64 0]) 3 24 (by kernel_rfl) hi hz0 hz1 hz2 rfl (by decide) _ _ _ rfl (hO.own.alloc _) ⟨w9.heap.size, 0, none⟩ 1 1 [.int .i64 t, .int .i64 (mx (y - (eps - far)) (-2305844108725321728)), .int .i64 (mn (y + (eps - far)) 2305844108725321728)] rfl rfl (fun j u hu => three_new9 (by exact blkAny2) hu) (by simp [Value.oneCell']) (by simp [maxLen]; omega) (by omega) (by simp; omega) ?_)
    intro v' w8 hown2 hgr _
    have hB := Lib.hid (below_append hV zz hO.own hgr)
    replace hown2 := Lib.hid hown2
    clear hgr hO
    go_wp2
    rw [show (i : Int) + 1 = ((i + 1 : Nat) : Int) by omega]
    refine ⟨?_, by simp [intAt]; omega⟩
    unfold bsRel
    exact ⟨hB.out, i + 1, v', frame_ex rfl, ⟨by rw [bdm_next tr.out]; exact hown2.out⟩, by omega⟩
  · obtain rfl : i = l.length := by omega
    rw [List.take_length] at hown
    replace hown := Lib.hid hown
    go_wp2
    go_ret
    exact ⟨_, rfl, hW, hown.out⟩
end Go.Proofs.YtbanjolokkghdaaGreatDoor
