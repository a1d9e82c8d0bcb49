/- Parts of the proof that follows: The document's bands of a segment that may be, of a bound for it. No condition else. | Layer merge: which bands are left of a bound, or why there are none; the document's bound for segments. No condition. | slices.Clone, of segments and points, and of runs and numbers that may be nil. No condition. | A region that draws its order, in which one step writes into a block of the call's own, and what that block holds is told before and behind: the step may stand ahead of some that only read. No condition. | The laws of chapter 26: own. No condition. -/
import Derived.Test.YtbanjolokkghdaaGreatDoorMz23
set_option maxRecDepth 100000
set_option maxHeartbeats 8000000
set_option linter.unusedSimpArgs false
set_option linter.unusedVariables false
namespace Go.Proofs.YtbanjolokkghdaaGreatDoor
open Go.RowKit
theorem OwnR.ptsM {w : World} {B n : Nat} {t : TypeId} {v : Value} {l : List (Int × Int)} (h : OwnR w B t 2 v n (flatPts l)) (hn : 0 < n) : ∃ g cp, v = .slice (some ⟨g, 0, none⟩) n cp ∧ PtsIn w (some ⟨g, 0, none⟩) l := by
  rcases h.own.2 with ⟨_, h0⟩ | ⟨g, cap, cur, rfl, _, hb, _, _, _, ht⟩
  · omega
  · exact ⟨g, cap, rfl, pts_in hb ht⟩
theorem c_rPtsM (s : SegT) (p q : Option Addr) (cap vc : Nat) (w : World) (h : SegIn w s p q) (hs : segB s = true) :
    Calls Tryz.prog 33 #[.agg (segA s p q cap vc)] w fun e w' => ∃ g cp, e = .returned (.tuple #[.slice (some ⟨g, 0, none⟩) (ptsL s).length cp, .bool true]) ∧ Below w.heap.size w w' ∧ PtsIn w' (some ⟨g, 0, none⟩) (ptsL s) := by
  refine (c_refPoints s p q cap vc w h hs).mono ?_
  rintro e w' ⟨v, rfl, hv, hB⟩
  have hn := length_pts hs
  have hc := cnt_pos (segB_runs hs)
  obtain ⟨g, cp, rfl, hp⟩ := hv.ptsM (by omega)
  exact ⟨g, cp, rfl, hB, hp⟩
def rdRel (w w9 : World) (s : SegT) (eps : Int) (g cp : Nat) (a' : Act) (W : World) : Prop :=
  Below w9.heap.size w9 W ∧ ∃ (i : Nat) (v : Value), (∃ u : Nat → Value, a' = { tmps := #[u 0, .int .i64 eps, .pointer (some ⟨w.heap.size, 0, none⟩), u 3, .slice none 0 0, .slice (some ⟨g, 0, none⟩) (ptsL s).length cp, .bool true, v, u 8, u 9, u 10, u 11, u 12, u 13, u 14, u 15, .slice (some ⟨g, 0, none⟩) (ptsL s).length cp, .int .i64 ((ptsL s).length : Int), .int .i64 (i : Int), u 19, u 20, u 21, u 22, u 23, u 24, u 25, u 26, u 27, u 28, u 29, u 30, u 31, u 32, u 33, u 34, u 35, u 36, u 37, u 38, u 39, u 40, u 41, u 42, u 43, u 44, u 45, u 46, u 47, u 48, u 49, u 50, u 51, u 52], defers := [] }) ∧ OwnR W w9.heap.size 44 3 v i (flatCells (bandsM eps ((oldsL s).take i))) ∧ i ≤ (ptsL s).length
set_option maxRecDepth 100000 in
set_option maxHeartbeats 2000000 in
theorem c_r14Bands (s : SegT) (eps : Int) (p q : Option Addr) (cap vc : Nat) (w : World) (h : SegIn w s p q) (hs : segB s = true) (hv : ∀ o, o ∈ oldsL s → OldOk eps o) :
    Calls Tryz.prog 17 #[.agg (segA s p q cap vc), .int .i64 eps] w fun e w' => ∃ v, e = .returned v ∧ Below w.heap.size w w' ∧ OwnR w' w.heap.size 44 3 v (oldsL s).length (flatCells (bandsM eps (oldsL s))) := by
  obtain ⟨i0, hi, hz0, hz1, hz2⟩ := info_parts Tryz.infoBand
  have c1 := fun W (hW : Below w.heap.size w W) => c_rPtsM s p q cap vc W (h.below hW) hs
  have hmx : (ptsL s).length ≤ 100000 := by
    have h1 := length_pts hs
    have h2 := (segB_runs hs).count
    omega
  unfold segA at c1 ⊢
  replace c1 := Lib.hid c1
  go_enter Tryz.func17, Tryz.ntmps17
  go_wp2_with fail
  refine (c1.out _ (by exact belowAny)).mono ?_
  rintro e w9 ⟨g, cp, rfl, hB9, hP9⟩
  have hA : Below w.heap.size w (w.alloc (.cells #[.int .i64 s.K, .slice p s.runs.length cap, .int .i64 s.A, .int .i64 s.R, .int .i64 s.n, .int .i64 s.d, .slice q s.raw.length vc, .int .i64 s.E] 29)) := belowAny
  have b1 : Blk w9 w.heap.size #[.int .i64 s.K, .slice p s.runs.length cap, .int .i64 s.A, .int .i64 s.R, .int .i64 s.n, .int .i64 s.d, .slice q s.raw.length vc, .int .i64 s.E] 29 := Blk.below (by exact blkAny2) hB9
  replace hB9 := Lib.hid (hA.trans (hB9.mono hA.size))
  clear hA
  go_wp2
  refine wp_loop (rdRel w w9 s eps g cp) (fun a' _ => (ptsL s).length - (intAt (a'.tmps.getD 18 undef)).toNat) ?_ ?_
  · unfold rdRel
    exact ⟨Below.refl _ _, 0, _, frame_ex rfl, OwnR.nil _ _ _ _, Nat.zero_le _⟩
  have b9 := Lib.hid b1
  have y9 := hB9.out.size
  clear b1 c1
  rintro a' W ⟨hW, i, v, ⟨u, rfl⟩, hown, hi'⟩
  have hz := hW.size
  have b1 := b9.out.below hW
  have yb1 := b1.lt
  replace hown := Lib.hid hown
  rcases Nat.lt_or_ge i (ptsL s).length with hlt | hge
  · obtain ⟨⟨t, y⟩, tr⟩ : ∃ x, (ptsL s)[i]? = some x := ⟨(ptsL s)[i]'(by omega), List.getElem?_eq_getElem (by omega)⟩
    obtain ⟨b, o, e9, q0, q1⟩ := (hP9.below hW).at' i _ tr
    injection e9 with e9
    injection e9 with e1 e2
    subst e1
    subst e2
    have zq := cell_lt q0
    try simp only at zq
    simp only [Nat.zero_add] at q0 q1
    have tr : (oldsL s)[i]? = some ⟨t, y, s.E⟩ := by unfold oldsL; rw [List.getElem?_map, tr]; rfl
    obtain ⟨⟨h1, h2⟩, h3, h4, h5⟩ := hv _ (List.mem_of_getElem? tr)
    simp only at h1 h2 h3 h4
    replace tr := Lib.hid tr
    have E1 := Lib.hid (show wrap64 (eps - s.E) = eps - s.E by rw [wrap64_eq]; omega)
    have E2 := Lib.hid (show wrap64 (y - (eps - s.E)) = y - (eps - s.E) by rw [wrap64_eq]; omega)
    have E3 := Lib.hid (show wrap64 (y + (eps - s.E)) = y + (eps - s.E) by rw [wrap64_eq]; omega)
    by_cases hlo : y - (eps - s.E) < -2305844108725321728
    · have eLO := Lib.hid (show mx (y - (eps - s.E)) (-2305844108725321728) = -2305844108725321728 by unfold mx; rw [if_pos (by omega)])
      by_cases hhi : 2305844108725321728 < y + (eps - s.E)
      · exfalso
        omega
      · have eHI := Lib.hid (show mn (y + (eps - s.E)) 2305844108725321728 = y + (eps - s.E) by unfold mn; rw [if_neg (by omega)])
        have k1 := b1.cell
        have f1 := b1.frozen
        go_wp2_with (at_builtin; refine wpList_append_own _ rfl (.tmp 47) (.tmp 49) 38 rfl w9.heap.size 44 i0 (.agg #[.int .i64 0, .int .i64 0, .int .i64 0]) 3 24 (by kernel_rfl) hi hz0 hz1 hz2 rfl (by decide) _ _ _ rfl ((hown.out.below (by exact belowAny)).own.alloc _) ⟨W.heap.size + 2, 0, none⟩ 1 1 [.int .i64 t, .int .i64 (-2305844108725321728), .int .i64 (y + (eps - s.E))] rfl rfl (fun j u hu => three_new9 (by exact blkAny2) hu) (by simp [Value.oneCell']) (by simp [maxLen]; omega) (by omega) (by simp; omega) ?_)
        intro v' w8 hown2 hgr _
        have hB := Lib.hid (below_append (hW.trans (Below.mono (by exact belowAny) hW.size)) (by simp; omega) (hown.out.below (by exact belowAny)).own hgr)
        replace hown2 := Lib.hid hown2
        clear hgr hown hW
        go_wp2
        rw [show (i : Int) + 1 = ((i + 1 : Nat) : Int) by omega]
        refine ⟨?_, by simp [intAt]; omega⟩
        unfold rdRel
        exact ⟨hB.out, i + 1, v', frame_ex rfl, ⟨by rw [bdm_next tr.out, eLO.out, eHI.out]; exact hown2.out⟩, by omega⟩
    · have eLO := Lib.hid (show mx (y - (eps - s.E)) (-2305844108725321728) = y - (eps - s.E) by unfold mx; rw [if_neg (by omega)])
      by_cases hhi : 2305844108725321728 < y + (eps - s.E)
      · have eHI := Lib.hid (show mn (y + (eps - s.E)) 2305844108725321728 = 2305844108725321728 by unfold mn; rw [if_pos (by omega)])
        have k1 := b1.cell
        have f1 := b1.frozen
        go_wp2_with (at_builtin; refine wpList_append_own _ rfl (.tmp 47) (.tmp 49) 38 rfl w9.heap.size 44 i0 (.agg #[.int .i64 0, .int .i64 0, .int .i64 0]) 3 24 (by kernel_rfl) hi hz0 hz1 hz2 rfl (by decide) _ _ _ rfl ((hown.out.below (by exact belowAny)).own.alloc _) ⟨W.heap.size + 2, 0, none⟩ 1 1 [.int .i64 t, .int .i64 (y - (eps - s.E)), .int .i64 2305844108725321728] rfl rfl (fun j u hu => three_new9 (by exact blkAny2) hu) (by simp [Value.oneCell']) (by simp [maxLen]; omega) (by omega) (by simp; omega) ?_)
        intro v' w8 hown2 hgr _
        have hB := Lib.hid (below_append (hW.trans (Below.mono (by exact belowAny) hW.size)) (by simp; omega) (hown.out.below (by exact belowAny)).own hgr)
        replace hown2 := Lib.hid hown2
        clear hgr hown hW
        go_wp2
        rw [show (i : Int) + 1 = ((i + 1 : Nat) : Int) by omega]
        refine ⟨?_, by simp [intAt]; omega⟩
        unfold rdRel
        exact ⟨hB.out, i + 1, v', frame_ex rfl, ⟨by rw [bdm_next tr.out, eLO.out, eHI.out]; exact hown2.out⟩, by omega⟩
      · have eHI := Lib.hid (show mn (y + (eps - s.E)) 2305844108725321728 = y + (eps - s.E) by unfold mn; rw [if_neg (by omega)])
        have k1 := b1.cell
        have f1 := b1.frozen
        go_wp2_with (at_builtin; refine wpList_append_own _ rfl (.tmp 47) (.tmp 49) 38 rfl w9.heap.size 44 i0 (.agg #[.int .i64 0, .int .i64 0, .int .i64 0]) 3 24 (by kernel_rfl) hi hz0 hz1 hz2 rfl (by decide) _ _ _ rfl ((hown.out.below (by exact belowAny)).own.alloc _) ⟨W.heap.size + 2, 0, none⟩ 1 1 [.int .i64 t, .int .i64 (y - (eps - s.E)), .int .i64 (y + (eps - s.E))] rfl rfl (fun j u hu => three_new9 (by exact blkAny2) hu) (by simp [Value.oneCell']) (by simp [maxLen]; omega) (by omega) (by simp; omega) ?_)
        intro v' w8 hown2 hgr _
        have hB := Lib.hid (below_append (hW.trans (Below.mono (by exact belowAny) hW.size)) (by simp; omega) (hown.out.below (by exact belowAny)).own hgr)
        replace hown2 := Lib.hid hown2
        clear hgr hown hW
        go_wp2
        rw [show (i : Int) + 1 = ((i + 1 : Nat) : Int) by omega]
        refine ⟨?_, by simp [intAt]; omega⟩
        unfold rdRel
        exact ⟨hB.out, i + 1, v', frame_ex rfl, ⟨by rw [bdm_next tr.out, eLO.out, eHI.out]; exact hown2.out⟩, by omega⟩
  · obtain rfl : i = (ptsL s).length := by omega
    have hown := hown.out
    have hle : (oldsL s).length = (ptsL s).length := by unfold oldsL; rw [List.length_map]
    rw [List.take_of_length_le (by omega)] at hown
    replace hown := Lib.hid (OwnR.mono hown y9)
    replace hle := Lib.hid hle
    go_wp2
    go_ret
    exact ⟨_, rfl, hB9.out.trans (hW.mono y9), by rw [hle.out]; exact hown.out⟩
theorem segs_one {w : World} {g : Nat} {s : SegT} {p q : Option Addr} {cap vc : Nat} (hb : Blk w g (segA s p q cap vc) 29) (h : SegIn w s p q) (hvc : s.raw.length ≤ vc) : SegsIn w (some ⟨g, 0, none⟩) [s] := ⟨fun i s' hs => by
  cases i with
  | zero =>
    obtain rfl : s = s' := by simpa using hs
    exact ⟨g, 0, p, q, cap, vc, rfl, fun j v hv => by rw [show 0 + 0 * 8 + j = j by omega]; exact (hb.cell j).trans hv, h, hvc⟩
  | succ i => simp at hs⟩
theorem olds_ok {s : SegT} {eps : Int} (hs : segB s = true) (hb : boundB eps [s] = true) : ∀ o, o ∈ oldsL s → OldOk eps o := by
  intro o ho
  unfold oldsL at ho
  obtain ⟨x, hx, rfl⟩ := List.mem_map.1 ho
  have hv : x.2 ∈ vals s := by rw [← map_pts hs]; exact List.mem_map_of_mem hx
  have h1 := vals_back hs hv
  unfold boundB btw at hb
  unfold segB at hs
  simp at hb hs
  exact ⟨h1, by simp; omega, by simp; omega, by omega⟩
set_option maxRecDepth 100000 in
set_option maxHeartbeats 2000000 in
theorem c_mgBandsNo (s : SegT) (eps : Int) (p q : Option Addr) (cap vc : Nat) (w : World) (h : SegIn w s p q) (hs : segB s = false) :
    Calls Tryz.prog 14 #[.agg (segA s p q cap vc), .int .i64 eps] w fun e w' => e = .returned (.tuple #[.slice none 0 0, .int .i64 210]) ∧ Below w.heap.size w w' := by
  have c1 := fun W (hW : Below w.heap.size w W) => c_segCheckNo s p q cap vc W (h.below hW) hs
  unfold segA at c1 ⊢
  replace c1 := Lib.hid c1
  go_enter Tryz.func14, Tryz.ntmps14
  go_wp2_with fail
  refine (c1.out _ (by exact belowAny)).mono ?_
  rintro e w9 ⟨rfl, hB9⟩
  have hA : Below w.heap.size w (w.alloc (.cells #[.int .i64 s.K, .slice p s.runs.length cap, .int .i64 s.A, .int .i64 s.R, .int .i64 s.n, .int .i64 s.d, .slice q s.raw.length vc, .int .i64 s.E] 29)) := belowAny
  have b1 : Blk w9 w.heap.size #[.int .i64 s.K, .slice p s.runs.length cap, .int .i64 s.A, .int .i64 s.R, .int .i64 s.n, .int .i64 s.d, .slice q s.raw.length vc, .int .i64 s.E] 29 := Blk.below (by exact blkAny2) hB9
  replace hB9 := Lib.hid (hA.trans (hB9.mono hA.size))
  clear hA
  have y9 := hB9.out.size
  have yb1 := b1.lt
  clear b1 yb1 y9
  go_wp2
  refine bodyPost_ret (v := .tuple #[.slice none 0 0, .int .i64 210]) (by simp [results, Tryz.results14, go_sem]) rfl ⟨rfl, hB9.out⟩
set_option maxRecDepth 100000 in
set_option maxHeartbeats 2000000 in
theorem c_mgBandsEps (s : SegT) (eps : Int) (p q : Option Addr) (cap vc : Nat) (w : World) (h : SegIn w s p q) (hvc : s.raw.length ≤ vc) (hs : segB s = true) (hb : boundB eps [s] = false) :
    Calls Tryz.prog 14 #[.agg (segA s p q cap vc), .int .i64 eps] w fun e w' => e = .returned (.tuple #[.slice none 0 0, .int .i64 231]) ∧ Below w.heap.size w w' := by
  have c1 := fun W (hW : Below w.heap.size w W) => c_segCheckYes s p q cap vc W (h.below hW) hs
  have c2 := fun W g (hW : Below w.heap.size w W) (hg : Blk W g (segA s p q cap vc) 29) => c_mgBound eps (some ⟨g, 0, none⟩) 1 [s] W (segs_one hg (h.below hW) hvc) (by simp)
  rw [hb] at c2
  simp only [List.length_cons, List.length_nil, Nat.zero_add] at c2
  unfold segA at c1 c2 ⊢
  replace c1 := Lib.hid c1
  replace c2 := Lib.hid c2
  go_enter Tryz.func14, Tryz.ntmps14
  go_wp2_with fail
  refine (c1.out _ (by exact belowAny)).mono ?_
  rintro e w9 ⟨rfl, hB9⟩
  have hA : Below w.heap.size w (w.alloc (.cells #[.int .i64 s.K, .slice p s.runs.length cap, .int .i64 s.A, .int .i64 s.R, .int .i64 s.n, .int .i64 s.d, .slice q s.raw.length vc, .int .i64 s.E] 29)) := belowAny
  have b1 : Blk w9 w.heap.size #[.int .i64 s.K, .slice p s.runs.length cap, .int .i64 s.A, .int .i64 s.R, .int .i64 s.n, .int .i64 s.d, .slice q s.raw.length vc, .int .i64 s.E] 29 := Blk.below (by exact blkAny2) hB9
  replace hB9 := Lib.hid (hA.trans (hB9.mono hA.size))
  clear hA
  have y9 := hB9.out.size
  have yb1 := b1.lt
  have k1 := b1.cell
  have f1 := b1.frozen
  go_wp2_with fail
  have hA2 : Below w9.heap.size w9 (w9.alloc (.cells #[.int .i64 s.K, .slice p s.runs.length cap, .int .i64 s.A, .int .i64 s.R, .int .i64 s.n, .int .i64 s.d, .slice q s.raw.length vc, .int .i64 s.E] 29)) := belowAny
  refine (c2.out _ w9.heap.size (hB9.out.trans (hA2.mono y9)) (by exact blkAny2)).mono ?_
  rintro e w10 ⟨rfl, hB10⟩
  have b10 : Blk w10 w.heap.size #[.int .i64 s.K, .slice p s.runs.length cap, .int .i64 s.A, .int .i64 s.R, .int .i64 s.n, .int .i64 s.d, .slice q s.raw.length vc, .int .i64 s.E] 29 := Blk.below (by exact blkAny2) hB10
  have hV := hB9.out.trans ((hA2.trans (hB10.mono hA2.size)).mono y9)
  clear b1 k1 f1 hA2 hB10 hB9 yb1 y9
  clear b10
  go_wp2
  refine bodyPost_ret (v := .tuple #[.slice none 0 0, .int .i64 231]) (by simp [results, Tryz.results14, go_sem]) rfl ⟨rfl, hV⟩
set_option maxRecDepth 100000 in
set_option maxHeartbeats 2000000 in
theorem c_mgBandsYes (s : SegT) (eps : Int) (p q : Option Addr) (cap vc : Nat) (w : World) (h : SegIn w s p q) (hvc : s.raw.length ≤ vc) (hs : segB s = true) (hb : boundB eps [s] = true) :
    Calls Tryz.prog 14 #[.agg (segA s p q cap vc), .int .i64 eps] w fun e w' => ∃ v, e = .returned (.tuple #[v, .int .i64 0]) ∧ Below w.heap.size w w' ∧ OwnR w' w.heap.size 44 3 v (oldsL s).length (flatCells (bandsM eps (oldsL s))) := by
  have c1 := fun W (hW : Below w.heap.size w W) => c_segCheckYes s p q cap vc W (h.below hW) hs
  have c2 := fun W g (hW : Below w.heap.size w W) (hg : Blk W g (segA s p q cap vc) 29) => c_mgBound eps (some ⟨g, 0, none⟩) 1 [s] W (segs_one hg (h.below hW) hvc) (by simp)
  have c3 := fun W (hW : Below w.heap.size w W) => c_olds s p q cap vc W (h.below hW) hs
  have hmx : (oldsL s).length ≤ 100000 := by
    have h1 := length_pts hs
    have h2 := (segB_runs hs).count
    unfold oldsL
    rw [List.length_map]
    omega
  have c4 := fun W pv cv (hR : RunsIn W pv (oldsL s)) => c_mgBands pv cv (oldsL s) eps W hR hmx (olds_ok hs hb)
  rw [hb] at c2
  simp only [List.length_cons, List.length_nil, Nat.zero_add] at c2
  unfold segA at c1 c2 c3 ⊢
  replace c1 := Lib.hid c1
  replace c2 := Lib.hid c2
  replace c3 := Lib.hid c3
  replace c4 := Lib.hid c4
  go_enter Tryz.func14, Tryz.ntmps14
  go_wp2_with fail
  refine (c1.out _ (by exact belowAny)).mono ?_
  rintro e w9 ⟨rfl, hB9⟩
  have hA : Below w.heap.size w (w.alloc (.cells #[.int .i64 s.K, .slice p s.runs.length cap, .int .i64 s.A, .int .i64 s.R, .int .i64 s.n, .int .i64 s.d, .slice q s.raw.length vc, .int .i64 s.E] 29)) := belowAny
  have b1 : Blk w9 w.heap.size #[.int .i64 s.K, .slice p s.runs.length cap, .int .i64 s.A, .int .i64 s.R, .int .i64 s.n, .int .i64 s.d, .slice q s.raw.length vc, .int .i64 s.E] 29 := Blk.below (by exact blkAny2) hB9
  replace hB9 := Lib.hid (hA.trans (hB9.mono hA.size))
  clear hA
  have y9 := hB9.out.size
  have yb1 := b1.lt
  have k1 := b1.cell
  have f1 := b1.frozen
  go_wp2_with fail
  have hA2 : Below w9.heap.size w9 (w9.alloc (.cells #[.int .i64 s.K, .slice p s.runs.length cap, .int .i64 s.A, .int .i64 s.R, .int .i64 s.n, .int .i64 s.d, .slice q s.raw.length vc, .int .i64 s.E] 29)) := belowAny
  refine (c2.out _ w9.heap.size (hB9.out.trans (hA2.mono y9)) (by exact blkAny2)).mono ?_
  rintro e w10 ⟨rfl, hB10⟩
  have b10 : Blk w10 w.heap.size #[.int .i64 s.K, .slice p s.runs.length cap, .int .i64 s.A, .int .i64 s.R, .int .i64 s.n, .int .i64 s.d, .slice q s.raw.length vc, .int .i64 s.E] 29 := Blk.below (by exact blkAny2) hB10
  have hV := hB9.out.trans ((hA2.trans (hB10.mono hA2.size)).mono y9)
  clear b1 k1 f1 hA2 hB10 hB9 yb1 y9
  have k10 := b10.cell
  have f10 := b10.frozen
  have y10 := b10.lt
  go_wp2_with fail
  refine (c3.out _ hV).mono ?_
  rintro e w11 ⟨v, rfl, hB11, hO⟩
  obtain ⟨pv, cv, rfl, -, -, -, -⟩ := hO.form
  have hR := hO.runs
  clear hO k10 f10 b10 y10
  go_wp2_with fail
  refine (c4.out _ _ _ hR).mono ?_
  rintro e w12 ⟨v2, rfl, hB12, hO12⟩
  have h1 := hB11.size
  have h2 := hV.size
  have hU := hV.trans ((hB11.trans (hB12.mono hB11.size)).mono hV.size)
  replace hO12 := Lib.hid (OwnR.mono hO12 (show w.heap.size ≤ w11.heap.size by omega))
  clear hB11 hB12 hV hR
  go_wp2
  refine bodyPost_ret (v := .tuple #[v2, .int .i64 0]) (by simp [results, Tryz.results14, go_sem]) rfl ⟨_, rfl, hU, hO12.out⟩
def rboRel (w : World) (p : Option Addr) (cap : Nat) (l : List SegT) (eps : Int) (a' : Act) (W : World) : Prop :=
  Below w.heap.size w W ∧ ∃ i : Nat, (∃ u : Nat → Value, a' = { tmps := #[.slice p l.length cap, .int .i64 eps, u 2, u 3, .bool false, u 5, u 6, .slice p l.length cap, .int .i64 (l.length : Int), .int .i64 (i : Int), u 10, u 11, u 12, u 13, u 14, u 15, u 16, u 17, u 18, u 19], defers := [] }) ∧ (l.take i).all (fun x => decide (x.E ≤ eps)) = true ∧ i ≤ l.length
set_option maxRecDepth 100000 in
set_option maxHeartbeats 2000000 in
theorem c_r14Bound (p : Option Addr) (cap : Nat) (l : List SegT) (eps : Int) (w : World) (hin : SegsIn w p l) (hmx : l.length ≤ 1000000) : Calls Tryz.prog 15 #[.slice p l.length cap, .int .i64 eps] w fun e w' => e = .returned (.bool (boundB eps l)) ∧ Below w.heap.size w w' := by
  have cE := Lib.hid (fun W => c_r13Eps eps W)
  obtain ⟨B, hB⟩ : ∃ B, btw eps 0 1099511627776 = B := ⟨_, rfl⟩
  obtain ⟨BB, hBB⟩ : ∃ BB, boundB eps l = BB := ⟨_, rfl⟩
  rw [hB] at cE
  rw [hBB]
  have hyes : l.all (fun x => decide (x.E ≤ eps)) = true → BB = B := fun h => by rw [← hBB, ← hB]; unfold boundB; rw [h, Bool.and_true]
  have hno : l.all (fun x => decide (x.E ≤ eps)) = false → BB = false := fun h => by rw [← hBB]; unfold boundB; rw [h, Bool.and_false]
  replace hyes := Lib.hid hyes
  replace hno := Lib.hid hno
  clear hB hBB
  go_enter Tryz.func15, Tryz.ntmps15
  go_wp2
  refine wp_loop (rboRel w p cap l eps) (fun a' _ => l.length - (intAt (a'.tmps.getD 9 undef)).toNat) ?_ ?_
  · unfold rboRel
    exact ⟨Below.refl _ _, 0, frame_ex rfl, by simp, Nat.zero_le _⟩
  rintro a' W ⟨hW0, i, ⟨u, rfl⟩, hall, hi'⟩
  have hz := hW0.size
  replace hall := Lib.hid hall
  rcases Nat.lt_or_ge i l.length with hlt | hge
  · obtain ⟨x, tr⟩ : ∃ x, l[i]? = some x := ⟨l[i]'(by omega), List.getElem?_eq_getElem (by omega)⟩
    obtain ⟨b, o, p', q', cp, vc, rfl, hs, hvc, q0, q1, q2, q3, q4, q5, q6, q7⟩ := (hin.below hW0).one tr
    have hnx := Lib.hid (fun (e : x.E ≤ eps) => (show (l.take (i + 1)).all (fun x => decide (x.E ≤ eps)) = true by rw [List.take_add_one, tr, List.all_append, hall.out]; simp [e]))
    have hbd := Lib.hid (fun (e : eps < x.E) => (show l.all (fun x => decide (x.E ≤ eps)) = false by
      cases h0 : l.all (fun x => decide (x.E ≤ eps)) with
      | false => rfl
      | true => have := List.all_eq_true.1 h0 x (List.mem_of_getElem? tr); simp at this; omega))
    clear tr hs hvc
    have hA : Below w.heap.size w (W.alloc (.cells #[.int .i64 x.K, .slice p' x.runs.length cp, .int .i64 x.A, .int .i64 x.R, .int .i64 x.n, .int .i64 x.d, .slice q' x.raw.length vc, .int .i64 x.E] 29)) := belowAny
    by_cases hd : eps < x.E
    · have hbd := Lib.hid (hno.out (hbd.out hd))
      go_wp2
      go_ret
      exact ⟨by rw [hbd.out]; rfl, hA⟩
    · replace hnx := Lib.hid (hnx.out (by omega))
      go_wp2
      rw [show (i : Int) + 1 = ((i + 1 : Nat) : Int) by omega]
      refine ⟨?_, by simp [intAt]; omega⟩
      unfold rboRel
      exact ⟨hA, i + 1, frame_ex rfl, hnx.out, by omega⟩
  · obtain rfl : i = l.length := by omega
    have hyes := Lib.hid (hyes.out (by have := hall.out; rwa [List.take_length] at this))
    go_wp2_with fail
    refine (cE.out W).mono ?_
    rintro e w9 ⟨rfl, hB9⟩
    have hV := hW0.trans (hB9.mono hz)
    clear hB9
    go_wp2
    go_ret
    exact ⟨by rw [hyes.out]; rfl, hV⟩
/-- A row that lies in a block of its own. -/
def RowOwn (w : World) (e : TypeId) (n k : Nat) (news : List Value) (v : Value) (w' : World) : Prop := ∃ g cap' cur, v = .slice (some ⟨g, 0, none⟩) n cap' ∧ w.heap.size ≤ g ∧ Blk w' g cur e ∧ n ≤ cap' ∧ cur.toList.take k = news
section
variable {P : Program} {ops : Array Oper} {C : World -> Prop} {X : List (Nat × Nat)} {a0 : Act} {n : Nat} {Q : Exit -> Act -> World -> Prop}
end
/-- A row in a block of its own. -/
def RowS (B : Nat) (e : TypeId) (n k : Nat) (news : List Value) : Spec := fun v w => ∃ g cap cur, v = .slice (some ⟨g, 0, none⟩) n cap ∧ B ≤ g ∧ Blk w g cur e ∧ n ≤ cap ∧ cur.toList.take k = news
theorem RowS.closed (B : Nat) (e : TypeId) (n k : Nat) (news : List Value) : Closed [] (RowS B e n k news) := fun _ _ _ hr ⟨g, c, cur, e1, h1, h, h2, h3⟩ => ⟨g, c, cur, e1, h1, h.rex hr (by simp), h2, h3⟩
/-- Points in a block of their own, or nil. -/
def PtS (B N : Nat) (l : List (Int × Int)) : Spec := fun v w => (v = .slice none 0 0 ∧ l = [] ∧ N = 0) ∨ RowS B 56 N (N * 2) (flatPts l) v w
theorem PtS.closed (B N : Nat) (l : List (Int × Int)) : Closed [] (PtS B N l) := fun _ _ _ hr h => by
  rcases h with h | h
  · exact .inl h
  · exact .inr (RowS.closed _ _ _ _ _ _ _ _ hr h)
def ownK (s : SegT) : SegT := ⟨s.K, s.runs.take 257, s.A, s.R, s.n, s.d, s.raw.take 257, s.E⟩
/-- A segment of one's own. -/
structure OwnSegK (W : World) (g : Nat) (r0 r : SegR) : Prop where
  says : r.s = ownK r0.s
  runs : RunsIn W r.p r.s.runs
  raw : IntsIn W r.q r.s.raw
  capV : r.s.raw.length ≤ r.vc
  farR : ∀ a, r.p = some a → g < a.block
  farV : ∀ a, r.q = some a → g < a.block
theorem OwnSegK.rex {W W' : World} {g : Nat} {r0 r : SegR} {L : List Nat} (h : OwnSegK W g r0 r) (hL : ∀ x, x ∈ L → x ≤ g) (hr : Rex L W W') : OwnSegK W' g r0 r := ⟨h.says, h.runs.rex1 hL h.farR hr, h.raw.rex1 hL h.farV hr, h.capV, h.farR, h.farV⟩
structure OwnToK (W : World) (g : Nat) (rows R : List SegR) (i : Nat) : Prop where
  len : R.length = rows.length
  rest : ∀ k, i ≤ k → R[k]? = rows[k]?
  own : ∀ k, k < i → ∀ r, R[k]? = some r → ∃ r0, rows[k]? = some r0 ∧ OwnSegK W g r0 r
theorem OwnToK.start (W : World) (g : Nat) (rows : List SegR) : OwnToK W g rows rows 0 := ⟨rfl, fun _ _ => rfl, fun k h => by omega⟩
theorem OwnToK.rex {W W' : World} {g i : Nat} {rows R : List SegR} {L : List Nat} (h : OwnToK W g rows R i) (hL : ∀ x, x ∈ L → x ≤ g) (hr : Rex L W W') : OwnToK W' g rows R i := ⟨h.len, h.rest, fun k hk r hR => by
  obtain ⟨r0, h1, h2⟩ := h.own k hk r hR
  exact ⟨r0, h1, h2.rex hL hr⟩⟩
theorem OwnToK.step {W : World} {g i : Nat} {rows R : List SegR} {r0 r1 : SegR} (h : OwnToK W g rows R i) (h0 : rows[i]? = some r0) (h1 : OwnSegK W g r0 r1) : OwnToK W g rows (R.set i r1) (i + 1) := ⟨by rw [List.length_set]; exact h.len, fun k hk => by rw [List.getElem?_set_ne (by omega)]; exact h.rest k (by omega), fun k hk r hR => by
  rw [List.getElem?_set] at hR
  split at hR
  · rename_i e
    subst e
    split at hR
    · injection hR with hR
      subst hR
      exact ⟨r0, h0, h1⟩
    · cases hR
  · exact h.own k (by omega) r hR⟩
structure PtRow (w : World) (B : Nat) (p : Option Addr) (l : List (Int × Int)) : Prop where
  at' : (p = none ∧ l = []) ∨ ∃ g cur k, p = some ⟨g, 0, none⟩ ∧ B ≤ g ∧ Blk w g cur 56 ∧ cur.toList.take k = flatPts l
theorem PtRow.pts {w : World} {B : Nat} {p : Option Addr} {l : List (Int × Int)} (h : PtRow w B p l) : PtsIn w p l := by
  rcases h.at' with ⟨rfl, rfl⟩ | ⟨g, cur, k, rfl, _, hb, ht⟩
  · exact ⟨fun i r hr => by simp at hr⟩
  · exact pts_in hb ht
theorem PtRow.keep {w w' : World} {B : Nat} {p : Option Addr} {l : List (Int × Int)} (h : PtRow w B p l) (hk : ∀ g cs, B ≤ g → Blk w g cs 56 → Blk w' g cs 56) : PtRow w' B p l := by
  rcases h.at' with h | ⟨g, cur, k, e, hB, hb, ht⟩
  · exact ⟨.inl h⟩
  · exact ⟨.inr ⟨g, cur, k, e, hB, hk g cur hB hb, ht⟩⟩
theorem PtRow.below {w w' : World} {B : Nat} {p : Option Addr} {l : List (Int × Int)} (h : PtRow w B p l) (hb : Below w.heap.size w w') : PtRow w' B p l := h.keep fun _ _ _ h => h.below hb
theorem PtRow.mono {w : World} {B B' : Nat} {p : Option Addr} {l : List (Int × Int)} (h : PtRow w B p l) (hB : B' ≤ B) : PtRow w B' p l := by
  rcases h.at' with h | ⟨g, cur, k, e, h1, hb, ht⟩
  · exact ⟨.inl h⟩
  · exact ⟨.inr ⟨g, cur, k, e, Nat.le_trans hB h1, hb, ht⟩⟩
theorem PtRow.setO {w : World} {B o : Nat} {p : Option Addr} {l : List (Int × Int)} (h : PtRow w B p l) (ho : o < B) (i : Nat) (v : Value) : PtRow (w.setCell ⟨o, i, none⟩ v) B p l := h.keep fun g _ hg h => h.setO (by omega) i v
/-- What holds, whatever is written into blocks below B. -/
def Lasts (B : Nat) (w : World) (F : World → Prop) : Prop := ∀ L W, (∀ x, x ∈ L → x < B) → Rex L w W → F W
theorem Lasts.now {B : Nat} {w : World} {F : World → Prop} (h : Lasts B w F) : F w := h [] w (fun x hx => by cases hx) (Rex.refl _ _)
theorem PtRow.rex {w w' : World} {B gS : Nat} {cs : Array Value} {p : Option Addr} {l : List (Int × Int)} (h : PtRow w B p l) (hS : Blk w gS cs 29) (hr : Rex [gS] w w') : PtRow w' B p l := h.keep fun g c _ hg => hg.rex hr (by
  simp
  rintro rfl
  unfold Blk at hg hS
  rw [hS] at hg
  injection hg with hg
  injection hg with _ h2 _
  revert h2
  decide)
theorem PtS.form {B N : Nat} {l : List (Int × Int)} {v : Value} {w : World} (h : PtS B N l v w) : ∃ p cap, v = .slice p N cap ∧ PtRow w B p l ∧ N ≤ cap := by
  rcases h with ⟨rfl, rfl, rfl⟩ | ⟨g, cap, cur, rfl, hg, hb, hc, ht⟩
  · exact ⟨none, 0, rfl, ⟨.inl ⟨rfl, rfl⟩⟩, Nat.le_refl _⟩
  · exact ⟨_, cap, rfl, ⟨.inr ⟨g, cur, _, rfl, hg, hb, ht⟩⟩, hc⟩
/-- A copy of runs, of numbers, in a block of its own. -/
def RunC (B K : Nat) (l : List RunT) : Spec := fun v w => ∃ p c, v = .slice p K c ∧ RunsIn w p l ∧ K ≤ c ∧ ∀ a, p = some a → B ≤ a.block
theorem RunC.closed (B K : Nat) (l : List RunT) : Closed [] (RunC B K l) := fun _ _ _ hr ⟨p, c, e, h, h2⟩ => ⟨p, c, e, h.rex hr rfl, h2⟩
def IntC (B K : Nat) (l : List Int) : Spec := fun v w => ∃ p c, v = .slice p K c ∧ IntsIn w p l ∧ K ≤ c ∧ ∀ a, p = some a → B ≤ a.block
theorem IntC.closed (B K : Nat) (l : List Int) : Closed [] (IntC B K l) := fun _ _ _ hr ⟨p, c, e, h, h2⟩ => ⟨p, c, e, h.below hr.below, h2⟩
end Go.Proofs.YtbanjolokkghdaaGreatDoor
