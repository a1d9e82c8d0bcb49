/- Parts of the proof that follows: Layer series: Retain. No condition. | Layer series: Retain, whatever the series. No condition. -/
import Derived.Test.YtpdhdjlhicceoaaGreatDoorFw35
set_option linter.unusedSimpArgs false
set_option linter.unusedVariables false
namespace Go.Proofs.YtpdhdjlhicceoaaGreatDoor
open Go.RowKit
theorem PtO9.rexB {W W' : World} {B g c : Nat} {l : List (Int × Int)} {L : List Nat} (h : PtO9 W B (some ⟨g, 0, none⟩) c l) (hr : Rex L W W') (hg : g ∉ L) : PtsIn W' (some ⟨g, 0, none⟩) l := by
  rcases (OwnR.own h).2 with ⟨h1, h0⟩ | ⟨g', cap', cur, h1, _, hb, _, _, _, ht⟩
  · injection h1 with h1 _ _; cases h1
  · injection h1 with h1 _ _
    injection h1 with h1
    injection h1 with h1 _ _
    subst h1
    exact pts_in ((show Blk W g cur 53 from hb).rex hr hg) ht
theorem ret_segs {s : SerT} {fl : Int} {RL : List SegR} (h : RL.map (·.s) = s.segs) : (retS s fl).segs = (keepR fl RL).map (·.s) := by
  unfold retS keepR
  rw [← h, List.filter_map]
  rfl
set_option maxRecDepth 100000 in
set_option maxHeartbeats 2000000 in
theorem ret1_out (n : Nat) (s : SerT) (fl : Int) (o6 o7 GS GP : Nat) (cur cp1 : Array Value) (w : World) (b1 : Blk w o6 #[.int .i64 fl] 2) (b2 : Blk w o7 #[.string s.name, .int .i64 s.eps, .int .i64 s.floor, .int .i64 s.last, .int .i64 s.scale, .slice (some ⟨GS, 0, none⟩) s.segs.length s.segs.length, .slice (some ⟨GP, 0, none⟩) s.opn.length s.opn.length] 84) (b3 : Blk w GS cur 49) (b4 : Blk w GP cp1 53) (hno : n ≤ o7)
    (c1 : Hid (∀ W, Calls Tryz.prog 37 #[.int .i64 fl, .int .i64 0, .int .i64 281474976710656] W fun e w' => e = .returned (.bool false) ∧ Below W.heap.size W w')) :
    Calls Tryz.prog 61 #[.pointer (some ⟨o7, 0, none⟩), .pointer (some ⟨o6, 0, none⟩)] w fun e w' => e = .returned (.int .i64 2) ∧ Below n w w' := by
  have hnw : n ≤ w.heap.size := Nat.le_trans hno (Nat.le_of_lt b2.lt)
  go_enter Tryz.func61, Tryz.ntmps61
  have k1 := b1.cell
  have f1 := b1.frozen
  have yb1 := b1.lt
  go_wp2_with fail
  clear k1 f1 yb1
  refine (c1.out w).mono ?_
  rintro e w1 ⟨rfl, hB1⟩
  have d1 := b1.below hB1
  have d2 := b2.below hB1
  have d3 := b3.below hB1
  have d4 := b4.below hB1
  have hz1 := hB1.size
  clear b1 b2 b3 b4
  have b1 := d1
  have b2 := d2
  have b3 := d3
  have b4 := d4
  clear d1 d2 d3 d4
  go_wp2
  go_ret
  exact ⟨rfl, hB1.mono (by omega)⟩
set_option maxRecDepth 100000 in
set_option maxHeartbeats 2000000 in
theorem ret1_low (n : Nat) (s : SerT) (fl : Int) (o6 o7 GS GP : Nat) (cur cp1 : Array Value) (w : World) (b1 : Blk w o6 #[.int .i64 fl] 2) (b2 : Blk w o7 #[.string s.name, .int .i64 s.eps, .int .i64 s.floor, .int .i64 s.last, .int .i64 s.scale, .slice (some ⟨GS, 0, none⟩) s.segs.length s.segs.length, .slice (some ⟨GP, 0, none⟩) s.opn.length s.opn.length] 84) (b3 : Blk w GS cur 49) (b4 : Blk w GP cp1 53) (hno : n ≤ o7) (hlb : fl < s.floor)
    (c1 : Hid (∀ W, Calls Tryz.prog 37 #[.int .i64 fl, .int .i64 0, .int .i64 281474976710656] W fun e w' => e = .returned (.bool true) ∧ Below W.heap.size W w')) :
    Calls Tryz.prog 61 #[.pointer (some ⟨o7, 0, none⟩), .pointer (some ⟨o6, 0, none⟩)] w fun e w' => e = .returned (.int .i64 343) ∧ Below n w w' := by
  have hnw : n ≤ w.heap.size := Nat.le_trans hno (Nat.le_of_lt b2.lt)
  go_enter Tryz.func61, Tryz.ntmps61
  have k1 := b1.cell
  have f1 := b1.frozen
  have yb1 := b1.lt
  go_wp2_with fail
  clear k1 f1 yb1
  refine (c1.out w).mono ?_
  rintro e w1 ⟨rfl, hB1⟩
  have d1 := b1.below hB1
  have d2 := b2.below hB1
  have d3 := b3.below hB1
  have d4 := b4.below hB1
  have hz1 := hB1.size
  clear b1 b2 b3 b4
  have b1 := d1
  have b2 := d2
  have b3 := d3
  have b4 := d4
  clear d1 d2 d3 d4
  have k1 := b1.cell
  have f1 := b1.frozen
  have k2 := b2.cell
  have f2 := b2.frozen
  have k3 := b3.cell
  have f3 := b3.frozen
  have k4 := b4.cell
  have f4 := b4.frozen
  go_upto_region 3 with (fail)
  clear k1 f1 k2 f2 k3 f3 k4 f4
  refine wp_cutB w1 (Bc o6 #[.int .i64 fl] 2 <| Bc o7 #[.string s.name, .int .i64 s.eps, .int .i64 s.floor, .int .i64 s.last, .int .i64 s.scale, .slice (some ⟨GS, 0, none⟩) s.segs.length s.segs.length, .slice (some ⟨GP, 0, none⟩) s.opn.length s.opn.length] 84 <| Bc GS cur 49 <| Bc GP cp1 53 <| Bz) ?_
  clear b1 b2 b3 b4
  rintro W21 hW z22 hL
  refine wp_regD 8 43 hW hL ?_
  iterate 8 refine dA ?_
  clear hW hL
  rintro W23 hW z24 hL
  simp only [ndR]
  intros
  simp only [ndS]
  refine wpList_nil ?_
  obtain ⟨⟨b1, yb1, k1, f1⟩, ⟨b2, yb2, k2, f2⟩, ⟨b3, yb3, k3, f3⟩, ⟨b4, yb4, k4, f4⟩, -⟩ := hL
  have hW9 := (hB1.trans (hW.mono hz1)).mono hnw
  go_wp2
  go_ret
  exact ⟨rfl, hW9⟩
theorem ret_in {n o7 GS GP g9 : Nat} {s : SerT} {fl : Int} {RL : List SegR} {w8 W9 W' : World} {cur : Array Value} {L : List Nat} (hRs : RL.map (·.s) = s.segs) (hfS : s.segs.length ≤ 100) (hfO : s.opn.length ≤ 100) (b3 : Blk w8 GS cur 49) (hsc : SegCells cur (keepR fl RL)) (hin : ∀ x, x ∈ keepR fl RL → RdR w8 g9 x) (hPO : PtO9 w8 0 (some ⟨GP, 0, none⟩) s.opn.length (keepP fl s.opn))
    (hRa : Rex [o7] w8 W9) (hr : Rex L W9 W') (hL : ∀ x, x ∈ L → x < n) (hno : n ≤ o7) (hog : o7 < GS) (hop : o7 < GP) (hg9 : GS ≤ g9) : SerIn W' (retS s fl) (some ⟨GS, 0, none⟩) (some ⟨GP, 0, none⟩) := by
  have hrr : Rex (o7 :: L) w8 W' := (hRa.more (by simp)).trans (hr.more fun x hx => List.mem_cons_of_mem _ hx)
  have hnm : ∀ g, o7 < g → g ∉ o7 :: L := fun g hg hm => by
    rcases List.mem_cons.1 hm with rfl | hm
    · omega
    · have := hL _ hm; omega
  refine ⟨?_, hPO.rexB hrr (hnm _ hop), ?_, ?_⟩
  · rw [ret_segs hRs]
    exact segs_in (b3.rex hrr (hnm _ hog)) hsc fun x hx => (hin x hx).rex hrr fun y hy => by
      rcases List.mem_cons.1 hy with rfl | hy
      · omega
      · have := hL _ hy; omega
  · exact Nat.le_trans (List.length_filter_le _ _) hfS
  · exact Nat.le_trans (List.length_filter_le _ _) hfO
set_option maxRecDepth 100000 in
set_option maxHeartbeats 2000000 in
theorem ret1_ok (n : Nat) (s : SerT) (fl : Int) (o6 o7 GS GP g9 : Nat) (cur cp1 : Array Value) (RL : List SegR) (w : World) (b1 : Blk w o6 #[.int .i64 fl] 2) (b2 : Blk w o7 #[.string s.name, .int .i64 s.eps, .int .i64 s.floor, .int .i64 s.last, .int .i64 s.scale, .slice (some ⟨GS, 0, none⟩) s.segs.length s.segs.length, .slice (some ⟨GP, 0, none⟩) s.opn.length s.opn.length] 84) (b3 : Blk w GS cur 49) (b4 : Blk w GP cp1 53) (hno : n ≤ o7) (ho6 : o6 < n) (hog : o7 < GS) (hop : o7 < GP) (hSP : GS ≠ GP) (hgS9 : GS ≤ g9) (hgP9 : GP ≤ g9)
    (hfS : s.segs.length ≤ 100) (hfO : s.opn.length ≤ 100) (hlb : ¬fl < s.floor) (hsz : cur.size = s.segs.length * 8) (hSC : Hid (SegCells cur RL)) (hRs : Hid (RL.map (·.s) = s.segs)) (hin : Hid (∀ x, x ∈ RL → RdR w g9 x ∧ segB x.s = true)) (hsp : cp1.size = s.opn.length * 2) (htp : Hid (cp1.toList = flatPts s.opn))
    (c1 : Hid (∀ W, Calls Tryz.prog 37 #[.int .i64 fl, .int .i64 0, .int .i64 281474976710656] W fun e w' => e = .returned (.bool true) ∧ Below W.heap.size W w')) :
    Calls Tryz.prog 61 #[.pointer (some ⟨o7, 0, none⟩), .pointer (some ⟨o6, 0, none⟩)] w fun e w' => e = .returned (.int .i64 0) ∧ Below n w w' ∧ ∃ pR cR qR vR, Blk w' o7 #[.string (retS s fl).name, .int .i64 (retS s fl).eps, .int .i64 (retS s fl).floor, .int .i64 (retS s fl).last, .int .i64 (retS s fl).scale, .slice pR (retS s fl).segs.length cR, .slice qR (retS s fl).opn.length vR] 84 ∧ ∀ L W', (∀ x, x ∈ L → x < n) → Rex L w' W' → SerIn W' (retS s fl) pR qR := by
  have hnw : n ≤ w.heap.size := Nat.le_trans hno (Nat.le_of_lt b2.lt)
  have hRLn : RL.length = s.segs.length := by rw [← hRs.out, List.length_map]
  go_enter Tryz.func61, Tryz.ntmps61
  have k1 := b1.cell
  have f1 := b1.frozen
  have yb1 := b1.lt
  go_wp2_with fail
  clear k1 f1 yb1
  refine (c1.out w).mono ?_
  rintro e w1 ⟨rfl, hB1⟩
  have d1 := b1.below hB1
  have d2 := b2.below hB1
  have d3 := b3.below hB1
  have d4 := b4.below hB1
  have hz1 := hB1.size
  clear b1 b2 b3 b4
  have b1 := d1
  have b2 := d2
  have b3 := d3
  have b4 := d4
  clear d1 d2 d3 d4
  have k1 := b1.cell
  have f1 := b1.frozen
  have k2 := b2.cell
  have f2 := b2.frozen
  have k3 := b3.cell
  have f3 := b3.frozen
  have k4 := b4.cell
  have f4 := b4.frozen
  go_upto_region 3 with (fail)
  clear k1 f1 k2 f2 k3 f3 k4 f4
  refine wp_cutB w1 (Bc o6 #[.int .i64 fl] 2 <| Bc o7 #[.string s.name, .int .i64 s.eps, .int .i64 s.floor, .int .i64 s.last, .int .i64 s.scale, .slice (some ⟨GS, 0, none⟩) s.segs.length s.segs.length, .slice (some ⟨GP, 0, none⟩) s.opn.length s.opn.length] 84 <| Bc GS cur 49 <| Bc GP cp1 53 <| Bz) ?_
  clear b1 b2 b3 b4
  rintro W21 hW z22 hL
  refine wp_regD 8 43 hW hL ?_
  iterate 8 refine dA ?_
  clear hW hL
  rintro W23 hW z24 hL
  simp only [ndR]
  intros
  simp only [ndS]
  refine wpList_nil ?_
  obtain ⟨⟨b1, yb1, k1, f1⟩, ⟨b2, yb2, k2, f2⟩, ⟨b3, yb3, k3, f3⟩, ⟨b4, yb4, k4, f4⟩, -⟩ := hL
  have hW9 := (hB1.trans (hW.mono hz1)).mono hnw
  have hin9 : ∀ x, x ∈ RL → RdR W23 g9 x ∧ segB x.s = true := fun x hx => ⟨((hin.out x hx).1.below hB1).below hW, (hin.out x hx).2⟩
  have e2 : Blk (W23.setCell ⟨o7, 2, none⟩ (.int .i64 fl)) o7 #[.string s.name, .int .i64 s.eps, .int .i64 fl, .int .i64 s.last, .int .i64 s.scale, .slice (some ⟨GS, 0, none⟩) s.segs.length s.segs.length, .slice (some ⟨GP, 0, none⟩) s.opn.length s.opn.length] 84 := b2.set2 rfl
  have e1 := b1.setO (show o6 ≠ o7 by omega) 2 (.int .i64 fl)
  have e3 := b3.setO (show GS ≠ o7 by omega) 2 (.int .i64 fl)
  have e4 := b4.setO (show GP ≠ o7 by omega) 2 (.int .i64 fl)
  have hRa : Rex [o7] W23 (W23.setCell ⟨o7, 2, none⟩ (.int .i64 fl)) := Rex.setOwn (Rex.refl _ _) b2 (by simp) _ _
  have HH := Lib.hid (And.intro e1 (And.intro e2 (And.intro e3 (And.intro e4 hRa))))
  clear e1 e2 e3 e4 hRa b1 b3 b4
  go_upto_region 6 with (fail)
  obtain ⟨b1, b2', b3, b4, hRa⟩ := HH.out
  clear HH b2 k1 f1 k2 f2 k3 f3 k4 f4
  have b2 := b2'
  clear b2'
  have hin8 : ∀ x, x ∈ RL → RdR (W23.setCell ⟨o7, 2, none⟩ (.int .i64 fl)) g9 x ∧ segB x.s = true := fun x hx => ⟨(hin9 x hx).1.rex hRa (by simp; omega), (hin9 x hx).2⟩
  generalize W23.setCell ⟨o7, 2, none⟩ (.int .i64 fl) = W5 at b1 b2 b3 b4 hRa hin8 ⊢
  have hz5 := hRa.size
  have hW5 := hW9.trans (hRa.of_priv (by omega) (by simp; omega))
  have cG := c_delSegs GS g9 hgS9 RL cur o6 fl W5 b3 (by rw [hRLn]; exact hsz) hSC.out b1 (by omega) hin8
  rw [hRLn] at cG
  clear hin9 hRa hW9
  replace hin8 := Lib.hid hin8
  have k1 := b1.cell
  have f1 := b1.frozen
  have k2 := b2.cell
  have f2 := b2.frozen
  have yb1 := b1.lt
  have yb2 := b2.lt
  have yb4 := b4.lt
  go_wp2_with fail
  refine cG.mono ?_
  rintro e w7 ⟨rfl, hRb, cur9, b3', hSC9⟩
  clear cG
  have e1 := b1.rex hRb (by simp; omega)
  have e2 := b2.rex hRb (by simp; omega)
  have e4 := b4.rex hRb (by simp; omega)
  have hz7 := hRb.size
  have hW7 := hW5.trans (hRb.of_priv (by omega) (by simp; omega))
  have hin7 : ∀ x, x ∈ keepR fl RL → RdR w7 g9 x := fun x hx => (hin8.out x (List.mem_filter.1 hx).1).1.rex hRb (by simp; omega)
  clear b1 b2 b3 b4 k1 f1 k2 f2 hRb hW5 hin8 yb1 yb2 yb4
  have b1 := e1
  have b2 := e2
  have b3 := b3'
  have b4 := e4
  clear e1 e2 e4 b3'
  have k2 := b2.cell
  have f2 := b2.frozen
  have yb2 := b2.lt
  have e2 : Blk (w7.setCell ⟨o7, 5, none⟩ (.slice (some ⟨GS, 0, none⟩) (keepR fl RL).length s.segs.length)) o7 #[.string s.name, .int .i64 s.eps, .int .i64 fl, .int .i64 s.last, .int .i64 s.scale, .slice (some ⟨GS, 0, none⟩) (keepR fl RL).length s.segs.length, .slice (some ⟨GP, 0, none⟩) s.opn.length s.opn.length] 84 := b2.set2 rfl
  have e1 := b1.setO (show o6 ≠ o7 by omega) 5 (.slice (some ⟨GS, 0, none⟩) (keepR fl RL).length s.segs.length)
  have e3 := b3.setO (show GS ≠ o7 by omega) 5 (.slice (some ⟨GS, 0, none⟩) (keepR fl RL).length s.segs.length)
  have e4 := b4.setO (show GP ≠ o7 by omega) 5 (.slice (some ⟨GS, 0, none⟩) (keepR fl RL).length s.segs.length)
  have hRa : Rex [o7] w7 (w7.setCell ⟨o7, 5, none⟩ (.slice (some ⟨GS, 0, none⟩) (keepR fl RL).length s.segs.length)) := Rex.setOwn (Rex.refl _ _) b2 (by simp) _ _
  have HH := Lib.hid (And.intro e1 (And.intro e2 (And.intro e3 (And.intro e4 hRa))))
  clear e1 e2 e3 e4 hRa b1 b3 b4
  replace hin7 := Lib.hid hin7
  go_upto_region 7 with (fail)
  obtain ⟨b1, b2', b3, b4, hRa⟩ := HH.out
  clear HH b2 k2 f2
  have b2 := b2'
  clear b2'
  have hin6 := Lib.hid (fun x hx => (hin7.out x hx).rex hRa (by simp; omega))
  generalize w7.setCell ⟨o7, 5, none⟩ (.slice (some ⟨GS, 0, none⟩) (keepR fl RL).length s.segs.length) = W6 at b1 b2 b3 b4 hRa hin6 ⊢
  have hz6 := hRa.size
  have hW6 := hW7.trans (hRa.of_priv (by omega) (by simp; omega))
  have hPO : PtO9 W6 0 (some ⟨GP, 0, none⟩) s.opn.length s.opn := ⟨flatPts_len9 _, .inr ⟨GP, s.opn.length, cp1, rfl, Nat.zero_le _, b4, Nat.le_refl _, by simp [maxLen]; omega, hsp, by rw [← htp.out, List.take_of_length_le (by rw [Array.length_toList, hsp]; exact Nat.le_refl _)]⟩⟩
  have cP := c_delPtsS 0 GP s.opn.length s.opn o6 fl W6 hPO b1 (by omega)
  clear hin7 hRa hW7 hPO
  have k2 := b2.cell
  have f2 := b2.frozen
  have yb2 := b2.lt
  have yb1 := b1.lt
  have yb3 := b3.lt
  go_wp2_with fail
  refine cP.mono ?_
  rintro e w8 ⟨rfl, hRb, hPO⟩
  clear cP
  have e2 := b2.rex hRb (by simp; omega)
  have e3 := b3.rex hRb (by simp; omega)
  have hz8 := hRb.size
  have hW8 := hW6.trans (hRb.of_priv (by omega) (by simp; omega))
  have hin5 := Lib.hid (fun x hx => (hin6.out x hx).rex hRb (by simp; omega))
  clear b1 b2 b3 b4 k2 f2 hRb hW6 hin6 yb1 yb2 yb3
  have b2 := e2
  have b3 := e3
  clear e2 e3
  have k2 := b2.cell
  have f2 := b2.frozen
  have yb2 := b2.lt
  have hRa : Rex [o7] w8 (w8.setCell ⟨o7, 6, none⟩ (.slice (some ⟨GP, 0, none⟩) (keepP fl s.opn).length s.opn.length)) := Rex.setOwn (Rex.refl _ _) b2 (by simp) _ _
  have e2 : Blk (w8.setCell ⟨o7, 6, none⟩ (.slice (some ⟨GP, 0, none⟩) (keepP fl s.opn).length s.opn.length)) o7 #[.string s.name, .int .i64 s.eps, .int .i64 fl, .int .i64 s.last, .int .i64 s.scale, .slice (some ⟨GS, 0, none⟩) (keepR fl RL).length s.segs.length, .slice (some ⟨GP, 0, none⟩) (keepP fl s.opn).length s.opn.length] 84 := b2.set2 rfl
  have HH := Lib.hid (And.intro e2 hRa)
  clear e2 hRa
  replace hPO := Lib.hid hPO
  replace hW8 := Lib.hid hW8
  go_wp2
  go_ret
  obtain ⟨e2, hRa⟩ := HH.out
  have hl9 : (keepR fl RL).length = (retS s fl).segs.length := by rw [ret_segs hRs.out, List.length_map]
  refine ⟨rfl, hW8.out.trans (hRa.of_priv (by omega) (by simp; omega)), ⟨some ⟨GS, 0, none⟩, s.segs.length, some ⟨GP, 0, none⟩, s.opn.length, by rw [← hl9]; exact e2, fun L W' hL hr => ?_⟩⟩
  exact ret_in hRs.out hfS hfO b3 hSC9 (fun x hx => hin5.out x hx) hPO.out hRa hr hL hno hog hop hgS9
end Go.Proofs.YtpdhdjlhicceoaaGreatDoor
namespace Go.Proofs.YtpdhdjlhicceoaaGreatDoor
open Go.RowKit
def zeroS : SerT := ⟨.empty, 0, 0, 0, 0, [], []⟩
def retV (s : SerT) (f : Int) : SerT := if retE s f = 0 then retS s f else zeroS
theorem zeroS_in (W : World) : SerIn W zeroS none none := ⟨⟨fun i x hx => by simp [zeroS] at hx⟩, ⟨fun i x hx => by simp [zeroS] at hx⟩, by simp [zeroS], by simp [zeroS]⟩
set_option maxRecDepth 100000 in
set_option maxHeartbeats 2000000 in
theorem ret_w (s V : SerT) (ps : Option Addr) (cs : Nat) (po : Option Addr) (co : Nat) (fl E : Int) (w : World)
    (cG : Hid (∀ W, Below w.heap.size w W → Blk W (w.heap.size + 1) #[.int .i64 fl] 2 → Calls Tryz.prog 56 #[.agg #[.string s.name, .int .i64 s.eps, .int .i64 s.floor, .int .i64 s.last, .int .i64 s.scale, .slice ps s.segs.length cs, .slice po s.opn.length co], .func (.func 61) #[] #[.pointer (some ⟨w.heap.size + 1, 0, none⟩)]] W fun e w' => Below W.heap.size W w' ∧ ∃ p c q d, e = .returned (.tuple #[.agg #[.string V.name, .int .i64 V.eps, .int .i64 V.floor, .int .i64 V.last, .int .i64 V.scale, .slice p V.segs.length c, .slice q V.opn.length d], .int .i64 E]) ∧ ∀ L W', (∀ x, x ∈ L → x < W.heap.size) → Rex L w' W' → SerIn W' V p q)) :
    Calls Tryz.prog 22 #[.agg #[.string s.name, .int .i64 s.eps, .int .i64 s.floor, .int .i64 s.last, .int .i64 s.scale, .slice ps s.segs.length cs, .slice po s.opn.length co], .int .i64 fl] w fun e w' => ∃ p c q d, e = .returned (.tuple #[.agg #[.string V.name, .int .i64 V.eps, .int .i64 V.floor, .int .i64 V.last, .int .i64 V.scale, .slice p V.segs.length c, .slice q V.opn.length d], .int .i64 E]) ∧ Below w.heap.size w w' ∧ SerIn w' V p q := by
  go_enter Tryz.func22, Tryz.ntmps22
  go_upto_region 1 with (fail)
  refine wp_cutB w (Bc w.heap.size #[.string s.name, .int .i64 s.eps, .int .i64 s.floor, .int .i64 s.last, .int .i64 s.scale, .slice ps s.segs.length cs, .slice po s.opn.length co] 26 <| Bc (w.heap.size + 1) #[.int .i64 fl] 2 <| Bc (w.heap.size + 1 + 1) #[.string .empty, .int .i64 0, .int .i64 0, .int .i64 0, .int .i64 0, .slice none 0 0, .slice none 0 0] 26 <| Bz) ?_
  rintro W1 hW z2 ⟨⟨b1, yb1, k1, f1⟩, ⟨b2, yb2, k2, f2⟩, ⟨b3, yb3, k3, f3⟩, -⟩
  have hzW := hW.size
  go_wp2_with fail
  refine (cG.out _ hW b2).mono ?_
  rintro e w9 ⟨hB9, p, c, q, d, rfl, hin⟩
  have e3 := b3.below hB9
  have hz9 := hB9.size
  have eW := hW.trans (hB9.mono hzW)
  clear b1 b2 b3 hW hB9 k1 f1 k2 f2 k3 f3
  have b1 := e3
  have hW := eW
  clear e3 eW
  replace hin := Lib.hid hin
  have yb1 := b1.lt
  have k1 := b1.cell
  have f1 := b1.frozen
  go_wp2
  have d2 : Blk (((((((w9.setCell ⟨w.heap.size + 1 + 1, 0, none⟩ (.string V.name)).setCell ⟨w.heap.size + 1 + 1, 1, none⟩ (.int .i64 V.eps)).setCell ⟨w.heap.size + 1 + 1, 2, none⟩ (.int .i64 V.floor)).setCell ⟨w.heap.size + 1 + 1, 3, none⟩ (.int .i64 V.last)).setCell ⟨w.heap.size + 1 + 1, 4, none⟩ (.int .i64 V.scale)).setCell ⟨w.heap.size + 1 + 1, 5, none⟩ (.slice p V.segs.length c)).setCell ⟨w.heap.size + 1 + 1, 6, none⟩ (.slice q V.opn.length d)) (w.heap.size + 1 + 1) #[.string V.name, .int .i64 V.eps, .int .i64 V.floor, .int .i64 V.last, .int .i64 V.scale, .slice p V.segs.length c, .slice q V.opn.length d] 26 := blkAny2
  have hR9 : Rex [w.heap.size + 1 + 1] w9 (((((((w9.setCell ⟨w.heap.size + 1 + 1, 0, none⟩ (.string V.name)).setCell ⟨w.heap.size + 1 + 1, 1, none⟩ (.int .i64 V.eps)).setCell ⟨w.heap.size + 1 + 1, 2, none⟩ (.int .i64 V.floor)).setCell ⟨w.heap.size + 1 + 1, 3, none⟩ (.int .i64 V.last)).setCell ⟨w.heap.size + 1 + 1, 4, none⟩ (.int .i64 V.scale)).setCell ⟨w.heap.size + 1 + 1, 5, none⟩ (.slice p V.segs.length c)).setCell ⟨w.heap.size + 1 + 1, 6, none⟩ (.slice q V.opn.length d)) := ((((((((Rex.refl [w.heap.size + 1 + 1] w9).setOwn b1 (by simp) 0 _).setOwn (b1.set 0 _) (by simp) 1 _).setOwn ((b1.set 0 _).set 1 _) (by simp) 2 _).setOwn (((b1.set 0 _).set 1 _).set 2 _) (by simp) 3 _).setOwn ((((b1.set 0 _).set 1 _).set 2 _).set 3 _) (by simp) 4 _).setOwn (((((b1.set 0 _).set 1 _).set 2 _).set 3 _).set 4 _) (by simp) 5 _).setOwn ((((((b1.set 0 _).set 1 _).set 2 _).set 3 _).set 4 _).set 5 _) (by simp) 6 _)
  obtain ⟨W9, hW9⟩ : ∃ W9, W9 = (((((((w9.setCell ⟨w.heap.size + 1 + 1, 0, none⟩ (.string V.name)).setCell ⟨w.heap.size + 1 + 1, 1, none⟩ (.int .i64 V.eps)).setCell ⟨w.heap.size + 1 + 1, 2, none⟩ (.int .i64 V.floor)).setCell ⟨w.heap.size + 1 + 1, 3, none⟩ (.int .i64 V.last)).setCell ⟨w.heap.size + 1 + 1, 4, none⟩ (.int .i64 V.scale)).setCell ⟨w.heap.size + 1 + 1, 5, none⟩ (.slice p V.segs.length c)).setCell ⟨w.heap.size + 1 + 1, 6, none⟩ (.slice q V.opn.length d)) := ⟨_, rfl⟩
  rw [← hW9] at d2 hR9 ⊢
  clear hW9 b1 k1 f1
  have k2 := d2.cell
  have f2 := d2.frozen
  have y_2 := d2.lt
  refine bodyPost_ret (v := .tuple #[.agg #[.string V.name, .int .i64 V.eps, .int .i64 V.floor, .int .i64 V.last, .int .i64 V.scale, .slice p V.segs.length c, .slice q V.opn.length d], .int .i64 E]) (by simp [results, Tryz.results22, go_sem, k2, f2, y_2]) rfl ⟨p, c, q, d, rfl, hW.trans (hR9.of_priv (by omega) (by simp; omega)), hin.out _ _ (by simp; omega) hR9⟩
theorem callR1 : ∀ (args : Array Value) (W : World), (callFunc 61 args).run Tryz.prog W = .ok (.enter 61 args) W := fun _ _ => by kernel_rfl
theorem c_srRetain (s : SerT) (ps : Option Addr) (cs : Nat) (po : Option Addr) (co : Nat) (fl : Int) (w : World) (h : SerIn w s ps po) :
    Calls Tryz.prog 22 #[.agg #[.string s.name, .int .i64 s.eps, .int .i64 s.floor, .int .i64 s.last, .int .i64 s.scale, .slice ps s.segs.length cs, .slice po s.opn.length co], .int .i64 fl] w fun e w' => ∃ p c q d, e = .returned (.tuple #[.agg #[.string (retV s fl).name, .int .i64 (retV s fl).eps, .int .i64 (retV s fl).floor, .int .i64 (retV s fl).last, .int .i64 (retV s fl).scale, .slice p (retV s fl).segs.length c, .slice q (retV s fl).opn.length d], .int .i64 (retE s fl)]) ∧ Below w.heap.size w w' ∧ SerIn w' (retV s fl) p q := by
  refine ret_w s (retV s fl) ps cs po co fl (retE s fl) w (Lib.hid fun W hW b6 => ?_)
  have hI := h.below hW
  have c1 : Hid (∀ W', Below W.heap.size W W' → Calls Tryz.prog 32 #[.agg #[.string s.name, .int .i64 s.eps, .int .i64 s.floor, .int .i64 s.last, .int .i64 s.scale, .slice ps s.segs.length cs, .slice po s.opn.length co]] W' fun e w' => e = .returned (.int .i64 (checkE s)) ∧ Below W'.heap.size W' w') := Lib.hid fun W' hW' => c_srCheck s ps po cs co W' (hI.below hW')
  unfold checkE at c1
  cases hc : checkB s with
  | false =>
    rw [hc, if_neg (by decide)] at c1
    have hE : retE s fl = 340 := by unfold retE; rw [hc]; rfl
    have hV : retV s fl = zeroS := by unfold retV; rw [hE]; rfl
    rw [hE, hV]
    refine (goes_bad s ps cs po co (.func (.func 61) #[] #[.pointer (some ⟨w.heap.size + 1, 0, none⟩)]) 340 W (by decide) c1).mono ?_
    rintro e w' ⟨rfl, hB⟩
    exact ⟨hB, none, 0, none, 0, rfl, fun L W' _ _ => zeroS_in W'⟩
  | true =>
    rw [hc, if_pos rfl] at c1
    have hv : ∀ x, x ∈ s.segs → segB x = true := by
      unfold checkB at hc
      simp only [Bool.and_eq_true] at hc
      exact rowB_seg hc.2.1
    have hfS := h.fewS
    have hfO := h.fewO
    have c2 : Hid (∀ W', Calls Tryz.prog 37 #[.int .i64 fl, .int .i64 0, .int .i64 281474976710656] W' fun e w' => e = .returned (.bool (btw fl 0 281474976710656)) ∧ Below W'.heap.size W' w') := Lib.hid fun W' => c_srBtw fl 0 281474976710656 W'
    have fin : ∀ (E : Int) (R : SerT), retE s fl = E → (E = 0 → R = retS s fl) → (Calls Tryz.prog 56 #[.agg #[.string s.name, .int .i64 s.eps, .int .i64 s.floor, .int .i64 s.last, .int .i64 s.scale, .slice ps s.segs.length cs, .slice po s.opn.length co], .func (.func 61) #[] #[.pointer (some ⟨w.heap.size + 1, 0, none⟩)]] W fun e w' => Below W.heap.size W w' ∧ ((E ≠ 0 ∧ e = .returned (.tuple #[.agg #[.string { data := #[] }, .int .i64 0, .int .i64 0, .int .i64 0, .int .i64 0, .slice none 0 0, .slice none 0 0], .int .i64 E])) ∨ (E = 0 ∧ ∃ pR cR qR vR, e = .returned (.tuple #[.agg #[.string R.name, .int .i64 R.eps, .int .i64 R.floor, .int .i64 R.last, .int .i64 R.scale, .slice pR R.segs.length cR, .slice qR R.opn.length vR], .int .i64 0]) ∧ ∀ L W', (∀ x, x ∈ L → x < W.heap.size) → Rex L w' W' → SerIn W' R pR qR))) → Calls Tryz.prog 56 #[.agg #[.string s.name, .int .i64 s.eps, .int .i64 s.floor, .int .i64 s.last, .int .i64 s.scale, .slice ps s.segs.length cs, .slice po s.opn.length co], .func (.func 61) #[] #[.pointer (some ⟨w.heap.size + 1, 0, none⟩)]] W fun e w' => Below W.heap.size W w' ∧ ∃ p c q d, e = .returned (.tuple #[.agg #[.string (retV s fl).name, .int .i64 (retV s fl).eps, .int .i64 (retV s fl).floor, .int .i64 (retV s fl).last, .int .i64 (retV s fl).scale, .slice p (retV s fl).segs.length c, .slice q (retV s fl).opn.length d], .int .i64 (retE s fl)]) ∧ ∀ L W', (∀ x, x ∈ L → x < W.heap.size) → Rex L w' W' → SerIn W' (retV s fl) p q := fun E R hE hR hc => hc.mono fun e w' ⟨hB, h9⟩ => by
      refine ⟨hB, ?_⟩
      rcases h9 with ⟨hne, rfl⟩ | ⟨he, p, c, q, d, rfl, hin⟩
      · have hV : retV s fl = zeroS := by unfold retV; rw [hE, if_neg hne]
        rw [hV, hE]
        exact ⟨none, 0, none, 0, rfl, fun L W' _ _ => zeroS_in W'⟩
      · have hV : retV s fl = R := by unfold retV; rw [hE, if_pos he, hR he]
        rw [hV, hE, he]
        exact ⟨p, c, q, d, rfl, hin⟩
    have ho6 : w.heap.size + 1 < W.heap.size := b6.lt
    cases hb : btw fl 0 281474976710656 with
    | false =>
      rw [hb] at c2
      refine fin 2 zeroS (by unfold retE; rw [hc, hb]; rfl) (fun e => by cases e) (goes_w s zeroS ps cs po co _ callR1 (w.heap.size + 1) 2 W hI c1 (Lib.hid fun W' o7 GS GP g9 cur cp1 RL hW' ho7 hog hop hSP hgS hgP b2 b3 hsz hsc hRs hin b4 hsp htp => ?_))
      exact (ret1_out (W.heap.size + 2) s fl (w.heap.size + 1) o7 GS GP cur cp1 W' (b6.below hW') b2 b3 b4 (by omega) c2).mono fun e w' ⟨h1, h2⟩ => ⟨h1, h2, fun e => by cases e⟩
    | true =>
      rw [hb] at c2
      by_cases hlb : fl < s.floor
      · refine fin 343 zeroS (retE_low hc hb hlb) (fun e => by cases e) (goes_w s zeroS ps cs po co _ callR1 (w.heap.size + 1) 343 W hI c1 (Lib.hid fun W' o7 GS GP g9 cur cp1 RL hW' ho7 hog hop hSP hgS hgP b2 b3 hsz hsc hRs hin b4 hsp htp => ?_))
        exact (ret1_low (W.heap.size + 2) s fl (w.heap.size + 1) o7 GS GP cur cp1 W' (b6.below hW') b2 b3 b4 (by omega) hlb c2).mono fun e w' ⟨h1, h2⟩ => ⟨h1, h2, fun e => by cases e⟩
      · refine fin 0 (retS s fl) (retE_ok hc hb (by omega)) (fun _ => rfl) (goes_w s (retS s fl) ps cs po co _ callR1 (w.heap.size + 1) 0 W hI c1 (Lib.hid fun W' o7 GS GP g9 cur cp1 RL hW' ho7 hog hop hSP hgS hgP b2 b3 hsz hsc hRs hin b4 hsp htp => ?_))
        exact (ret1_ok (W.heap.size + 2) s fl (w.heap.size + 1) o7 GS GP g9 cur cp1 RL W' (b6.below hW') b2 b3 b4 (by omega) (by omega) hog hop hSP hgS hgP hfS hfO hlb hsz (Lib.hid hsc) (Lib.hid hRs) (Lib.hid fun x hx => ⟨hin x hx, hv x.s (by rw [← hRs]; exact List.mem_map_of_mem hx)⟩) hsp (Lib.hid htp) c2).mono fun e w' ⟨h1, h2, h3⟩ => ⟨h1, h2, fun _ => h3⟩
end Go.Proofs.YtpdhdjlhicceoaaGreatDoor
