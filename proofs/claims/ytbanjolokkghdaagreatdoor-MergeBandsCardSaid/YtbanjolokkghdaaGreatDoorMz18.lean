/- Parts of the proof that follows: The document's lines: Back, Slope, Common, Lowest, Right. | The document's lines: Times; its numbers: Div. | The document's lines: At. -/
import Derived.Test.YtbanjolokkghdaaGreatDoorMz17
set_option maxRecDepth 100000
set_option maxHeartbeats 8000000
set_option linter.unusedSimpArgs false
set_option linter.unusedVariables false
namespace Go.Proofs.YtbanjolokkghdaaGreatDoor
open Go.RowKit
attribute [local simp] Oper.looksAt Op.operands Call.operands envOf Det GDet
theorem c_rback (v : Int) (w : World) :
  Calls Tryz.prog 57 #[.int .i64 v] w fun e w' => e = .returned (.bool (isBack v)) /\ Below w.heap.size w w' := by
 unfold isBack
 go_enter Tryz.func57, Tryz.ntmps57
 go_upto_region 1 with (fail)
 refine wp_region_sq 6 9 [] (fun W' => Rex [] w W') (by kernel_rfl) rfl (Rex.refl _ _) (fun w w' h0 hr => h0.trans hr) ?_
 iterate 3
  apply nd_det (hg := rfl) (hal := rfl)
  ·intro a W' hC hE
   obtain _ := hC
   first
    | (simp at hE; simp [go_sem, Act.eval, IntWalk.i64_left, hE]; try rfl)
    | (clear hE; simp [go_sem, Act.eval, IntWalk.i64_left]; try rfl)
 iterate 2
  apply nd_detg (p := true) (hg := rfl) (hd := rfl) (hal := rfl)
  ·intro v W' h
   simp [envOf, Det, GDet] at h
   simp
   exact h
  ·intro hp hx a W' hC hE
   obtain _ := hC
   simp [hx] at hE
   simp [go_sem, Act.eval, IntWalk.i64_left, hE]
   try rfl
 apply nd_pick_and (ho := rfl) (hg := rfl)
 ·intro v W' h
  simp at h
  exact h
 ·intro v W' h hx
  simp [hx] at h
  exact h
 rintro W2 hR
 simp only [ndFinR, Det, forall_eq]
 intros
 repeat (rename GDet _ _ _ _ => hgd; clear hgd)
 simp only [Act.put, List.setIfInBounds_toArray, List.set_cons_zero, List.set_cons_succ, List.drop_succ_cons, List.drop_zero]
 go_wp2
 go_ret
 exact ⟨rfl, hR.of_priv (Nat.le_refl _)⟩
theorem c_rslope (n d : Int) (w : World) :
  Calls Tryz.prog 58 #[.agg #[.int .i64 n, .int .i64 d]] w fun e w' => e = .returned (.bool (isSlope n d)) /\ Below w.heap.size w w' := by
 unfold isSlope
 go_enter Tryz.func58, Tryz.ntmps58
 go_upto_region 1 with (fail)
 refine wp_facts (fun W => Below w.heap.size w W /\ Blk W w.heap.size #[.int .i64 n, .int .i64 d] 96) ⟨(Below.refl _ _).alloc (Nat.le_refl _) _, (by repeat (first | (refine Blk.new' ?_; simp; done) | refine Blk.alloc ?_ _))⟩ ?_
 rintro W ⟨hW, b1⟩
 refine wp_region_sq 18 21 [] (fun W' => Rex [] W W' /\ Blk W' w.heap.size #[.int .i64 n, .int .i64 d] 96) (by kernel_rfl) rfl ⟨(Rex.refl _ _), b1⟩ (fun w w' ⟨h0, h1⟩ hr => ⟨h0.trans hr, h1.rex hr (by simp <;> omega)⟩) ?_
 iterate 4
  apply nd_det (hg := rfl) (hal := rfl)
  ·intro a W' hC hE
   obtain ⟨_, k1⟩ := hC
   have k1 := k1.cell
   first
    | (simp at hE; simp [go_sem, Act.eval, IntWalk.i64_left, hE, k1]; try rfl)
    | (clear hE; simp [go_sem, Act.eval, IntWalk.i64_left, k1]; try rfl)
 iterate 3
  apply nd_detg (p := true) (hg := rfl) (hd := rfl) (hal := rfl)
  ·intro v W' h
   simp [envOf, Det, GDet] at h
   simp
   exact h
  ·intro hp hx a W' hC hE
   obtain ⟨_, k1⟩ := hC
   have k1 := k1.cell
   simp [hx] at hE
   simp [go_sem, Act.eval, IntWalk.i64_left, hE, k1]
   try rfl
 apply nd_pick_and (ho := rfl) (hg := rfl)
 ·intro v W' h
  simp at h
  exact h
 ·intro v W' h hx
  simp [hx] at h
  exact h
 iterate 1
  apply nd_det (hg := rfl) (hal := rfl)
  ·intro a W' hC hE
   obtain ⟨_, k1⟩ := hC
   have k1 := k1.cell
   first
    | (simp at hE; simp [go_sem, Act.eval, IntWalk.i64_left, hE, k1]; try rfl)
    | (clear hE; simp [go_sem, Act.eval, IntWalk.i64_left, k1]; try rfl)
 iterate 3
  apply nd_detg (p := true) (hg := rfl) (hd := rfl) (hal := rfl)
  ·intro v W' h
   simp [envOf, Det, GDet] at h
   simp
   exact h
  ·intro hp hx a W' hC hE
   obtain ⟨_, k1⟩ := hC
   have k1 := k1.cell
   simp [hx] at hE
   simp [go_sem, Act.eval, IntWalk.i64_left, hE, k1]
   try rfl
 apply nd_pick_and (ho := rfl) (hg := rfl)
 ·intro v W' h
  simp at h
  exact h
 ·intro v W' h hx
  simp [hx] at h
  exact h
 iterate 1
  apply nd_det (hg := rfl) (hal := rfl)
  ·intro a W' hC hE
   obtain ⟨_, k1⟩ := hC
   have k1 := k1.cell
   first
    | (simp at hE; simp [go_sem, Act.eval, IntWalk.i64_left, hE, k1]; try rfl)
    | (clear hE; simp [go_sem, Act.eval, IntWalk.i64_left, k1]; try rfl)
 iterate 3
  apply nd_detg (p := true) (hg := rfl) (hd := rfl) (hal := rfl)
  ·intro v W' h
   simp [envOf, Det, GDet] at h
   simp
   exact h
  ·intro hp hx a W' hC hE
   obtain ⟨_, k1⟩ := hC
   have k1 := k1.cell
   simp [hx] at hE
   simp [go_sem, Act.eval, IntWalk.i64_left, hE, k1]
   try rfl
 apply nd_pick_and (ho := rfl) (hg := rfl)
 ·intro v W' h
  simp at h
  exact h
 ·intro v W' h hx
  simp [hx] at h
  exact h
 rintro W2 ⟨hR, c1⟩
 simp only [ndFinR, Det, forall_eq]
 intros
 repeat (rename GDet _ _ _ _ => hgd; clear hgd)
 simp only [Act.put, List.setIfInBounds_toArray, List.set_cons_zero, List.set_cons_succ, List.drop_succ_cons, List.drop_zero]
 go_wp2
 go_ret
 exact ⟨rfl, hW.trans (hR.of_priv hW.size)⟩
structure Gcd2 (a b m n : Int) : Prop where
 m0 : 0 <= m
 m1 : m <= 9223372036854775807
 n0 : 0 <= n
 n1 : n <= 9223372036854775807
 eq : Nat.gcd m.natAbs n.natAbs = Nat.gcd a.natAbs b.natAbs
theorem Gcd2.left {a b m n : Int} (h : Gcd2 a b m n) (hn : 0 < n) : Gcd2 a b (m % n) n /\ m % n < n := by
 have l1 := Int.emod_nonneg m (show n ≠ 0 by omega)
 have l2 := Int.emod_lt_of_pos m hn
 have := h.n1
 refine ⟨⟨l1, by omega, h.n0, h.n1, ?_⟩, l2⟩
 rw [<- h.eq]
 obtain ⟨m, rfl⟩ := Int.eq_ofNat_of_zero_le h.m0
 obtain ⟨n, rfl⟩ := Int.eq_ofNat_of_zero_le h.n0
 show Nat.gcd (m % n) n = Nat.gcd m n
 rw [Nat.gcd_comm m n, <- Nat.gcd_rec]
theorem Gcd2.right {a b m n : Int} (h : Gcd2 a b m n) (hm : 0 < m) : Gcd2 a b m (n % m) /\ n % m < m := by
 have l1 := Int.emod_nonneg n (show m ≠ 0 by omega)
 have l2 := Int.emod_lt_of_pos n hm
 have := h.m1
 refine ⟨⟨h.m0, h.m1, l1, by omega, ?_⟩, l2⟩
 rw [<- h.eq]
 obtain ⟨m, rfl⟩ := Int.eq_ofNat_of_zero_le h.m0
 obtain ⟨n, rfl⟩ := Int.eq_ofNat_of_zero_le h.n0
 show Nat.gcd m (n % m) = Nat.gcd m n
 rw [Nat.gcd_comm m (n % m), Nat.gcd_rec m n]
theorem Gcd2.done {a b m n : Int} (h : Gcd2 a b m n) (hz : m = 0 ∨ n = 0) : m + n = (Nat.gcd a.natAbs b.natAbs : Int) := by
 rw [<- h.eq]
 have := h.m0; have := h.n0
 rcases hz with rfl | rfl <;> simp <;> omega
def comRel (a b : Int) (w : World) (a' : Act) (W : World) : Prop := W = w /\ ∃ (m n : Int), (∃ u : Nat -> Value, a' = { tmps := #[.int .i64 m, .int .i64 n, u 2, u 3, .int .i64 0, u 5, u 6, u 7, u 8, u 9, u 10, u 11, u 12, u 13, u 14, u 15, u 16, u 17, u 18, u 19, u 20, u 21, u 22, u 23, u 24, u 25, u 26], defers := [] }) /\ Gcd2 a b m n
theorem c_common (a b : Int) (w : World) (ha : -9223372036854775807 <= a /\ a <= 9223372036854775807) (hb : 0 <= b /\ b <= 9223372036854775807) :
  Calls Tryz.prog 80 #[.int .i64 a, .int .i64 b] w fun e w' => e = .returned (.int .i64 (Nat.gcd a.natAbs b.natAbs)) /\ w' = w := by
 go_enter Tryz.func80, Tryz.ntmps80
 have start : ∀ m, (m = a ∨ m = -a) -> 0 <= m -> Gcd2 a b m b := by
  rintro m (rfl | rfl) h
  ·exact ⟨h, ha.2, hb.1, hb.2, rfl⟩
  ·exact ⟨h, by omega, hb.1, hb.2, by rw [Int.natAbs_neg]⟩
 by_cases h : a < 0
 ·go_wp2
  refine wp_loop (comRel a b w) (fun x _ => (intAt (x.tmps.getD 0 undef)).toNat + (intAt (x.tmps.getD 1 undef)).toNat) ?_ ?_
  ·unfold comRel
   exact ⟨rfl, -a, b, frame_ex rfl, start _ (.inr rfl) (by omega)⟩
  rintro a' W ⟨rfl, m, n, ⟨u, rfl⟩, hs⟩
  have m0 := hs.m0; have m1 := hs.m1; have n0 := hs.n0; have n1 := hs.n1
  by_cases hm : 0 < m
  ·by_cases hn : 0 < n
   ·by_cases hmn : n < m
    ·have hq := hs.left hn
     have hn0 : ¬ n = 0 := by omega
     go_wp2
     have hq2 := hq.2
     refine ⟨?_, by simp [intAt]; omega⟩
     unfold comRel
     exact ⟨rfl, m % n, n, frame_ex rfl, hq.1⟩
    ·have hq := hs.right hm
     have hm0 : ¬ m = 0 := by omega
     go_wp2
     have hq2 := hq.2
     refine ⟨?_, by simp [intAt]; omega⟩
     unfold comRel
     exact ⟨rfl, m, n % m, frame_ex rfl, hq.1⟩
   ·have hd := Lib.hid (hs.done (.inr (by omega)))
    go_wp2
    go_ret
    exact ⟨by rw [<- hd.out]; rfl, rfl⟩
  ·have hd := Lib.hid (hs.done (.inl (by omega)))
   go_wp2
   go_ret
   exact ⟨by rw [<- hd.out]; rfl, rfl⟩
 ·go_wp2
  refine wp_loop (comRel a b w) (fun x _ => (intAt (x.tmps.getD 0 undef)).toNat + (intAt (x.tmps.getD 1 undef)).toNat) ?_ ?_
  ·unfold comRel
   exact ⟨rfl, a, b, frame_ex rfl, start _ (.inl rfl) (by omega)⟩
  rintro a' W ⟨rfl, m, n, ⟨u, rfl⟩, hs⟩
  have m0 := hs.m0; have m1 := hs.m1; have n0 := hs.n0; have n1 := hs.n1
  by_cases hm : 0 < m
  ·by_cases hn : 0 < n
   ·by_cases hmn : n < m
    ·have hq := hs.left hn
     have hn0 : ¬ n = 0 := by omega
     go_wp2
     have hq2 := hq.2
     refine ⟨?_, by simp [intAt]; omega⟩
     unfold comRel
     exact ⟨rfl, m % n, n, frame_ex rfl, hq.1⟩
    ·have hq := hs.right hm
     have hm0 : ¬ m = 0 := by omega
     go_wp2
     have hq2 := hq.2
     refine ⟨?_, by simp [intAt]; omega⟩
     unfold comRel
     exact ⟨rfl, m, n % m, frame_ex rfl, hq.1⟩
   ·have hd := Lib.hid (hs.done (.inr (by omega)))
    go_wp2
    go_ret
    exact ⟨by rw [<- hd.out]; rfl, rfl⟩
  ·have hd := Lib.hid (hs.done (.inl (by omega)))
   go_wp2
   go_ret
   exact ⟨by rw [<- hd.out]; rfl, rfl⟩
theorem rlowest_w (n d g x y : Int) (w : World) (hg : ¬ g = 0) (e1 : wrap64 (n.tdiv g) = x) (e2 : wrap64 (d.tdiv g) = y)
  (c1 : ∀ w, Calls Tryz.prog 80 #[.int .i64 n, .int .i64 d] w fun e w' => e = .returned (.int .i64 g) /\ w' = w) :
  Calls Tryz.prog 59 #[.agg #[.int .i64 n, .int .i64 d]] w fun e w' => e = .returned (.agg #[.int .i64 x, .int .i64 y]) /\ Below w.heap.size w w' := by
 go_enter Tryz.func59, Tryz.ntmps59
 go_wp2_with fail
 refine (c1 _).mono ?_
 rintro e w1 ⟨rfl, rfl⟩
 clear c1
 go_upto_region 2 with (fail)
 refine wp_facts (fun W => Below w.heap.size w W /\ Blk W w.heap.size #[.int .i64 n, .int .i64 d] 96 /\ Blk W (w.heap.size + 1) #[.int .i64 0, .int .i64 0] 96) ⟨?_, (by repeat (first | (refine Blk.new' ?_; simp; done) | refine Blk.alloc ?_ _)), (by repeat (first | (refine Blk.new' ?_; simp; done) | refine Blk.alloc ?_ _))⟩ ?_
 ·exact (have hUp := (Below.refl w.heap.size w); belowAny)
 rintro W ⟨hW, b1, b2⟩
 refine wp_region_nd 9 18 [] (fun W' => Rex [] W W' /\ Blk W' w.heap.size #[.int .i64 n, .int .i64 d] 96 /\ Blk W' (w.heap.size + 1) #[.int .i64 0, .int .i64 0] 96) mixed (by kernel_rfl) rfl ⟨(Rex.refl _ _).drew, b1, b2⟩ (fun w w' ⟨h0, h1, h2⟩ hr => ⟨h0.trans hr, h1.rex hr (by simp <;> omega), h2.rex hr (by simp <;> omega)⟩) (fun c a d v w h => by cases d <;> exact h) ?_
 iterate 9
  apply nd_det (hg := rfl) (hal := rfl)
  ·intro a W' hC hE
   obtain ⟨_, k1, k2⟩ := hC
   have k1 := k1.cell
   first
    | (simp at hE; simp [go_sem, Act.eval, IntWalk.i64_left, hE, k1, k2, hg, e1, e2]; try rfl)
    | (clear hE; simp [go_sem, Act.eval, IntWalk.i64_left, k1, k2, hg, e1, e2]; try rfl)
 rintro W2 ⟨hR, c1, c2⟩
 simp only [ndFinR, Det, forall_eq]
 intros
 repeat (rename GDet _ _ _ _ => hgd; clear hgd)
 simp only [Act.put, List.setIfInBounds_toArray, List.set_cons_zero, List.set_cons_succ, List.drop_succ_cons, List.drop_zero]
 have k2 := c2.cell
 have k3 := c2.frozen
 go_wp2
 refine bodyPost_ret (v := .agg #[.int .i64 x, .int .i64 y]) (by simp [results, Tryz.results59, go_sem, k2, k3]) rfl ⟨rfl, ?_⟩
 exact (have hUp := (hW.trans (hR.of_priv hW.size)); belowAny)
theorem c_rlowest (n d : Int) (w : World) (hn : -9223372036854775807 <= n /\ n <= 9223372036854775807) (hd : 1 <= d) (hd' : d <= 9223372036854775807) :
  Calls Tryz.prog 59 #[.agg #[.int .i64 n, .int .i64 d]] w fun e w' => e = .returned (.agg #[.int .i64 (n.tdiv (gcdI n d)), .int .i64 (d.tdiv (gcdI n d))]) /\ Below w.heap.size w w' := by
 have hg := gcdI_pos n hd
 exact rlowest_w n d (gcdI n d) _ _ w (by omega) (tdiv_small n _ ⟨by omega, hn.2⟩ hg) (tdiv_small d _ ⟨by omega, hd'⟩ hg) (fun w => c_common n d w hn ⟨by omega, hd'⟩)
theorem c_rline (A R n d : Int) (w : World) :
  Calls Tryz.prog 31 #[.agg #[.int .i64 A, .int .i64 R, .int .i64 n, .int .i64 d]] w fun e w' => e = .returned (.bool (isLine A R n d)) /\ Below w.heap.size w w' := by
 rw [isLine_eq]
 go_enter Tryz.func31, Tryz.ntmps31
 go_upto_region 2 with (fail)
 refine wp_facts (fun W => Below w.heap.size w W /\ Blk W w.heap.size #[.int .i64 A, .int .i64 R, .int .i64 n, .int .i64 d] 26 /\ Blk W (w.heap.size + 1) #[.int .i64 n, .int .i64 d] 96) ⟨by exact belowAny, by exact blkAny2, by exact blkAny2⟩ ?_
 rintro W ⟨hW, b1, b2⟩
 refine wp_region_nd 25 34 [] (fun W' => Rex [] W W' /\ Blk W' w.heap.size #[.int .i64 A, .int .i64 R, .int .i64 n, .int .i64 d] 26 /\ Blk W' (w.heap.size + 1) #[.int .i64 n, .int .i64 d] 96) mixed (by kernel_rfl) rfl ⟨(Rex.refl _ _).drew, b1, b2⟩ (fun w w' ⟨h0, h1, h2⟩ hr => ⟨h0.trans hr, h1.rex hr (by simp <;> omega), h2.rex hr (by simp <;> omega)⟩) (fun c a d v w h => by cases d <;> exact h) ?_
 iterate 2
  apply nd_det (hg := rfl) (hal := rfl)
  ·intro a W' hC hE
   obtain ⟨_, k1, k2⟩ := hC
   have k1 := k1.cell
   have k2 := k2.cell
   first
    | (simp at hE; simp [go_sem, Act.eval, IntWalk.i64_left, hE, k1, k2, ite_eq2]; try rfl)
    | (clear hE; simp [go_sem, Act.eval, IntWalk.i64_left, k1, k2, ite_eq2]; try rfl)
 refine nd_callv2 rfl rfl (fun W' hC => c_rback A W') (fun a W' hC hE => ?_) ?_
 ·obtain ⟨_, k1, k2⟩ := hC
  have k1 := k1.cell
  have k2 := k2.cell
  first
   | (simp at hE; simp [go_sem, Act.eval, IntWalk.i64_left, hE, k1, k2, ite_eq2]; try rfl)
   | (clear hE; simp [go_sem, Act.eval, IntWalk.i64_left, k1, k2, ite_eq2]; try rfl)
 iterate 1
  apply nd_det (hg := rfl) (hal := rfl)
  ·intro a W' hC hE
   obtain ⟨_, k1, k2⟩ := hC
   have k1 := k1.cell
   have k2 := k2.cell
   first
    | (simp at hE; simp [go_sem, Act.eval, IntWalk.i64_left, hE, k1, k2, ite_eq2]; try rfl)
    | (clear hE; simp [go_sem, Act.eval, IntWalk.i64_left, k1, k2, ite_eq2]; try rfl)
 iterate 1
  apply nd_detg (p := true) (hg := rfl) (hd := rfl) (hal := rfl)
  ·intro v W' h
   simp [envOf, Det, GDet] at h
   simp
   exact h
  ·intro hp hx a W' hC hE
   obtain ⟨_, k1, k2⟩ := hC
   have k1 := k1.cell
   have k2 := k2.cell
   simp [hx] at hE
   simp [go_sem, Act.eval, IntWalk.i64_left, hE, k1, k2, ite_eq2]
   try rfl
 apply nd_callvg2 (p := true) (hg := rfl) (hd := rfl) (hal := rfl)
 ·intro v W' h
  simp at h
  simp
  exact h
 ·intro hp hx W' hC
  exact c_rslope n d W'
 ·intro hp hx a W' hC hE
  obtain ⟨_, k1, k2⟩ := hC
  have k1 := k1.cell
  have k2 := k2.cell
  first
   | (simp [hx] at hE; simp [go_sem, Act.eval, IntWalk.i64_left, hE, k1, k2, ite_eq2]; try rfl)
   | (clear hE; simp [go_sem, Act.eval, IntWalk.i64_left, k1, k2, ite_eq2]; try rfl)
 apply nd_pick_and (ho := rfl) (hg := rfl)
 ·intro v W' h
  simp at h
  exact h
 ·intro v W' h hx
  simp [hx] at h
  exact h
 iterate 1
  apply nd_det (hg := rfl) (hal := rfl)
  ·intro a W' hC hE
   obtain ⟨_, k1, k2⟩ := hC
   have k1 := k1.cell
   have k2 := k2.cell
   first
    | (simp at hE; simp [go_sem, Act.eval, IntWalk.i64_left, hE, k1, k2, ite_eq2]; try rfl)
    | (clear hE; simp [go_sem, Act.eval, IntWalk.i64_left, k1, k2, ite_eq2]; try rfl)
 iterate 1
  apply nd_detg (p := true) (hg := rfl) (hd := rfl) (hal := rfl)
  ·intro v W' h
   simp [envOf, Det, GDet] at h
   simp
   exact h
  ·intro hp hx a W' hC hE
   obtain ⟨_, k1, k2⟩ := hC
   have k1 := k1.cell
   have k2 := k2.cell
   simp [hx] at hE
   simp [go_sem, Act.eval, IntWalk.i64_left, hE, k1, k2, ite_eq2]
   try rfl
 apply nd_callvg2 (p := true) (hg := rfl) (hd := rfl) (hal := rfl)
 ·intro v W' h
  simp at h
  simp
  exact h
 ·intro hp hx W' hC
  exact (let q := isSlope_bd (show isSlope n d = true by simp at hx; exact hx.2); c_rlowest n d W' ⟨by have := q.1; omega, by have := q.1; omega⟩ q.2.1 (by have := q.2.2; omega))
 ·intro hp hx a W' hC hE
  obtain ⟨_, k1, k2⟩ := hC
  have k1 := k1.cell
  have k2 := k2.cell
  first
   | (simp [hx] at hE; simp [go_sem, Act.eval, IntWalk.i64_left, hE, k1, k2, ite_eq2]; try rfl)
   | (clear hE; simp [go_sem, Act.eval, IntWalk.i64_left, k1, k2, ite_eq2]; try rfl)
 iterate 2
  apply nd_detg (p := true) (hg := rfl) (hd := rfl) (hal := rfl)
  ·intro v W' h
   simp [envOf, Det, GDet] at h
   simp
   exact h
  ·intro hp hx a W' hC hE
   obtain ⟨_, k1, k2⟩ := hC
   have k1 := k1.cell
   have k2 := k2.cell
   simp [hx] at hE
   simp [go_sem, Act.eval, IntWalk.i64_left, hE, k1, k2, ite_eq2]
   try rfl
 apply nd_pick_and (ho := rfl) (hg := rfl)
 ·intro v W' h
  simp at h
  exact h
 ·intro v W' h hx
  simp [hx] at h
  exact h
 iterate 1
  apply nd_det (hg := rfl) (hal := rfl)
  ·intro a W' hC hE
   obtain ⟨_, k1, k2⟩ := hC
   have k1 := k1.cell
   have k2 := k2.cell
   first
    | (simp at hE; simp [go_sem, Act.eval, IntWalk.i64_left, hE, k1, k2, ite_eq2]; try rfl)
    | (clear hE; simp [go_sem, Act.eval, IntWalk.i64_left, k1, k2, ite_eq2]; try rfl)
 iterate 3
  apply nd_detg (p := true) (hg := rfl) (hd := rfl) (hal := rfl)
  ·intro v W' h
   simp [envOf, Det, GDet] at h
   simp
   exact h
  ·intro hp hx a W' hC hE
   obtain ⟨_, k1, k2⟩ := hC
   have k1 := k1.cell
   have k2 := k2.cell
   simp [hx] at hE
   simp [go_sem, Act.eval, IntWalk.i64_left, hE, k1, k2, ite_eq2]
   try rfl
 apply nd_pick_and (ho := rfl) (hg := rfl)
 ·intro v W' h
  simp at h
  exact h
 ·intro v W' h hx
  simp [hx] at h
  exact h
 iterate 1
  apply nd_det (hg := rfl) (hal := rfl)
  ·intro a W' hC hE
   obtain ⟨_, k1, k2⟩ := hC
   have k1 := k1.cell
   have k2 := k2.cell
   first
    | (simp at hE; simp [go_sem, Act.eval, IntWalk.i64_left, hE, k1, k2, ite_eq2]; try rfl)
    | (clear hE; simp [go_sem, Act.eval, IntWalk.i64_left, k1, k2, ite_eq2]; try rfl)
 iterate 5
  apply nd_detg (p := true) (hg := rfl) (hd := rfl) (hal := rfl)
  ·intro v W' h
   simp [envOf, Det, GDet] at h
   simp
   exact h
  ·intro hp hx a W' hC hE
   obtain ⟨_, k1, k2⟩ := hC
   have k1 := k1.cell
   have k2 := k2.cell
   simp [hx] at hE
   simp [go_sem, Act.eval, IntWalk.i64_left, hE, k1, k2, ite_eq2]
   try rfl
 apply nd_pick_and (ho := rfl) (hg := rfl)
 ·intro v W' h
  simp at h
  exact h
 ·intro v W' h hx
  simp [hx] at h
  exact h
 rintro W2 ⟨hR, c1, c2⟩
 simp only [ndFinR, Det, forall_eq]
 intros
 repeat (rename GDet _ _ _ _ => hgd; clear hgd)
 simp only [Act.put, List.setIfInBounds_toArray, List.set_cons_zero, List.set_cons_succ, List.drop_succ_cons, List.drop_zero]
 go_wp2
 go_ret
 exact ⟨rfl, hW.trans (hR.of_priv hW.size)⟩
def NI (z : Int) : Spec := fun v w => NumIs w v z
theorem NI.closed (z : Int) : Closed [] (NI z) := fun _ _ _ hr h => NumIs.rex h hr rfl
theorem divN {m n Q R : Nat} (hn : 0 < n) (hQ : m / n = Q) (hR : m % n = R) : (m : Int) / (n : Int) = Q /\ (m : Int) % (n : Int) = R := by
 subst hQ hR; exact ⟨by simp, by simp⟩
theorem divN0 {m n Q : Nat} (hn : 0 < n) (hQ : m / n = Q) (hR : m % n = 0) : (-(m : Int)) / (n : Int) = -(Q : Int) /\ (-(m : Int)) % (n : Int) = 0 := by
 have h := Nat.div_add_mod m n
 rw [hQ, hR] at h
 refine (Int.ediv_emod_unique (by omega)).2 ⟨?_, by omega, by omega⟩
 have : ((n * Q : Nat) : Int) = m := by omega
 rw [Int.natCast_mul] at this
 rw [Int.mul_neg]; omega
theorem divN1 {m n Q R : Nat} (hn : 0 < n) (hQ : m / n = Q) (hR : m % n = R) (h0 : 0 < R) : (-(m : Int)) / (n : Int) = -((Q + 1 : Nat) : Int) /\ (-(m : Int)) % (n : Int) = ((n - R : Nat) : Int) := by
 have h := Nat.div_add_mod m n
 have hl := Nat.mod_lt m hn
 rw [hQ, hR] at h
 rw [hR] at hl
 refine (Int.ediv_emod_unique (by omega)).2 ⟨?_, by omega, by omega⟩
 have : ((n * Q : Nat) : Int) + R = m := by omega
 rw [Int.natCast_mul] at this
 rw [Int.mul_neg, show ((Q + 1 : Nat) : Int) = (Q : Int) + 1 by omega, Int.mul_add]
 omega
theorem c_refDiv (va vb : Value) (x y : Int) (w : World) (ha : NumIs w va x) (hb : NumIs w vb y) (hx : x.natAbs < 2 ^ 800) (hy0 : 0 < y) (hy : y.natAbs < 2 ^ 800) :
  Calls Tryz.prog 81 #[va, vb] w fun e w' => ∃ v1 v2, e = .returned (.tuple #[v1, v2]) /\ NumIs w' v1 (x / y) /\ NumIs w' v2 (x % y) /\ Below w.heap.size w w' := by
 obtain ⟨pa, la, ca, rfl, ha'⟩ := num_shape ha
 obtain ⟨pb, lb, cb, rfl, hb'⟩ := num_shape hb
 rw [decide_eq_false (show ¬ y < 0 by omega)]
 obtain ⟨n, rfl⟩ : ∃ n : Nat, y = (n : Int) := ⟨y.toNat, by omega⟩
 have hn0 : 0 < n := by omega
 rw [Int.natAbs_natCast] at hb' hy
 obtain ⟨Q, hQ⟩ : ∃ Q, x.natAbs / n = Q := ⟨_, rfl⟩
 obtain ⟨R, hR⟩ : ∃ R, x.natAbs % n = R := ⟨_, rfl⟩
 by_cases hneg : x < 0
 ·rw [decide_eq_true hneg]
  obtain ⟨m, rfl⟩ : ∃ m : Nat, x = -(m : Int) := ⟨x.natAbs, by omega⟩
  rw [Int.natAbs_neg, Int.natAbs_natCast] at ha' hx hQ hR
  rcases Nat.eq_zero_or_pos R with h0 | h0
  ·refine (div_zero pa pb la ca lb cb m n Q R w ha' hb' hx (Lib.hid hQ) (Lib.hid hR) hn0 hy h0).mono ?_
   rintro e w' ⟨s1, s2, rfl, h1, h2, hB⟩
   subst h0
   obtain ⟨e1, e2⟩ := divN0 hn0 hQ hR
   rw [e1, e2]
   refine ⟨_, _, rfl, num_made h1 (by omega) ?_, ⟨s2, rfl, h2⟩, hB⟩
   rw [Bool.true_and]; exact decide_eq_decide.2 ⟨fun h => by omega, fun h => by omega⟩
  ·have hl := Nat.mod_lt m hn0
   rw [hR] at hl
   have hQm : Q <= m := by rw [<- hQ]; exact Nat.div_le_self _ _
   have big := pow_lt2 800 900 (by omega)
   refine (div_rest pa pb la ca lb cb m n Q R w ha' hb' hx (Lib.hid hQ) (Lib.hid hR) hn0 hy h0 (by omega) (by omega) (by omega)).mono ?_
   rintro e w' ⟨s1, s2, rfl, h1, h2, hB⟩
   obtain ⟨e1, e2⟩ := divN1 hn0 hQ hR h0
   rw [e1, e2]
   refine ⟨_, _, rfl, ⟨s1, by rw [decide_eq_true (show -((Q + 1 : Nat) : Int) < 0 by omega)], by rw [Int.natAbs_neg, Int.natAbs_natCast]; exact h1⟩, ⟨s2, by rw [decide_eq_false (show ¬ ((n - R : Nat) : Int) < 0 by omega)], by rw [Int.natAbs_natCast]; exact h2⟩, hB⟩
 ·rw [decide_eq_false hneg]
  obtain ⟨m, rfl⟩ : ∃ m : Nat, x = (m : Int) := ⟨x.toNat, by omega⟩
  rw [Int.natAbs_natCast] at ha' hx hQ hR
  refine (div_plain false pa pb la ca lb cb m n Q R w ha' hb' hx (Lib.hid hQ) (Lib.hid hR) hn0 hy rfl).mono ?_
  rintro e w' ⟨s1, s2, rfl, h1, h2, hB⟩
  obtain ⟨e1, e2⟩ := divN hn0 hQ hR
  rw [e1, e2]
  refine ⟨_, _, rfl, ⟨s1, by rw [decide_eq_false (show ¬ (Q : Int) < 0 by omega)]; rfl, by rw [Int.natAbs_natCast]; exact h1⟩, ⟨s2, by rw [decide_eq_false (show ¬ (R : Int) < 0 by omega)], by rw [Int.natAbs_natCast]; exact h2⟩, hB⟩
theorem rtimes_w (A R n d t : Int) (w : World) (hn : -9223372036854775808 <= n /\ n <= 9223372036854775807) (ht : -9223372036854775808 <= t /\ t <= 9223372036854775807) (hRR : -9223372036854775808 <= R /\ R <= 9223372036854775807) (hA : -9223372036854775808 <= A /\ A <= 9223372036854775807) (hd : -9223372036854775808 <= d /\ d <= 9223372036854775807)
  (hn4 : n.natAbs < 2 ^ 400) (ht4 : t.natAbs < 2 ^ 400) (hA4 : A.natAbs < 2 ^ 400) (hd4 : d.natAbs < 2 ^ 400) (hnt9 : (n * t).natAbs < 2 ^ 900) (hR9 : R.natAbs < 2 ^ 900) (hs9 : (n * t + R).natAbs < 2 ^ 900) (hAd9 : (A * d).natAbs < 2 ^ 900) :
  Calls Tryz.prog 82 #[.agg #[.int .i64 A, .int .i64 R, .int .i64 n, .int .i64 d], .int .i64 t] w fun e w' => ∃ v, e = .returned v /\ NumIs w' v (n * t + R + A * d) /\ Below w.heap.size w w' := by
 go_enter Tryz.func82, Tryz.ntmps82
 go_upto_region 1 with (fail)
 refine wp_cutB w (Bc w.heap.size #[.int .i64 A, .int .i64 R, .int .i64 n, .int .i64 d] 26 <| Bc (w.heap.size + 1) #[.bool false, .slice none 0 0] 140 <| Bz) ?_
 rintro W1 hW z2 ⟨⟨b1, yb1, k1, f1⟩, ⟨b2, yb2, k2, f2⟩, -⟩
 refine wp_region_nd 11 25 [] (fun W' => Rex [] W1 W' /\ Blk W' w.heap.size #[.int .i64 A, .int .i64 R, .int .i64 n, .int .i64 d] 26 /\ Blk W' (w.heap.size + 1) #[.bool false, .slice none 0 0] 140) mixed (by kernel_rfl) rfl ⟨(Rex.refl _ _).drew, b1, b2⟩ (fun w w' ⟨h0, h1, h2⟩ hr => ⟨h0.trans hr, h1.rex hr (by simp <;> omega), h2.rex hr (by simp <;> omega)⟩) (fun c a d v w h => by cases d <;> exact h) ?_
 iterate 2
  apply nd_det (hg := rfl) (hal := rfl)
  ·intro a W' hC hE
   obtain ⟨_, k1, k2⟩ := hC
   have k1 := k1.cell
   first
    | (simp at hE; simp [go_sem, Act.eval, IntWalk.i64_left, hE, k1, k2]; try rfl)
    | (clear hE; simp [go_sem, Act.eval, IntWalk.i64_left, k1, k2]; try rfl)
 apply nd_call (NI (n)) (hg := rfl) (hal := rfl)
 ·exact NI.closed _
 ·intro a W' hC hE
  simp at hE
  refine ⟨_, _, ?_, (c_refInt n W' hn.1 hn.2).mono ?_⟩
  ·simp [go_sem, Act.eval, hE]
   try rfl
  ·rintro e w' ⟨v, rfl, hB, hR⟩
   exact ⟨_, rfl, hR, hB⟩
 iterate 1
  apply nd_det (hg := rfl) (hal := rfl)
  ·intro a W' hC hE
   obtain ⟨_, k1, k2⟩ := hC
   have k1 := k1.cell
   first
    | (simp at hE; simp [go_sem, Act.eval, IntWalk.i64_left, hE, k1, k2]; try rfl)
    | (clear hE; simp [go_sem, Act.eval, IntWalk.i64_left, k1, k2]; try rfl)
 apply nd_call (NI (t)) (hg := rfl) (hal := rfl)
 ·exact NI.closed _
 ·intro a W' hC hE
  simp at hE
  refine ⟨_, _, ?_, (c_refInt t W' ht.1 ht.2).mono ?_⟩
  ·simp [go_sem, Act.eval, hE]
   try rfl
  ·rintro e w' ⟨v, rfl, hB, hR⟩
   exact ⟨_, rfl, hR, hB⟩
 apply nd_call (NI (n * t)) (hg := rfl) (hal := rfl)
 ·exact NI.closed _
 ·intro a W' hC hE
  simp at hE
  refine ⟨_, _, ?_, (c_refMul _ _ n t W' hE.1 hE.2 hn4 ht4).mono ?_⟩
  ·simp [go_sem, Act.eval]
   try rfl
  ·rintro e w' ⟨v, rfl, hB, hR⟩
   exact ⟨_, rfl, hR, hB⟩
 iterate 2
  apply nd_det (hg := rfl) (hal := rfl)
  ·intro a W' hC hE
   obtain ⟨_, k1, k2⟩ := hC
   have k1 := k1.cell
   first
    | (simp at hE; simp [go_sem, Act.eval, IntWalk.i64_left, hE, k1, k2]; try rfl)
    | (clear hE; simp [go_sem, Act.eval, IntWalk.i64_left, k1, k2]; try rfl)
 apply nd_call (NI (R)) (hg := rfl) (hal := rfl)
 ·exact NI.closed _
 ·intro a W' hC hE
  simp at hE
  refine ⟨_, _, ?_, (c_refInt R W' hRR.1 hRR.2).mono ?_⟩
  ·simp [go_sem, Act.eval, hE]
   try rfl
  ·rintro e w' ⟨v, rfl, hB, hR⟩
   exact ⟨_, rfl, hR, hB⟩
 apply nd_call (NI (n * t + R)) (hg := rfl) (hal := rfl)
 ·exact NI.closed _
 ·intro a W' hC hE
  simp at hE
  refine ⟨_, _, ?_, (c_refAdd _ _ (n * t) R W' hE.1 hE.2 hnt9 hR9).mono ?_⟩
  ·simp [go_sem, Act.eval]
   try rfl
  ·rintro e w' ⟨v, rfl, hB, hR⟩
   exact ⟨_, rfl, hR, hB⟩
 apply nd_alloc W1.heap.size #[.bool false, .slice none 0 0] 140 rfl rfl
 ·exact fun W' hC => hC.1.size
 ·simp [others] <;> omega
 ·intro w; kernel_rfl
 rintro W2 ⟨hR, d1, d2⟩
 simp only [ndFinR, Det, forall_eq]
 intros
 repeat (rename GDet _ _ _ _ => hgd; clear hgd)
 simp only [Act.put, List.setIfInBounds_toArray, List.set_cons_zero, List.set_cons_succ, List.drop_succ_cons, List.drop_zero]
 clear b1 b2
 have b1 := d1
 have b2 := d2
 clear d1 d2
 replace hW := hW.trans (hR.of_priv hW.size)
 clear hR
 obtain ⟨o3, rfl, hg3, b3⟩ := ‹NewVar _ _ _ _ _›
 rename NI (n * t + R) _ _ => hq
 obtain ⟨p1, l1, k1', rfl, hq1⟩ := num_shape hq
 replace hq1 := Lib.hid hq1
 clear hq
 have z9 := hW.size
 have z10 := b1.lt
 have z11 := b2.lt
 have z12 := b3.lt
 clear k1 f1 k2 f2
 have k1 := b1.cell
 have f1 := b1.frozen
 have k2 := b2.cell
 have f2 := b2.frozen
 have k3 := b3.cell
 have f3 := b3.frozen
 have hq2 := Lib.hid (hq1.out.store b3 (.bool (decide (n * t + R < 0))) (.slice p1 l1 k1'))
 go_upto_region 2 with (fail)
 clear k1 f1 k2 f2 k3 f3
 refine wp_cutB w (Bc w.heap.size #[.int .i64 A, .int .i64 R, .int .i64 n, .int .i64 d] 26 <| Bc (w.heap.size + 1) #[.bool false, .slice none 0 0] 140 <| Bc o3 #[.bool (decide (n * t + R < 0)), .slice p1 l1 k1'] 140 <| Rc (fun W' => Bits W' (.slice p1 l1 k1') (n * t + R).natAbs) <| Bz) ?_ (hI := by exact belowAny) (hR := (Bc.mk (by exact blkAny2) <| Bc.mk (by exact blkAny2) <| Bc.mk (by exact blkAny2) <| Rc.mk (by exact hq2.out) <| trivial))
 clear b1 b2 b3 hW
 rintro W3 hW z4 ⟨⟨b1, yb1, k1, f1⟩, ⟨b2, yb2, k2, f2⟩, ⟨b3, yb3, k3, f3⟩, b4, -⟩
 refine wp_region_nd 9 25 [] (fun W' => Rex [] W3 W' /\ Blk W' w.heap.size #[.int .i64 A, .int .i64 R, .int .i64 n, .int .i64 d] 26 /\ Blk W' (w.heap.size + 1) #[.bool false, .slice none 0 0] 140 /\ Blk W' o3 #[.bool (decide (n * t + R < 0)), .slice p1 l1 k1'] 140 /\ Bits W' (.slice p1 l1 k1') (n * t + R).natAbs) mixed (by kernel_rfl) rfl ⟨(Rex.refl _ _).drew, b1, b2, b3, b4.drew⟩ (fun w w' ⟨h0, h1, h2, h3, h4⟩ hr => ⟨h0.trans hr, h1.rex hr (by simp <;> omega), h2.rex hr (by simp <;> omega), h3.rex hr (by simp <;> omega), h4.rex hr (by simp <;> omega)⟩) (fun c a d v w h => by cases d <;> exact h) ?_
 iterate 3
  apply nd_det (hg := rfl) (hal := rfl)
  ·intro a W' hC hE
   obtain ⟨_, k1, k2, k3, k4⟩ := hC
   have k1 := k1.cell
   have k3 := k3.cell
   first
    | (simp at hE; simp [go_sem, Act.eval, IntWalk.i64_left, hE, k1, k2, k3, k4]; try rfl)
    | (clear hE; simp [go_sem, Act.eval, IntWalk.i64_left, k1, k2, k3, k4]; try rfl)
 apply nd_call (NI (A)) (hg := rfl) (hal := rfl)
 ·exact NI.closed _
 ·intro a W' hC hE
  simp at hE
  refine ⟨_, _, ?_, (c_refInt A W' hA.1 hA.2).mono ?_⟩
  ·simp [go_sem, Act.eval, hE]
   try rfl
  ·rintro e w' ⟨v, rfl, hB, hR⟩
   exact ⟨_, rfl, hR, hB⟩
 iterate 2
  apply nd_det (hg := rfl) (hal := rfl)
  ·intro a W' hC hE
   obtain ⟨_, k1, k2, k3, k4⟩ := hC
   have k1 := k1.cell
   have k3 := k3.cell
   first
    | (simp at hE; simp [go_sem, Act.eval, IntWalk.i64_left, hE, k1, k2, k3, k4]; try rfl)
    | (clear hE; simp [go_sem, Act.eval, IntWalk.i64_left, k1, k2, k3, k4]; try rfl)
 apply nd_call (NI (d)) (hg := rfl) (hal := rfl)
 ·exact NI.closed _
 ·intro a W' hC hE
  simp at hE
  refine ⟨_, _, ?_, (c_refInt d W' hd.1 hd.2).mono ?_⟩
  ·simp [go_sem, Act.eval, hE]
   try rfl
  ·rintro e w' ⟨v, rfl, hB, hR⟩
   exact ⟨_, rfl, hR, hB⟩
 apply nd_call (NI (A * d)) (hg := rfl) (hal := rfl)
 ·exact NI.closed _
 ·intro a W' hC hE
  simp at hE
  refine ⟨_, _, ?_, (c_refMul _ _ A d W' hE.1 hE.2 hA4 hd4).mono ?_⟩
  ·simp [go_sem, Act.eval]
   try rfl
  ·rintro e w' ⟨v, rfl, hB, hR⟩
   exact ⟨_, rfl, hR, hB⟩
 apply nd_call (NI (n * t + R + A * d)) (hg := rfl) (hal := rfl)
 ·exact NI.closed _
 ·intro a W' hC hE
  simp at hE
  refine ⟨_, _, ?_, (c_refAdd (.agg #[.bool (decide (n * t + R < 0)), .slice p1 l1 k1']) _ (n * t + R) (A * d) W' ⟨_, rfl, hC.2.2.2.2⟩ hE.2 hs9 hAd9).mono ?_⟩
  ·simp [go_sem, Act.eval, hE.1]
   try rfl
  ·rintro e w' ⟨v, rfl, hB, hR⟩
   exact ⟨_, rfl, hR, hB⟩
 rintro W4 ⟨hR, d1, d2, d3, d4⟩
 simp only [ndFinR, Det, forall_eq]
 intros
 repeat (rename GDet _ _ _ _ => hgd; clear hgd)
 simp only [Act.put, List.setIfInBounds_toArray, List.set_cons_zero, List.set_cons_succ, List.drop_succ_cons, List.drop_zero]
 clear b1 b2 b3 b4
 have b1 := d1
 have b2 := d2
 have b3 := d3
 clear d1 d2 d3 d4
 replace hW := hW.trans (hR.of_priv hW.size)
 clear hR
 rename NI (n * t + R + A * d) _ _ => hq
 obtain ⟨p2, l2, k2', rfl, hq3⟩ := num_shape hq
 replace hq3 := Lib.hid hq3
 clear hq
 clear k1 f1 k2 f2 k3 f3
 have k1 := b1.cell
 have f1 := b1.frozen
 have k2 := b2.cell
 have f2 := b2.frozen
 have k3 := b3.cell
 have f3 := b3.frozen
 have y_1 := b1.lt
 have y_2 := b2.lt
 have y_3 := b3.lt
 obtain ⟨B, hB⟩ : ∃ B, B = (decide (n * t + R + A * d < 0)) := ⟨_, rfl⟩
 rw [<- hB]
 replace hB := Lib.hid hB
 go_wp2
 refine bodyPost_ret (v := .agg #[.bool B, .slice p2 l2 k2']) (by simp [results, Tryz.results82, go_sem, k1, f1, k2, f2, k3, f3, y_1, y_2, y_3]) rfl ⟨_, rfl, ⟨_, by rw [hB.out], ?_⟩, by exact belowAny⟩
 have hS := hq3.out.store b2 (.bool B) (.slice p2 l2 k2')
 simpa using hS
def DV (x y : Int) : Spec := fun v w => ∃ v1 v2, v = .tuple #[v1, v2] /\ NumIs w v1 (x / y) /\ NumIs w v2 (x % y)
theorem DV.closed (x y : Int) : Closed [] (DV x y) := fun _ _ _ hr ⟨v1, v2, e, h1, h2⟩ => ⟨v1, v2, e, h1.rex hr rfl, h2.rex hr rfl⟩
theorem rat_yes (A R n d t X : Int) (w : World) (hd : -9223372036854775808 <= d /\ d <= 9223372036854775807) (hX : X.natAbs < 2 ^ 800) (hd0 : 0 < d) (hd8 : d.natAbs < 2 ^ 800)
  (c1 : ∀ W, Calls Tryz.prog 82 #[.agg #[.int .i64 A, .int .i64 R, .int .i64 n, .int .i64 d], .int .i64 t] W fun e w' => ∃ v, e = .returned v /\ NumIs w' v X /\ Below W.heap.size W w')
  (c2 : ∀ W va, NumIs W va (X / d) -> Calls Tryz.prog 84 #[va] W fun e w' => e = .returned (.tuple #[.int .i64 (X / d), .bool true]) /\ Below W.heap.size W w') (hb : isBack (X / d) = true) :
  Calls Tryz.prog 60 #[.agg #[.int .i64 A, .int .i64 R, .int .i64 n, .int .i64 d], .int .i64 t] w fun e w' => e = .returned (.tuple #[.int .i64 (X / d), .bool true]) /\ Below w.heap.size w w' := by
 have H_c1 := Lib.hid c1
 clear c1
 have H_c2 := Lib.hid c2
 clear c2
 go_enter Tryz.func60, Tryz.ntmps60
 go_upto_region 1 with (fail)
 refine wp_cutB w (Bc w.heap.size #[.int .i64 A, .int .i64 R, .int .i64 n, .int .i64 d] 26 <| Bz) ?_
 rintro W1 hW z2 ⟨⟨b1, yb1, k1, f1⟩, -⟩
 have c1 := H_c1.out
 refine wp_region_ndA 12 33 [] (fun W' => Rex [] W1 W' /\ Blk W' w.heap.size #[.int .i64 A, .int .i64 R, .int .i64 n, .int .i64 d] 26) mixed (by kernel_rfl) rfl ⟨(Rex.refl _ _).drew, b1⟩ (fun w w' ⟨h0, h1⟩ hr => ⟨h0.trans hr, h1.rex hr (by simp <;> omega)⟩) (fun c a d v w h => by cases d <;> exact h) ?_
 iterate 2
  apply nd_det (hg := rfl) (hal := rfl)
  ·intro a W' hC hE
   obtain ⟨_, k1⟩ := hC
   have k1 := k1.cell
   first
    | (simp at hE; simp [go_sem, Act.eval, IntWalk.i64_left, hE, k1]; try rfl)
    | (clear hE; simp [go_sem, Act.eval, IntWalk.i64_left, k1]; try rfl)
 apply nd_call (NI X) (hg := rfl) (hal := rfl)
 ·exact NI.closed _
 ·intro a W' hC hE
  obtain ⟨_, k1⟩ := hC
  have k1 := k1.cell
  simp at hE
  refine ⟨_, _, ?_, (c1 W').mono ?_⟩
  ·simp [go_sem, Act.eval, hE]
   try rfl
  ·rintro e w' ⟨v, rfl, hB, hR⟩
   exact ⟨_, rfl, hR, hB⟩
 iterate 2
  apply nd_det (hg := rfl) (hal := rfl)
  ·intro a W' hC hE
   obtain ⟨_, k1⟩ := hC
   have k1 := k1.cell
   first
    | (simp at hE; simp [go_sem, Act.eval, IntWalk.i64_left, hE, k1]; try rfl)
    | (clear hE; simp [go_sem, Act.eval, IntWalk.i64_left, k1]; try rfl)
 apply nd_call (NI d) (hg := rfl) (hal := rfl)
 ·exact NI.closed _
 ·intro a W' hC hE
  simp at hE
  refine ⟨_, _, ?_, (c_refInt d W' hd.1 hd.2).mono ?_⟩
  ·simp [go_sem, Act.eval, hE]
   try rfl
  ·rintro e w' ⟨v, rfl, hB, hR⟩
   exact ⟨_, rfl, hR, hB⟩
 apply nd_call (DV X d) (hg := rfl) (hal := rfl)
 ·exact DV.closed _ _
 ·intro a W' hC hE
  simp at hE
  refine ⟨_, _, ?_, (c_refDiv _ _ X d W' hE.1 hE.2 hX hd0 hd8).mono ?_⟩
  ·simp [go_sem, Act.eval]
   try rfl
  ·rintro e w' ⟨v1, v2, rfl, h1, h2, hR⟩
   exact ⟨_, rfl, hR, v1, v2, rfl, h1, h2⟩
 apply nd_spec (DV X d) (hg := rfl) (hal := rfl)
 ·exact DV.closed _ _
 ·intro a W' hC hE
  simp at hE
  refine ⟨_, ?_, hE⟩
  simp [go_sem, Act.eval]
 apply nd_spec (NI (X / d)) (hg := rfl) (hal := rfl)
 ·exact NI.closed _
 ·intro a W' hC hE
  simp at hE
  obtain ⟨v1, v2, h0, h1, h2⟩ := hE
  refine ⟨v1, ?_, h1⟩
  simp [go_sem, Act.eval, h0]
 apply nd_spec (NI (X % d)) (hg := rfl) (hal := rfl)
 ·exact NI.closed _
 ·intro a W' hC hE
  simp at hE
  obtain ⟨v1, v2, h0, h1, h2⟩ := hE
  refine ⟨v2, ?_, h2⟩
  simp [go_sem, Act.eval, h0]
 apply nd_alloc W1.heap.size #[.bool false, .slice none 0 0] 140 rfl rfl
 ·exact fun W' hC => hC.1.size
 ·simp [others] <;> omega
 ·intro w; kernel_rfl
 apply nd_alloc W1.heap.size #[.bool false, .slice none 0 0] 140 rfl rfl
 ·exact fun W' hC => hC.1.size
 ·simp [others] <;> omega
 ·intro w; kernel_rfl
 rintro W2 ⟨hR, d1⟩
 simp only [ndFinR, Det, forall_eq]
 intros
 repeat (rename GDet _ _ _ _ => hgd; clear hgd)
 simp only [Act.put, List.setIfInBounds_toArray, List.set_cons_zero, List.set_cons_succ, List.drop_succ_cons, List.drop_zero]
 clear b1
 have b1 := d1
 clear d1
 replace hW := hW.trans (hR.of_priv hW.size)
 clear hR
 clear H_c1
 try clear c1
 rename AllocApart _ _ => hap
 rename NewVar _ _ _ _ _ => hn7
 obtain ⟨o7, rfl, hg7, b3⟩ := hn7
 rename NewVar _ _ _ _ _ => hn6
 obtain ⟨o6, rfl, hg6, b2⟩ := hn6
 have hne : o6 ≠ o7 := fun e => hap 6 7 (by simp [allocDsts, isAlloc]) (by simp [allocDsts, isAlloc]) (by decide) ⟨o6, 0, none⟩ (by simp [Act.put]) (by simp [Act.put, e])
 clear hap
 rename NI (X / d) _ _ => hi1
 rename NI (X % d) _ _ => hi2
 obtain ⟨p1, l1, k1', rfl, hq1⟩ := num_shape hi1
 obtain ⟨p2, l2, k2', rfl, hq2⟩ := num_shape hi2
 clear hi1 hi2 hq2
 have hS := Lib.hid ((hq1.store b2 (.bool (decide (X / d < 0))) (.slice p1 l1 k1')).store (show Blk _ o7 #[.bool false, .slice none 0 0] 140 from (b3.setO (by omega) 0 _).setO (by omega) 1 _) (.bool (decide (X % d < 0))) (.slice p2 l2 k2'))
 clear hq1
 have z9 := hW.size
 have z10 := b1.lt
 have z11 := b2.lt
 have z12 := b3.lt
 clear k1 f1
 have k1 := b1.cell
 have f1 := b1.frozen
 have k2 := b2.cell
 have f2 := b2.frozen
 have k3 := b3.cell
 have f3 := b3.frozen
 go_upto_region 2 with (fail)
 clear k1 f1 k2 f2 k3 f3
 refine wp_cutB w (Bc o6 #[.bool (decide (X / d < 0)), .slice p1 l1 k1'] 140 <| Rc (fun W' => Bits W' (.slice p1 l1 k1') (X / d).natAbs) <| Bz) ?_ (hI := by exact belowAny) (hR := (Bc.mk (by exact blkAny2) <| Rc.mk (by exact hS.out) <| trivial))
 clear b1 b2 b3 hW
 rintro W3 hW z4 ⟨⟨b1, yb1, k1, f1⟩, b2, -⟩
 have hq := Lib.hid b2
 clear b2 hS
 go_wp2_with fail
 refine (H_c2.out _ _ ⟨_, rfl, hq.out⟩).mono ?_
 rintro e w5 ⟨rfl, hb5⟩
 have z6 := hb5.size
 try simp at z6
 clear k1 f1
 refine haveB w w5 (Bc o6 #[.bool (decide (X / d < 0)), .slice p1 l1 k1'] 140 <| Bz) ?_
 clear b1 hW
 rintro hW z7 ⟨⟨b1, yb1, k1, f1⟩, -⟩
 clear hb5
 go_upto_region 3 with (fail)
 clear k1 f1
 refine wp_cutB w (Bc o6 #[.bool (decide (X / d < 0)), .slice p1 l1 k1'] 140 <| Bz) ?_
 clear b1 hW
 rintro W8 hW z9 hL
 refine wp_regS 7 33 hW hL ?_
 iterate 3 refine dE (fun W' hC => hb) ?_
 refine gE (fun W' hC => hb) ?_
 apply nd_callvg2 (p := true) (hg := rfl) (hd := rfl) (hal := rfl)
 ·intro v W' h
  simp at h
  simp
  exact h
 ·intro hp hx W' hC
  exact c_rback (X / d) W'
 ·intro hp hx a W' hC hE
  obtain ⟨_, ⟨-, -, k1, -⟩, -⟩ := hC
  first
   | (simp [hx] at hE; simp [go_sem, Act.eval, IntWalk.i64_left, hE, k1, hb]; try rfl)
   | (clear hE; simp [go_sem, Act.eval, IntWalk.i64_left, k1, hb]; try rfl)
 refine gE (fun W' hC => hb) ?_
 refine pO ?_
 clear hW hL
 rintro W10 hW z11 hL
 simp only [ndR]
 intros
 repeat (rename GDet _ _ _ _ => hgd; clear hgd)
 simp only [ndS]
 refine wpList_nil ?_
 obtain ⟨⟨b1, yb1, k1, f1⟩, -⟩ := hL
 go_wp2
 refine bodyPost_ret (v := .tuple #[.int .i64 (X / d), .bool true]) (by simp [results, Tryz.results60, go_sem, k1, f1, yb1]) rfl ⟨rfl, hW⟩
theorem rat_back (A R n d t X : Int) (w : World) (hd : -9223372036854775808 <= d /\ d <= 9223372036854775807) (hX : X.natAbs < 2 ^ 800) (hd0 : 0 < d) (hd8 : d.natAbs < 2 ^ 800)
  (c1 : ∀ W, Calls Tryz.prog 82 #[.agg #[.int .i64 A, .int .i64 R, .int .i64 n, .int .i64 d], .int .i64 t] W fun e w' => ∃ v, e = .returned v /\ NumIs w' v X /\ Below W.heap.size W w')
  (c2 : ∀ W va, NumIs W va (X / d) -> Calls Tryz.prog 84 #[va] W fun e w' => e = .returned (.tuple #[.int .i64 (X / d), .bool true]) /\ Below W.heap.size W w') (hb : isBack (X / d) = false) :
  Calls Tryz.prog 60 #[.agg #[.int .i64 A, .int .i64 R, .int .i64 n, .int .i64 d], .int .i64 t] w fun e w' => e = .returned (.tuple #[.int .i64 0, .bool false]) /\ Below w.heap.size w w' := by
 have H_c1 := Lib.hid c1
 clear c1
 have H_c2 := Lib.hid c2
 clear c2
 go_enter Tryz.func60, Tryz.ntmps60
 go_upto_region 1 with (fail)
 refine wp_cutB w (Bc w.heap.size #[.int .i64 A, .int .i64 R, .int .i64 n, .int .i64 d] 26 <| Bz) ?_
 rintro W1 hW z2 ⟨⟨b1, yb1, k1, f1⟩, -⟩
 have c1 := H_c1.out
 refine wp_region_ndA 12 33 [] (fun W' => Rex [] W1 W' /\ Blk W' w.heap.size #[.int .i64 A, .int .i64 R, .int .i64 n, .int .i64 d] 26) mixed (by kernel_rfl) rfl ⟨(Rex.refl _ _).drew, b1⟩ (fun w w' ⟨h0, h1⟩ hr => ⟨h0.trans hr, h1.rex hr (by simp <;> omega)⟩) (fun c a d v w h => by cases d <;> exact h) ?_
 iterate 2
  apply nd_det (hg := rfl) (hal := rfl)
  ·intro a W' hC hE
   obtain ⟨_, k1⟩ := hC
   have k1 := k1.cell
   first
    | (simp at hE; simp [go_sem, Act.eval, IntWalk.i64_left, hE, k1]; try rfl)
    | (clear hE; simp [go_sem, Act.eval, IntWalk.i64_left, k1]; try rfl)
 apply nd_call (NI X) (hg := rfl) (hal := rfl)
 ·exact NI.closed _
 ·intro a W' hC hE
  obtain ⟨_, k1⟩ := hC
  have k1 := k1.cell
  simp at hE
  refine ⟨_, _, ?_, (c1 W').mono ?_⟩
  ·simp [go_sem, Act.eval, hE]
   try rfl
  ·rintro e w' ⟨v, rfl, hB, hR⟩
   exact ⟨_, rfl, hR, hB⟩
 iterate 2
  apply nd_det (hg := rfl) (hal := rfl)
  ·intro a W' hC hE
   obtain ⟨_, k1⟩ := hC
   have k1 := k1.cell
   first
    | (simp at hE; simp [go_sem, Act.eval, IntWalk.i64_left, hE, k1]; try rfl)
    | (clear hE; simp [go_sem, Act.eval, IntWalk.i64_left, k1]; try rfl)
 apply nd_call (NI d) (hg := rfl) (hal := rfl)
 ·exact NI.closed _
 ·intro a W' hC hE
  simp at hE
  refine ⟨_, _, ?_, (c_refInt d W' hd.1 hd.2).mono ?_⟩
  ·simp [go_sem, Act.eval, hE]
   try rfl
  ·rintro e w' ⟨v, rfl, hB, hR⟩
   exact ⟨_, rfl, hR, hB⟩
 apply nd_call (DV X d) (hg := rfl) (hal := rfl)
 ·exact DV.closed _ _
 ·intro a W' hC hE
  simp at hE
  refine ⟨_, _, ?_, (c_refDiv _ _ X d W' hE.1 hE.2 hX hd0 hd8).mono ?_⟩
  ·simp [go_sem, Act.eval]
   try rfl
  ·rintro e w' ⟨v1, v2, rfl, h1, h2, hR⟩
   exact ⟨_, rfl, hR, v1, v2, rfl, h1, h2⟩
 apply nd_spec (DV X d) (hg := rfl) (hal := rfl)
 ·exact DV.closed _ _
 ·intro a W' hC hE
  simp at hE
  refine ⟨_, ?_, hE⟩
  simp [go_sem, Act.eval]
 apply nd_spec (NI (X / d)) (hg := rfl) (hal := rfl)
 ·exact NI.closed _
 ·intro a W' hC hE
  simp at hE
  obtain ⟨v1, v2, h0, h1, h2⟩ := hE
  refine ⟨v1, ?_, h1⟩
  simp [go_sem, Act.eval, h0]
 apply nd_spec (NI (X % d)) (hg := rfl) (hal := rfl)
 ·exact NI.closed _
 ·intro a W' hC hE
  simp at hE
  obtain ⟨v1, v2, h0, h1, h2⟩ := hE
  refine ⟨v2, ?_, h2⟩
  simp [go_sem, Act.eval, h0]
 apply nd_alloc W1.heap.size #[.bool false, .slice none 0 0] 140 rfl rfl
 ·exact fun W' hC => hC.1.size
 ·simp [others] <;> omega
 ·intro w; kernel_rfl
 apply nd_alloc W1.heap.size #[.bool false, .slice none 0 0] 140 rfl rfl
 ·exact fun W' hC => hC.1.size
 ·simp [others] <;> omega
 ·intro w; kernel_rfl
 rintro W2 ⟨hR, d1⟩
 simp only [ndFinR, Det, forall_eq]
 intros
 repeat (rename GDet _ _ _ _ => hgd; clear hgd)
 simp only [Act.put, List.setIfInBounds_toArray, List.set_cons_zero, List.set_cons_succ, List.drop_succ_cons, List.drop_zero]
 clear b1
 have b1 := d1
 clear d1
 replace hW := hW.trans (hR.of_priv hW.size)
 clear hR
 clear H_c1
 try clear c1
 rename AllocApart _ _ => hap
 rename NewVar _ _ _ _ _ => hn7
 obtain ⟨o7, rfl, hg7, b3⟩ := hn7
 rename NewVar _ _ _ _ _ => hn6
 obtain ⟨o6, rfl, hg6, b2⟩ := hn6
 have hne : o6 ≠ o7 := fun e => hap 6 7 (by simp [allocDsts, isAlloc]) (by simp [allocDsts, isAlloc]) (by decide) ⟨o6, 0, none⟩ (by simp [Act.put]) (by simp [Act.put, e])
 clear hap
 rename NI (X / d) _ _ => hi1
 rename NI (X % d) _ _ => hi2
 obtain ⟨p1, l1, k1', rfl, hq1⟩ := num_shape hi1
 obtain ⟨p2, l2, k2', rfl, hq2⟩ := num_shape hi2
 clear hi1 hi2 hq2
 have hS := Lib.hid ((hq1.store b2 (.bool (decide (X / d < 0))) (.slice p1 l1 k1')).store (show Blk _ o7 #[.bool false, .slice none 0 0] 140 from (b3.setO (by omega) 0 _).setO (by omega) 1 _) (.bool (decide (X % d < 0))) (.slice p2 l2 k2'))
 clear hq1
 have z9 := hW.size
 have z10 := b1.lt
 have z11 := b2.lt
 have z12 := b3.lt
 clear k1 f1
 have k1 := b1.cell
 have f1 := b1.frozen
 have k2 := b2.cell
 have f2 := b2.frozen
 have k3 := b3.cell
 have f3 := b3.frozen
 go_upto_region 2 with (fail)
 clear k1 f1 k2 f2 k3 f3
 refine wp_cutB w (Bc o6 #[.bool (decide (X / d < 0)), .slice p1 l1 k1'] 140 <| Rc (fun W' => Bits W' (.slice p1 l1 k1') (X / d).natAbs) <| Bz) ?_ (hI := by exact belowAny) (hR := (Bc.mk (by exact blkAny2) <| Rc.mk (by exact hS.out) <| trivial))
 clear b1 b2 b3 hW
 rintro W3 hW z4 ⟨⟨b1, yb1, k1, f1⟩, b2, -⟩
 have hq := Lib.hid b2
 clear b2 hS
 go_wp2_with fail
 refine (H_c2.out _ _ ⟨_, rfl, hq.out⟩).mono ?_
 rintro e w5 ⟨rfl, hb5⟩
 have z6 := hb5.size
 try simp at z6
 clear k1 f1
 refine haveB w w5 (Bc o6 #[.bool (decide (X / d < 0)), .slice p1 l1 k1'] 140 <| Bz) ?_
 clear b1 hW
 rintro hW z7 ⟨⟨b1, yb1, k1, f1⟩, -⟩
 clear hb5
 go_upto_region 3 with (fail)
 clear k1 f1
 refine wp_cutB w (Bc o6 #[.bool (decide (X / d < 0)), .slice p1 l1 k1'] 140 <| Bz) ?_
 clear b1 hW
 rintro W8 hW z9 hL
 refine wp_regS 7 33 hW hL ?_
 iterate 3 refine dE (fun W' hC => hb) ?_
 refine gE (fun W' hC => hb) ?_
 apply nd_callvg2 (p := true) (hg := rfl) (hd := rfl) (hal := rfl)
 ·intro v W' h
  simp at h
  simp
  exact h
 ·intro hp hx W' hC
  exact c_rback (X / d) W'
 ·intro hp hx a W' hC hE
  obtain ⟨_, ⟨-, -, k1, -⟩, -⟩ := hC
  first
   | (simp [hx] at hE; simp [go_sem, Act.eval, IntWalk.i64_left, hE, k1, hb]; try rfl)
   | (clear hE; simp [go_sem, Act.eval, IntWalk.i64_left, k1, hb]; try rfl)
 refine gE (fun W' hC => hb) ?_
 refine pO ?_
 clear hW hL
 rintro W10 hW z11 hL
 simp only [ndR]
 intros
 repeat (rename GDet _ _ _ _ => hgd; clear hgd)
 simp only [ndS]
 refine wpList_nil ?_
 obtain ⟨⟨b1, yb1, k1, f1⟩, -⟩ := hL
 go_wp2
 refine bodyPost_ret (v := .tuple #[.int .i64 0, .bool false]) (by simp [results, Tryz.results60, go_sem, k1, f1, yb1]) rfl ⟨rfl, hW⟩
theorem rat_over (A R n d t X : Int) (w : World) (hd : -9223372036854775808 <= d /\ d <= 9223372036854775807) (hX : X.natAbs < 2 ^ 800) (hd0 : 0 < d) (hd8 : d.natAbs < 2 ^ 800)
  (c1 : ∀ W, Calls Tryz.prog 82 #[.agg #[.int .i64 A, .int .i64 R, .int .i64 n, .int .i64 d], .int .i64 t] W fun e w' => ∃ v, e = .returned v /\ NumIs w' v X /\ Below W.heap.size W w')
  (c2 : ∀ W va, NumIs W va (X / d) -> Calls Tryz.prog 84 #[va] W fun e w' => e = .returned (.tuple #[.int .i64 0, .bool false]) /\ Below W.heap.size W w') :
  Calls Tryz.prog 60 #[.agg #[.int .i64 A, .int .i64 R, .int .i64 n, .int .i64 d], .int .i64 t] w fun e w' => e = .returned (.tuple #[.int .i64 0, .bool false]) /\ Below w.heap.size w w' := by
 have H_c1 := Lib.hid c1
 clear c1
 have H_c2 := Lib.hid c2
 clear c2
 go_enter Tryz.func60, Tryz.ntmps60
 go_upto_region 1 with (fail)
 refine wp_cutB w (Bc w.heap.size #[.int .i64 A, .int .i64 R, .int .i64 n, .int .i64 d] 26 <| Bz) ?_
 rintro W1 hW z2 ⟨⟨b1, yb1, k1, f1⟩, -⟩
 have c1 := H_c1.out
 refine wp_region_ndA 12 33 [] (fun W' => Rex [] W1 W' /\ Blk W' w.heap.size #[.int .i64 A, .int .i64 R, .int .i64 n, .int .i64 d] 26) mixed (by kernel_rfl) rfl ⟨(Rex.refl _ _).drew, b1⟩ (fun w w' ⟨h0, h1⟩ hr => ⟨h0.trans hr, h1.rex hr (by simp <;> omega)⟩) (fun c a d v w h => by cases d <;> exact h) ?_
 iterate 2
  apply nd_det (hg := rfl) (hal := rfl)
  ·intro a W' hC hE
   obtain ⟨_, k1⟩ := hC
   have k1 := k1.cell
   first
    | (simp at hE; simp [go_sem, Act.eval, IntWalk.i64_left, hE, k1]; try rfl)
    | (clear hE; simp [go_sem, Act.eval, IntWalk.i64_left, k1]; try rfl)
 apply nd_call (NI X) (hg := rfl) (hal := rfl)
 ·exact NI.closed _
 ·intro a W' hC hE
  obtain ⟨_, k1⟩ := hC
  have k1 := k1.cell
  simp at hE
  refine ⟨_, _, ?_, (c1 W').mono ?_⟩
  ·simp [go_sem, Act.eval, hE]
   try rfl
  ·rintro e w' ⟨v, rfl, hB, hR⟩
   exact ⟨_, rfl, hR, hB⟩
 iterate 2
  apply nd_det (hg := rfl) (hal := rfl)
  ·intro a W' hC hE
   obtain ⟨_, k1⟩ := hC
   have k1 := k1.cell
   first
    | (simp at hE; simp [go_sem, Act.eval, IntWalk.i64_left, hE, k1]; try rfl)
    | (clear hE; simp [go_sem, Act.eval, IntWalk.i64_left, k1]; try rfl)
 apply nd_call (NI d) (hg := rfl) (hal := rfl)
 ·exact NI.closed _
 ·intro a W' hC hE
  simp at hE
  refine ⟨_, _, ?_, (c_refInt d W' hd.1 hd.2).mono ?_⟩
  ·simp [go_sem, Act.eval, hE]
   try rfl
  ·rintro e w' ⟨v, rfl, hB, hR⟩
   exact ⟨_, rfl, hR, hB⟩
 apply nd_call (DV X d) (hg := rfl) (hal := rfl)
 ·exact DV.closed _ _
 ·intro a W' hC hE
  simp at hE
  refine ⟨_, _, ?_, (c_refDiv _ _ X d W' hE.1 hE.2 hX hd0 hd8).mono ?_⟩
  ·simp [go_sem, Act.eval]
   try rfl
  ·rintro e w' ⟨v1, v2, rfl, h1, h2, hR⟩
   exact ⟨_, rfl, hR, v1, v2, rfl, h1, h2⟩
 apply nd_spec (DV X d) (hg := rfl) (hal := rfl)
 ·exact DV.closed _ _
 ·intro a W' hC hE
  simp at hE
  refine ⟨_, ?_, hE⟩
  simp [go_sem, Act.eval]
 apply nd_spec (NI (X / d)) (hg := rfl) (hal := rfl)
 ·exact NI.closed _
 ·intro a W' hC hE
  simp at hE
  obtain ⟨v1, v2, h0, h1, h2⟩ := hE
  refine ⟨v1, ?_, h1⟩
  simp [go_sem, Act.eval, h0]
 apply nd_spec (NI (X % d)) (hg := rfl) (hal := rfl)
 ·exact NI.closed _
 ·intro a W' hC hE
  simp at hE
  obtain ⟨v1, v2, h0, h1, h2⟩ := hE
  refine ⟨v2, ?_, h2⟩
  simp [go_sem, Act.eval, h0]
 apply nd_alloc W1.heap.size #[.bool false, .slice none 0 0] 140 rfl rfl
 ·exact fun W' hC => hC.1.size
 ·simp [others] <;> omega
 ·intro w; kernel_rfl
 apply nd_alloc W1.heap.size #[.bool false, .slice none 0 0] 140 rfl rfl
 ·exact fun W' hC => hC.1.size
 ·simp [others] <;> omega
 ·intro w; kernel_rfl
 rintro W2 ⟨hR, d1⟩
 simp only [ndFinR, Det, forall_eq]
 intros
 repeat (rename GDet _ _ _ _ => hgd; clear hgd)
 simp only [Act.put, List.setIfInBounds_toArray, List.set_cons_zero, List.set_cons_succ, List.drop_succ_cons, List.drop_zero]
 clear b1
 have b1 := d1
 clear d1
 replace hW := hW.trans (hR.of_priv hW.size)
 clear hR
 clear H_c1
 try clear c1
 rename AllocApart _ _ => hap
 rename NewVar _ _ _ _ _ => hn7
 obtain ⟨o7, rfl, hg7, b3⟩ := hn7
 rename NewVar _ _ _ _ _ => hn6
 obtain ⟨o6, rfl, hg6, b2⟩ := hn6
 have hne : o6 ≠ o7 := fun e => hap 6 7 (by simp [allocDsts, isAlloc]) (by simp [allocDsts, isAlloc]) (by decide) ⟨o6, 0, none⟩ (by simp [Act.put]) (by simp [Act.put, e])
 clear hap
 rename NI (X / d) _ _ => hi1
 rename NI (X % d) _ _ => hi2
 obtain ⟨p1, l1, k1', rfl, hq1⟩ := num_shape hi1
 obtain ⟨p2, l2, k2', rfl, hq2⟩ := num_shape hi2
 clear hi1 hi2 hq2
 have hS := Lib.hid ((hq1.store b2 (.bool (decide (X / d < 0))) (.slice p1 l1 k1')).store (show Blk _ o7 #[.bool false, .slice none 0 0] 140 from (b3.setO (by omega) 0 _).setO (by omega) 1 _) (.bool (decide (X % d < 0))) (.slice p2 l2 k2'))
 clear hq1
 have z9 := hW.size
 have z10 := b1.lt
 have z11 := b2.lt
 have z12 := b3.lt
 clear k1 f1
 have k1 := b1.cell
 have f1 := b1.frozen
 have k2 := b2.cell
 have f2 := b2.frozen
 have k3 := b3.cell
 have f3 := b3.frozen
 go_upto_region 2 with (fail)
 clear k1 f1 k2 f2 k3 f3
 refine wp_cutB w (Bc o6 #[.bool (decide (X / d < 0)), .slice p1 l1 k1'] 140 <| Rc (fun W' => Bits W' (.slice p1 l1 k1') (X / d).natAbs) <| Bz) ?_ (hI := by exact belowAny) (hR := (Bc.mk (by exact blkAny2) <| Rc.mk (by exact hS.out) <| trivial))
 clear b1 b2 b3 hW
 rintro W3 hW z4 ⟨⟨b1, yb1, k1, f1⟩, b2, -⟩
 have hq := Lib.hid b2
 clear b2 hS
 go_wp2_with fail
 refine (H_c2.out _ _ ⟨_, rfl, hq.out⟩).mono ?_
 rintro e w5 ⟨rfl, hb5⟩
 have z6 := hb5.size
 try simp at z6
 clear k1 f1
 refine haveB w w5 (Bc o6 #[.bool (decide (X / d < 0)), .slice p1 l1 k1'] 140 <| Bz) ?_
 clear b1 hW
 rintro hW z7 ⟨⟨b1, yb1, k1, f1⟩, -⟩
 clear hb5
 go_wp2
 refine bodyPost_ret (v := .tuple #[.int .i64 0, .bool false]) (by simp [results, Tryz.results60, go_sem, k1, f1, yb1]) rfl ⟨rfl, hW⟩
end Go.Proofs.YtbanjolokkghdaaGreatDoor
