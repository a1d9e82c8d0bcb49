/- Parts of the proof that follows: Layer seg: Kind, Of. | Layer seg: Of, told. | Layer seg: Of, told. | The laws of chapter 11: wakes. | The laws of chapter 11: wakes told; together. | The laws of chapter 11, plainly: which places some times have. No condition. | Ranges over functions: all times of runs, one behind the other. No condition. | Ranges over functions: what comes is collected; the times of runs. No condition. | All times of runs, told. | All points of a segment, one behind the other. No condition. -/
import Derived.RangeFuncNested
import Derived.RangeFuncBound
import Derived.RangeFuncCalls
import Derived.RangeFuncLeaves
import Derived.RangeFuncBox
import Derived.Maps.AppendAt
import Derived.Shelf.Abstract
import Derived.Shelf.RegionOpen
import Derived.WalkKit
import Derived.OwnWalkIn
import Derived.TacticsInMore
import Derived.LoopNIn
import Derived.LoopIn
import Derived.Test.YtgblmlefmohgnaaGreatFar7
set_option linter.unusedSimpArgs false
set_option linter.unusedVariables false
namespace Go.Proofs.YtgblmlefmohgnaaGreat
open Go.RowKit
set_option maxRecDepth 100000 in
set_option maxHeartbeats 2000000 in
theorem kind_0 (A R n d : Int) (w : World) 
    (c1 : ∀ W, Below w.heap.size w W → Calls Tryz.prog 51 #[.agg #[.int .i64 A, .int .i64 R, .int .i64 n, .int .i64 d]] W fun e w' => e = .returned (.int .i64 150) ∧ Below W.heap.size W w') :
    Calls Tryz.prog 18 #[.agg #[.int .i64 A, .int .i64 R, .int .i64 n, .int .i64 d]] w fun e w' => e = .returned (.int .i64 0) ∧ Below w.heap.size w w' := by
  have H_c1 := Lib.hid c1
  clear c1
  go_enter Tryz.func18, Tryz.ntmps18
  go_upto_region 1 with (fail)
  refine wp_facts (fun W' => Below w.heap.size w W' ∧ Blk W' w.heap.size #[.int .i64 A, .int .i64 R, .int .i64 n, .int .i64 d] 24) ⟨by exact belowAny, by exact blkAny⟩ ?_
  rintro W1 ⟨hW, b1⟩
  have z2 := hW.size
  have z3 := b1.lt
  have k1 := b1.cell
  have f1 := b1.frozen
  have c1 := H_c1.out
  go_wp2_with fail
  refine (c1 _ (belowAny)).mono ?_
  rintro e w4 ⟨rfl, hb4⟩
  clear c1
  have z5 := hb4.size
  try simp at z5
  clear k1 f1
  have b1 : Blk w4 w.heap.size #[.int .i64 A, .int .i64 R, .int .i64 n, .int .i64 d] 24 := by exact blkAny
  have hW : Below w.heap.size w w4 := by exact belowAny
  have z6 := b1.lt
  clear hb4
  have k1 := b1.cell
  have f1 := b1.frozen
  go_wp2
  have y_1 := b1.lt
  refine bodyPost_ret (v := .int .i64 0) (by simp [results, Tryz.results18, go_sem, k1, f1, y_1]) rfl ⟨rfl, by exact belowAny⟩

set_option maxRecDepth 100000 in
set_option maxHeartbeats 2000000 in
theorem kind_1 (A R n d : Int) (w : World) 
    (c1 : ∀ W, Below w.heap.size w W → Calls Tryz.prog 51 #[.agg #[.int .i64 A, .int .i64 R, .int .i64 0, .int .i64 d]] W fun e w' => e = .returned (.int .i64 0) ∧ Below W.heap.size W w') :
    Calls Tryz.prog 18 #[.agg #[.int .i64 A, .int .i64 R, .int .i64 0, .int .i64 d]] w fun e w' => e = .returned (.int .i64 1) ∧ Below w.heap.size w w' := by
  have H_c1 := Lib.hid c1
  clear c1
  go_enter Tryz.func18, Tryz.ntmps18
  go_upto_region 1 with (fail)
  refine wp_facts (fun W' => Below w.heap.size w W' ∧ Blk W' w.heap.size #[.int .i64 A, .int .i64 R, .int .i64 0, .int .i64 d] 24) ⟨by exact belowAny, by exact blkAny⟩ ?_
  rintro W1 ⟨hW, b1⟩
  have z2 := hW.size
  have z3 := b1.lt
  have k1 := b1.cell
  have f1 := b1.frozen
  have c1 := H_c1.out
  go_wp2_with fail
  refine (c1 _ (belowAny)).mono ?_
  rintro e w4 ⟨rfl, hb4⟩
  clear c1
  have z5 := hb4.size
  try simp at z5
  clear k1 f1
  have b1 : Blk w4 w.heap.size #[.int .i64 A, .int .i64 R, .int .i64 0, .int .i64 d] 24 := by exact blkAny
  have hW : Below w.heap.size w w4 := by exact belowAny
  have z6 := b1.lt
  clear hb4
  have k1 := b1.cell
  have f1 := b1.frozen
  go_wp2
  have y_1 := b1.lt
  refine bodyPost_ret (v := .int .i64 1) (by simp [results, Tryz.results18, go_sem, k1, f1, y_1]) rfl ⟨rfl, by exact belowAny⟩

set_option maxRecDepth 100000 in
set_option maxHeartbeats 2000000 in
theorem kind_2 (A R n d : Int) (w : World) (hn : (n == 0) = false)
    (c1 : ∀ W, Below w.heap.size w W → Calls Tryz.prog 51 #[.agg #[.int .i64 A, .int .i64 0, .int .i64 n, .int .i64 d]] W fun e w' => e = .returned (.int .i64 0) ∧ Below W.heap.size W w') :
    Calls Tryz.prog 18 #[.agg #[.int .i64 A, .int .i64 0, .int .i64 n, .int .i64 d]] w fun e w' => e = .returned (.int .i64 2) ∧ Below w.heap.size w w' := by
  have H_c1 := Lib.hid c1
  clear c1
  go_enter Tryz.func18, Tryz.ntmps18
  go_upto_region 1 with (fail)
  refine wp_facts (fun W' => Below w.heap.size w W' ∧ Blk W' w.heap.size #[.int .i64 A, .int .i64 0, .int .i64 n, .int .i64 d] 24) ⟨by exact belowAny, by exact blkAny⟩ ?_
  rintro W1 ⟨hW, b1⟩
  have z2 := hW.size
  have z3 := b1.lt
  have k1 := b1.cell
  have f1 := b1.frozen
  have c1 := H_c1.out
  go_wp2_with fail
  refine (c1 _ (belowAny)).mono ?_
  rintro e w4 ⟨rfl, hb4⟩
  clear c1
  have z5 := hb4.size
  try simp at z5
  clear k1 f1
  have b1 : Blk w4 w.heap.size #[.int .i64 A, .int .i64 0, .int .i64 n, .int .i64 d] 24 := by exact blkAny
  have hW : Below w.heap.size w w4 := by exact belowAny
  have z6 := b1.lt
  clear hb4
  have k1 := b1.cell
  have f1 := b1.frozen
  go_wp2
  have y_1 := b1.lt
  refine bodyPost_ret (v := .int .i64 2) (by simp [results, Tryz.results18, go_sem, k1, f1, y_1]) rfl ⟨rfl, by exact belowAny⟩

set_option maxRecDepth 100000 in
set_option maxHeartbeats 2000000 in
theorem kind_3 (A R n d : Int) (w : World) (hn : (n == 0) = false) (hR : (R == 0) = false)
    (c1 : ∀ W, Below w.heap.size w W → Calls Tryz.prog 51 #[.agg #[.int .i64 A, .int .i64 R, .int .i64 n, .int .i64 d]] W fun e w' => e = .returned (.int .i64 0) ∧ Below W.heap.size W w') :
    Calls Tryz.prog 18 #[.agg #[.int .i64 A, .int .i64 R, .int .i64 n, .int .i64 d]] w fun e w' => e = .returned (.int .i64 3) ∧ Below w.heap.size w w' := by
  have H_c1 := Lib.hid c1
  clear c1
  go_enter Tryz.func18, Tryz.ntmps18
  go_upto_region 1 with (fail)
  refine wp_facts (fun W' => Below w.heap.size w W' ∧ Blk W' w.heap.size #[.int .i64 A, .int .i64 R, .int .i64 n, .int .i64 d] 24) ⟨by exact belowAny, by exact blkAny⟩ ?_
  rintro W1 ⟨hW, b1⟩
  have z2 := hW.size
  have z3 := b1.lt
  have k1 := b1.cell
  have f1 := b1.frozen
  have c1 := H_c1.out
  go_wp2_with fail
  refine (c1 _ (belowAny)).mono ?_
  rintro e w4 ⟨rfl, hb4⟩
  clear c1
  have z5 := hb4.size
  try simp at z5
  clear k1 f1
  have b1 : Blk w4 w.heap.size #[.int .i64 A, .int .i64 R, .int .i64 n, .int .i64 d] 24 := by exact blkAny
  have hW : Below w.heap.size w w4 := by exact belowAny
  have z6 := b1.lt
  clear hb4
  have k1 := b1.cell
  have f1 := b1.frozen
  go_wp2
  have y_1 := b1.lt
  refine bodyPost_ret (v := .int .i64 3) (by simp [results, Tryz.results18, go_sem, k1, f1, y_1]) rfl ⟨rfl, by exact belowAny⟩

def kindL (A R n d : Int) : Int := if isLine A R n d = true then (if n = 0 then 1 else if R = 0 then 2 else 3) else 0
theorem c_Kind (A R n d : Int) (w : World) : Calls Tryz.prog 18 #[.agg #[.int .i64 A, .int .i64 R, .int .i64 n, .int .i64 d]] w fun e w' => e = .returned (.int .i64 (kindL A R n d)) ∧ Below w.heap.size w w' := by
  have c1 := fun W (_ : Below w.heap.size w W) => c_Check A R n d W
  unfold kindL
  cases h : isLine A R n d with
  | false =>
    rw [h] at c1
    exact kind_0 A R n d w c1
  | true =>
    rw [h] at c1
    rw [if_pos rfl]
    by_cases hn : n = 0
    · rw [if_pos hn]
      subst hn
      exact kind_1 A R 0 d w c1
    · rw [if_neg hn]
      have hn' : (n == 0) = false := by simpa using hn
      by_cases hR : R = 0
      · rw [if_pos hR]
        subst hR
        exact kind_2 A 0 n d w hn' c1
      · rw [if_neg hR]
        exact kind_3 A R n d w hn' (by simpa using hR) c1
theorem RunsIn.set' {w : World} {p : Option Addr} {o i : Nat} {v : Value} {l : List RunT} (h : RunsIn w p l) (hne : ∀ a, p = some a → a.block ≠ o) : RunsIn (w.setCell ⟨o, i, none⟩ v) p l := ⟨fun k r hr => by
  obtain ⟨b, y, e, h1, h2, h3⟩ := h.at' k r hr
  have hc : ∀ z, (w.setCell ⟨o, i, none⟩ v).cell? ⟨b, z, none⟩ = w.cell? ⟨b, z, none⟩ := by
    intro z
    have := heap_setCell_other w ⟨o, i, none⟩ b v (hne _ e)
    simp only [World.cell?, this]
  exact ⟨b, y, e, (hc _).trans h1, (hc _).trans h2, (hc _).trans h3⟩⟩
theorem IntsIn.set' {w : World} {p : Option Addr} {o i : Nat} {v : Value} {l : List Int} (h : IntsIn w p l) (hne : ∀ a, p = some a → a.block ≠ o) : IntsIn (w.setCell ⟨o, i, none⟩ v) p l := ⟨fun k r hr => by
  obtain ⟨b, y, e, h1⟩ := h.at' k r hr
  have hc : ∀ z, (w.setCell ⟨o, i, none⟩ v).cell? ⟨b, z, none⟩ = w.cell? ⟨b, z, none⟩ := by
    intro z
    have := heap_setCell_other w ⟨o, i, none⟩ b v (hne _ e)
    simp only [World.cell?, this]
  exact ⟨b, y, e, (hc _).trans h1⟩⟩
theorem IntsIn.rex {w w' : World} {p : Option Addr} {l : List Int} (h : IntsIn w p l) (hr : Rex [] w w') : IntsIn w' p l := h.below hr.below
def CR (B : Nat) (l : List RunT) : Spec := fun v w => ∃ p' cap', v = .slice p' l.length cap' ∧ RunsIn w p' l ∧ l.length ≤ cap' ∧ ∀ a, p' = some a → B ≤ a.block
def CI (B : Nat) (l : List Int) : Spec := fun v w => ∃ p' cap', v = .slice p' l.length cap' ∧ IntsIn w p' l ∧ l.length ≤ cap' ∧ ∀ a, p' = some a → B ≤ a.block
theorem CR.closed (B : Nat) (l : List RunT) : Closed [] (CR B l) := fun _ _ _ hr ⟨p', c', e, h, k⟩ => ⟨p', c', e, h.rex hr rfl, k⟩
theorem CI.closed (B : Nat) (l : List Int) : Closed [] (CI B l) := fun _ _ _ hr ⟨p', c', e, h, k⟩ => ⟨p', c', e, h.rex hr, k⟩
set_option maxRecDepth 100000 in
set_option maxHeartbeats 2000000 in
theorem made1_w (K A R n d E : Int) (p q : Option Addr) (cap vc : Nat) (l : List RunT) (v : List Int) (w : World)
    (c1 : ∀ W, Below w.heap.size w W → Calls Tryz.prog 102 #[.slice p l.length cap] W (CloneR W p l))
    (c2 : ∀ W, Below w.heap.size w W → Calls Tryz.prog 103 #[.slice q v.length vc] W (CloneI W q v)) :
    Calls Tryz.prog 101 #[.agg #[.int .i64 K, .slice p l.length cap, .int .i64 A, .int .i64 R, .int .i64 n, .int .i64 d, .slice q v.length vc, .int .i64 E]] w fun e w' => ∃ p' cap' q' vc', e = .returned (.tuple #[.agg #[.int .i64 K, .slice p' l.length cap', .int .i64 A, .int .i64 R, .int .i64 n, .int .i64 d, .slice q' v.length vc', .int .i64 E], .int .i64 0]) ∧ Below w.heap.size w w' ∧ RunsIn w' p' l ∧ IntsIn w' q' v ∧ l.length ≤ cap' ∧ v.length ≤ vc' ∧ (∀ a, p' = some a → w.heap.size ≤ a.block) ∧ ∀ a, q' = some a → w.heap.size ≤ a.block := by
  have H_c1 := Lib.hid c1
  clear c1
  have H_c2 := Lib.hid c2
  clear c2
  go_enter Tryz.func101, Tryz.ntmps101
  have c1 := H_c1.out
  have c2 := H_c2.out
  go_upto_region 1 with (fail)
  refine wp_facts (fun W' => Below w.heap.size w W' ∧ Blk W' w.heap.size #[.int .i64 K, .slice p l.length cap, .int .i64 A, .int .i64 R, .int .i64 n, .int .i64 d, .slice q v.length vc, .int .i64 E] 78 ∧ Blk W' (w.heap.size + 1) #[.int .i64 0, .slice none 0 0, .int .i64 0, .int .i64 0, .int .i64 0, .int .i64 0, .slice none 0 0, .int .i64 0] 27) ⟨by exact belowAny, by exact blkAny, by exact blkAny⟩ ?_
  rintro W1 ⟨hW, b1, b2⟩
  have z2 := hW.size
  have z3 := b1.lt
  have z4 := b2.lt
  refine wp_region_nd 10 18 [] (fun W' => Rex [] W1 W' ∧ Blk W' w.heap.size #[.int .i64 K, .slice p l.length cap, .int .i64 A, .int .i64 R, .int .i64 n, .int .i64 d, .slice q v.length vc, .int .i64 E] 78 ∧ Blk W' (w.heap.size + 1) #[.int .i64 0, .slice none 0 0, .int .i64 0, .int .i64 0, .int .i64 0, .int .i64 0, .slice none 0 0, .int .i64 0] 27) mixed (by kernel_rfl) rfl ⟨(Rex.refl _ _).drew, b1, b2⟩ (fun w w' ⟨h0, h1, h2⟩ hr => ⟨h0.trans hr, h1.rex hr (by simp <;> omega), h2.rex hr (by simp <;> omega)⟩) (fun c a d v w h => by cases d <;> exact h) ?_
  iterate 3
    apply nd_det (hg := rfl) (hal := rfl)
    · intro a W' hC hE
      obtain ⟨_, k1, k2⟩ := hC
      have k1 := k1.cell
      have k2 := k2.cell
      first
        | (simp [Oper.looksAt, Op.operands, Call.operands, envOf, Det] at hE; simp [go_sem, Act.eval, IntWalk.i64_left, hE, k1, k2]; try rfl)
        | (clear hE; simp [go_sem, Act.eval, IntWalk.i64_left, k1, k2]; try rfl)
  apply nd_call (CR (w.heap.size + 2) l) (hg := rfl) (hal := rfl)
  · exact CR.closed _ _
  · intro a W' hC hE
    refine ⟨_, _, ?_, (c1 W' (hW.trans (hC.1.of_priv hW.size))).mono ?_⟩
    · obtain ⟨_, k1, k2⟩ := hC
      have k1 := k1.cell
      have k2 := k2.cell
      simp [Oper.looksAt, Op.operands, Call.operands, envOf, Det] at hE
      simp [go_sem, Act.eval, IntWalk.i64_left, hE, k1, k2]
      try rfl
    · have hs := (hW.trans (hC.1.of_priv hW.size)).size
      have hs2 := hC.2.2.lt
      rintro e w' ⟨p', cap', rfl, hB, hR, hc, hf⟩
      exact ⟨_, rfl, hB, p', cap', rfl, hR, hc, fun a h => by have := hf a h; omega⟩
  iterate 3
    apply nd_det (hg := rfl) (hal := rfl)
    · intro a W' hC hE
      obtain ⟨_, k1, k2⟩ := hC
      have k1 := k1.cell
      have k2 := k2.cell
      first
        | (simp [Oper.looksAt, Op.operands, Call.operands, envOf, Det] at hE; simp [go_sem, Act.eval, IntWalk.i64_left, hE, k1, k2]; try rfl)
        | (clear hE; simp [go_sem, Act.eval, IntWalk.i64_left, k1, k2]; try rfl)
  apply nd_call (CI (w.heap.size + 2) v) (hg := rfl) (hal := rfl)
  · exact CI.closed _ _
  · intro a W' hC hE
    refine ⟨_, _, ?_, (c2 W' (hW.trans (hC.1.of_priv hW.size))).mono ?_⟩
    · obtain ⟨_, k1, k2⟩ := hC
      have k1 := k1.cell
      have k2 := k2.cell
      simp [Oper.looksAt, Op.operands, Call.operands, envOf, Det] at hE
      simp [go_sem, Act.eval, IntWalk.i64_left, hE, k1, k2]
      try rfl
    · have hs := (hW.trans (hC.1.of_priv hW.size)).size
      have hs2 := hC.2.2.lt
      rintro e w' ⟨p', cap', rfl, hB, hR, hc, hf⟩
      exact ⟨_, rfl, hB, p', cap', rfl, hR, hc, fun a h => by have := hf a h; omega⟩
  iterate 2
    apply nd_det (hg := rfl) (hal := rfl)
    · intro a W' hC hE
      obtain ⟨_, k1, k2⟩ := hC
      have k1 := k1.cell
      have k2 := k2.cell
      first
        | (simp [Oper.looksAt, Op.operands, Call.operands, envOf, Det] at hE; simp [go_sem, Act.eval, IntWalk.i64_left, hE, k1, k2]; try rfl)
        | (clear hE; simp [go_sem, Act.eval, IntWalk.i64_left, k1, k2]; try rfl)
  rintro W5 ⟨hR, d1, d2⟩
  simp only [ndFinR, Det, forall_eq]
  intros
  repeat (rename GDet _ _ _ _ => hgd; clear hgd)
  simp only [Act.put, List.setIfInBounds_toArray, List.set_cons_zero, List.set_cons_succ, List.drop_succ_cons, List.drop_zero]
  replace hW := hW.trans (hR.of_priv hW.size)
  clear hR
  try clear b1 b2
  have b1 := d1
  clear d1
  have b2 := d2
  clear d2
  obtain ⟨p', cap', rfl, hp1, hp2, hp3⟩ := ‹CR _ _ _ _›
  obtain ⟨q', vc', rfl, hq1, hq2, hq3⟩ := ‹CI _ _ _ _›
  have k1 := b1.cell
  have f1 := b1.frozen
  have k2 := b2.cell
  have f2 := b2.frozen
  go_wp2
  have y_1 := b1.lt
  have y_2 := b2.lt
  refine bodyPost_ret (v := .tuple #[.agg #[.int .i64 K, .slice p' l.length cap', .int .i64 A, .int .i64 R, .int .i64 n, .int .i64 d, .slice q' v.length vc', .int .i64 E], .int .i64 0]) (by simp [results, Tryz.results101, go_sem, k1, f1, k2, f2, y_1, y_2]) rfl ⟨p', cap', q', vc', rfl, belowAny, ?_, ?_, hp2, hq2, fun a h => by have := hp3 a h; omega, fun a h => by have := hq3 a h; omega⟩
  · repeat (refine RunsIn.set' ?_ (fun a h => by have := hp3 a h; omega))
    exact hp1
  · repeat (refine IntsIn.set' ?_ (fun a h => by have := hq3 a h; omega))
    exact hq1
end Go.Proofs.YtgblmlefmohgnaaGreat
namespace Go.Proofs.YtgblmlefmohgnaaGreat
open Go.RowKit
/-- What a function that gives a segment of its own says: where the new slices lie. -/
theorem RunsIn.new {w w' : World} {p : Option Addr} {l : List RunT} (h : RunsIn w p l) (o i : Nat) (v : Value) (hne : ∀ a, p = some a → a.block ≠ o) : RunsIn (w.setCell ⟨o, i, none⟩ v) p l := h.set' hne
set_option maxRecDepth 100000 in
set_option maxHeartbeats 2000000 in
theorem ofs_yes (K A R n d E : Int) (p q : Option Addr) (cap vc : Nat) (l : List RunT) (v : List Int) (w : World)
    (c1 : ∀ W, Below w.heap.size w W → Calls Tryz.prog 55 #[.agg #[.int .i64 K, .slice p l.length cap, .int .i64 A, .int .i64 R, .int .i64 n, .int .i64 d, .slice q v.length vc, .int .i64 E]] W fun e w' => e = .returned (.bool true) ∧ Below W.heap.size W w')
    (c3 : ∀ W, Below w.heap.size w W → Calls Tryz.prog 101 #[.agg #[.int .i64 K, .slice p l.length cap, .int .i64 A, .int .i64 R, .int .i64 n, .int .i64 d, .slice q v.length vc, .int .i64 E]] W fun e w' => ∃ p' cap' q' vc', e = .returned (.tuple #[.agg #[.int .i64 K, .slice p' l.length cap', .int .i64 A, .int .i64 R, .int .i64 n, .int .i64 d, .slice q' v.length vc', .int .i64 E], .int .i64 0]) ∧ Below W.heap.size W w' ∧ RunsIn w' p' l ∧ IntsIn w' q' v ∧ l.length ≤ cap' ∧ v.length ≤ vc' ∧ (∀ a, p' = some a → W.heap.size ≤ a.block) ∧ ∀ a, q' = some a → W.heap.size ≤ a.block) :
    Calls Tryz.prog 100 #[.agg #[.int .i64 K, .slice p l.length cap, .int .i64 A, .int .i64 R, .int .i64 n, .int .i64 d, .slice q v.length vc, .int .i64 E], .func (.func 101) #[] #[]] w fun e w' => ∃ p' cap' q' vc', e = .returned (.tuple #[.agg #[.int .i64 K, .slice p' l.length cap', .int .i64 A, .int .i64 R, .int .i64 n, .int .i64 d, .slice q' v.length vc', .int .i64 E], .int .i64 0]) ∧ Below w.heap.size w w' ∧ RunsIn w' p' l ∧ IntsIn w' q' v ∧ l.length ≤ cap' ∧ v.length ≤ vc' ∧ (∀ a, p' = some a → w.heap.size ≤ a.block) ∧ ∀ a, q' = some a → w.heap.size ≤ a.block := by
  have H_c1 := Lib.hid c1
  clear c1
  have H_c3 := Lib.hid c3
  clear c3
  go_enter Tryz.func100, Tryz.ntmps100
  go_upto_region 1 with (fail)
  refine wp_facts (fun W' => Below w.heap.size w W' ∧ Blk W' w.heap.size #[.int .i64 K, .slice p l.length cap, .int .i64 A, .int .i64 R, .int .i64 n, .int .i64 d, .slice q v.length vc, .int .i64 E] 27 ∧ Blk W' (w.heap.size + 1) #[.int .i64 0, .slice none 0 0, .int .i64 0, .int .i64 0, .int .i64 0, .int .i64 0, .slice none 0 0, .int .i64 0] 27) ⟨by exact belowAny, by exact blkAny, by exact blkAny⟩ ?_
  rintro W1 ⟨hW, b1, b2⟩
  have z2 := hW.size
  have z3 := b1.lt
  have z4 := b2.lt
  have k1 := b1.cell
  have f1 := b1.frozen
  have k2 := b2.cell
  have f2 := b2.frozen
  have c1 := H_c1.out
  go_wp2_with fail
  refine (c1 _ (belowAny)).mono ?_
  rintro e w5 ⟨rfl, hb5⟩
  clear c1
  have z6 := hb5.size
  try simp at z6
  clear k1 f1 k2 f2
  have b1 : Blk w5 w.heap.size #[.int .i64 K, .slice p l.length cap, .int .i64 A, .int .i64 R, .int .i64 n, .int .i64 d, .slice q v.length vc, .int .i64 E] 27 := by exact blkAny
  have b2 : Blk w5 (w.heap.size + 1) #[.int .i64 0, .slice none 0 0, .int .i64 0, .int .i64 0, .int .i64 0, .int .i64 0, .slice none 0 0, .int .i64 0] 27 := by exact blkAny
  have b3 : Blk w5 W1.heap.size #[.int .i64 0, .slice none 0 0, .int .i64 0, .int .i64 0, .int .i64 0, .int .i64 0, .slice none 0 0, .int .i64 0] 27 := by exact blkAny
  have hW : Below w.heap.size w w5 := by exact belowAny
  have z7 := b1.lt
  have z8 := b2.lt
  have z9 := b3.lt
  clear hb5
  have k1 := b1.cell
  have f1 := b1.frozen
  have k2 := b2.cell
  have f2 := b2.frozen
  have k3 := b3.cell
  have f3 := b3.frozen
  have c3 := H_c3.out
  go_wp2_with fail
  refine (c3 _ (belowAny)).mono ?_
  rintro e w9 ⟨p', cap', q', vc', rfl, hb9, hp1, hq1, hp2, hq2, hp3, hq3⟩
  have z9 := hb9.size
  try simp at z9
  try simp at hp3
  try simp at hq3
  clear c3
  clear k1 f1 k2 f2 k3 f3
  have b1 : Blk w9 w.heap.size #[.int .i64 K, .slice p l.length cap, .int .i64 A, .int .i64 R, .int .i64 n, .int .i64 d, .slice q v.length vc, .int .i64 E] 27 := by exact blkAny
  have b2 : Blk w9 (w.heap.size + 1) #[.int .i64 0, .slice none 0 0, .int .i64 0, .int .i64 0, .int .i64 0, .int .i64 0, .slice none 0 0, .int .i64 0] 27 := by exact blkAny
  have b3 : Blk w9 W1.heap.size #[.int .i64 0, .slice none 0 0, .int .i64 0, .int .i64 0, .int .i64 0, .int .i64 0, .slice none 0 0, .int .i64 0] 27 := by exact blkAny
  have hW : Below w.heap.size w w9 := belowAny
  clear hb9
  have y_1 := b1.lt
  have y_2 := b2.lt
  have y_3 := b3.lt
  have k1 := b1.cell
  have f1 := b1.frozen
  have k2 := b2.cell
  have f2 := b2.frozen
  have k3 := b3.cell
  have f3 := b3.frozen
  replace hp1 := Lib.hid hp1
  replace hq1 := Lib.hid hq1
  replace hp3 := Lib.hid hp3
  replace hq3 := Lib.hid hq3
  go_wp2
  refine bodyPost_ret (v := .tuple #[.agg #[.int .i64 K, .slice p' l.length cap', .int .i64 A, .int .i64 R, .int .i64 n, .int .i64 d, .slice q' v.length vc', .int .i64 E], .int .i64 0]) (by simp [results, Tryz.results100, go_sem, k1, f1, k2, f2, k3, f3, y_1, y_2, y_3]) rfl ⟨p', cap', q', vc', rfl, belowAny, ?_, ?_, hp2, hq2, fun a h => by have := hp3.out; simp_all; omega, fun a h => by have := hq3.out; simp_all; omega⟩
  · repeat (refine RunsIn.set' ?_ (fun a h => by have := hp3.out; simp_all; omega))
    exact hp1.out
  · repeat (refine IntsIn.set' ?_ (fun a h => by have := hq3.out; simp_all; omega))
    exact hq1.out
set_option maxRecDepth 100000 in
set_option maxHeartbeats 2000000 in
theorem made_yes (K A R n d E : Int) (p q : Option Addr) (cap vc : Nat) (l : List RunT) (v : List Int) (w : World)
    (c1 : ∀ W, Below w.heap.size w W → Calls Tryz.prog 100 #[.agg #[.int .i64 K, .slice p l.length cap, .int .i64 A, .int .i64 R, .int .i64 n, .int .i64 d, .slice q v.length vc, .int .i64 E], .func (.func 101) #[] #[]] W fun e w' => ∃ p' cap' q' vc', e = .returned (.tuple #[.agg #[.int .i64 K, .slice p' l.length cap', .int .i64 A, .int .i64 R, .int .i64 n, .int .i64 d, .slice q' v.length vc', .int .i64 E], .int .i64 0]) ∧ Below W.heap.size W w' ∧ RunsIn w' p' l ∧ IntsIn w' q' v ∧ l.length ≤ cap' ∧ v.length ≤ vc' ∧ (∀ a, p' = some a → W.heap.size ≤ a.block) ∧ ∀ a, q' = some a → W.heap.size ≤ a.block) :
    Calls Tryz.prog 52 #[.agg #[.int .i64 K, .slice p l.length cap, .int .i64 A, .int .i64 R, .int .i64 n, .int .i64 d, .slice q v.length vc, .int .i64 E]] w fun e w' => ∃ p' cap' q' vc', e = .returned (.tuple #[.agg #[.int .i64 K, .slice p' l.length cap', .int .i64 A, .int .i64 R, .int .i64 n, .int .i64 d, .slice q' v.length vc', .int .i64 E], .int .i64 0]) ∧ Below w.heap.size w w' ∧ RunsIn w' p' l ∧ IntsIn w' q' v ∧ l.length ≤ cap' ∧ v.length ≤ vc' ∧ (∀ a, p' = some a → w.heap.size ≤ a.block) ∧ ∀ a, q' = some a → w.heap.size ≤ a.block := by
  have H_c1 := Lib.hid c1
  clear c1
  go_enter Tryz.func52, Tryz.ntmps52
  go_upto_region 1 with (fail)
  refine wp_facts (fun W' => Below w.heap.size w W' ∧ Blk W' w.heap.size #[.int .i64 K, .slice p l.length cap, .int .i64 A, .int .i64 R, .int .i64 n, .int .i64 d, .slice q v.length vc, .int .i64 E] 27 ∧ Blk W' (w.heap.size + 1) #[.int .i64 0, .slice none 0 0, .int .i64 0, .int .i64 0, .int .i64 0, .int .i64 0, .slice none 0 0, .int .i64 0] 27) ⟨by exact belowAny, by exact blkAny, by exact blkAny⟩ ?_
  rintro W1 ⟨hW, b1, b2⟩
  have z2 := hW.size
  have z3 := b1.lt
  have z4 := b2.lt
  have k1 := b1.cell
  have f1 := b1.frozen
  have k2 := b2.cell
  have f2 := b2.frozen
  have c1 := H_c1.out
  go_wp2_with fail
  refine (c1 _ (belowAny)).mono ?_
  rintro e w9 ⟨p', cap', q', vc', rfl, hb9, hp1, hq1, hp2, hq2, hp3, hq3⟩
  have z9 := hb9.size
  try simp at z9
  try simp at hp3
  try simp at hq3
  clear c1
  clear k1 f1 k2 f2
  have b1 : Blk w9 w.heap.size #[.int .i64 K, .slice p l.length cap, .int .i64 A, .int .i64 R, .int .i64 n, .int .i64 d, .slice q v.length vc, .int .i64 E] 27 := by exact blkAny
  have b2 : Blk w9 (w.heap.size + 1) #[.int .i64 0, .slice none 0 0, .int .i64 0, .int .i64 0, .int .i64 0, .int .i64 0, .slice none 0 0, .int .i64 0] 27 := by exact blkAny
  have hW : Below w.heap.size w w9 := belowAny
  clear hb9
  have y_1 := b1.lt
  have y_2 := b2.lt
  have k1 := b1.cell
  have f1 := b1.frozen
  have k2 := b2.cell
  have f2 := b2.frozen
  replace hp1 := Lib.hid hp1
  replace hq1 := Lib.hid hq1
  replace hp3 := Lib.hid hp3
  replace hq3 := Lib.hid hq3
  go_wp2
  refine bodyPost_ret (v := .tuple #[.agg #[.int .i64 K, .slice p' l.length cap', .int .i64 A, .int .i64 R, .int .i64 n, .int .i64 d, .slice q' v.length vc', .int .i64 E], .int .i64 0]) (by simp [results, Tryz.results52, go_sem, k1, f1, k2, f2, y_1, y_2]) rfl ⟨p', cap', q', vc', rfl, belowAny, ?_, ?_, hp2, hq2, fun a h => by have := hp3.out; simp_all; omega, fun a h => by have := hq3.out; simp_all; omega⟩
  · repeat (refine RunsIn.set' ?_ (fun a h => by have := hp3.out; simp_all; omega))
    exact hp1.out
  · repeat (refine IntsIn.set' ?_ (fun a h => by have := hq3.out; simp_all; omega))
    exact hq1.out
end Go.Proofs.YtgblmlefmohgnaaGreat
namespace Go.Proofs.YtgblmlefmohgnaaGreat
open Go.RowKit
section
variable {P : Program} {ops : Array Oper} {C : World → Prop} {X : List (Nat × Nat)} {a0 : Act} {Fin : List (Option Tmp × Spec) → Prop} {i : Nat} {o : Oper} {rest : List Oper} {acc : List (Option Tmp × Spec)}
/-- An operation whose value is not named. -/
theorem nd_spec (Φ : Spec) (hcl : Closed (others X i) Φ) (hg : o.guard = none) (hal : isAlloc o = false)
    (h : ∀ (a : Act) (w : World), C w → (∀ s ∈ o.looksAt ops, envOf a0 acc s (a.tmps.getD s undef) w) → ∃ v, (execOp a.eval o).run P w = .ok (.value v) w ∧ Φ v w)
    (hr : ndWalk P ops C X a0 Fin (i + 1) rest ((o.dst, Φ) :: acc)) : ndWalk P ops C X a0 Fin i (o :: rest) acc :=
  ⟨Φ, hcl, fun a w hC hE => ⟨fun _ => by
    obtain ⟨v, h1, h2⟩ := h a w hC hE
    rw [h1]; exact ⟨Rex.refl _ _, h2, fun e => by rw [hal] at e; cases e⟩, fun e => by rw [wanted_none hg] at e; cases e⟩, hr⟩
end
def SV (K A R n d E : Int) (B : Nat) (l : List RunT) : Spec := fun v w => ∃ p1 cap1 q1 vc1, v = .agg #[.int .i64 K, .slice p1 l.length cap1, .int .i64 A, .int .i64 R, .int .i64 n, .int .i64 d, .slice q1 0 vc1, .int .i64 E] ∧ RunsIn w p1 l ∧ l.length ≤ cap1 ∧ ∀ a, p1 = some a → B ≤ a.block
def TV (K A R n d E : Int) (B : Nat) (l : List RunT) : Spec := fun v w => ∃ p1 cap1 q1 vc1, v = .tuple #[.agg #[.int .i64 K, .slice p1 l.length cap1, .int .i64 A, .int .i64 R, .int .i64 n, .int .i64 d, .slice q1 0 vc1, .int .i64 E], .int .i64 0] ∧ RunsIn w p1 l ∧ l.length ≤ cap1 ∧ ∀ a, p1 = some a → B ≤ a.block
theorem SV.closed (K A R n d E : Int) (B : Nat) (l : List RunT) : Closed [] (SV K A R n d E B l) := fun _ _ _ hr ⟨p', c', q', v', e, h, k⟩ => ⟨p', c', q', v', e, h.rex hr rfl, k⟩
theorem TV.closed (K A R n d E : Int) (B : Nat) (l : List RunT) : Closed [] (TV K A R n d E B l) := fun _ _ _ hr ⟨p', c', q', v', e, h, k⟩ => ⟨p', c', q', v', e, h.rex hr rfl, k⟩
set_option maxRecDepth 100000 in
set_option maxHeartbeats 2000000 in
theorem of_seg_yes (K A R n d E : Int) (p : Option Addr) (cap : Nat) (l : List RunT) (w : World)
    (c1 : ∀ W, Below w.heap.size w W → Calls Tryz.prog 18 #[.agg #[.int .i64 A, .int .i64 R, .int .i64 n, .int .i64 d]] W fun e w' => e = .returned (.int .i64 K) ∧ Below W.heap.size W w')
    (c2 : ∀ W, Below w.heap.size w W → Calls Tryz.prog 52 #[.agg #[.int .i64 K, .slice p l.length cap, .int .i64 A, .int .i64 R, .int .i64 n, .int .i64 d, .slice none 0 0, .int .i64 E]] W fun e w' => ∃ p' cap' q' vc', e = .returned (.tuple #[.agg #[.int .i64 K, .slice p' l.length cap', .int .i64 A, .int .i64 R, .int .i64 n, .int .i64 d, .slice q' 0 vc', .int .i64 E], .int .i64 0]) ∧ Below W.heap.size W w' ∧ RunsIn w' p' l ∧ l.length ≤ cap' ∧ ∀ a, p' = some a → W.heap.size ≤ a.block) :
    Calls Tryz.prog 19 #[.slice p l.length cap, .agg #[.int .i64 A, .int .i64 R, .int .i64 n, .int .i64 d], .int .i64 E] w fun e w' => ∃ p' cap' q' vc', e = .returned (.tuple #[.agg #[.int .i64 K, .slice p' l.length cap', .int .i64 A, .int .i64 R, .int .i64 n, .int .i64 d, .slice q' 0 vc', .int .i64 E], .int .i64 0]) ∧ Below w.heap.size w w' ∧ RunsIn w' p' l ∧ l.length ≤ cap' ∧ ∀ a, p' = some a → w.heap.size ≤ a.block := by
  have H_c1 := Lib.hid c1
  clear c1
  have H_c2 := Lib.hid c2
  clear c2
  go_enter Tryz.func19, Tryz.ntmps19
  have c2 := H_c2.out
  go_upto_region 1 with (fail)
  refine wp_facts (fun W' => Below w.heap.size w W' ∧ Blk W' w.heap.size #[.int .i64 A, .int .i64 R, .int .i64 n, .int .i64 d] 24 ∧ Blk W' (w.heap.size + 1) #[.int .i64 0, .slice none 0 0, .int .i64 0, .int .i64 0, .int .i64 0, .int .i64 0, .slice none 0 0, .int .i64 0] 27) ⟨by exact belowAny, by exact blkAny, by exact blkAny⟩ ?_
  rintro W1 ⟨hW, b1, b2⟩
  have z2 := hW.size
  have z3 := b1.lt
  have z4 := b2.lt
  have c1 := H_c1.out
  refine wp_region_nd 9 17 [] (fun W' => Rex [] W1 W' ∧ Blk W' w.heap.size #[.int .i64 A, .int .i64 R, .int .i64 n, .int .i64 d] 24 ∧ Blk W' (w.heap.size + 1) #[.int .i64 0, .slice none 0 0, .int .i64 0, .int .i64 0, .int .i64 0, .int .i64 0, .slice none 0 0, .int .i64 0] 27) mixed (by kernel_rfl) rfl ⟨(Rex.refl _ _).drew, b1, b2⟩ (fun w w' ⟨h0, h1, h2⟩ hr => ⟨h0.trans hr, h1.rex hr (by simp <;> omega), h2.rex hr (by simp <;> omega)⟩) (fun c a d v w h => by cases d <;> exact h) ?_
  iterate 1
    apply nd_det (hg := rfl) (hal := rfl)
    · intro a W' hC hE
      obtain ⟨_, k1, k2⟩ := hC
      have k1 := k1.cell
      have k2 := k2.cell
      first
        | (simp [Oper.looksAt, Op.operands, Call.operands, envOf, Det] at hE; simp [go_sem, Act.eval, IntWalk.i64_left, hE, k1, k2]; try rfl)
        | (clear hE; simp [go_sem, Act.eval, IntWalk.i64_left, k1, k2]; try rfl)
  refine nd_callv2 rfl rfl (fun W' hC => c1 W' (hW.trans (hC.1.of_priv hW.size))) (fun a W' hC hE => ?_) ?_
  · obtain ⟨_, k1, k2⟩ := hC
    have k1 := k1.cell
    have k2 := k2.cell
    first
      | (simp [Oper.looksAt, Op.operands, Call.operands, envOf, Det] at hE; simp [go_sem, Act.eval, IntWalk.i64_left, hE, k1, k2]; try rfl)
      | (clear hE; simp [go_sem, Act.eval, IntWalk.i64_left, k1, k2]; try rfl)
  iterate 4
    apply nd_det (hg := rfl) (hal := rfl)
    · intro a W' hC hE
      obtain ⟨_, k1, k2⟩ := hC
      have k1 := k1.cell
      have k2 := k2.cell
      first
        | (simp [Oper.looksAt, Op.operands, Call.operands, envOf, Det] at hE; simp [go_sem, Act.eval, IntWalk.i64_left, hE, k1, k2]; try rfl)
        | (clear hE; simp [go_sem, Act.eval, IntWalk.i64_left, k1, k2]; try rfl)
  apply nd_call (TV K A R n d E (w.heap.size + 2) l) (hg := rfl) (hal := rfl)
  · exact TV.closed _ _ _ _ _ _ _ _
  · intro a W' hC hE
    refine ⟨_, _, ?_, (c2 W' (hW.trans (hC.1.of_priv hW.size))).mono ?_⟩
    · obtain ⟨_, k1, k2⟩ := hC
      have k1 := k1.cell
      have k2 := k2.cell
      simp [Oper.looksAt, Op.operands, Call.operands, envOf, Det] at hE
      simp [go_sem, Act.eval, IntWalk.i64_left, hE, k1, k2]
      try rfl
    · have hs2 := hC.2.2.lt
      rintro e w' ⟨p', cap', q', vc', rfl, hB, hR, hc, hf⟩
      exact ⟨_, rfl, hB, p', cap', q', vc', rfl, hR, hc, fun a h => by have := hf a h; omega⟩
  apply nd_spec (SV K A R n d E (w.heap.size + 2) l) (hg := rfl) (hal := rfl)
  · exact SV.closed _ _ _ _ _ _ _ _
  · intro a W' hC hE
    have h0 := hE 14 (by simp [Oper.looksAt, Op.operands])
    simp [envOf] at h0
    obtain ⟨p1, cap1, q1, vc1, h1, h2⟩ := h0
    refine ⟨_, ?_, p1, cap1, q1, vc1, rfl, h2⟩
    simp [go_sem, Act.eval, h1]
  apply nd_det (c := .int .i64 0) (hg := rfl) (hal := rfl)
  · intro a W' hC hE
    have h0 := hE 14 (by simp [Oper.looksAt, Op.operands])
    simp [envOf] at h0
    obtain ⟨p1, cap1, q1, vc1, h1, h2⟩ := h0
    simp [go_sem, Act.eval, h1]
  rintro W5 ⟨hR, d1, d2⟩
  simp only [ndFinR, Det, forall_eq]
  intros
  repeat (rename GDet _ _ _ _ => hgd; clear hgd)
  simp only [Act.put, List.setIfInBounds_toArray, List.set_cons_zero, List.set_cons_succ, List.drop_succ_cons, List.drop_zero]
  replace hW := hW.trans (hR.of_priv hW.size)
  clear hR
  clear c1
  try clear b1 b2
  have b1 := d1
  clear d1
  have b2 := d2
  clear d2
  clear c2
  repeat (rename TV _ _ _ _ _ _ _ _ _ _ => htv; clear htv)
  obtain ⟨p', cap', q', vc', rfl, hp1, hp2, hp3⟩ := ‹SV _ _ _ _ _ _ _ _ _ _›
  have k1 := b1.cell
  have f1 := b1.frozen
  have k2 := b2.cell
  have f2 := b2.frozen
  have y_1 := b1.lt
  have y_2 := b2.lt
  replace hp1 := Lib.hid hp1
  replace hp3 := Lib.hid hp3
  go_wp2
  refine bodyPost_ret (v := .tuple #[.agg #[.int .i64 K, .slice p' l.length cap', .int .i64 A, .int .i64 R, .int .i64 n, .int .i64 d, .slice q' 0 vc', .int .i64 E], .int .i64 0]) (by simp [results, Tryz.results19, go_sem, k1, f1, k2, f2, y_1, y_2]) rfl ⟨p', cap', q', vc', rfl, belowAny, ?_, hp2, fun a h => by have := hp3.out a h; omega⟩
  repeat (refine RunsIn.set' ?_ (fun a h => by have := hp3.out a h; omega))
  exact hp1.out
end Go.Proofs.YtgblmlefmohgnaaGreat
namespace Go.Proofs.YtgblmlefmohgnaaGreat
open Go.RowKit
def l0 : List RunT := [⟨10, 2, 4⟩]
def s0 : SegT := ⟨2, l0, 5, 0, 1, 2, [], 3⟩
theorem s0_ok : segB s0 = true := by kernel_rfl
theorem s0_part : partOut s0 11 100 = (#[.int .i64 3, .int .i64 6, .int .i64 8, .int .i64 0, .int .u64 21], 0) := by kernel_rfl
theorem s0_at : segAtV s0 14 = 7 ∧ segAtE s0 14 = 0 ∧ segAtV s0 13 = 0 ∧ segAtE s0 13 = 4 := by refine ⟨?_, ?_, ?_, ?_⟩ <;> kernel_rfl
theorem s0_kind : kindL 5 0 1 2 = 2 := by kernel_rfl
theorem ints_nil (w : World) (q : Option Addr) : IntsIn w q [] := ⟨fun i x h => by simp at h⟩
theorem s0_in {w : World} {p q : Option Addr} (h : RunsIn w p l0) : SegIn w s0 p q := ⟨h, ints_nil w q, by decide, by decide⟩
theorem c_made_yes (s : SegT) (p q : Option Addr) (cap vc : Nat) (w : World) (h : SegIn w s p q) (hs : segB s = true)
    (c1 : ∀ W, Below w.heap.size w W → Calls Tryz.prog 102 #[.slice p s.runs.length cap] W (CloneR W p s.runs))
    (c2 : ∀ W, Below w.heap.size w W → Calls Tryz.prog 103 #[.slice q s.raw.length vc] W (CloneI W q s.raw)) :
    Calls Tryz.prog 52 #[.agg (segA s p q cap vc)] w fun e w' => ∃ p' cap' q' vc', e = .returned (.tuple #[.agg (segA s p' q' cap' vc'), .int .i64 0]) ∧ Below w.heap.size w w' ∧ RunsIn w' p' s.runs ∧ IntsIn w' q' s.raw ∧ s.runs.length ≤ cap' ∧ s.raw.length ≤ vc' ∧ (∀ a, p' = some a → w.heap.size ≤ a.block) ∧ ∀ a, q' = some a → w.heap.size ≤ a.block := by
  refine made_yes _ _ _ _ _ _ p q cap vc s.runs s.raw w fun W hW => ofs_yes _ _ _ _ _ _ p q cap vc s.runs s.raw W (fun W' hW' => ?_) (fun W' hW' => made1_w _ _ _ _ _ _ p q cap vc s.runs s.raw W' (fun W'' hW'' => c1 W'' ((hW.trans (hW'.mono hW.size)).trans (hW''.mono (hW.trans (hW'.mono hW.size)).size))) (fun W'' hW'' => c2 W'' ((hW.trans (hW'.mono hW.size)).trans (hW''.mono (hW.trans (hW'.mono hW.size)).size))))
  have := c_segIs s p q cap vc W' ((h.below hW).below hW')
  rw [hs] at this
  exact this
set_option maxRecDepth 100000 in
set_option maxHeartbeats 2000000 in
theorem wakes_w (w : World)
    (c1 : ∀ W, RunsIn W (some ⟨w.heap.size, 0, none⟩) l0 → Calls Tryz.prog 19 #[.slice (some ⟨w.heap.size, 0, none⟩) 1 1, .agg #[.int .i64 5, .int .i64 0, .int .i64 1, .int .i64 2], .int .i64 3] W fun e w' => ∃ p' cap' q' vc', e = .returned (.tuple #[.agg #[.int .i64 2, .slice p' 1 cap', .int .i64 5, .int .i64 0, .int .i64 1, .int .i64 2, .slice q' 0 vc', .int .i64 3], .int .i64 0]) ∧ Below W.heap.size W w' ∧ RunsIn w' p' l0 ∧ 1 ≤ cap' ∧ ∀ a, p' = some a → W.heap.size ≤ a.block)
    (c2 : ∀ W p' q' cap' vc', RunsIn W p' l0 → Calls Tryz.prog 12 #[.agg #[.int .i64 2, .slice p' 1 cap', .int .i64 5, .int .i64 0, .int .i64 1, .int .i64 2, .slice q' 0 vc', .int .i64 3], .int .i64 11, .int .i64 100] W fun e w' => e = .returned (.tuple #[.agg #[.int .i64 3, .int .i64 6, .int .i64 8, .int .i64 0, .int .u64 21], .int .i64 0]) ∧ Below W.heap.size W w')
    (c3 : ∀ W p' q' cap' vc', RunsIn W p' l0 → Calls Tryz.prog 32 #[.agg #[.int .i64 2, .slice p' 1 cap', .int .i64 5, .int .i64 0, .int .i64 1, .int .i64 2, .slice q' 0 vc', .int .i64 3], .int .i64 14] W fun e w' => e = .returned (.tuple #[.int .i64 7, .int .i64 0]) ∧ Below W.heap.size W w')
    (c4 : ∀ W p' q' cap' vc', RunsIn W p' l0 → Calls Tryz.prog 32 #[.agg #[.int .i64 2, .slice p' 1 cap', .int .i64 5, .int .i64 0, .int .i64 1, .int .i64 2, .slice q' 0 vc', .int .i64 3], .int .i64 13] W fun e w' => e = .returned (.tuple #[.int .i64 0, .int .i64 4]) ∧ Below W.heap.size W w')
    (c5 : ∀ W, Calls Tryz.prog 26 #[.int .i64 21] W fun e w' => e = .returned (.agg #[.int .i64 0, .int .u64 21]) ∧ Below W.heap.size W w') :
    Calls Tryz.prog 10 #[] w fun e w' => e = .returned (.bool true) ∧ Below w.heap.size w w' := by
  have H_c1 := Lib.hid c1
  clear c1
  have H_c2 := Lib.hid c2
  clear c2
  have H_c3 := Lib.hid c3
  clear c3
  have H_c4 := Lib.hid c4
  clear c4
  have H_c5 := Lib.hid c5
  clear c5
  go_enter Tryz.func10, Tryz.ntmps10
  have c1 := H_c1.out
  go_wp2_with fail
  refine (c1 _ (RunsIn.of_blk (l := l0) (t := 51) (Blk.new' rfl) l0 [] rfl)).mono ?_
  rintro e w3 ⟨p', cap', q', vc', rfl, hb3, hp1, hp2, hp3⟩
  clear c1 hp2 hp3
  have z3 := hb3.size
  try simp at z3
  have hW : Below w.heap.size w w3 := belowAny
  clear hb3
  have b1 := hp1
  clear hp1
  have c2 := H_c2.out
  go_wp2_with fail
  refine (c2 _ p' q' cap' vc' runsAny).mono ?_
  rintro e w4 ⟨rfl, hb4⟩
  clear c2
  have z5 := hb4.size
  try simp at z5
  have b1 : RunsIn w4 p' l0 := by exact runsAny
  have b2 : Blk w4 w3.heap.size #[.int .i64 2, .slice p' 1 cap', .int .i64 5, .int .i64 0, .int .i64 1, .int .i64 2, .slice q' 0 vc', .int .i64 3] 27 := by exact blkAny
  have hW : Below w.heap.size w w4 := by exact belowAny
  have z6 := b2.lt
  clear hb4
  have k2 := b2.cell
  have f2 := b2.frozen
  have c3 := H_c3.out
  go_wp2_with fail
  refine (c3 _ p' q' cap' vc' runsAny).mono ?_
  rintro e w7 ⟨rfl, hb7⟩
  clear c3
  have z8 := hb7.size
  try simp at z8
  clear k2 f2
  have b1 : RunsIn w7 p' l0 := by exact runsAny
  have b2 : Blk w7 w3.heap.size #[.int .i64 2, .slice p' 1 cap', .int .i64 5, .int .i64 0, .int .i64 1, .int .i64 2, .slice q' 0 vc', .int .i64 3] 27 := by exact blkAny
  have b3 : Blk w7 w4.heap.size #[.int .i64 3, .int .i64 6, .int .i64 8, .int .i64 0, .int .u64 21] 34 := by exact blkAny
  have hW : Below w.heap.size w w7 := by exact belowAny
  have z9 := b2.lt
  have z10 := b3.lt
  clear hb7
  have k2 := b2.cell
  have f2 := b2.frozen
  have k3 := b3.cell
  have f3 := b3.frozen
  have c4 := H_c4.out
  go_wp2_with fail
  refine (c4 _ p' q' cap' vc' runsAny).mono ?_
  rintro e w11 ⟨rfl, hb11⟩
  clear c4
  have z12 := hb11.size
  try simp at z12
  clear k2 f2 k3 f3
  have b1 : RunsIn w11 p' l0 := by exact runsAny
  have b2 : Blk w11 w3.heap.size #[.int .i64 2, .slice p' 1 cap', .int .i64 5, .int .i64 0, .int .i64 1, .int .i64 2, .slice q' 0 vc', .int .i64 3] 27 := by exact blkAny
  have b3 : Blk w11 w4.heap.size #[.int .i64 3, .int .i64 6, .int .i64 8, .int .i64 0, .int .u64 21] 34 := by exact blkAny
  have hW : Below w.heap.size w w11 := by exact belowAny
  have z13 := b2.lt
  have z14 := b3.lt
  clear hb11
  have k2 := b2.cell
  have f2 := b2.frozen
  have k3 := b3.cell
  have f3 := b3.frozen
  go_upto_region 5 with (fail)
  clear k2 f2 k3 f3
  refine wp_facts (fun W' => Below w.heap.size w W' ∧ RunsIn W' p' l0 ∧ Blk W' w3.heap.size #[.int .i64 2, .slice p' 1 cap', .int .i64 5, .int .i64 0, .int .i64 1, .int .i64 2, .slice q' 0 vc', .int .i64 3] 27 ∧ Blk W' w4.heap.size #[.int .i64 3, .int .i64 6, .int .i64 8, .int .i64 0, .int .u64 21] 34) ⟨by exact belowAny, by exact runsAny, by exact blkAny, by exact blkAny⟩ ?_
  clear b1 b2 b3 hW
  rintro W15 ⟨hW, b1, b2, b3⟩
  have z16 := hW.size
  have z17 := b2.lt
  have z18 := b3.lt
  have c5 := H_c5.out
  refine wp_region_nd 30 60 [] (fun W' => Rex [] W15 W' ∧ RunsIn W' p' l0 ∧ Blk W' w3.heap.size #[.int .i64 2, .slice p' 1 cap', .int .i64 5, .int .i64 0, .int .i64 1, .int .i64 2, .slice q' 0 vc', .int .i64 3] 27 ∧ Blk W' w4.heap.size #[.int .i64 3, .int .i64 6, .int .i64 8, .int .i64 0, .int .u64 21] 34) mixed (by kernel_rfl) rfl ⟨(Rex.refl _ _).drew, b1.drew, b2, b3⟩ (fun w w' ⟨h0, h1, h2, h3⟩ hr => ⟨h0.trans hr, h1.rex hr (by simp <;> omega), h2.rex hr (by simp <;> omega), h3.rex hr (by simp <;> omega)⟩) (fun c a d v w h => by cases d <;> exact h) ?_
  iterate 3
    apply nd_det (hg := rfl) (hal := rfl)
    · intro a W' hC hE
      obtain ⟨_, k1, k2, k3⟩ := hC
      have k2 := k2.cell
      have k3 := k3.cell
      first
        | (simp [Oper.looksAt, Op.operands, Call.operands, envOf, Det] at hE; simp [go_sem, Act.eval, IntWalk.i64_left, hE, k1, k2, k3]; try rfl)
        | (clear hE; simp [go_sem, Act.eval, IntWalk.i64_left, k1, k2, k3]; try rfl)
  iterate 3
    apply nd_detg (p := true) (hg := rfl) (hd := rfl) (hal := rfl)
    · intro v W' h
      simp [envOf, Det] at h
      simp
      exact h
    · intro hp hx a W' hC hE
      obtain ⟨_, k1, k2, k3⟩ := hC
      have k2 := k2.cell
      have k3 := k3.cell
      simp [Oper.looksAt, Op.operands, Call.operands, envOf, Det, GDet, hx] at hE
      simp [go_sem, Act.eval, IntWalk.i64_left, hE, k1, k2, k3]
      try rfl
  apply nd_pick_and (ho := rfl) (hg := rfl)
  · intro v W' h
    simp [envOf, Det] at h
    exact h
  · intro v W' h hx
    simp [envOf, GDet, hx] at h
    exact h
  iterate 1
    apply nd_det (hg := rfl) (hal := rfl)
    · intro a W' hC hE
      obtain ⟨_, k1, k2, k3⟩ := hC
      have k2 := k2.cell
      have k3 := k3.cell
      first
        | (simp [Oper.looksAt, Op.operands, Call.operands, envOf, Det] at hE; simp [go_sem, Act.eval, IntWalk.i64_left, hE, k1, k2, k3]; try rfl)
        | (clear hE; simp [go_sem, Act.eval, IntWalk.i64_left, k1, k2, k3]; try rfl)
  iterate 2
    apply nd_detg (p := true) (hg := rfl) (hd := rfl) (hal := rfl)
    · intro v W' h
      simp [envOf, Det] at h
      simp
      exact h
    · intro hp hx a W' hC hE
      obtain ⟨_, k1, k2, k3⟩ := hC
      have k2 := k2.cell
      have k3 := k3.cell
      simp [Oper.looksAt, Op.operands, Call.operands, envOf, Det, GDet, hx] at hE
      simp [go_sem, Act.eval, IntWalk.i64_left, hE, k1, k2, k3]
      try rfl
  apply nd_pick_and (ho := rfl) (hg := rfl)
  · intro v W' h
    simp [envOf, Det] at h
    exact h
  · intro v W' h hx
    simp [envOf, GDet, hx] at h
    exact h
  iterate 1
    apply nd_det (hg := rfl) (hal := rfl)
    · intro a W' hC hE
      obtain ⟨_, k1, k2, k3⟩ := hC
      have k2 := k2.cell
      have k3 := k3.cell
      first
        | (simp [Oper.looksAt, Op.operands, Call.operands, envOf, Det] at hE; simp [go_sem, Act.eval, IntWalk.i64_left, hE, k1, k2, k3]; try rfl)
        | (clear hE; simp [go_sem, Act.eval, IntWalk.i64_left, k1, k2, k3]; try rfl)
  iterate 1
    apply nd_detg (p := true) (hg := rfl) (hd := rfl) (hal := rfl)
    · intro v W' h
      simp [envOf, Det] at h
      simp
      exact h
    · intro hp hx a W' hC hE
      obtain ⟨_, k1, k2, k3⟩ := hC
      have k2 := k2.cell
      have k3 := k3.cell
      simp [Oper.looksAt, Op.operands, Call.operands, envOf, Det, GDet, hx] at hE
      simp [go_sem, Act.eval, IntWalk.i64_left, hE, k1, k2, k3]
      try rfl
  apply nd_callvg2 (p := true) (hg := rfl) (hd := rfl) (hal := rfl)
  · intro v W' h
    simp [envOf, Det] at h
    simp
    exact h
  · intro hp hx W' hC
    exact c5 W'
  · intro hp hx a W' hC hE
    obtain ⟨_, k1, k2, k3⟩ := hC
    have k2 := k2.cell
    have k3 := k3.cell
    first
      | (simp [Oper.looksAt, Op.operands, Call.operands, envOf, Det, GDet, hx] at hE; simp [go_sem, Act.eval, IntWalk.i64_left, hE, k1, k2, k3]; try rfl)
      | (clear hE; simp [go_sem, Act.eval, IntWalk.i64_left, k1, k2, k3]; try rfl)
  iterate 1
    apply nd_detg (p := true) (hg := rfl) (hd := rfl) (hal := rfl)
    · intro v W' h
      simp [envOf, Det] at h
      simp
      exact h
    · intro hp hx a W' hC hE
      obtain ⟨_, k1, k2, k3⟩ := hC
      have k2 := k2.cell
      have k3 := k3.cell
      simp [Oper.looksAt, Op.operands, Call.operands, envOf, Det, GDet, hx] at hE
      simp [go_sem, Act.eval, IntWalk.i64_left, hE, k1, k2, k3]
      try rfl
  apply nd_detg (p := true) (c := .bool true) (hg := rfl) (hd := rfl) (hal := rfl)
  · intro v W' h
    simp [envOf, Det] at h
    simp
    exact h
  · intro hp hx a W' hC hE
    simp [Oper.looksAt, Op.operands, Call.operands, envOf, Det, GDet, hx] at hE
    simp [go_sem, Act.eval, hE]
    try rfl
  apply nd_pick_and (ho := rfl) (hg := rfl)
  · intro v W' h
    simp [envOf, Det] at h
    exact h
  · intro v W' h hx
    simp [envOf, GDet, hx] at h
    exact h
  iterate 1
    apply nd_det (hg := rfl) (hal := rfl)
    · intro a W' hC hE
      obtain ⟨_, k1, k2, k3⟩ := hC
      have k2 := k2.cell
      have k3 := k3.cell
      first
        | (simp [Oper.looksAt, Op.operands, Call.operands, envOf, Det] at hE; simp [go_sem, Act.eval, IntWalk.i64_left, hE, k1, k2, k3]; try rfl)
        | (clear hE; simp [go_sem, Act.eval, IntWalk.i64_left, k1, k2, k3]; try rfl)
  iterate 2
    apply nd_detg (p := true) (hg := rfl) (hd := rfl) (hal := rfl)
    · intro v W' h
      simp [envOf, Det] at h
      simp
      exact h
    · intro hp hx a W' hC hE
      obtain ⟨_, k1, k2, k3⟩ := hC
      have k2 := k2.cell
      have k3 := k3.cell
      simp [Oper.looksAt, Op.operands, Call.operands, envOf, Det, GDet, hx] at hE
      simp [go_sem, Act.eval, IntWalk.i64_left, hE, k1, k2, k3]
      try rfl
  apply nd_pick_and (ho := rfl) (hg := rfl)
  · intro v W' h
    simp [envOf, Det] at h
    exact h
  · intro v W' h hx
    simp [envOf, GDet, hx] at h
    exact h
  iterate 1
    apply nd_det (hg := rfl) (hal := rfl)
    · intro a W' hC hE
      obtain ⟨_, k1, k2, k3⟩ := hC
      have k2 := k2.cell
      have k3 := k3.cell
      first
        | (simp [Oper.looksAt, Op.operands, Call.operands, envOf, Det] at hE; simp [go_sem, Act.eval, IntWalk.i64_left, hE, k1, k2, k3]; try rfl)
        | (clear hE; simp [go_sem, Act.eval, IntWalk.i64_left, k1, k2, k3]; try rfl)
  iterate 2
    apply nd_detg (p := true) (hg := rfl) (hd := rfl) (hal := rfl)
    · intro v W' h
      simp [envOf, Det] at h
      simp
      exact h
    · intro hp hx a W' hC hE
      obtain ⟨_, k1, k2, k3⟩ := hC
      have k2 := k2.cell
      have k3 := k3.cell
      simp [Oper.looksAt, Op.operands, Call.operands, envOf, Det, GDet, hx] at hE
      simp [go_sem, Act.eval, IntWalk.i64_left, hE, k1, k2, k3]
      try rfl
  apply nd_pick_and (ho := rfl) (hg := rfl)
  · intro v W' h
    simp [envOf, Det] at h
    exact h
  · intro v W' h hx
    simp [envOf, GDet, hx] at h
    exact h
  iterate 1
    apply nd_det (hg := rfl) (hal := rfl)
    · intro a W' hC hE
      obtain ⟨_, k1, k2, k3⟩ := hC
      have k2 := k2.cell
      have k3 := k3.cell
      first
        | (simp [Oper.looksAt, Op.operands, Call.operands, envOf, Det] at hE; simp [go_sem, Act.eval, IntWalk.i64_left, hE, k1, k2, k3]; try rfl)
        | (clear hE; simp [go_sem, Act.eval, IntWalk.i64_left, k1, k2, k3]; try rfl)
  iterate 2
    apply nd_detg (p := true) (hg := rfl) (hd := rfl) (hal := rfl)
    · intro v W' h
      simp [envOf, Det] at h
      simp
      exact h
    · intro hp hx a W' hC hE
      obtain ⟨_, k1, k2, k3⟩ := hC
      have k2 := k2.cell
      have k3 := k3.cell
      simp [Oper.looksAt, Op.operands, Call.operands, envOf, Det, GDet, hx] at hE
      simp [go_sem, Act.eval, IntWalk.i64_left, hE, k1, k2, k3]
      try rfl
  apply nd_pick_and (ho := rfl) (hg := rfl)
  · intro v W' h
    simp [envOf, Det] at h
    exact h
  · intro v W' h hx
    simp [envOf, GDet, hx] at h
    exact h
  iterate 1
    apply nd_det (hg := rfl) (hal := rfl)
    · intro a W' hC hE
      obtain ⟨_, k1, k2, k3⟩ := hC
      have k2 := k2.cell
      have k3 := k3.cell
      first
        | (simp [Oper.looksAt, Op.operands, Call.operands, envOf, Det] at hE; simp [go_sem, Act.eval, IntWalk.i64_left, hE, k1, k2, k3]; try rfl)
        | (clear hE; simp [go_sem, Act.eval, IntWalk.i64_left, k1, k2, k3]; try rfl)
  rintro W19 ⟨hR, d1, d2, d3⟩
  simp only [ndFinR, Det, forall_eq]
  intros
  repeat (rename GDet _ _ _ _ => hgd; clear hgd)
  simp only [Act.put, List.setIfInBounds_toArray, List.set_cons_zero, List.set_cons_succ]
  refine wpList_nil ?_
  replace hW := hW.trans (hR.of_priv hW.size)
  clear hR
  clear c5
  try clear b1 b2 b3
  have b1 := d1
  clear d1
  have b2 := d2
  clear d2
  have b3 := d3
  clear d3
  go_wp2
  have y_2 := b2.lt
  have y_3 := b3.lt
  refine bodyPost_ret (v := .bool true) (by simp [results, Tryz.results10, go_sem, y_2, y_3]) rfl ⟨rfl, belowAny⟩
end Go.Proofs.YtgblmlefmohgnaaGreat
namespace Go.Proofs.YtgblmlefmohgnaaGreat
open Go.RowKit
theorem c_wakes (w : World) : Calls Tryz.prog 10 #[] w fun e w' => e = .returned (.bool true) ∧ Below w.heap.size w w' := by
  refine wakes_w w (fun W hR => ?_) (fun W p' q' cap' vc' hR => ?_) (fun W p' q' cap' vc' hR => ?_) (fun W p' q' cap' vc' hR => ?_) (fun W => c_Of 21 W (by omega))
  · refine of_seg_yes 2 5 0 1 2 3 _ 1 l0 W (fun W' _ => ?_) (fun W' hW' => ?_)
    · have := c_Kind 5 0 1 2 W'
      rw [s0_kind] at this
      exact this
    · refine (c_made_yes s0 _ none 1 0 W' (s0_in (hR.below hW')) s0_ok (fun W'' hW'' => cloneRun_some _ 1 l0 W'' (by decide) ((hR.below hW').below hW'')) (fun W'' _ => cloneInt_nil W'')).mono ?_
      rintro e w' ⟨p', cap', q', vc', h1, h2, h3, h4, h5, h6, h7, h8⟩
      exact ⟨p', cap', q', vc', h1, h2, h3, h5, h7⟩
  · have := c_Part s0 p' q' cap' vc' 11 100 W (s0_in hR) (Nat.zero_le _) (by omega)
    rw [s0_part] at this
    exact this
  · have := c_segAt s0 p' q' cap' vc' 14 W (s0_in hR)
    rw [s0_at.1, s0_at.2.1] at this
    exact this
  · have := c_segAt s0 p' q' cap' vc' 13 W (s0_in hR)
    rw [s0_at.2.2.1, s0_at.2.2.2] at this
    exact this
end Go.Proofs.YtgblmlefmohgnaaGreat
namespace Go.Proofs.YtgblmlefmohgnaaGreat
open Go.RowKit

/-- What the numbers of some places come to. -/
def outOf (s : SegT) (i j : Int) : Array Value × Int := if i < j then (partA (slice (vals s) i.toNat j.toNat), 0) else (#[.int .i64 0, .int .i64 0, .int .i64 0, .int .i64 0, .int .u64 0], 9)
theorem vals_back {s : SegT} (hs : segB s = true) {v : Int} (hv : v ∈ vals s) : -2305844108725321728 ≤ v ∧ v ≤ 2305844108725321728 := by
  unfold vals at hv
  rcases segB_cases hs with ⟨hk, hline⟩ | ⟨hk, _, hback⟩
  · rw [if_neg (by omega)] at hv
    simp only [List.mem_map] at hv
    obtain ⟨t, ht, rfl⟩ := hv
    have := mem_times hline.runs ht
    exact isBack_iff.1 (hline.back this.1 this.2.1)
  · rw [if_pos hk] at hv
    exact raw_back hback hv
end Go.Proofs.YtgblmlefmohgnaaGreat
namespace Go.Proofs.YtgblmlefmohgnaaGreat
open Go.RowKit Go.Shelf
attribute [local go_sem] Oper.semAt_some
theorem wpIn_scope {P : Program} {n : Nat} {c : Code} {Q : Exit → Act → World → Prop} {a : Act} {w : World} (h : c.wpIn Fence.wide n P (Exit.noGoto Q) a w) : (Code.scope c).wpIn Fence.wide n P Q a w := wpIn_wide.2 (wp_scope_straight (wpIn_wide.1 h))
theorem wpIn_lab {F : Fence} {P : Program} {n l : Nat} {c : Code} {Q : Exit → Act → World → Prop} {a : Act} {w : World} (h : c.wpIn F n P Q a w) : ((Code.label l).seq c).wpIn F n P Q a w := wpIn_seq (wpIn_label h)
/-- Every block of a type stays as it is. -/
def KeepsT (t : TypeId) (A B : World) : Prop := ∀ (b : Nat) (cs : Array Value) (f : Nat × Nat), A.heap[b]? = some (.cells cs t f) → B.heap[b]? = some (.cells cs t f)
theorem KeepsT.refl (t : TypeId) (A : World) : KeepsT t A A := fun _ _ _ h => h
theorem KeepsT.trans {t : TypeId} {A B C : World} (h : KeepsT t A B) (k : KeepsT t B C) : KeepsT t A C := fun b cs f hb => k b cs f (h b cs f hb)
theorem times_step {l : List RunT} {k : Nat} {r : RunT} (hr : l[k]? = some r) : timesL (l.take (k + 1)) = timesL (l.take k) ++ timesR r := by
  rw [List.take_add_one, hr, timesL_append]
  simp [timesL]
theorem timesR_step {r : RunT} {j : Nat} (h : (j : Int) < r.c) : (timesR r).take (j + 1) = (timesR r).take j ++ [r.f + r.s * (j : Int)] := by
  rw [List.take_add_one, timesR_at r j h]
  rfl
theorem times_room {l : List RunT} {k j : Nat} {r : RunT} (hr : l[k]? = some r) (h : (j : Int) < r.c) : (timesL (l.take k) ++ (timesR r).take j).length < (timesL l).length := by
  have e : timesL l = timesL (l.take (k + 1)) ++ timesL (l.drop (k + 1)) := by rw [← timesL_append, List.take_append_drop]
  rw [e, times_step hr]
  have := length_timesR r
  simp
  omega
theorem times_pre {l : List RunT} {k j : Nat} {r : RunT} (hr : l[k]? = some r) : timesL (l.take k) ++ (timesR r).take j <+: timesL l := by
  have e : timesL l = timesL (l.take (k + 1)) ++ timesL (l.drop (k + 1)) := by rw [← timesL_append, List.take_append_drop]
  rw [e, times_step hr]
  exact ⟨(timesR r).drop j ++ timesL (l.drop (k + 1)), by rw [List.append_assoc, ← List.append_assoc (List.take j _), List.take_append_drop, List.append_assoc]⟩
set_option maxRecDepth 100000 in
set_option maxHeartbeats 4000000 in
theorem all1_in (n : Nat) (hn : 1 ≤ n) (lr Bs n₀ : Nat) (p : Option Addr) (cap : Nat) (l : List RunT) (hl : ∀ r, r ∈ l → RunOk r) (hlen : l.length ≤ 256) (Kp : World → World → Prop) (hK : ∀ {A B}, Kp A B → Below n₀ A B ∧ KeepsT 51 A B)
    (J Jx : List Int → World → Prop) (B0 : Nat) (hJ : AbidesFrom B0 J)
    (hY : ∀ pre x W, J pre W → pre.length < (timesL l).length → YieldAt Fence.wide (n - 1) Tryz.prog lr #[.int .i64 x] W fun e W' => (e = .returned (.bool true) ∧ J (pre ++ [x]) W' ∧ Kp W W') ∨ (e = .returned (.bool false) ∧ Jx (pre ++ [x]) W'))
    (W : World) (hBs : W.cell? ⟨Bs, 0, none⟩ = some (.slice p l.length cap)) (hR : RunsIn W p l) (hn₀ : ∀ a, p = some a → a.block < n₀) (hn1 : n₀ ≤ W.heap.size) (h0 : J [] W) :
    CallsIn Fence.wide n Tryz.prog 145 #[.func (.yield lr) #[] #[], .pointer (some ⟨Bs, 0, none⟩)] W fun e W' => (∃ v, e = .returned v) ∧ ((∃ ys, ys = timesL l ∧ J ys W') ∨ (∃ pre, pre <+: timesL l ∧ Jx pre W')) := by
  refine callsIn_of_wp Tryz.func145 rfl trivial ?_ rfl
  simp only [Tryz.ntmps145, List.size_toArray, List.length_cons, List.length_nil, Nat.reduceAdd, Nat.reduceSub, Array.replicate_succ, Array.replicate_zero, List.push_toArray, List.append_toArray, List.nil_append, List.cons_append]
  refine wpIn_scope (wpIn_lab ?_)
  gi_wp2
  gi_loopw [8] (fun i wr => ∃ k : Nat, k ≤ l.length ∧ i = .int .i64 k ∧ J (timesL (l.take k)) wr ∧ Below n₀ W wr ∧ W.heap.size ≤ wr.heap.size) (fun i _ => l.length - (intOf i).toNat)
  case atStart => exact ⟨0, Nat.zero_le _, rfl, h0, Below.refl _ _, Nat.le_refl _⟩
  case round =>
    obtain ⟨k, hk, rfl, hJs, hnx, hsz⟩ := hrel
    obtain ⟨wo, rfl⟩ : ∃ wo : World, wo = wr := ⟨_, rfl⟩
    rcases Nat.lt_or_ge k l.length with hlt | hge
    · obtain ⟨r, hri⟩ : ∃ r, l[k]? = some r := ⟨l[k]'(by omega), List.getElem?_eq_getElem (by omega)⟩
      have hr := hl r (List.mem_of_getElem? hri)
      obtain ⟨b, o, rfl, k0, k1, k2⟩ := hR.at' k r hri
      have hbl : b < n₀ := hn₀ _ rfl
      have q0 : wo.cell? ⟨b, o + k * 3, none⟩ = some (.int .i64 r.f) := (hnx.cell (p := ⟨b, o + k * 3, none⟩) hbl).trans k0
      have q1 : wo.cell? ⟨b, o + k * 3 + 1, none⟩ = some (.int .i64 r.s) := (hnx.cell (p := ⟨b, o + k * 3 + 1, none⟩) hbl).trans k1
      have q2 : wo.cell? ⟨b, o + k * 3 + 2, none⟩ = some (.int .i64 r.c) := (hnx.cell (p := ⟨b, o + k * 3 + 2, none⟩) hbl).trans k2
      clear k0 k1 k2
      have r1 := hr.f0; have r2 := hr.f1; have r3 := hr.s0; have r4 := hr.s1; have r5 := hr.c0; have r6 := hr.c1; have r7 := lastI_le hr; have r8 := hr.last
      gi_wp2
      gi_loopw [14] (fun j wr => ∃ m : Nat, (m : Int) ≤ r.c ∧ j = .int .i64 m ∧ J (timesL (l.take k) ++ (timesR r).take m) wr ∧ Below n₀ W wr ∧ W.heap.size ≤ wr.heap.size ∧ Blk wr wo.heap.size #[.int .i64 r.f, .int .i64 r.s, .int .i64 r.c] 51) (fun j _ => r.c.toNat - (intOf j).toNat)
      case atStart => exact ⟨0, by omega, rfl, by simpa using hJ _ _ _ none hJs (World.grownBy_alloc wo _ none) (fun r e => by cases e), hnx.alloc (by omega) _, by simp; omega, Blk.new' rfl⟩
      case round =>
        obtain ⟨m, hm, rfl, hJm, hnm, hsm, hb⟩ := hrel
        have kb := hb.cell
        have fb := hb.frozen
        by_cases hmc : (m : Int) < r.c
        · have m0 : 0 ≤ r.s * (m : Int) := Int.mul_nonneg r3 (by omega)
          have m1 : r.f + r.s * (m : Int) ≤ lastI r := run_at_le hr (by omega)
          obtain ⟨fn, tmps, assign, body, hy, hR'⟩ := hY _ (r.f + r.s * (m : Int)) wr hJm (times_room hri hmc)
          gi_wp2
          refine hR'.mono ?_
          rintro e W3 (⟨rfl, hJ3, hk3⟩ | ⟨rfl, hJx3⟩)
          · obtain ⟨g1, g2⟩ := hK hk3
            have g3 := g1.size
            gi_wp2
            go_roundw
            case rel => exact ⟨m + 1, by omega, by simp, by rw [timesR_step hmc, ← List.append_assoc]; exact hJ3, hnm.trans g1, by omega, g2 _ _ _ hb⟩
            case measure => simp [intOf]; omega
          · gi_wp2
            simp only [Exit.noGoto]
            refine bodyPost_end (results_none rfl _ _ _) rfl ?_
            exact ⟨⟨_, rfl⟩, .inr ⟨_, by rw [List.append_assoc, ← timesR_step hmc]; exact times_pre hri, hJx3⟩⟩
        · have e : (m : Int) = r.c := by omega
          have et : (timesR r).take m = timesR r := List.take_of_length_le (by rw [length_timesR]; omega)
          rw [et, ← times_step hri] at hJm
          gi_wp2
          go_roundw
          case rel => exact ⟨k + 1, by omega, by simp, hJm, hnm, hsm⟩
          case measure => simp [intOf]; omega
    · obtain rfl : k = l.length := by omega
      rw [List.take_length] at hJs
      gi_wp2
      simp only [Exit.noGoto]
      refine bodyPost_end (results_none rfl _ _ _) rfl ?_
      exact ⟨⟨_, rfl⟩, .inl ⟨_, rfl, hJs⟩⟩
end Go.Proofs.YtgblmlefmohgnaaGreat
namespace Go.Proofs.YtgblmlefmohgnaaGreat
open Go.RowKit Go.Shelf
attribute [local go_sem] Oper.semAt_some
theorem keepsT_appended {W w1 : World} {n₀ B : Nat} {t e T : TypeId} {size : Nat} {v v' : Value} {k : Nat} {xs : List Value} {tmp : Obj} (hv : Boxed W B t v) (hrow : W.ownsRow n₀ e size v k xs) (hgrow : (W.alloc tmp).grownBy w1 v.ownBlock) (h1 : T ≠ t) (h2 : T ≠ e) : KeepsT T W (w1.setCell ⟨B, 0, none⟩ v') := by
  intro b cs f hb
  have hlt := lt_of_heap hb
  have e1 : b ≠ B := by
    rintro rfl
    rw [show W.heap[b]? = _ from hv] at hb
    injection hb with hb
    injection hb with _ h _
    exact h1 h.symm
  rw [Below.heap_setCell w1 ⟨B, 0, none⟩ v' b e1]
  rw [hgrow.block b (by simp; omega) ?_, Below.heap_alloc W tmp b hlt]
  · exact hb
  · rcases hrow.2 with ⟨rfl, _⟩ | ⟨g, cap, cur, rfl, _, hgb, _⟩
    · simp [Value.ownBlock]
    · intro e'
      obtain rfl : b = g := by simpa [Value.ownBlock] using e'
      rw [hgb] at hb
      injection hb with hb
      injection hb with _ h _
      exact h2 h.symm

set_option maxRecDepth 100000 in
set_option maxHeartbeats 4000000 in
theorem appendSeqI (gf : Nat) (lb : Array Value) (xs : List Int) (hlen : xs.length ≤ 1000000) (w w0 : World) (hw0 : Below w0.heap.size w0 w) (Kp : World → World → Prop) (enters : ∀ args w, (callFunc gf args).run Tryz.prog w = .ok (.enter gf args) w)
    (hKp : ∀ {A B}, Below w.heap.size A B → (∀ T, T ≠ 25 → T ≠ 2 → KeepsT T A B) → Kp A B) (hKt : ∀ {A B C}, Kp A B → Kp B C → Kp A C) (hKb : ∀ (W : World) (l : Nat) (o o' : Obj), w.heap.size ≤ l → W.heap[l]? = some o → o.isCells = false → o.isWalk = false → Kp W (W.putObj l o'))
    (hseq : SeqStopsK Fence.wide 2 Tryz.prog gf lb (fun x : Int => #[Value.int .i64 x]) Kp (fun ys => ys = xs) (fun pre => pre <+: xs) xs.length w0) :
    CallsIn Fence.wide 3 Tryz.prog 144 #[.slice none 0 0, .func (.func gf) #[] lb] w fun e W' => ∃ v, e = .returned v ∧ W'.ownsRow w.heap.size 2 1 v xs.length (xs.map (Value.int .i64)) ∧ Below w.heap.size w W' := by
  obtain ⟨i0, hi, hz0, hz1, hz2⟩ := info_parts Tryz.infoInt
  refine callsIn_of_wp_marks Tryz.func144 rfl trivial ?_ rfl
  simp only [Tryz.ntmps144, List.size_toArray, List.length_cons, List.length_nil, Nat.reduceAdd, Nat.reduceSub, Array.replicate_succ, Array.replicate_zero, List.push_toArray, List.append_toArray, List.nil_append, List.cons_append]
  gi_wp2
  have bO := Boxed.new w 25 (.slice none 0 0)
  have hB0 : Below w.heap.size w (w.alloc (.cells #[.slice none 0 0] 25)) := (Below.refl _ w).alloc (Nat.le_refl _) _
  refine wpIn_rangeFunc_ownG rfl (by omega) (gf := gf) (lb := lb) rfl trivial enters hseq hKt (fun W l o o' hl => hKb W l o o' (by simp at hl; omega)) (hw0.trans (hB0.mono hw0.size)) (fun _ => rfl)
    (fun pre W => (∃ v, Boxed W w.heap.size 25 v ∧ W.ownsRow w.heap.size 2 1 v pre.length (pre.map (Value.int .i64)) ∧ True) ∧ Below w.heap.size w W)
    (fun _ _ _ => False)
    (OwnFrom.and (Own.from (holdsRow_own w.heap.size w.heap.size 25 2 1 (fun pre : List Int => pre.length) (fun pre => pre.map (Value.int .i64)) (fun _ _ => True)) _) (ownFrom_below (Nat.le_refl _) (by simp)))
    (fun _ _ _ _ _ hs _ _ => hs)
    ⟨⟨_, bO, World.ownsRow_nil _ _ _ _, trivial⟩, hB0⟩
    (fun x => { tmps := #[.slice none 0 0, .func (.func gf) #[] lb, .pointer (some ⟨w.heap.size, 0, none⟩), undef, .slice none 0 0, .int .i64 x, .func (.func gf) #[] lb, .int .i64 x, undef, undef, undef, undef, undef], defers := [] }) ?assign ?body ?done ?stop
  case assign =>
    intro l x W K hK
    gi_wp2
    exact hK
  case body =>
    rintro l pre x W ⟨⟨v, hv, hrow, _⟩, hB⟩ hlt
    have hc := hv.cell
    gi_wp2_with (gi_at_builtin; refine wpListIn_append_own _ rfl _ _ 25 rfl w.heap.size 2 i0 (.int .i64 0) 1 8 (by kernel_rfl) hi hz0 hz1 hz2 rfl (by decide) _ _ _ rfl (hrow.alloc _) ⟨W.heap.size, 0, none⟩ 1 1 [.int .i64 x] rfl rfl (cell_one_new _ _ _) (by simp [Value.oneCell']) (by simp [maxLen]; omega) (by omega) (by have := hB.size; simp; omega) ?_; intro v' w1 hown' hgrow _; obtain ⟨g', cap', rfl⟩ := ownsRow_succ hown'; obtain ⟨hv1, hv2, hr2, hk2, hb2⟩ := hv.appended (by decide) hrow hB.size (Nat.le_refl _) hown' hgrow; have hkt := fun T h1 h2 => keepsT_appended (v' := .slice (some ⟨g', 0, none⟩) (pre.length + 1) cap') (T := T) hv hrow hgrow h1 h2; have hc1 := hv1.cell; have hf1 := hv1.frozen)
    exact ⟨hk2.from _, hKp hb2 hkt, ⟨_, hv2, by simpa using hr2, trivial⟩, hB.trans hb2⟩
  case done =>
    rintro D ys W hD rfl ⟨⟨v, hv, hrow, _⟩, hB⟩ hK
    have hc := hv.cell
    gi_wp2
    refine ⟨by simp, .inl ⟨_, _, rfl, run_takeDeferred hK, ?_⟩⟩
    exact ⟨_, results_tmp rfl _ _ _, v, rfl, ownsRow_putObj hrow _ hK rfl, hB.trans (belowK_b (w := w) (Nat.le_refl _) W D _ _ (by simp at hD; omega) hK rfl rfl)⟩
  case stop =>
    rintro D c pre W _ _ h _
    exact h.elim

end Go.Proofs.YtgblmlefmohgnaaGreat
namespace Go.Proofs.YtgblmlefmohgnaaGreat
open Go.RowKit Go.Shelf
theorem ownsRow_le {W : World} {b b' : Nat} {e : TypeId} {s : Nat} {v : Value} {k : Nat} {xs : List Value} (h : W.ownsRow b e s v k xs) (hb : b' ≤ b) : W.ownsRow b' e s v k xs := by
  obtain ⟨h1, h2 | ⟨g, cap, cur, e1, hg, r⟩⟩ := h
  · exact ⟨h1, .inl h2⟩
  · exact ⟨h1, .inr ⟨g, cap, cur, e1, Nat.le_trans hb hg, r⟩⟩
theorem keepsT_putObj {T : TypeId} {W : World} {l : Nat} {o : Obj} (o' : Obj) (hl : W.heap[l]? = some o) (ho : o.isCells = false) : KeepsT T W (W.putObj l o') := by
  intro b cs f hb
  rw [World.putObj_heap_other]
  · exact hb
  · rintro rfl
    rw [hb] at hl
    cases hl
    cases ho
set_option maxRecDepth 100000 in
set_option maxHeartbeats 2000000 in
theorem collectI (gf : Nat) (lb : Array Value) (xs : List Int) (hlen : xs.length ≤ 1000000) (w w0 : World) (hw0 : Below w0.heap.size w0 w) (Kp : World → World → Prop) (enters : ∀ args w, (callFunc gf args).run Tryz.prog w = .ok (.enter gf args) w)
    (hKp : ∀ {A B}, Below w.heap.size A B → (∀ T, T ≠ 25 → T ≠ 2 → KeepsT T A B) → Kp A B) (hKt : ∀ {A B C}, Kp A B → Kp B C → Kp A C) (hKb : ∀ (W : World) (l : Nat) (o o' : Obj), w.heap.size ≤ l → W.heap[l]? = some o → o.isCells = false → o.isWalk = false → Kp W (W.putObj l o'))
    (hseq : SeqStopsK Fence.wide 2 Tryz.prog gf lb (fun x : Int => #[Value.int .i64 x]) Kp (fun ys => ys = xs) (fun pre => pre <+: xs) xs.length w0) :
    Calls Tryz.prog 130 #[.func (.func gf) #[] lb] w fun e W' => ∃ v, e = .returned v ∧ W'.ownsRow w.heap.size 2 1 v xs.length (xs.map (Value.int .i64)) ∧ Below w.heap.size w W' := by
  have c1 := Lib.hid (callsIn_wide.1 (appendSeqI gf lb xs hlen w w0 hw0 Kp enters hKp hKt hKb hseq))
  clear hKp hKt hKb hseq enters hw0
  go_enter Tryz.func130, Tryz.ntmps130
  go_wp2_with fail
  refine c1.out.mono ?_
  rintro e w1 ⟨v, rfl, hv, hB⟩
  replace hv := Lib.hid hv
  replace hB := Lib.hid hB
  go_wp2
  go_ret
  exact ⟨v, rfl, hv.out, hB.out⟩

set_option maxRecDepth 100000 in
set_option maxHeartbeats 2000000 in
theorem all_w (p : Option Addr) (len cap : Nat) (w : World) : Calls Tryz.prog 131 #[.slice p len cap] w fun e w' => e = .returned (.func (.func 145) #[] #[.pointer (some ⟨w.heap.size, 0, none⟩)]) ∧ w' = w.alloc (.cells #[.slice p len cap] 22) := by
  have hmf : ∀ (fn : Fn) (first cap : Array Value) (w : World), (Instr.makeFunc fn first cap).run Tryz.prog w = .ok (.func fn first cap) w := fun _ _ _ _ => rfl
  go_enter Tryz.func131, Tryz.ntmps131
  go_wp2
  go_ret
  exact ⟨rfl, rfl⟩
/-- All times, in an array of its own. -/
def TimesOut (w : World) (l : List RunT) (e : Ending) (w' : World) : Prop := ∃ v, e = .returned (.tuple #[v, .int .i64 0]) ∧ w'.ownsRow w.heap.size 2 1 v (timesL l).length ((timesL l).map (Value.int .i64)) ∧ Below w.heap.size w w'
theorem collect_times (p : Option Addr) (cap : Nat) (l : List RunT) (w : World) (Bs : Nat) (hl : RunsOk l) (h : RunsIn w p l) (hBs : Blk w Bs #[.slice p l.length cap] 22) :
    Calls Tryz.prog 130 #[.func (.func 145) #[] #[.pointer (some ⟨Bs, 0, none⟩)]] w fun e W' => ∃ v, e = .returned v ∧ W'.ownsRow w.heap.size 2 1 v (timesL l).length ((timesL l).map (Value.int .i64)) ∧ Below w.heap.size w W' := by
  have hlt : ∀ a, p = some a → a.block < w.heap.size := by
    rintro a rfl
    have := hl.some'
    obtain ⟨b, o, e, k0, _⟩ := h.at' 0 (l[0]'(by omega)) (List.getElem?_eq_getElem (by omega))
    cases e
    exact cell_lt k0
  have hcnt := hl.count
  have hlen := length_times hl
  refine collectI 145 _ (timesL l) (by omega) w w (Below.refl _ _) (fun A B => Below w.heap.size A B ∧ KeepsT 51 A B) (enters_of Tryz.func145 (by kernel_rfl) rfl)
    (fun hb hk => ⟨hb, hk _ (by decide) (by decide)⟩) (fun h k => ⟨h.1.trans k.1, h.2.trans k.2⟩) (fun W k o o' hk ho h1 h2 => ⟨belowK_b (Nat.le_refl _) W k o o' hk ho h1 h2, keepsT_putObj o' ho h1⟩) ?_
  intro lr J Jx W hW hJ _ hY h0
  exact all1_in 2 (by omega) lr Bs w.heap.size p cap l hl.each (by have := hl.few; omega) _ (fun h => h) J Jx _ hJ hY W ((hBs.below hW).cell 0) (h.below hW) hlt hW.size h0
set_option maxRecDepth 100000 in
set_option maxHeartbeats 2000000 in
theorem c_Times (p : Option Addr) (cap : Nat) (l : List RunT) (w : World) (hl : RunsOk l) (h : RunsIn w p l) : Calls Tryz.prog 107 #[.slice p l.length cap] w (TimesOut w l) := by
  have hlen := hl.few
  have c1 := fun W (hW : Below w.heap.size w W) => rises_w p cap l W (by omega) (h.below hW)
  rw [(risesB_iff l).2 hl] at c1
  have c2 := Lib.hid (fun W Bs (hW : Below w.heap.size w W) (hb : Blk W Bs #[.slice p l.length cap] 22) => collect_times p cap l W Bs hl (h.below hW) hb)
  have H_c1 := Lib.hid c1
  clear c1
  go_enter Tryz.func107, Tryz.ntmps107
  have c1 := H_c1.out
  go_wp2_with fail
  refine (c1 _ (belowAny)).mono ?_
  rintro e w1 ⟨rfl, hb1⟩
  clear c1
  have z1 := hb1.size
  go_wp2_with fail
  refine (all_w _ _ _ _).mono ?_
  rintro e w2 ⟨rfl, rfl⟩
  go_wp2_with fail
  refine (c2.out _ _ (belowAny) (Blk.new' rfl)).mono ?_
  rintro e w3 ⟨v, rfl, hv, hB⟩
  replace hv := Lib.hid hv
  have hBB : Hid (Below w.heap.size w w3) := Lib.hid (belowAny)
  clear hB
  go_wp2
  refine bodyPost_ret (v := .tuple #[v, .int .i64 0]) (by simp [results, Tryz.results107, go_sem]) rfl ⟨v, rfl, ownsRow_le hv.out (by simp; omega), hBB.out⟩
end Go.Proofs.YtgblmlefmohgnaaGreat
namespace Go.Proofs.YtgblmlefmohgnaaGreat
open Go.RowKit Go.Shelf
attribute [local go_sem] Oper.semAt_some
/-- The points of a segment. -/
def ptsL (s : SegT) : List (Int × Int) := (timesL s.runs).zip (vals s)
theorem length_pts {s : SegT} (hs : segB s = true) : ((ptsL s).length : Int) = cnt s.runs := by
  have h1 := length_times (segB_runs hs)
  have h2 := length_vals hs
  unfold ptsL
  simp
  omega
theorem pts_at {s : SegT} (hs : segB s = true) {k : Nat} (hk : (k : Int) < cnt s.runs) : ∃ t, (timesL s.runs)[k]? = some t ∧ (ptsL s)[k]? = some (t, valI s k) := by
  have h1 := length_times (segB_runs hs)
  have h2 := length_vals hs
  refine ⟨(timesL s.runs)[k]'(by omega), List.getElem?_eq_getElem _, ?_⟩
  unfold ptsL valI
  rw [List.getElem?_eq_getElem (by simp; omega), List.getElem_zip]
  simp
  rw [List.getElem?_eq_getElem (by omega)]
  rfl
theorem abides_below {β : Type} {B : Nat} {J : β → World → Prop} (hJ : AbidesFrom B J) {s : β} {A C : World} (h : J s A) (hb : Below A.heap.size A C) : J s C :=
  hJ s A C none h ⟨hb.os, hb.tape, hb.output, hb.size, fun i hi _ => hb.block i hi⟩ (fun r e => by cases e)
/-- What a round must keep for the points' sake. -/
structure KeepsPts (s : SegT) (p q : Option Addr) (cap vc Bs n₀ : Nat) (A B : World) : Prop where
  size : A.heap.size ≤ B.heap.size
  seg : SegIn A s p q → SegIn B s p q
  box : Blk A Bs (segA s p q cap vc) 78 → Blk B Bs (segA s p q cap vc) 78
  nums : ∀ (b : Nat) (cs : Array Value), n₀ ≤ b → Blk A b cs 2 → Blk B b cs 2
set_option maxRecDepth 100000 in
set_option maxHeartbeats 4000000 in
theorem points1_in (n : Nat) (hn : 1 ≤ n) (lr Bs n₀ : Nat) (s : SegT) (p q : Option Addr) (cap vc : Nat) (hs : segB s = true) (Kp : World → World → Prop) (hK : ∀ {A B}, Kp A B → KeepsPts s p q cap vc Bs n₀ A B)
    (J Jx : List (Int × Int) → World → Prop) (B0 : Nat) (hJ : AbidesFrom B0 J)
    (hY : ∀ pre x W, J pre W → pre.length < (ptsL s).length → YieldAt Fence.wide (n - 1) Tryz.prog lr #[.agg #[.int .i64 x.1, .int .i64 x.2]] W fun e W' => (e = .returned (.bool true) ∧ J (pre ++ [x]) W' ∧ Kp W W') ∨ (e = .returned (.bool false) ∧ Jx (pre ++ [x]) W'))
    (W : World) (hBs : Blk W Bs (segA s p q cap vc) 78) (hin : SegIn W s p q) (hn₀ : n₀ ≤ W.heap.size) (h0 : J [] W) :
    CallsIn Fence.wide n Tryz.prog 106 #[.func (.yield lr) #[] #[], .pointer (some ⟨Bs, 0, none⟩)] W fun e W' => (∃ v, e = .returned v) ∧ ((∃ ys, ys = ptsL s ∧ J ys W') ∨ (∃ pre, pre <+: ptsL s ∧ Jx pre W')) := by
  have hl := segB_runs hs
  have ct := fun W' (hW : Below W.heap.size W W') => c_Times p cap s.runs W' hl (hin.runs.below hW)
  have hlen := Lib.hid (length_pts hs)
  have hlt := length_times hl
  have hcnt := cnt_pos hl
  have hBs' := hBs
  unfold segA at hBs'
  have k := hBs'.cell
  refine callsIn_of_wp Tryz.func106 rfl trivial ?_ rfl
  simp only [Tryz.ntmps106, List.size_toArray, List.length_cons, List.length_nil, Nat.reduceAdd, Nat.reduceSub, Array.replicate_succ, Array.replicate_zero, List.push_toArray, List.append_toArray, List.nil_append, List.cons_append]
  have hmf : ∀ (fn : Fn) (first cap : Array Value) (w : World), (Instr.makeFunc fn first cap).run Tryz.prog w = .ok (.func fn first cap) w := fun _ _ _ _ => rfl
  refine wpIn_scope ?_
  gi_wp2_with (refine ⟨trivial, ?_⟩; gi_at_call 107; refine (callsIn_wide.2 (ct _ (belowAny))).mono ?_; rintro e w1 ⟨v, rfl, hv, hB⟩)
  clear k ct
  obtain ⟨N, hN⟩ : ∃ N, (timesL s.runs).length = N + 1 := ⟨(timesL s.runs).length - 1, by omega⟩
  rw [hN] at hv
  obtain ⟨_, h2 | ⟨g, cap', cur, rfl, hg, hb, hnc, _, hc, htk⟩⟩ := hv
  · omega
  have hs0 := hB.size
  have hin1 := hin.below hB
  have hbs1 := hBs.below hB
  have hJ1 := abides_below hJ h0 hB
  have htk' : cur.toList.take ((N + 1) * 1) = (timesL s.runs).map (Value.int .i64) := htk
  have HN := Lib.hid hN
  clear hs0 htk hBs' hN hlt
  clear hBs hin h0 hB
  refine wpIn_label ?_
  gi_wp2
  gi_loopw [19] (fun i wr => ∃ k : Nat, k ≤ N + 1 ∧ i = .int .i64 k ∧ J ((ptsL s).take k) wr ∧ SegIn wr s p q ∧ Blk wr Bs (segA s p q cap vc) 78 ∧ Blk wr g cur 2) (fun i _ => N + 1 - (intOf i).toNat)
  case atStart => exact ⟨0, Nat.zero_le _, rfl, hJ1, hin1, hbs1, hb⟩
  case round =>
    obtain ⟨k, hk, rfl, hJk, hik, hbk, hgk⟩ := hrel
    rcases Nat.lt_or_ge k (N + 1) with hlk | hge
    · have hkc : (k : Int) < cnt s.runs := by have := length_times hl; have := HN.out; omega
      obtain ⟨t, ht1, ht2⟩ := pts_at hs hkc
      have hcell : wr.cell? ⟨g, k, none⟩ = some (.int .i64 t) := by rw [cell_of_row wr g k cur _ (0, 0) hgk]; exact row_take htk' (by simp [ht1])
      have cv := Lib.hid (c_segValue s p q cap vc k wr hik hs (by omega) hkc)
      replace ht1 := Lib.hid ht1
      replace ht2 := Lib.hid ht2
      replace htk' := Lib.hid htk'
      have hst : (ptsL s).take (k + 1) = (ptsL s).take k ++ [(t, valI s k)] := by rw [List.take_add_one, ht2.out]; rfl
      have Hst := Lib.hid hst
      have hroom : ((ptsL s).take k).length < (ptsL s).length := by have := hlen.out; simp; omega
      clear hst
      gi_wp2_with (refine ⟨trivial, ?_⟩; gi_at_call 68; refine (callsIn_wide.2 cv.out).mono ?_; rintro e w2 ⟨rfl, hb2⟩; obtain ⟨fn, tmps, assign, body, hy, hR⟩ := hY _ (t, valI s k) w2 (abides_below hJ hJk hb2) hroom; dsimp only at hy)
      refine hR.mono ?_
      rintro e W3 (⟨rfl, hJ3, hk3⟩ | ⟨rfl, hJx3⟩)
      · have hkp := hK hk3
        gi_wp2
        go_roundw
        case rel => exact ⟨k + 1, by omega, by simp, by rw [Hst.out]; exact hJ3, hkp.seg (hik.below hb2), hkp.box (hbk.below hb2), hkp.nums g cur (by omega) (hgk.below hb2)⟩
        case measure => simp [intOf]; omega
      · gi_wp2
        simp only [Exit.noGoto]
        refine bodyPost_end (results_none rfl _ _ _) rfl ?_
        exact ⟨⟨_, rfl⟩, .inr ⟨_, by rw [← Hst.out]; exact List.take_prefix _ _, hJx3⟩⟩
    · obtain rfl : k = N + 1 := by omega
      have e : (ptsL s).take (N + 1) = ptsL s := List.take_of_length_le (by have := hlen.out; have := HN.out; have := length_times hl; omega)
      rw [e] at hJk
      clear e
      gi_wp2
      simp only [Exit.noGoto]
      refine bodyPost_end (results_none rfl _ _ _) rfl ?_
      exact ⟨⟨_, rfl⟩, .inl ⟨_, rfl, hJk⟩⟩
end Go.Proofs.YtgblmlefmohgnaaGreat
