/- Parts of the proof that follows: Layer seg: Kind, Of. | Layer seg: Of, told. | Layer seg: Of, told. | The laws of chapter 11: wakes. | The laws of chapter 11: wakes told; together. -/
import Derived.Test.YtgblmlefmohgnaaGreatMakes7
set_option linter.unusedSimpArgs false
set_option linter.unusedVariables false
namespace Go.Proofs.YtgblmlefmohgnaaGreat
open Go.RowKit
set_option maxRecDepth 100000 in
set_option maxHeartbeats 2000000 in
theorem kind_0 (A R n d : Int) (w : World) 
    (c1 : ∀ W, Below w.heap.size w W → Calls Tryz.prog 51 #[.agg #[.int .i64 A, .int .i64 R, .int .i64 n, .int .i64 d]] W fun e w' => e = .returned (.int .i64 150) ∧ Below W.heap.size W w') :
    Calls Tryz.prog 18 #[.agg #[.int .i64 A, .int .i64 R, .int .i64 n, .int .i64 d]] w fun e w' => e = .returned (.int .i64 0) ∧ Below w.heap.size w w' := by
  have H_c1 := Lib.hid c1
  clear c1
  go_enter Tryz.func18, Tryz.ntmps18
  go_upto_region 1 with (fail)
  refine wp_facts (fun W' => Below w.heap.size w W' ∧ Blk W' w.heap.size #[.int .i64 A, .int .i64 R, .int .i64 n, .int .i64 d] 24) ⟨by exact belowAny, by exact blkAny⟩ ?_
  rintro W1 ⟨hW, b1⟩
  have z2 := hW.size
  have z3 := b1.lt
  have k1 := b1.cell
  have f1 := b1.frozen
  have c1 := H_c1.out
  go_wp2_with fail
  refine (c1 _ (belowAny)).mono ?_
  rintro e w4 ⟨rfl, hb4⟩
  clear c1
  have z5 := hb4.size
  try simp at z5
  clear k1 f1
  have b1 : Blk w4 w.heap.size #[.int .i64 A, .int .i64 R, .int .i64 n, .int .i64 d] 24 := by exact blkAny
  have hW : Below w.heap.size w w4 := by exact belowAny
  have z6 := b1.lt
  clear hb4
  have k1 := b1.cell
  have f1 := b1.frozen
  go_wp2
  have y_1 := b1.lt
  refine bodyPost_ret (v := .int .i64 0) (by simp [results, Tryz.results18, go_sem, k1, f1, y_1]) rfl ⟨rfl, by exact belowAny⟩

set_option maxRecDepth 100000 in
set_option maxHeartbeats 2000000 in
theorem kind_1 (A R n d : Int) (w : World) 
    (c1 : ∀ W, Below w.heap.size w W → Calls Tryz.prog 51 #[.agg #[.int .i64 A, .int .i64 R, .int .i64 0, .int .i64 d]] W fun e w' => e = .returned (.int .i64 0) ∧ Below W.heap.size W w') :
    Calls Tryz.prog 18 #[.agg #[.int .i64 A, .int .i64 R, .int .i64 0, .int .i64 d]] w fun e w' => e = .returned (.int .i64 1) ∧ Below w.heap.size w w' := by
  have H_c1 := Lib.hid c1
  clear c1
  go_enter Tryz.func18, Tryz.ntmps18
  go_upto_region 1 with (fail)
  refine wp_facts (fun W' => Below w.heap.size w W' ∧ Blk W' w.heap.size #[.int .i64 A, .int .i64 R, .int .i64 0, .int .i64 d] 24) ⟨by exact belowAny, by exact blkAny⟩ ?_
  rintro W1 ⟨hW, b1⟩
  have z2 := hW.size
  have z3 := b1.lt
  have k1 := b1.cell
  have f1 := b1.frozen
  have c1 := H_c1.out
  go_wp2_with fail
  refine (c1 _ (belowAny)).mono ?_
  rintro e w4 ⟨rfl, hb4⟩
  clear c1
  have z5 := hb4.size
  try simp at z5
  clear k1 f1
  have b1 : Blk w4 w.heap.size #[.int .i64 A, .int .i64 R, .int .i64 0, .int .i64 d] 24 := by exact blkAny
  have hW : Below w.heap.size w w4 := by exact belowAny
  have z6 := b1.lt
  clear hb4
  have k1 := b1.cell
  have f1 := b1.frozen
  go_wp2
  have y_1 := b1.lt
  refine bodyPost_ret (v := .int .i64 1) (by simp [results, Tryz.results18, go_sem, k1, f1, y_1]) rfl ⟨rfl, by exact belowAny⟩

set_option maxRecDepth 100000 in
set_option maxHeartbeats 2000000 in
theorem kind_2 (A R n d : Int) (w : World) (hn : (n == 0) = false)
    (c1 : ∀ W, Below w.heap.size w W → Calls Tryz.prog 51 #[.agg #[.int .i64 A, .int .i64 0, .int .i64 n, .int .i64 d]] W fun e w' => e = .returned (.int .i64 0) ∧ Below W.heap.size W w') :
    Calls Tryz.prog 18 #[.agg #[.int .i64 A, .int .i64 0, .int .i64 n, .int .i64 d]] w fun e w' => e = .returned (.int .i64 2) ∧ Below w.heap.size w w' := by
  have H_c1 := Lib.hid c1
  clear c1
  go_enter Tryz.func18, Tryz.ntmps18
  go_upto_region 1 with (fail)
  refine wp_facts (fun W' => Below w.heap.size w W' ∧ Blk W' w.heap.size #[.int .i64 A, .int .i64 0, .int .i64 n, .int .i64 d] 24) ⟨by exact belowAny, by exact blkAny⟩ ?_
  rintro W1 ⟨hW, b1⟩
  have z2 := hW.size
  have z3 := b1.lt
  have k1 := b1.cell
  have f1 := b1.frozen
  have c1 := H_c1.out
  go_wp2_with fail
  refine (c1 _ (belowAny)).mono ?_
  rintro e w4 ⟨rfl, hb4⟩
  clear c1
  have z5 := hb4.size
  try simp at z5
  clear k1 f1
  have b1 : Blk w4 w.heap.size #[.int .i64 A, .int .i64 0, .int .i64 n, .int .i64 d] 24 := by exact blkAny
  have hW : Below w.heap.size w w4 := by exact belowAny
  have z6 := b1.lt
  clear hb4
  have k1 := b1.cell
  have f1 := b1.frozen
  go_wp2
  have y_1 := b1.lt
  refine bodyPost_ret (v := .int .i64 2) (by simp [results, Tryz.results18, go_sem, k1, f1, y_1]) rfl ⟨rfl, by exact belowAny⟩

set_option maxRecDepth 100000 in
set_option maxHeartbeats 2000000 in
theorem kind_3 (A R n d : Int) (w : World) (hn : (n == 0) = false) (hR : (R == 0) = false)
    (c1 : ∀ W, Below w.heap.size w W → Calls Tryz.prog 51 #[.agg #[.int .i64 A, .int .i64 R, .int .i64 n, .int .i64 d]] W fun e w' => e = .returned (.int .i64 0) ∧ Below W.heap.size W w') :
    Calls Tryz.prog 18 #[.agg #[.int .i64 A, .int .i64 R, .int .i64 n, .int .i64 d]] w fun e w' => e = .returned (.int .i64 3) ∧ Below w.heap.size w w' := by
  have H_c1 := Lib.hid c1
  clear c1
  go_enter Tryz.func18, Tryz.ntmps18
  go_upto_region 1 with (fail)
  refine wp_facts (fun W' => Below w.heap.size w W' ∧ Blk W' w.heap.size #[.int .i64 A, .int .i64 R, .int .i64 n, .int .i64 d] 24) ⟨by exact belowAny, by exact blkAny⟩ ?_
  rintro W1 ⟨hW, b1⟩
  have z2 := hW.size
  have z3 := b1.lt
  have k1 := b1.cell
  have f1 := b1.frozen
  have c1 := H_c1.out
  go_wp2_with fail
  refine (c1 _ (belowAny)).mono ?_
  rintro e w4 ⟨rfl, hb4⟩
  clear c1
  have z5 := hb4.size
  try simp at z5
  clear k1 f1
  have b1 : Blk w4 w.heap.size #[.int .i64 A, .int .i64 R, .int .i64 n, .int .i64 d] 24 := by exact blkAny
  have hW : Below w.heap.size w w4 := by exact belowAny
  have z6 := b1.lt
  clear hb4
  have k1 := b1.cell
  have f1 := b1.frozen
  go_wp2
  have y_1 := b1.lt
  refine bodyPost_ret (v := .int .i64 3) (by simp [results, Tryz.results18, go_sem, k1, f1, y_1]) rfl ⟨rfl, by exact belowAny⟩

def kindL (A R n d : Int) : Int := if isLine A R n d = true then (if n = 0 then 1 else if R = 0 then 2 else 3) else 0
theorem c_Kind (A R n d : Int) (w : World) : Calls Tryz.prog 18 #[.agg #[.int .i64 A, .int .i64 R, .int .i64 n, .int .i64 d]] w fun e w' => e = .returned (.int .i64 (kindL A R n d)) ∧ Below w.heap.size w w' := by
  have c1 := fun W (_ : Below w.heap.size w W) => c_Check A R n d W
  unfold kindL
  cases h : isLine A R n d with
  | false =>
    rw [h] at c1
    exact kind_0 A R n d w c1
  | true =>
    rw [h] at c1
    rw [if_pos rfl]
    by_cases hn : n = 0
    · rw [if_pos hn]
      subst hn
      exact kind_1 A R 0 d w c1
    · rw [if_neg hn]
      have hn' : (n == 0) = false := by simpa using hn
      by_cases hR : R = 0
      · rw [if_pos hR]
        subst hR
        exact kind_2 A 0 n d w hn' c1
      · rw [if_neg hR]
        exact kind_3 A R n d w hn' (by simpa using hR) c1
theorem RunsIn.set' {w : World} {p : Option Addr} {o i : Nat} {v : Value} {l : List RunT} (h : RunsIn w p l) (hne : ∀ a, p = some a → a.block ≠ o) : RunsIn (w.setCell ⟨o, i, none⟩ v) p l := ⟨fun k r hr => by
  obtain ⟨b, y, e, h1, h2, h3⟩ := h.at' k r hr
  have hc : ∀ z, (w.setCell ⟨o, i, none⟩ v).cell? ⟨b, z, none⟩ = w.cell? ⟨b, z, none⟩ := by
    intro z
    have := heap_setCell_other w ⟨o, i, none⟩ b v (hne _ e)
    simp only [World.cell?, this]
  exact ⟨b, y, e, (hc _).trans h1, (hc _).trans h2, (hc _).trans h3⟩⟩
theorem IntsIn.set' {w : World} {p : Option Addr} {o i : Nat} {v : Value} {l : List Int} (h : IntsIn w p l) (hne : ∀ a, p = some a → a.block ≠ o) : IntsIn (w.setCell ⟨o, i, none⟩ v) p l := ⟨fun k r hr => by
  obtain ⟨b, y, e, h1⟩ := h.at' k r hr
  have hc : ∀ z, (w.setCell ⟨o, i, none⟩ v).cell? ⟨b, z, none⟩ = w.cell? ⟨b, z, none⟩ := by
    intro z
    have := heap_setCell_other w ⟨o, i, none⟩ b v (hne _ e)
    simp only [World.cell?, this]
  exact ⟨b, y, e, (hc _).trans h1⟩⟩
theorem IntsIn.rex {w w' : World} {p : Option Addr} {l : List Int} (h : IntsIn w p l) (hr : Rex [] w w') : IntsIn w' p l := h.below hr.below
def CR (B : Nat) (l : List RunT) : Spec := fun v w => ∃ p' cap', v = .slice p' l.length cap' ∧ RunsIn w p' l ∧ l.length ≤ cap' ∧ ∀ a, p' = some a → B ≤ a.block
def CI (B : Nat) (l : List Int) : Spec := fun v w => ∃ p' cap', v = .slice p' l.length cap' ∧ IntsIn w p' l ∧ l.length ≤ cap' ∧ ∀ a, p' = some a → B ≤ a.block
theorem CR.closed (B : Nat) (l : List RunT) : Closed [] (CR B l) := fun _ _ _ hr ⟨p', c', e, h, k⟩ => ⟨p', c', e, h.rex hr rfl, k⟩
theorem CI.closed (B : Nat) (l : List Int) : Closed [] (CI B l) := fun _ _ _ hr ⟨p', c', e, h, k⟩ => ⟨p', c', e, h.rex hr, k⟩
set_option maxRecDepth 100000 in
set_option maxHeartbeats 2000000 in
theorem made1_w (K A R n d E : Int) (p q : Option Addr) (cap vc : Nat) (l : List RunT) (v : List Int) (w : World)
    (c1 : ∀ W, Below w.heap.size w W → Calls Tryz.prog 102 #[.slice p l.length cap] W (CloneR W p l))
    (c2 : ∀ W, Below w.heap.size w W → Calls Tryz.prog 103 #[.slice q v.length vc] W (CloneI W q v)) :
    Calls Tryz.prog 101 #[.agg #[.int .i64 K, .slice p l.length cap, .int .i64 A, .int .i64 R, .int .i64 n, .int .i64 d, .slice q v.length vc, .int .i64 E]] w fun e w' => ∃ p' cap' q' vc', e = .returned (.tuple #[.agg #[.int .i64 K, .slice p' l.length cap', .int .i64 A, .int .i64 R, .int .i64 n, .int .i64 d, .slice q' v.length vc', .int .i64 E], .int .i64 0]) ∧ Below w.heap.size w w' ∧ RunsIn w' p' l ∧ IntsIn w' q' v ∧ l.length ≤ cap' ∧ v.length ≤ vc' ∧ (∀ a, p' = some a → w.heap.size ≤ a.block) ∧ ∀ a, q' = some a → w.heap.size ≤ a.block := by
  have H_c1 := Lib.hid c1
  clear c1
  have H_c2 := Lib.hid c2
  clear c2
  go_enter Tryz.func101, Tryz.ntmps101
  have c1 := H_c1.out
  have c2 := H_c2.out
  go_upto_region 1 with (fail)
  refine wp_facts (fun W' => Below w.heap.size w W' ∧ Blk W' w.heap.size #[.int .i64 K, .slice p l.length cap, .int .i64 A, .int .i64 R, .int .i64 n, .int .i64 d, .slice q v.length vc, .int .i64 E] 78 ∧ Blk W' (w.heap.size + 1) #[.int .i64 0, .slice none 0 0, .int .i64 0, .int .i64 0, .int .i64 0, .int .i64 0, .slice none 0 0, .int .i64 0] 27) ⟨by exact belowAny, by exact blkAny, by exact blkAny⟩ ?_
  rintro W1 ⟨hW, b1, b2⟩
  have z2 := hW.size
  have z3 := b1.lt
  have z4 := b2.lt
  refine wp_region_nd 10 18 [] (fun W' => Rex [] W1 W' ∧ Blk W' w.heap.size #[.int .i64 K, .slice p l.length cap, .int .i64 A, .int .i64 R, .int .i64 n, .int .i64 d, .slice q v.length vc, .int .i64 E] 78 ∧ Blk W' (w.heap.size + 1) #[.int .i64 0, .slice none 0 0, .int .i64 0, .int .i64 0, .int .i64 0, .int .i64 0, .slice none 0 0, .int .i64 0] 27) mixed (by kernel_rfl) rfl ⟨(Rex.refl _ _).drew, b1, b2⟩ (fun w w' ⟨h0, h1, h2⟩ hr => ⟨h0.trans hr, h1.rex hr (by simp <;> omega), h2.rex hr (by simp <;> omega)⟩) (fun c a d v w h => by cases d <;> exact h) ?_
  iterate 3
    apply nd_det (hg := rfl) (hal := rfl)
    · intro a W' hC hE
      obtain ⟨_, k1, k2⟩ := hC
      have k1 := k1.cell
      have k2 := k2.cell
      first
        | (simp [Oper.looksAt, Op.operands, Call.operands, envOf, Det] at hE; simp [go_sem, Act.eval, IntWalk.i64_left, hE, k1, k2]; try rfl)
        | (clear hE; simp [go_sem, Act.eval, IntWalk.i64_left, k1, k2]; try rfl)
  apply nd_call (CR (w.heap.size + 2) l) (hg := rfl) (hal := rfl)
  · exact CR.closed _ _
  · intro a W' hC hE
    refine ⟨_, _, ?_, (c1 W' (hW.trans (hC.1.of_priv hW.size))).mono ?_⟩
    · obtain ⟨_, k1, k2⟩ := hC
      have k1 := k1.cell
      have k2 := k2.cell
      simp [Oper.looksAt, Op.operands, Call.operands, envOf, Det] at hE
      simp [go_sem, Act.eval, IntWalk.i64_left, hE, k1, k2]
      try rfl
    · have hs := (hW.trans (hC.1.of_priv hW.size)).size
      have hs2 := hC.2.2.lt
      rintro e w' ⟨p', cap', rfl, hB, hR, hc, hf⟩
      exact ⟨_, rfl, hB, p', cap', rfl, hR, hc, fun a h => by have := hf a h; omega⟩
  iterate 3
    apply nd_det (hg := rfl) (hal := rfl)
    · intro a W' hC hE
      obtain ⟨_, k1, k2⟩ := hC
      have k1 := k1.cell
      have k2 := k2.cell
      first
        | (simp [Oper.looksAt, Op.operands, Call.operands, envOf, Det] at hE; simp [go_sem, Act.eval, IntWalk.i64_left, hE, k1, k2]; try rfl)
        | (clear hE; simp [go_sem, Act.eval, IntWalk.i64_left, k1, k2]; try rfl)
  apply nd_call (CI (w.heap.size + 2) v) (hg := rfl) (hal := rfl)
  · exact CI.closed _ _
  · intro a W' hC hE
    refine ⟨_, _, ?_, (c2 W' (hW.trans (hC.1.of_priv hW.size))).mono ?_⟩
    · obtain ⟨_, k1, k2⟩ := hC
      have k1 := k1.cell
      have k2 := k2.cell
      simp [Oper.looksAt, Op.operands, Call.operands, envOf, Det] at hE
      simp [go_sem, Act.eval, IntWalk.i64_left, hE, k1, k2]
      try rfl
    · have hs := (hW.trans (hC.1.of_priv hW.size)).size
      have hs2 := hC.2.2.lt
      rintro e w' ⟨p', cap', rfl, hB, hR, hc, hf⟩
      exact ⟨_, rfl, hB, p', cap', rfl, hR, hc, fun a h => by have := hf a h; omega⟩
  iterate 2
    apply nd_det (hg := rfl) (hal := rfl)
    · intro a W' hC hE
      obtain ⟨_, k1, k2⟩ := hC
      have k1 := k1.cell
      have k2 := k2.cell
      first
        | (simp [Oper.looksAt, Op.operands, Call.operands, envOf, Det] at hE; simp [go_sem, Act.eval, IntWalk.i64_left, hE, k1, k2]; try rfl)
        | (clear hE; simp [go_sem, Act.eval, IntWalk.i64_left, k1, k2]; try rfl)
  rintro W5 ⟨hR, d1, d2⟩
  simp only [ndFinR, Det, forall_eq]
  intros
  repeat (rename GDet _ _ _ _ => hgd; clear hgd)
  simp only [Act.put, List.setIfInBounds_toArray, List.set_cons_zero, List.set_cons_succ, List.drop_succ_cons, List.drop_zero]
  replace hW := hW.trans (hR.of_priv hW.size)
  clear hR
  try clear b1 b2
  have b1 := d1
  clear d1
  have b2 := d2
  clear d2
  obtain ⟨p', cap', rfl, hp1, hp2, hp3⟩ := ‹CR _ _ _ _›
  obtain ⟨q', vc', rfl, hq1, hq2, hq3⟩ := ‹CI _ _ _ _›
  have k1 := b1.cell
  have f1 := b1.frozen
  have k2 := b2.cell
  have f2 := b2.frozen
  go_wp2
  have y_1 := b1.lt
  have y_2 := b2.lt
  refine bodyPost_ret (v := .tuple #[.agg #[.int .i64 K, .slice p' l.length cap', .int .i64 A, .int .i64 R, .int .i64 n, .int .i64 d, .slice q' v.length vc', .int .i64 E], .int .i64 0]) (by simp [results, Tryz.results101, go_sem, k1, f1, k2, f2, y_1, y_2]) rfl ⟨p', cap', q', vc', rfl, belowAny, ?_, ?_, hp2, hq2, fun a h => by have := hp3 a h; omega, fun a h => by have := hq3 a h; omega⟩
  · repeat (refine RunsIn.set' ?_ (fun a h => by have := hp3 a h; omega))
    exact hp1
  · repeat (refine IntsIn.set' ?_ (fun a h => by have := hq3 a h; omega))
    exact hq1
end Go.Proofs.YtgblmlefmohgnaaGreat
namespace Go.Proofs.YtgblmlefmohgnaaGreat
open Go.RowKit
/-- What a function that gives a segment of its own says: where the new slices lie. -/
theorem RunsIn.new {w w' : World} {p : Option Addr} {l : List RunT} (h : RunsIn w p l) (o i : Nat) (v : Value) (hne : ∀ a, p = some a → a.block ≠ o) : RunsIn (w.setCell ⟨o, i, none⟩ v) p l := h.set' hne
set_option maxRecDepth 100000 in
set_option maxHeartbeats 2000000 in
theorem ofs_no (K A R n d E : Int) (p q : Option Addr) (cap vc : Nat) (l : List RunT) (v : List Int) (w : World) (F : Value)
    (c1 : ∀ W, Below w.heap.size w W → Calls Tryz.prog 55 #[.agg #[.int .i64 K, .slice p l.length cap, .int .i64 A, .int .i64 R, .int .i64 n, .int .i64 d, .slice q v.length vc, .int .i64 E]] W fun e w' => e = .returned (.bool false) ∧ Below W.heap.size W w') :
    Calls Tryz.prog 100 #[.agg #[.int .i64 K, .slice p l.length cap, .int .i64 A, .int .i64 R, .int .i64 n, .int .i64 d, .slice q v.length vc, .int .i64 E], F] w fun e w' => e = .returned (.tuple #[.agg #[.int .i64 0, .slice none 0 0, .int .i64 0, .int .i64 0, .int .i64 0, .int .i64 0, .slice none 0 0, .int .i64 0], .int .i64 210]) ∧ Below w.heap.size w w' := by
  have H_c1 := Lib.hid c1
  clear c1
  go_enter Tryz.func100, Tryz.ntmps100
  go_upto_region 1 with (fail)
  refine wp_facts (fun W' => Below w.heap.size w W' ∧ Blk W' w.heap.size #[.int .i64 K, .slice p l.length cap, .int .i64 A, .int .i64 R, .int .i64 n, .int .i64 d, .slice q v.length vc, .int .i64 E] 27 ∧ Blk W' (w.heap.size + 1) #[.int .i64 0, .slice none 0 0, .int .i64 0, .int .i64 0, .int .i64 0, .int .i64 0, .slice none 0 0, .int .i64 0] 27) ⟨by exact belowAny, by exact blkAny, by exact blkAny⟩ ?_
  rintro W1 ⟨hW, b1, b2⟩
  have z2 := hW.size
  have z3 := b1.lt
  have z4 := b2.lt
  have k1 := b1.cell
  have f1 := b1.frozen
  have k2 := b2.cell
  have f2 := b2.frozen
  have c1 := H_c1.out
  go_wp2_with fail
  refine (c1 _ (belowAny)).mono ?_
  rintro e w5 ⟨rfl, hb5⟩
  clear c1
  have z6 := hb5.size
  try simp at z6
  clear k1 f1 k2 f2
  have b1 : Blk w5 w.heap.size #[.int .i64 K, .slice p l.length cap, .int .i64 A, .int .i64 R, .int .i64 n, .int .i64 d, .slice q v.length vc, .int .i64 E] 27 := by exact blkAny
  have b2 : Blk w5 (w.heap.size + 1) #[.int .i64 0, .slice none 0 0, .int .i64 0, .int .i64 0, .int .i64 0, .int .i64 0, .slice none 0 0, .int .i64 0] 27 := by exact blkAny
  have b3 : Blk w5 W1.heap.size #[.int .i64 0, .slice none 0 0, .int .i64 0, .int .i64 0, .int .i64 0, .int .i64 0, .slice none 0 0, .int .i64 0] 27 := by exact blkAny
  have hW : Below w.heap.size w w5 := by exact belowAny
  have z7 := b1.lt
  have z8 := b2.lt
  have z9 := b3.lt
  clear hb5
  have k1 := b1.cell
  have f1 := b1.frozen
  have k2 := b2.cell
  have f2 := b2.frozen
  have k3 := b3.cell
  have f3 := b3.frozen
  go_wp2
  have y_1 := b1.lt
  have y_2 := b2.lt
  have y_3 := b3.lt
  refine bodyPost_ret (v := .tuple #[.agg #[.int .i64 0, .slice none 0 0, .int .i64 0, .int .i64 0, .int .i64 0, .int .i64 0, .slice none 0 0, .int .i64 0], .int .i64 210]) (by simp [results, Tryz.results100, go_sem, k1, f1, k2, f2, k3, f3, y_1, y_2, y_3]) rfl ⟨rfl, by exact belowAny⟩
set_option maxRecDepth 100000 in
set_option maxHeartbeats 2000000 in
theorem ofs_yes (K A R n d E : Int) (p q : Option Addr) (cap vc : Nat) (l : List RunT) (v : List Int) (w : World)
    (c1 : ∀ W, Below w.heap.size w W → Calls Tryz.prog 55 #[.agg #[.int .i64 K, .slice p l.length cap, .int .i64 A, .int .i64 R, .int .i64 n, .int .i64 d, .slice q v.length vc, .int .i64 E]] W fun e w' => e = .returned (.bool true) ∧ Below W.heap.size W w')
    (c3 : ∀ W, Below w.heap.size w W → Calls Tryz.prog 101 #[.agg #[.int .i64 K, .slice p l.length cap, .int .i64 A, .int .i64 R, .int .i64 n, .int .i64 d, .slice q v.length vc, .int .i64 E]] W fun e w' => ∃ p' cap' q' vc', e = .returned (.tuple #[.agg #[.int .i64 K, .slice p' l.length cap', .int .i64 A, .int .i64 R, .int .i64 n, .int .i64 d, .slice q' v.length vc', .int .i64 E], .int .i64 0]) ∧ Below W.heap.size W w' ∧ RunsIn w' p' l ∧ IntsIn w' q' v ∧ l.length ≤ cap' ∧ v.length ≤ vc' ∧ (∀ a, p' = some a → W.heap.size ≤ a.block) ∧ ∀ a, q' = some a → W.heap.size ≤ a.block) :
    Calls Tryz.prog 100 #[.agg #[.int .i64 K, .slice p l.length cap, .int .i64 A, .int .i64 R, .int .i64 n, .int .i64 d, .slice q v.length vc, .int .i64 E], .func (.func 101) #[] #[]] w fun e w' => ∃ p' cap' q' vc', e = .returned (.tuple #[.agg #[.int .i64 K, .slice p' l.length cap', .int .i64 A, .int .i64 R, .int .i64 n, .int .i64 d, .slice q' v.length vc', .int .i64 E], .int .i64 0]) ∧ Below w.heap.size w w' ∧ RunsIn w' p' l ∧ IntsIn w' q' v ∧ l.length ≤ cap' ∧ v.length ≤ vc' ∧ (∀ a, p' = some a → w.heap.size ≤ a.block) ∧ ∀ a, q' = some a → w.heap.size ≤ a.block := by
  have H_c1 := Lib.hid c1
  clear c1
  have H_c3 := Lib.hid c3
  clear c3
  go_enter Tryz.func100, Tryz.ntmps100
  go_upto_region 1 with (fail)
  refine wp_facts (fun W' => Below w.heap.size w W' ∧ Blk W' w.heap.size #[.int .i64 K, .slice p l.length cap, .int .i64 A, .int .i64 R, .int .i64 n, .int .i64 d, .slice q v.length vc, .int .i64 E] 27 ∧ Blk W' (w.heap.size + 1) #[.int .i64 0, .slice none 0 0, .int .i64 0, .int .i64 0, .int .i64 0, .int .i64 0, .slice none 0 0, .int .i64 0] 27) ⟨by exact belowAny, by exact blkAny, by exact blkAny⟩ ?_
  rintro W1 ⟨hW, b1, b2⟩
  have z2 := hW.size
  have z3 := b1.lt
  have z4 := b2.lt
  have k1 := b1.cell
  have f1 := b1.frozen
  have k2 := b2.cell
  have f2 := b2.frozen
  have c1 := H_c1.out
  go_wp2_with fail
  refine (c1 _ (belowAny)).mono ?_
  rintro e w5 ⟨rfl, hb5⟩
  clear c1
  have z6 := hb5.size
  try simp at z6
  clear k1 f1 k2 f2
  have b1 : Blk w5 w.heap.size #[.int .i64 K, .slice p l.length cap, .int .i64 A, .int .i64 R, .int .i64 n, .int .i64 d, .slice q v.length vc, .int .i64 E] 27 := by exact blkAny
  have b2 : Blk w5 (w.heap.size + 1) #[.int .i64 0, .slice none 0 0, .int .i64 0, .int .i64 0, .int .i64 0, .int .i64 0, .slice none 0 0, .int .i64 0] 27 := by exact blkAny
  have b3 : Blk w5 W1.heap.size #[.int .i64 0, .slice none 0 0, .int .i64 0, .int .i64 0, .int .i64 0, .int .i64 0, .slice none 0 0, .int .i64 0] 27 := by exact blkAny
  have hW : Below w.heap.size w w5 := by exact belowAny
  have z7 := b1.lt
  have z8 := b2.lt
  have z9 := b3.lt
  clear hb5
  have k1 := b1.cell
  have f1 := b1.frozen
  have k2 := b2.cell
  have f2 := b2.frozen
  have k3 := b3.cell
  have f3 := b3.frozen
  have c3 := H_c3.out
  go_wp2_with fail
  refine (c3 _ (belowAny)).mono ?_
  rintro e w9 ⟨p', cap', q', vc', rfl, hb9, hp1, hq1, hp2, hq2, hp3, hq3⟩
  have z9 := hb9.size
  try simp at z9
  try simp at hp3
  try simp at hq3
  clear c3
  clear k1 f1 k2 f2 k3 f3
  have b1 : Blk w9 w.heap.size #[.int .i64 K, .slice p l.length cap, .int .i64 A, .int .i64 R, .int .i64 n, .int .i64 d, .slice q v.length vc, .int .i64 E] 27 := by exact blkAny
  have b2 : Blk w9 (w.heap.size + 1) #[.int .i64 0, .slice none 0 0, .int .i64 0, .int .i64 0, .int .i64 0, .int .i64 0, .slice none 0 0, .int .i64 0] 27 := by exact blkAny
  have b3 : Blk w9 W1.heap.size #[.int .i64 0, .slice none 0 0, .int .i64 0, .int .i64 0, .int .i64 0, .int .i64 0, .slice none 0 0, .int .i64 0] 27 := by exact blkAny
  have hW : Below w.heap.size w w9 := belowAny
  clear hb9
  have y_1 := b1.lt
  have y_2 := b2.lt
  have y_3 := b3.lt
  have k1 := b1.cell
  have f1 := b1.frozen
  have k2 := b2.cell
  have f2 := b2.frozen
  have k3 := b3.cell
  have f3 := b3.frozen
  replace hp1 := Lib.hid hp1
  replace hq1 := Lib.hid hq1
  replace hp3 := Lib.hid hp3
  replace hq3 := Lib.hid hq3
  go_wp2
  refine bodyPost_ret (v := .tuple #[.agg #[.int .i64 K, .slice p' l.length cap', .int .i64 A, .int .i64 R, .int .i64 n, .int .i64 d, .slice q' v.length vc', .int .i64 E], .int .i64 0]) (by simp [results, Tryz.results100, go_sem, k1, f1, k2, f2, k3, f3, y_1, y_2, y_3]) rfl ⟨p', cap', q', vc', rfl, belowAny, ?_, ?_, hp2, hq2, fun a h => by have := hp3.out; simp_all; omega, fun a h => by have := hq3.out; simp_all; omega⟩
  · repeat (refine RunsIn.set' ?_ (fun a h => by have := hp3.out; simp_all; omega))
    exact hp1.out
  · repeat (refine IntsIn.set' ?_ (fun a h => by have := hq3.out; simp_all; omega))
    exact hq1.out
set_option maxRecDepth 100000 in
set_option maxHeartbeats 2000000 in
theorem made_no (K A R n d E : Int) (p q : Option Addr) (cap vc : Nat) (l : List RunT) (v : List Int) (w : World)
    (c1 : ∀ W, Below w.heap.size w W → Calls Tryz.prog 100 #[.agg #[.int .i64 K, .slice p l.length cap, .int .i64 A, .int .i64 R, .int .i64 n, .int .i64 d, .slice q v.length vc, .int .i64 E], .func (.func 101) #[] #[]] W fun e w' => e = .returned (.tuple #[.agg #[.int .i64 0, .slice none 0 0, .int .i64 0, .int .i64 0, .int .i64 0, .int .i64 0, .slice none 0 0, .int .i64 0], .int .i64 210]) ∧ Below W.heap.size W w') :
    Calls Tryz.prog 52 #[.agg #[.int .i64 K, .slice p l.length cap, .int .i64 A, .int .i64 R, .int .i64 n, .int .i64 d, .slice q v.length vc, .int .i64 E]] w fun e w' => e = .returned (.tuple #[.agg #[.int .i64 0, .slice none 0 0, .int .i64 0, .int .i64 0, .int .i64 0, .int .i64 0, .slice none 0 0, .int .i64 0], .int .i64 210]) ∧ Below w.heap.size w w' := by
  have H_c1 := Lib.hid c1
  clear c1
  go_enter Tryz.func52, Tryz.ntmps52
  go_upto_region 1 with (fail)
  refine wp_facts (fun W' => Below w.heap.size w W' ∧ Blk W' w.heap.size #[.int .i64 K, .slice p l.length cap, .int .i64 A, .int .i64 R, .int .i64 n, .int .i64 d, .slice q v.length vc, .int .i64 E] 27 ∧ Blk W' (w.heap.size + 1) #[.int .i64 0, .slice none 0 0, .int .i64 0, .int .i64 0, .int .i64 0, .int .i64 0, .slice none 0 0, .int .i64 0] 27) ⟨by exact belowAny, by exact blkAny, by exact blkAny⟩ ?_
  rintro W1 ⟨hW, b1, b2⟩
  have z2 := hW.size
  have z3 := b1.lt
  have z4 := b2.lt
  have k1 := b1.cell
  have f1 := b1.frozen
  have k2 := b2.cell
  have f2 := b2.frozen
  have c1 := H_c1.out
  go_wp2_with fail
  refine (c1 _ (belowAny)).mono ?_
  rintro e w5 ⟨rfl, hb5⟩
  clear c1
  have z6 := hb5.size
  try simp at z6
  clear k1 f1 k2 f2
  have b1 : Blk w5 w.heap.size #[.int .i64 K, .slice p l.length cap, .int .i64 A, .int .i64 R, .int .i64 n, .int .i64 d, .slice q v.length vc, .int .i64 E] 27 := by exact blkAny
  have b2 : Blk w5 (w.heap.size + 1) #[.int .i64 0, .slice none 0 0, .int .i64 0, .int .i64 0, .int .i64 0, .int .i64 0, .slice none 0 0, .int .i64 0] 27 := by exact blkAny
  have hW : Below w.heap.size w w5 := by exact belowAny
  have z7 := b1.lt
  have z8 := b2.lt
  clear hb5
  have k1 := b1.cell
  have f1 := b1.frozen
  have k2 := b2.cell
  have f2 := b2.frozen
  go_wp2
  have y_1 := b1.lt
  have y_2 := b2.lt
  refine bodyPost_ret (v := .tuple #[.agg #[.int .i64 0, .slice none 0 0, .int .i64 0, .int .i64 0, .int .i64 0, .int .i64 0, .slice none 0 0, .int .i64 0], .int .i64 210]) (by simp [results, Tryz.results52, go_sem, k1, f1, k2, f2, y_1, y_2]) rfl ⟨rfl, by exact belowAny⟩
set_option maxRecDepth 100000 in
set_option maxHeartbeats 2000000 in
theorem made_yes (K A R n d E : Int) (p q : Option Addr) (cap vc : Nat) (l : List RunT) (v : List Int) (w : World)
    (c1 : ∀ W, Below w.heap.size w W → Calls Tryz.prog 100 #[.agg #[.int .i64 K, .slice p l.length cap, .int .i64 A, .int .i64 R, .int .i64 n, .int .i64 d, .slice q v.length vc, .int .i64 E], .func (.func 101) #[] #[]] W fun e w' => ∃ p' cap' q' vc', e = .returned (.tuple #[.agg #[.int .i64 K, .slice p' l.length cap', .int .i64 A, .int .i64 R, .int .i64 n, .int .i64 d, .slice q' v.length vc', .int .i64 E], .int .i64 0]) ∧ Below W.heap.size W w' ∧ RunsIn w' p' l ∧ IntsIn w' q' v ∧ l.length ≤ cap' ∧ v.length ≤ vc' ∧ (∀ a, p' = some a → W.heap.size ≤ a.block) ∧ ∀ a, q' = some a → W.heap.size ≤ a.block) :
    Calls Tryz.prog 52 #[.agg #[.int .i64 K, .slice p l.length cap, .int .i64 A, .int .i64 R, .int .i64 n, .int .i64 d, .slice q v.length vc, .int .i64 E]] w fun e w' => ∃ p' cap' q' vc', e = .returned (.tuple #[.agg #[.int .i64 K, .slice p' l.length cap', .int .i64 A, .int .i64 R, .int .i64 n, .int .i64 d, .slice q' v.length vc', .int .i64 E], .int .i64 0]) ∧ Below w.heap.size w w' ∧ RunsIn w' p' l ∧ IntsIn w' q' v ∧ l.length ≤ cap' ∧ v.length ≤ vc' ∧ (∀ a, p' = some a → w.heap.size ≤ a.block) ∧ ∀ a, q' = some a → w.heap.size ≤ a.block := by
  have H_c1 := Lib.hid c1
  clear c1
  go_enter Tryz.func52, Tryz.ntmps52
  go_upto_region 1 with (fail)
  refine wp_facts (fun W' => Below w.heap.size w W' ∧ Blk W' w.heap.size #[.int .i64 K, .slice p l.length cap, .int .i64 A, .int .i64 R, .int .i64 n, .int .i64 d, .slice q v.length vc, .int .i64 E] 27 ∧ Blk W' (w.heap.size + 1) #[.int .i64 0, .slice none 0 0, .int .i64 0, .int .i64 0, .int .i64 0, .int .i64 0, .slice none 0 0, .int .i64 0] 27) ⟨by exact belowAny, by exact blkAny, by exact blkAny⟩ ?_
  rintro W1 ⟨hW, b1, b2⟩
  have z2 := hW.size
  have z3 := b1.lt
  have z4 := b2.lt
  have k1 := b1.cell
  have f1 := b1.frozen
  have k2 := b2.cell
  have f2 := b2.frozen
  have c1 := H_c1.out
  go_wp2_with fail
  refine (c1 _ (belowAny)).mono ?_
  rintro e w9 ⟨p', cap', q', vc', rfl, hb9, hp1, hq1, hp2, hq2, hp3, hq3⟩
  have z9 := hb9.size
  try simp at z9
  try simp at hp3
  try simp at hq3
  clear c1
  clear k1 f1 k2 f2
  have b1 : Blk w9 w.heap.size #[.int .i64 K, .slice p l.length cap, .int .i64 A, .int .i64 R, .int .i64 n, .int .i64 d, .slice q v.length vc, .int .i64 E] 27 := by exact blkAny
  have b2 : Blk w9 (w.heap.size + 1) #[.int .i64 0, .slice none 0 0, .int .i64 0, .int .i64 0, .int .i64 0, .int .i64 0, .slice none 0 0, .int .i64 0] 27 := by exact blkAny
  have hW : Below w.heap.size w w9 := belowAny
  clear hb9
  have y_1 := b1.lt
  have y_2 := b2.lt
  have k1 := b1.cell
  have f1 := b1.frozen
  have k2 := b2.cell
  have f2 := b2.frozen
  replace hp1 := Lib.hid hp1
  replace hq1 := Lib.hid hq1
  replace hp3 := Lib.hid hp3
  replace hq3 := Lib.hid hq3
  go_wp2
  refine bodyPost_ret (v := .tuple #[.agg #[.int .i64 K, .slice p' l.length cap', .int .i64 A, .int .i64 R, .int .i64 n, .int .i64 d, .slice q' v.length vc', .int .i64 E], .int .i64 0]) (by simp [results, Tryz.results52, go_sem, k1, f1, k2, f2, y_1, y_2]) rfl ⟨p', cap', q', vc', rfl, belowAny, ?_, ?_, hp2, hq2, fun a h => by have := hp3.out; simp_all; omega, fun a h => by have := hq3.out; simp_all; omega⟩
  · repeat (refine RunsIn.set' ?_ (fun a h => by have := hp3.out; simp_all; omega))
    exact hp1.out
  · repeat (refine IntsIn.set' ?_ (fun a h => by have := hq3.out; simp_all; omega))
    exact hq1.out
end Go.Proofs.YtgblmlefmohgnaaGreat
namespace Go.Proofs.YtgblmlefmohgnaaGreat
open Go.RowKit
section
variable {P : Program} {ops : Array Oper} {C : World → Prop} {X : List (Nat × Nat)} {a0 : Act} {Fin : List (Option Tmp × Spec) → Prop} {i : Nat} {o : Oper} {rest : List Oper} {acc : List (Option Tmp × Spec)}
/-- An operation whose value is not named. -/
theorem nd_spec (Φ : Spec) (hcl : Closed (others X i) Φ) (hg : o.guard = none) (hal : isAlloc o = false)
    (h : ∀ (a : Act) (w : World), C w → (∀ s ∈ o.looksAt ops, envOf a0 acc s (a.tmps.getD s undef) w) → ∃ v, (execOp a.eval o).run P w = .ok (.value v) w ∧ Φ v w)
    (hr : ndWalk P ops C X a0 Fin (i + 1) rest ((o.dst, Φ) :: acc)) : ndWalk P ops C X a0 Fin i (o :: rest) acc :=
  ⟨Φ, hcl, fun a w hC hE => ⟨fun _ => by
    obtain ⟨v, h1, h2⟩ := h a w hC hE
    rw [h1]; exact ⟨Rex.refl _ _, h2, fun e => by rw [hal] at e; cases e⟩, fun e => by rw [wanted_none hg] at e; cases e⟩, hr⟩
end
def SV (K A R n d E : Int) (B : Nat) (l : List RunT) : Spec := fun v w => ∃ p1 cap1 q1 vc1, v = .agg #[.int .i64 K, .slice p1 l.length cap1, .int .i64 A, .int .i64 R, .int .i64 n, .int .i64 d, .slice q1 0 vc1, .int .i64 E] ∧ RunsIn w p1 l ∧ l.length ≤ cap1 ∧ ∀ a, p1 = some a → B ≤ a.block
def TV (K A R n d E : Int) (B : Nat) (l : List RunT) : Spec := fun v w => ∃ p1 cap1 q1 vc1, v = .tuple #[.agg #[.int .i64 K, .slice p1 l.length cap1, .int .i64 A, .int .i64 R, .int .i64 n, .int .i64 d, .slice q1 0 vc1, .int .i64 E], .int .i64 0] ∧ RunsIn w p1 l ∧ l.length ≤ cap1 ∧ ∀ a, p1 = some a → B ≤ a.block
theorem SV.closed (K A R n d E : Int) (B : Nat) (l : List RunT) : Closed [] (SV K A R n d E B l) := fun _ _ _ hr ⟨p', c', q', v', e, h, k⟩ => ⟨p', c', q', v', e, h.rex hr rfl, k⟩
theorem TV.closed (K A R n d E : Int) (B : Nat) (l : List RunT) : Closed [] (TV K A R n d E B l) := fun _ _ _ hr ⟨p', c', q', v', e, h, k⟩ => ⟨p', c', q', v', e, h.rex hr rfl, k⟩
set_option maxRecDepth 100000 in
set_option maxHeartbeats 2000000 in
theorem of_seg_no (K A R n d E : Int) (p : Option Addr) (cap : Nat) (l : List RunT) (w : World)
    (c1 : ∀ W, Below w.heap.size w W → Calls Tryz.prog 18 #[.agg #[.int .i64 A, .int .i64 R, .int .i64 n, .int .i64 d]] W fun e w' => e = .returned (.int .i64 K) ∧ Below W.heap.size W w')
    (c2 : ∀ W, Below w.heap.size w W → Calls Tryz.prog 52 #[.agg #[.int .i64 K, .slice p l.length cap, .int .i64 A, .int .i64 R, .int .i64 n, .int .i64 d, .slice none 0 0, .int .i64 E]] W fun e w' => e = .returned (.tuple #[.agg #[.int .i64 0, .slice none 0 0, .int .i64 0, .int .i64 0, .int .i64 0, .int .i64 0, .slice none 0 0, .int .i64 0], .int .i64 210]) ∧ Below W.heap.size W w') :
    Calls Tryz.prog 19 #[.slice p l.length cap, .agg #[.int .i64 A, .int .i64 R, .int .i64 n, .int .i64 d], .int .i64 E] w fun e w' => e = .returned (.tuple #[.agg #[.int .i64 0, .slice none 0 0, .int .i64 0, .int .i64 0, .int .i64 0, .int .i64 0, .slice none 0 0, .int .i64 0], .int .i64 210]) ∧ Below w.heap.size w w' := by
  have H_c1 := Lib.hid c1
  clear c1
  have H_c2 := Lib.hid c2
  clear c2
  go_enter Tryz.func19, Tryz.ntmps19
  have c2 := H_c2.out
  go_upto_region 1 with (fail)
  refine wp_facts (fun W' => Below w.heap.size w W' ∧ Blk W' w.heap.size #[.int .i64 A, .int .i64 R, .int .i64 n, .int .i64 d] 24 ∧ Blk W' (w.heap.size + 1) #[.int .i64 0, .slice none 0 0, .int .i64 0, .int .i64 0, .int .i64 0, .int .i64 0, .slice none 0 0, .int .i64 0] 27) ⟨by exact belowAny, by exact blkAny, by exact blkAny⟩ ?_
  rintro W1 ⟨hW, b1, b2⟩
  have z2 := hW.size
  have z3 := b1.lt
  have z4 := b2.lt
  have c1 := H_c1.out
  have c2 := H_c2.out
  refine wp_region_nd 9 17 [] (fun W' => Rex [] W1 W' ∧ Blk W' w.heap.size #[.int .i64 A, .int .i64 R, .int .i64 n, .int .i64 d] 24 ∧ Blk W' (w.heap.size + 1) #[.int .i64 0, .slice none 0 0, .int .i64 0, .int .i64 0, .int .i64 0, .int .i64 0, .slice none 0 0, .int .i64 0] 27) mixed (by kernel_rfl) rfl ⟨(Rex.refl _ _).drew, b1, b2⟩ (fun w w' ⟨h0, h1, h2⟩ hr => ⟨h0.trans hr, h1.rex hr (by simp <;> omega), h2.rex hr (by simp <;> omega)⟩) (fun c a d v w h => by cases d <;> exact h) ?_
  iterate 1
    apply nd_det (hg := rfl) (hal := rfl)
    · intro a W' hC hE
      obtain ⟨_, k1, k2⟩ := hC
      have k1 := k1.cell
      have k2 := k2.cell
      first
        | (simp [Oper.looksAt, Op.operands, Call.operands, envOf, Det] at hE; simp [go_sem, Act.eval, IntWalk.i64_left, hE, k1, k2]; try rfl)
        | (clear hE; simp [go_sem, Act.eval, IntWalk.i64_left, k1, k2]; try rfl)
  refine nd_callv2 rfl rfl (fun W' hC => c1 W' (hW.trans (hC.1.of_priv hW.size))) (fun a W' hC hE => ?_) ?_
  · obtain ⟨_, k1, k2⟩ := hC
    have k1 := k1.cell
    have k2 := k2.cell
    first
      | (simp [Oper.looksAt, Op.operands, Call.operands, envOf, Det] at hE; simp [go_sem, Act.eval, IntWalk.i64_left, hE, k1, k2]; try rfl)
      | (clear hE; simp [go_sem, Act.eval, IntWalk.i64_left, k1, k2]; try rfl)
  iterate 4
    apply nd_det (hg := rfl) (hal := rfl)
    · intro a W' hC hE
      obtain ⟨_, k1, k2⟩ := hC
      have k1 := k1.cell
      have k2 := k2.cell
      first
        | (simp [Oper.looksAt, Op.operands, Call.operands, envOf, Det] at hE; simp [go_sem, Act.eval, IntWalk.i64_left, hE, k1, k2]; try rfl)
        | (clear hE; simp [go_sem, Act.eval, IntWalk.i64_left, k1, k2]; try rfl)
  refine nd_callv2 rfl rfl (fun W' hC => c2 W' (hW.trans (hC.1.of_priv hW.size))) (fun a W' hC hE => ?_) ?_
  · obtain ⟨_, k1, k2⟩ := hC
    have k1 := k1.cell
    have k2 := k2.cell
    first
      | (simp [Oper.looksAt, Op.operands, Call.operands, envOf, Det] at hE; simp [go_sem, Act.eval, IntWalk.i64_left, hE, k1, k2]; try rfl)
      | (clear hE; simp [go_sem, Act.eval, IntWalk.i64_left, k1, k2]; try rfl)
  iterate 2
    apply nd_det (hg := rfl) (hal := rfl)
    · intro a W' hC hE
      obtain ⟨_, k1, k2⟩ := hC
      have k1 := k1.cell
      have k2 := k2.cell
      first
        | (simp [Oper.looksAt, Op.operands, Call.operands, envOf, Det] at hE; simp [go_sem, Act.eval, IntWalk.i64_left, hE, k1, k2]; try rfl)
        | (clear hE; simp [go_sem, Act.eval, IntWalk.i64_left, k1, k2]; try rfl)
  rintro W5 ⟨hR, d1, d2⟩
  simp only [ndFinR, Det, forall_eq]
  intros
  repeat (rename GDet _ _ _ _ => hgd; clear hgd)
  simp only [Act.put, List.setIfInBounds_toArray, List.set_cons_zero, List.set_cons_succ, List.drop_succ_cons, List.drop_zero]
  replace hW := hW.trans (hR.of_priv hW.size)
  clear hR
  clear c1
  clear c2
  try clear b1 b2
  have b1 := d1
  clear d1
  have b2 := d2
  clear d2
  clear c2
  have k1 := b1.cell
  have f1 := b1.frozen
  have k2 := b2.cell
  have f2 := b2.frozen
  go_wp2
  have y_1 := b1.lt
  have y_2 := b2.lt
  refine bodyPost_ret (v := .tuple #[.agg #[.int .i64 0, .slice none 0 0, .int .i64 0, .int .i64 0, .int .i64 0, .int .i64 0, .slice none 0 0, .int .i64 0], .int .i64 210]) (by simp [results, Tryz.results19, go_sem, k1, f1, k2, f2, y_1, y_2]) rfl ⟨rfl, by exact belowAny⟩
set_option maxRecDepth 100000 in
set_option maxHeartbeats 2000000 in
theorem of_seg_yes (K A R n d E : Int) (p : Option Addr) (cap : Nat) (l : List RunT) (w : World)
    (c1 : ∀ W, Below w.heap.size w W → Calls Tryz.prog 18 #[.agg #[.int .i64 A, .int .i64 R, .int .i64 n, .int .i64 d]] W fun e w' => e = .returned (.int .i64 K) ∧ Below W.heap.size W w')
    (c2 : ∀ W, Below w.heap.size w W → Calls Tryz.prog 52 #[.agg #[.int .i64 K, .slice p l.length cap, .int .i64 A, .int .i64 R, .int .i64 n, .int .i64 d, .slice none 0 0, .int .i64 E]] W fun e w' => ∃ p' cap' q' vc', e = .returned (.tuple #[.agg #[.int .i64 K, .slice p' l.length cap', .int .i64 A, .int .i64 R, .int .i64 n, .int .i64 d, .slice q' 0 vc', .int .i64 E], .int .i64 0]) ∧ Below W.heap.size W w' ∧ RunsIn w' p' l ∧ l.length ≤ cap' ∧ ∀ a, p' = some a → W.heap.size ≤ a.block) :
    Calls Tryz.prog 19 #[.slice p l.length cap, .agg #[.int .i64 A, .int .i64 R, .int .i64 n, .int .i64 d], .int .i64 E] w fun e w' => ∃ p' cap' q' vc', e = .returned (.tuple #[.agg #[.int .i64 K, .slice p' l.length cap', .int .i64 A, .int .i64 R, .int .i64 n, .int .i64 d, .slice q' 0 vc', .int .i64 E], .int .i64 0]) ∧ Below w.heap.size w w' ∧ RunsIn w' p' l ∧ l.length ≤ cap' ∧ ∀ a, p' = some a → w.heap.size ≤ a.block := by
  have H_c1 := Lib.hid c1
  clear c1
  have H_c2 := Lib.hid c2
  clear c2
  go_enter Tryz.func19, Tryz.ntmps19
  have c2 := H_c2.out
  go_upto_region 1 with (fail)
  refine wp_facts (fun W' => Below w.heap.size w W' ∧ Blk W' w.heap.size #[.int .i64 A, .int .i64 R, .int .i64 n, .int .i64 d] 24 ∧ Blk W' (w.heap.size + 1) #[.int .i64 0, .slice none 0 0, .int .i64 0, .int .i64 0, .int .i64 0, .int .i64 0, .slice none 0 0, .int .i64 0] 27) ⟨by exact belowAny, by exact blkAny, by exact blkAny⟩ ?_
  rintro W1 ⟨hW, b1, b2⟩
  have z2 := hW.size
  have z3 := b1.lt
  have z4 := b2.lt
  have c1 := H_c1.out
  refine wp_region_nd 9 17 [] (fun W' => Rex [] W1 W' ∧ Blk W' w.heap.size #[.int .i64 A, .int .i64 R, .int .i64 n, .int .i64 d] 24 ∧ Blk W' (w.heap.size + 1) #[.int .i64 0, .slice none 0 0, .int .i64 0, .int .i64 0, .int .i64 0, .int .i64 0, .slice none 0 0, .int .i64 0] 27) mixed (by kernel_rfl) rfl ⟨(Rex.refl _ _).drew, b1, b2⟩ (fun w w' ⟨h0, h1, h2⟩ hr => ⟨h0.trans hr, h1.rex hr (by simp <;> omega), h2.rex hr (by simp <;> omega)⟩) (fun c a d v w h => by cases d <;> exact h) ?_
  iterate 1
    apply nd_det (hg := rfl) (hal := rfl)
    · intro a W' hC hE
      obtain ⟨_, k1, k2⟩ := hC
      have k1 := k1.cell
      have k2 := k2.cell
      first
        | (simp [Oper.looksAt, Op.operands, Call.operands, envOf, Det] at hE; simp [go_sem, Act.eval, IntWalk.i64_left, hE, k1, k2]; try rfl)
        | (clear hE; simp [go_sem, Act.eval, IntWalk.i64_left, k1, k2]; try rfl)
  refine nd_callv2 rfl rfl (fun W' hC => c1 W' (hW.trans (hC.1.of_priv hW.size))) (fun a W' hC hE => ?_) ?_
  · obtain ⟨_, k1, k2⟩ := hC
    have k1 := k1.cell
    have k2 := k2.cell
    first
      | (simp [Oper.looksAt, Op.operands, Call.operands, envOf, Det] at hE; simp [go_sem, Act.eval, IntWalk.i64_left, hE, k1, k2]; try rfl)
      | (clear hE; simp [go_sem, Act.eval, IntWalk.i64_left, k1, k2]; try rfl)
  iterate 4
    apply nd_det (hg := rfl) (hal := rfl)
    · intro a W' hC hE
      obtain ⟨_, k1, k2⟩ := hC
      have k1 := k1.cell
      have k2 := k2.cell
      first
        | (simp [Oper.looksAt, Op.operands, Call.operands, envOf, Det] at hE; simp [go_sem, Act.eval, IntWalk.i64_left, hE, k1, k2]; try rfl)
        | (clear hE; simp [go_sem, Act.eval, IntWalk.i64_left, k1, k2]; try rfl)
  apply nd_call (TV K A R n d E (w.heap.size + 2) l) (hg := rfl) (hal := rfl)
  · exact TV.closed _ _ _ _ _ _ _ _
  · intro a W' hC hE
    refine ⟨_, _, ?_, (c2 W' (hW.trans (hC.1.of_priv hW.size))).mono ?_⟩
    · obtain ⟨_, k1, k2⟩ := hC
      have k1 := k1.cell
      have k2 := k2.cell
      simp [Oper.looksAt, Op.operands, Call.operands, envOf, Det] at hE
      simp [go_sem, Act.eval, IntWalk.i64_left, hE, k1, k2]
      try rfl
    · have hs2 := hC.2.2.lt
      rintro e w' ⟨p', cap', q', vc', rfl, hB, hR, hc, hf⟩
      exact ⟨_, rfl, hB, p', cap', q', vc', rfl, hR, hc, fun a h => by have := hf a h; omega⟩
  apply nd_spec (SV K A R n d E (w.heap.size + 2) l) (hg := rfl) (hal := rfl)
  · exact SV.closed _ _ _ _ _ _ _ _
  · intro a W' hC hE
    have h0 := hE 14 (by simp [Oper.looksAt, Op.operands])
    simp [envOf] at h0
    obtain ⟨p1, cap1, q1, vc1, h1, h2⟩ := h0
    refine ⟨_, ?_, p1, cap1, q1, vc1, rfl, h2⟩
    simp [go_sem, Act.eval, h1]
  apply nd_det (c := .int .i64 0) (hg := rfl) (hal := rfl)
  · intro a W' hC hE
    have h0 := hE 14 (by simp [Oper.looksAt, Op.operands])
    simp [envOf] at h0
    obtain ⟨p1, cap1, q1, vc1, h1, h2⟩ := h0
    simp [go_sem, Act.eval, h1]
  rintro W5 ⟨hR, d1, d2⟩
  simp only [ndFinR, Det, forall_eq]
  intros
  repeat (rename GDet _ _ _ _ => hgd; clear hgd)
  simp only [Act.put, List.setIfInBounds_toArray, List.set_cons_zero, List.set_cons_succ, List.drop_succ_cons, List.drop_zero]
  replace hW := hW.trans (hR.of_priv hW.size)
  clear hR
  clear c1
  try clear b1 b2
  have b1 := d1
  clear d1
  have b2 := d2
  clear d2
  clear c2
  repeat (rename TV _ _ _ _ _ _ _ _ _ _ => htv; clear htv)
  obtain ⟨p', cap', q', vc', rfl, hp1, hp2, hp3⟩ := ‹SV _ _ _ _ _ _ _ _ _ _›
  have k1 := b1.cell
  have f1 := b1.frozen
  have k2 := b2.cell
  have f2 := b2.frozen
  have y_1 := b1.lt
  have y_2 := b2.lt
  replace hp1 := Lib.hid hp1
  replace hp3 := Lib.hid hp3
  go_wp2
  refine bodyPost_ret (v := .tuple #[.agg #[.int .i64 K, .slice p' l.length cap', .int .i64 A, .int .i64 R, .int .i64 n, .int .i64 d, .slice q' 0 vc', .int .i64 E], .int .i64 0]) (by simp [results, Tryz.results19, go_sem, k1, f1, k2, f2, y_1, y_2]) rfl ⟨p', cap', q', vc', rfl, belowAny, ?_, hp2, fun a h => by have := hp3.out a h; omega⟩
  repeat (refine RunsIn.set' ?_ (fun a h => by have := hp3.out a h; omega))
  exact hp1.out
end Go.Proofs.YtgblmlefmohgnaaGreat
namespace Go.Proofs.YtgblmlefmohgnaaGreat
open Go.RowKit
def l0 : List RunT := [⟨10, 2, 4⟩]
def s0 : SegT := ⟨2, l0, 5, 0, 1, 2, [], 3⟩
theorem s0_ok : segB s0 = true := by kernel_rfl
theorem s0_part : partOut s0 11 100 = (#[.int .i64 3, .int .i64 6, .int .i64 8, .int .i64 0, .int .u64 21], 0) := by kernel_rfl
theorem s0_at : segAtV s0 14 = 7 ∧ segAtE s0 14 = 0 ∧ segAtV s0 13 = 0 ∧ segAtE s0 13 = 4 := by refine ⟨?_, ?_, ?_, ?_⟩ <;> kernel_rfl
theorem s0_kind : kindL 5 0 1 2 = 2 := by kernel_rfl
theorem ints_nil (w : World) (q : Option Addr) : IntsIn w q [] := ⟨fun i x h => by simp at h⟩
theorem s0_in {w : World} {p q : Option Addr} (h : RunsIn w p l0) : SegIn w s0 p q := ⟨h, ints_nil w q, by decide, by decide⟩
theorem c_made_yes (s : SegT) (p q : Option Addr) (cap vc : Nat) (w : World) (h : SegIn w s p q) (hs : segB s = true)
    (c1 : ∀ W, Below w.heap.size w W → Calls Tryz.prog 102 #[.slice p s.runs.length cap] W (CloneR W p s.runs))
    (c2 : ∀ W, Below w.heap.size w W → Calls Tryz.prog 103 #[.slice q s.raw.length vc] W (CloneI W q s.raw)) :
    Calls Tryz.prog 52 #[.agg (segA s p q cap vc)] w fun e w' => ∃ p' cap' q' vc', e = .returned (.tuple #[.agg (segA s p' q' cap' vc'), .int .i64 0]) ∧ Below w.heap.size w w' ∧ RunsIn w' p' s.runs ∧ IntsIn w' q' s.raw ∧ s.runs.length ≤ cap' ∧ s.raw.length ≤ vc' ∧ (∀ a, p' = some a → w.heap.size ≤ a.block) ∧ ∀ a, q' = some a → w.heap.size ≤ a.block := by
  refine made_yes _ _ _ _ _ _ p q cap vc s.runs s.raw w fun W hW => ofs_yes _ _ _ _ _ _ p q cap vc s.runs s.raw W (fun W' hW' => ?_) (fun W' hW' => made1_w _ _ _ _ _ _ p q cap vc s.runs s.raw W' (fun W'' hW'' => c1 W'' ((hW.trans (hW'.mono hW.size)).trans (hW''.mono (hW.trans (hW'.mono hW.size)).size))) (fun W'' hW'' => c2 W'' ((hW.trans (hW'.mono hW.size)).trans (hW''.mono (hW.trans (hW'.mono hW.size)).size))))
  have := c_segIs s p q cap vc W' ((h.below hW).below hW')
  rw [hs] at this
  exact this
set_option maxRecDepth 100000 in
set_option maxHeartbeats 2000000 in
theorem wakes_w (w : World)
    (c1 : ∀ W, RunsIn W (some ⟨w.heap.size, 0, none⟩) l0 → Calls Tryz.prog 19 #[.slice (some ⟨w.heap.size, 0, none⟩) 1 1, .agg #[.int .i64 5, .int .i64 0, .int .i64 1, .int .i64 2], .int .i64 3] W fun e w' => ∃ p' cap' q' vc', e = .returned (.tuple #[.agg #[.int .i64 2, .slice p' 1 cap', .int .i64 5, .int .i64 0, .int .i64 1, .int .i64 2, .slice q' 0 vc', .int .i64 3], .int .i64 0]) ∧ Below W.heap.size W w' ∧ RunsIn w' p' l0 ∧ 1 ≤ cap' ∧ ∀ a, p' = some a → W.heap.size ≤ a.block)
    (c2 : ∀ W p' q' cap' vc', RunsIn W p' l0 → Calls Tryz.prog 12 #[.agg #[.int .i64 2, .slice p' 1 cap', .int .i64 5, .int .i64 0, .int .i64 1, .int .i64 2, .slice q' 0 vc', .int .i64 3], .int .i64 11, .int .i64 100] W fun e w' => e = .returned (.tuple #[.agg #[.int .i64 3, .int .i64 6, .int .i64 8, .int .i64 0, .int .u64 21], .int .i64 0]) ∧ Below W.heap.size W w')
    (c3 : ∀ W p' q' cap' vc', RunsIn W p' l0 → Calls Tryz.prog 32 #[.agg #[.int .i64 2, .slice p' 1 cap', .int .i64 5, .int .i64 0, .int .i64 1, .int .i64 2, .slice q' 0 vc', .int .i64 3], .int .i64 14] W fun e w' => e = .returned (.tuple #[.int .i64 7, .int .i64 0]) ∧ Below W.heap.size W w')
    (c4 : ∀ W p' q' cap' vc', RunsIn W p' l0 → Calls Tryz.prog 32 #[.agg #[.int .i64 2, .slice p' 1 cap', .int .i64 5, .int .i64 0, .int .i64 1, .int .i64 2, .slice q' 0 vc', .int .i64 3], .int .i64 13] W fun e w' => e = .returned (.tuple #[.int .i64 0, .int .i64 4]) ∧ Below W.heap.size W w')
    (c5 : ∀ W, Calls Tryz.prog 26 #[.int .i64 21] W fun e w' => e = .returned (.agg #[.int .i64 0, .int .u64 21]) ∧ Below W.heap.size W w') :
    Calls Tryz.prog 10 #[] w fun e w' => e = .returned (.bool true) ∧ Below w.heap.size w w' := by
  have H_c1 := Lib.hid c1
  clear c1
  have H_c2 := Lib.hid c2
  clear c2
  have H_c3 := Lib.hid c3
  clear c3
  have H_c4 := Lib.hid c4
  clear c4
  have H_c5 := Lib.hid c5
  clear c5
  go_enter Tryz.func10, Tryz.ntmps10
  have c1 := H_c1.out
  go_wp2_with fail
  refine (c1 _ (RunsIn.of_blk (l := l0) (t := 51) (Blk.new' rfl) l0 [] rfl)).mono ?_
  rintro e w3 ⟨p', cap', q', vc', rfl, hb3, hp1, hp2, hp3⟩
  clear c1 hp2 hp3
  have z3 := hb3.size
  try simp at z3
  have hW : Below w.heap.size w w3 := belowAny
  clear hb3
  have b1 := hp1
  clear hp1
  have c2 := H_c2.out
  go_wp2_with fail
  refine (c2 _ p' q' cap' vc' runsAny).mono ?_
  rintro e w4 ⟨rfl, hb4⟩
  clear c2
  have z5 := hb4.size
  try simp at z5
  have b1 : RunsIn w4 p' l0 := by exact runsAny
  have b2 : Blk w4 w3.heap.size #[.int .i64 2, .slice p' 1 cap', .int .i64 5, .int .i64 0, .int .i64 1, .int .i64 2, .slice q' 0 vc', .int .i64 3] 27 := by exact blkAny
  have hW : Below w.heap.size w w4 := by exact belowAny
  have z6 := b2.lt
  clear hb4
  have k2 := b2.cell
  have f2 := b2.frozen
  have c3 := H_c3.out
  go_wp2_with fail
  refine (c3 _ p' q' cap' vc' runsAny).mono ?_
  rintro e w7 ⟨rfl, hb7⟩
  clear c3
  have z8 := hb7.size
  try simp at z8
  clear k2 f2
  have b1 : RunsIn w7 p' l0 := by exact runsAny
  have b2 : Blk w7 w3.heap.size #[.int .i64 2, .slice p' 1 cap', .int .i64 5, .int .i64 0, .int .i64 1, .int .i64 2, .slice q' 0 vc', .int .i64 3] 27 := by exact blkAny
  have b3 : Blk w7 w4.heap.size #[.int .i64 3, .int .i64 6, .int .i64 8, .int .i64 0, .int .u64 21] 34 := by exact blkAny
  have hW : Below w.heap.size w w7 := by exact belowAny
  have z9 := b2.lt
  have z10 := b3.lt
  clear hb7
  have k2 := b2.cell
  have f2 := b2.frozen
  have k3 := b3.cell
  have f3 := b3.frozen
  have c4 := H_c4.out
  go_wp2_with fail
  refine (c4 _ p' q' cap' vc' runsAny).mono ?_
  rintro e w11 ⟨rfl, hb11⟩
  clear c4
  have z12 := hb11.size
  try simp at z12
  clear k2 f2 k3 f3
  have b1 : RunsIn w11 p' l0 := by exact runsAny
  have b2 : Blk w11 w3.heap.size #[.int .i64 2, .slice p' 1 cap', .int .i64 5, .int .i64 0, .int .i64 1, .int .i64 2, .slice q' 0 vc', .int .i64 3] 27 := by exact blkAny
  have b3 : Blk w11 w4.heap.size #[.int .i64 3, .int .i64 6, .int .i64 8, .int .i64 0, .int .u64 21] 34 := by exact blkAny
  have hW : Below w.heap.size w w11 := by exact belowAny
  have z13 := b2.lt
  have z14 := b3.lt
  clear hb11
  have k2 := b2.cell
  have f2 := b2.frozen
  have k3 := b3.cell
  have f3 := b3.frozen
  go_upto_region 5 with (fail)
  clear k2 f2 k3 f3
  refine wp_facts (fun W' => Below w.heap.size w W' ∧ RunsIn W' p' l0 ∧ Blk W' w3.heap.size #[.int .i64 2, .slice p' 1 cap', .int .i64 5, .int .i64 0, .int .i64 1, .int .i64 2, .slice q' 0 vc', .int .i64 3] 27 ∧ Blk W' w4.heap.size #[.int .i64 3, .int .i64 6, .int .i64 8, .int .i64 0, .int .u64 21] 34) ⟨by exact belowAny, by exact runsAny, by exact blkAny, by exact blkAny⟩ ?_
  clear b1 b2 b3 hW
  rintro W15 ⟨hW, b1, b2, b3⟩
  have z16 := hW.size
  have z17 := b2.lt
  have z18 := b3.lt
  have c5 := H_c5.out
  refine wp_region_nd 30 60 [] (fun W' => Rex [] W15 W' ∧ RunsIn W' p' l0 ∧ Blk W' w3.heap.size #[.int .i64 2, .slice p' 1 cap', .int .i64 5, .int .i64 0, .int .i64 1, .int .i64 2, .slice q' 0 vc', .int .i64 3] 27 ∧ Blk W' w4.heap.size #[.int .i64 3, .int .i64 6, .int .i64 8, .int .i64 0, .int .u64 21] 34) mixed (by kernel_rfl) rfl ⟨(Rex.refl _ _).drew, b1.drew, b2, b3⟩ (fun w w' ⟨h0, h1, h2, h3⟩ hr => ⟨h0.trans hr, h1.rex hr (by simp <;> omega), h2.rex hr (by simp <;> omega), h3.rex hr (by simp <;> omega)⟩) (fun c a d v w h => by cases d <;> exact h) ?_
  iterate 3
    apply nd_det (hg := rfl) (hal := rfl)
    · intro a W' hC hE
      obtain ⟨_, k1, k2, k3⟩ := hC
      have k2 := k2.cell
      have k3 := k3.cell
      first
        | (simp [Oper.looksAt, Op.operands, Call.operands, envOf, Det] at hE; simp [go_sem, Act.eval, IntWalk.i64_left, hE, k1, k2, k3]; try rfl)
        | (clear hE; simp [go_sem, Act.eval, IntWalk.i64_left, k1, k2, k3]; try rfl)
  iterate 3
    apply nd_detg (p := true) (hg := rfl) (hd := rfl) (hal := rfl)
    · intro v W' h
      simp [envOf, Det] at h
      simp
      exact h
    · intro hp hx a W' hC hE
      obtain ⟨_, k1, k2, k3⟩ := hC
      have k2 := k2.cell
      have k3 := k3.cell
      simp [Oper.looksAt, Op.operands, Call.operands, envOf, Det, GDet, hx] at hE
      simp [go_sem, Act.eval, IntWalk.i64_left, hE, k1, k2, k3]
      try rfl
  apply nd_pick_and (ho := rfl) (hg := rfl)
  · intro v W' h
    simp [envOf, Det] at h
    exact h
  · intro v W' h hx
    simp [envOf, GDet, hx] at h
    exact h
  iterate 1
    apply nd_det (hg := rfl) (hal := rfl)
    · intro a W' hC hE
      obtain ⟨_, k1, k2, k3⟩ := hC
      have k2 := k2.cell
      have k3 := k3.cell
      first
        | (simp [Oper.looksAt, Op.operands, Call.operands, envOf, Det] at hE; simp [go_sem, Act.eval, IntWalk.i64_left, hE, k1, k2, k3]; try rfl)
        | (clear hE; simp [go_sem, Act.eval, IntWalk.i64_left, k1, k2, k3]; try rfl)
  iterate 2
    apply nd_detg (p := true) (hg := rfl) (hd := rfl) (hal := rfl)
    · intro v W' h
      simp [envOf, Det] at h
      simp
      exact h
    · intro hp hx a W' hC hE
      obtain ⟨_, k1, k2, k3⟩ := hC
      have k2 := k2.cell
      have k3 := k3.cell
      simp [Oper.looksAt, Op.operands, Call.operands, envOf, Det, GDet, hx] at hE
      simp [go_sem, Act.eval, IntWalk.i64_left, hE, k1, k2, k3]
      try rfl
  apply nd_pick_and (ho := rfl) (hg := rfl)
  · intro v W' h
    simp [envOf, Det] at h
    exact h
  · intro v W' h hx
    simp [envOf, GDet, hx] at h
    exact h
  iterate 1
    apply nd_det (hg := rfl) (hal := rfl)
    · intro a W' hC hE
      obtain ⟨_, k1, k2, k3⟩ := hC
      have k2 := k2.cell
      have k3 := k3.cell
      first
        | (simp [Oper.looksAt, Op.operands, Call.operands, envOf, Det] at hE; simp [go_sem, Act.eval, IntWalk.i64_left, hE, k1, k2, k3]; try rfl)
        | (clear hE; simp [go_sem, Act.eval, IntWalk.i64_left, k1, k2, k3]; try rfl)
  iterate 1
    apply nd_detg (p := true) (hg := rfl) (hd := rfl) (hal := rfl)
    · intro v W' h
      simp [envOf, Det] at h
      simp
      exact h
    · intro hp hx a W' hC hE
      obtain ⟨_, k1, k2, k3⟩ := hC
      have k2 := k2.cell
      have k3 := k3.cell
      simp [Oper.looksAt, Op.operands, Call.operands, envOf, Det, GDet, hx] at hE
      simp [go_sem, Act.eval, IntWalk.i64_left, hE, k1, k2, k3]
      try rfl
  apply nd_callvg2 (p := true) (hg := rfl) (hd := rfl) (hal := rfl)
  · intro v W' h
    simp [envOf, Det] at h
    simp
    exact h
  · intro hp hx W' hC
    exact c5 W'
  · intro hp hx a W' hC hE
    obtain ⟨_, k1, k2, k3⟩ := hC
    have k2 := k2.cell
    have k3 := k3.cell
    first
      | (simp [Oper.looksAt, Op.operands, Call.operands, envOf, Det, GDet, hx] at hE; simp [go_sem, Act.eval, IntWalk.i64_left, hE, k1, k2, k3]; try rfl)
      | (clear hE; simp [go_sem, Act.eval, IntWalk.i64_left, k1, k2, k3]; try rfl)
  iterate 1
    apply nd_detg (p := true) (hg := rfl) (hd := rfl) (hal := rfl)
    · intro v W' h
      simp [envOf, Det] at h
      simp
      exact h
    · intro hp hx a W' hC hE
      obtain ⟨_, k1, k2, k3⟩ := hC
      have k2 := k2.cell
      have k3 := k3.cell
      simp [Oper.looksAt, Op.operands, Call.operands, envOf, Det, GDet, hx] at hE
      simp [go_sem, Act.eval, IntWalk.i64_left, hE, k1, k2, k3]
      try rfl
  apply nd_detg (p := true) (c := .bool true) (hg := rfl) (hd := rfl) (hal := rfl)
  · intro v W' h
    simp [envOf, Det] at h
    simp
    exact h
  · intro hp hx a W' hC hE
    simp [Oper.looksAt, Op.operands, Call.operands, envOf, Det, GDet, hx] at hE
    simp [go_sem, Act.eval, hE]
    try rfl
  apply nd_pick_and (ho := rfl) (hg := rfl)
  · intro v W' h
    simp [envOf, Det] at h
    exact h
  · intro v W' h hx
    simp [envOf, GDet, hx] at h
    exact h
  iterate 1
    apply nd_det (hg := rfl) (hal := rfl)
    · intro a W' hC hE
      obtain ⟨_, k1, k2, k3⟩ := hC
      have k2 := k2.cell
      have k3 := k3.cell
      first
        | (simp [Oper.looksAt, Op.operands, Call.operands, envOf, Det] at hE; simp [go_sem, Act.eval, IntWalk.i64_left, hE, k1, k2, k3]; try rfl)
        | (clear hE; simp [go_sem, Act.eval, IntWalk.i64_left, k1, k2, k3]; try rfl)
  iterate 2
    apply nd_detg (p := true) (hg := rfl) (hd := rfl) (hal := rfl)
    · intro v W' h
      simp [envOf, Det] at h
      simp
      exact h
    · intro hp hx a W' hC hE
      obtain ⟨_, k1, k2, k3⟩ := hC
      have k2 := k2.cell
      have k3 := k3.cell
      simp [Oper.looksAt, Op.operands, Call.operands, envOf, Det, GDet, hx] at hE
      simp [go_sem, Act.eval, IntWalk.i64_left, hE, k1, k2, k3]
      try rfl
  apply nd_pick_and (ho := rfl) (hg := rfl)
  · intro v W' h
    simp [envOf, Det] at h
    exact h
  · intro v W' h hx
    simp [envOf, GDet, hx] at h
    exact h
  iterate 1
    apply nd_det (hg := rfl) (hal := rfl)
    · intro a W' hC hE
      obtain ⟨_, k1, k2, k3⟩ := hC
      have k2 := k2.cell
      have k3 := k3.cell
      first
        | (simp [Oper.looksAt, Op.operands, Call.operands, envOf, Det] at hE; simp [go_sem, Act.eval, IntWalk.i64_left, hE, k1, k2, k3]; try rfl)
        | (clear hE; simp [go_sem, Act.eval, IntWalk.i64_left, k1, k2, k3]; try rfl)
  iterate 2
    apply nd_detg (p := true) (hg := rfl) (hd := rfl) (hal := rfl)
    · intro v W' h
      simp [envOf, Det] at h
      simp
      exact h
    · intro hp hx a W' hC hE
      obtain ⟨_, k1, k2, k3⟩ := hC
      have k2 := k2.cell
      have k3 := k3.cell
      simp [Oper.looksAt, Op.operands, Call.operands, envOf, Det, GDet, hx] at hE
      simp [go_sem, Act.eval, IntWalk.i64_left, hE, k1, k2, k3]
      try rfl
  apply nd_pick_and (ho := rfl) (hg := rfl)
  · intro v W' h
    simp [envOf, Det] at h
    exact h
  · intro v W' h hx
    simp [envOf, GDet, hx] at h
    exact h
  iterate 1
    apply nd_det (hg := rfl) (hal := rfl)
    · intro a W' hC hE
      obtain ⟨_, k1, k2, k3⟩ := hC
      have k2 := k2.cell
      have k3 := k3.cell
      first
        | (simp [Oper.looksAt, Op.operands, Call.operands, envOf, Det] at hE; simp [go_sem, Act.eval, IntWalk.i64_left, hE, k1, k2, k3]; try rfl)
        | (clear hE; simp [go_sem, Act.eval, IntWalk.i64_left, k1, k2, k3]; try rfl)
  iterate 2
    apply nd_detg (p := true) (hg := rfl) (hd := rfl) (hal := rfl)
    · intro v W' h
      simp [envOf, Det] at h
      simp
      exact h
    · intro hp hx a W' hC hE
      obtain ⟨_, k1, k2, k3⟩ := hC
      have k2 := k2.cell
      have k3 := k3.cell
      simp [Oper.looksAt, Op.operands, Call.operands, envOf, Det, GDet, hx] at hE
      simp [go_sem, Act.eval, IntWalk.i64_left, hE, k1, k2, k3]
      try rfl
  apply nd_pick_and (ho := rfl) (hg := rfl)
  · intro v W' h
    simp [envOf, Det] at h
    exact h
  · intro v W' h hx
    simp [envOf, GDet, hx] at h
    exact h
  iterate 1
    apply nd_det (hg := rfl) (hal := rfl)
    · intro a W' hC hE
      obtain ⟨_, k1, k2, k3⟩ := hC
      have k2 := k2.cell
      have k3 := k3.cell
      first
        | (simp [Oper.looksAt, Op.operands, Call.operands, envOf, Det] at hE; simp [go_sem, Act.eval, IntWalk.i64_left, hE, k1, k2, k3]; try rfl)
        | (clear hE; simp [go_sem, Act.eval, IntWalk.i64_left, k1, k2, k3]; try rfl)
  rintro W19 ⟨hR, d1, d2, d3⟩
  simp only [ndFinR, Det, forall_eq]
  intros
  repeat (rename GDet _ _ _ _ => hgd; clear hgd)
  simp only [Act.put, List.setIfInBounds_toArray, List.set_cons_zero, List.set_cons_succ]
  refine wpList_nil ?_
  replace hW := hW.trans (hR.of_priv hW.size)
  clear hR
  clear c5
  try clear b1 b2 b3
  have b1 := d1
  clear d1
  have b2 := d2
  clear d2
  have b3 := d3
  clear d3
  go_wp2
  have y_2 := b2.lt
  have y_3 := b3.lt
  refine bodyPost_ret (v := .bool true) (by simp [results, Tryz.results10, go_sem, y_2, y_3]) rfl ⟨rfl, belowAny⟩
end Go.Proofs.YtgblmlefmohgnaaGreat
namespace Go.Proofs.YtgblmlefmohgnaaGreat
open Go.RowKit
theorem c_wakes (w : World) : Calls Tryz.prog 10 #[] w fun e w' => e = .returned (.bool true) ∧ Below w.heap.size w w' := by
  refine wakes_w w (fun W hR => ?_) (fun W p' q' cap' vc' hR => ?_) (fun W p' q' cap' vc' hR => ?_) (fun W p' q' cap' vc' hR => ?_) (fun W => c_Of 21 W (by omega))
  · refine of_seg_yes 2 5 0 1 2 3 _ 1 l0 W (fun W' _ => ?_) (fun W' hW' => ?_)
    · have := c_Kind 5 0 1 2 W'
      rw [s0_kind] at this
      exact this
    · refine (c_made_yes s0 _ none 1 0 W' (s0_in (hR.below hW')) s0_ok (fun W'' hW'' => cloneRun_some _ 1 l0 W'' (by decide) ((hR.below hW').below hW'')) (fun W'' _ => cloneInt_nil W'')).mono ?_
      rintro e w' ⟨p', cap', q', vc', h1, h2, h3, h4, h5, h6, h7, h8⟩
      exact ⟨p', cap', q', vc', h1, h2, h3, h5, h7⟩
  · have := c_Part s0 p' q' cap' vc' 11 100 W (s0_in hR) (Nat.zero_le _) (by omega)
    rw [s0_part] at this
    exact this
  · have := c_segAt s0 p' q' cap' vc' 14 W (s0_in hR)
    rw [s0_at.1, s0_at.2.1] at this
    exact this
  · have := c_segAt s0 p' q' cap' vc' 13 W (s0_in hR)
    rw [s0_at.2.2.1, s0_at.2.2.2] at this
    exact this
end Go.Proofs.YtgblmlefmohgnaaGreat
