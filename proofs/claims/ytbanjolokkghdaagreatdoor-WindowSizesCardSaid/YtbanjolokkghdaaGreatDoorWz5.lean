/- Parts of the proof that follows: Layer line: over. | The facts on a world in one piece; steps of a walk whose proofs are found by defaults. No condition. | Layer line: over, value, Check, timeIs, At. | Layer line: Check, timeIs, At. -/
import Derived.Test.YtbanjolokkghdaaGreatDoorWz4
set_option linter.unusedSimpArgs false
set_option linter.unusedVariables false
namespace Go.Proofs.YtbanjolokkghdaaGreatDoor
open Go.RowKit

set_option maxRecDepth 100000 in
set_option maxHeartbeats 2000000 in
theorem over_w (A R n d t ph pl rh rl sh sl qh ql ah al oh ol rest e1 e2 : Int) (w : World)
    (c1 : ∀ w, Calls Tryz.prog 220 #[.int .i64 n, .int .i64 t] w fun e w' => e = .returned (.agg #[.int .i64 ph, .int .u64 pl]) ∧ Below w.heap.size w w')
    (c2 : ∀ w, Calls Tryz.prog 199 #[.int .i64 R] w fun e w' => e = .returned (.agg #[.int .i64 rh, .int .u64 rl]) ∧ Below w.heap.size w w')
    (c3 : ∀ w, Calls Tryz.prog 194 #[.agg #[.int .i64 ph, .int .u64 pl], .agg #[.int .i64 rh, .int .u64 rl]] w fun e w' => e = .returned (.tuple #[.agg #[.int .i64 sh, .int .u64 sl], .int .i64 e1]) ∧ Below w.heap.size w w')
    (c4 : ∀ w, Calls Tryz.prog 216 #[.agg #[.int .i64 sh, .int .u64 sl], .int .i64 d] w fun e w' => e = .returned (.tuple #[.agg #[.int .i64 qh, .int .u64 ql], .int .i64 rest, .int .i64 0]) ∧ Below w.heap.size w w')
    (c5 : ∀ w, Calls Tryz.prog 199 #[.int .i64 A] w fun e w' => e = .returned (.agg #[.int .i64 ah, .int .u64 al]) ∧ Below w.heap.size w w')
    (c6 : ∀ w, Calls Tryz.prog 194 #[.agg #[.int .i64 qh, .int .u64 ql], .agg #[.int .i64 ah, .int .u64 al]] w fun e w' => e = .returned (.tuple #[.agg #[.int .i64 oh, .int .u64 ol], .int .i64 e2]) ∧ Below w.heap.size w w') :
    Calls Tryz.prog 259 #[.agg #[.int .i64 A, .int .i64 R, .int .i64 n, .int .i64 d], .int .i64 t] w fun e w' => e = .returned (.tuple #[.agg #[.int .i64 oh, .int .u64 ol], .int .i64 rest]) ∧ Below w.heap.size w w' := by
  have H1 := Lib.hid c1
  have H2 := Lib.hid c2
  have H3 := Lib.hid c3
  have H4 := Lib.hid c4
  have H5 := Lib.hid c5
  have H6 := Lib.hid c6
  clear c1 c2 c3 c4 c5 c6
  go_enter Tryz.func259, Tryz.ntmps259
  go_upto_region 1 with (fail)
  refine wp_facts (fun W => Below w.heap.size w W ∧ Blk W w.heap.size #[.int .i64 A, .int .i64 R, .int .i64 n, .int .i64 d] 315 ∧ Blk W (w.heap.size + 1) #[.int .i64 0, .int .u64 0] 238) ⟨?_, (by repeat (first | (refine Blk.new' ?_; simp; done) | refine Blk.alloc ?_ _)), (by repeat (first | (refine Blk.new' ?_; simp; done) | refine Blk.alloc ?_ _))⟩ ?_
  · exact (have hUp := (Below.refl w.heap.size w); belowAny)
  rintro W ⟨hW, b1, b2⟩
  have c1 := H1.out
  have c2 := H2.out
  have c3 := H3.out
  refine wp_region_nd 14 46 [] (fun W' => Rex [] W W' ∧ Blk W' w.heap.size #[.int .i64 A, .int .i64 R, .int .i64 n, .int .i64 d] 315 ∧ Blk W' (w.heap.size + 1) #[.int .i64 0, .int .u64 0] 238) mixed (by kernel_rfl) rfl ⟨(Rex.refl _ _).drew, b1, b2⟩ (fun w w' ⟨h0, h1, h2⟩ hr => ⟨h0.trans hr, h1.rex hr (by simp <;> omega), h2.rex hr (by simp <;> omega)⟩) (fun c a d v w h => by cases d <;> exact h) ?_
  iterate 4
    apply nd_det (hg := rfl) (hal := rfl)
    · intro a W' hC hE
      obtain ⟨_, k1, k2⟩ := hC
      have k1 := k1.cell
      first
        | (simp [Oper.looksAt, Op.operands, Call.operands, envOf, Det] at hE; simp [go_sem, Act.eval, IntWalk.i64_left, hE, k1, k2]; try rfl)
        | (clear hE; simp [go_sem, Act.eval, IntWalk.i64_left, k1, k2]; try rfl)
  refine nd_callv2 rfl rfl (fun W' hC => c1 W') (fun a W' hC hE => ?_) ?_
  · obtain ⟨_, k1, k2⟩ := hC
    have k1 := k1.cell
    first
      | (simp [Oper.looksAt, Op.operands, Call.operands, envOf, Det] at hE; simp [go_sem, Act.eval, IntWalk.i64_left, hE, k1, k2]; try rfl)
      | (clear hE; simp [go_sem, Act.eval, IntWalk.i64_left, k1, k2]; try rfl)
  iterate 3
    apply nd_det (hg := rfl) (hal := rfl)
    · intro a W' hC hE
      obtain ⟨_, k1, k2⟩ := hC
      have k1 := k1.cell
      first
        | (simp [Oper.looksAt, Op.operands, Call.operands, envOf, Det] at hE; simp [go_sem, Act.eval, IntWalk.i64_left, hE, k1, k2]; try rfl)
        | (clear hE; simp [go_sem, Act.eval, IntWalk.i64_left, k1, k2]; try rfl)
  refine nd_callv2 rfl rfl (fun W' hC => c2 W') (fun a W' hC hE => ?_) ?_
  · obtain ⟨_, k1, k2⟩ := hC
    have k1 := k1.cell
    first
      | (simp [Oper.looksAt, Op.operands, Call.operands, envOf, Det] at hE; simp [go_sem, Act.eval, IntWalk.i64_left, hE, k1, k2]; try rfl)
      | (clear hE; simp [go_sem, Act.eval, IntWalk.i64_left, k1, k2]; try rfl)
  refine nd_callv2 rfl rfl (fun W' hC => c3 W') (fun a W' hC hE => ?_) ?_
  · obtain ⟨_, k1, k2⟩ := hC
    have k1 := k1.cell
    first
      | (simp [Oper.looksAt, Op.operands, Call.operands, envOf, Det] at hE; simp [go_sem, Act.eval, IntWalk.i64_left, hE, k1, k2]; try rfl)
      | (clear hE; simp [go_sem, Act.eval, IntWalk.i64_left, k1, k2]; try rfl)
  iterate 3
    apply nd_det (hg := rfl) (hal := rfl)
    · intro a W' hC hE
      obtain ⟨_, k1, k2⟩ := hC
      have k1 := k1.cell
      first
        | (simp [Oper.looksAt, Op.operands, Call.operands, envOf, Det] at hE; simp [go_sem, Act.eval, IntWalk.i64_left, hE, k1, k2]; try rfl)
        | (clear hE; simp [go_sem, Act.eval, IntWalk.i64_left, k1, k2]; try rfl)
  apply nd_alloc W.heap.size #[.int .i64 0, .int .u64 0] 238 rfl rfl
  · exact fun W' hC => hC.1.size
  · simp [others] <;> omega
  · intro w; kernel_rfl
  rintro W1 ⟨hR, c1, c2⟩
  simp only [ndFinR, Det, forall_eq]
  intros
  repeat (rename GDet _ _ _ _ => hgd; clear hgd)
  simp only [Act.put, List.setIfInBounds_toArray, List.set_cons_zero, List.set_cons_succ, List.drop_succ_cons, List.drop_zero]
  clear c3
  obtain ⟨g1, rfl, hg1, n1⟩ := ‹NewVar _ _ _ _ _›
  have kn := n1.cell
  have fn := n1.frozen
  go_upto_region 2 with (fail)
  clear kn fn
  have hW1 := hW.trans (hR.of_priv hW.size)
  have hz := hW.size
  have y1 := b1.lt
  have y2 := b2.lt
  refine wp_facts (fun W => Below w.heap.size w W ∧ Blk W w.heap.size #[.int .i64 A, .int .i64 R, .int .i64 n, .int .i64 d] 315 ∧ Blk W (w.heap.size + 1) #[.int .i64 0, .int .u64 0] 238 ∧ Blk W g1 #[.int .i64 sh, .int .u64 sl] 238) ⟨?_, ?_, ?_, (n1.set 0 _).set 1 _⟩ ?_
  · exact (have hUp := hW1; belowAny)
  · exact (have hUp := c1; blkAny)
  · exact (have hUp := c2; blkAny)
  clear hW1 c1 c2 n1 hR hW b1 b2
  rintro W2 ⟨hW, b1, b2, b3⟩
  have k1 := b1.cell
  have k3 := b3.cell
  have c4 := H4.out
  go_wp2_with fail
  refine (c4 _).mono ?_
  rintro e w4 ⟨rfl, hb4⟩
  clear c4 k1 k3
  go_upto_region 3 with (fail)
  have d1 := b1.calls hb4
  have d2 := b2.calls hb4
  have z4 := hb4.size
  have z3 := hW.size
  refine wp_facts (fun W => Below w.heap.size w W ∧ Blk W w.heap.size #[.int .i64 A, .int .i64 R, .int .i64 n, .int .i64 d] 315 ∧ Blk W (w.heap.size + 1) #[.int .i64 0, .int .u64 0] 238 ∧ Blk W w4.heap.size #[.int .i64 qh, .int .u64 ql] 238) ⟨?_, ?_, ?_, Blk.new' rfl⟩ ?_
  · exact (have hUp := (hW.trans (hb4.mono (by have := hW.size; omega))); belowAny)
  · exact (have hUp := d1; blkAny)
  · exact (have hUp := d2; blkAny)
  have y4 : w.heap.size + 1 < w4.heap.size := d2.lt
  clear hW b1 b2 b3 hb4 d1 d2 z4 z3
  rintro W ⟨hW, b1, b2, b3⟩
  have c5 := H5.out
  have c6 := H6.out
  refine wp_region_nd 10 46 [] (fun W' => Rex [] W W' ∧ Blk W' w.heap.size #[.int .i64 A, .int .i64 R, .int .i64 n, .int .i64 d] 315 ∧ Blk W' (w.heap.size + 1) #[.int .i64 0, .int .u64 0] 238 ∧ Blk W' w4.heap.size #[.int .i64 qh, .int .u64 ql] 238) mixed (by kernel_rfl) rfl ⟨(Rex.refl _ _).drew, b1, b2, b3⟩ (fun w w' ⟨h0, h1, h2, h3⟩ hr => ⟨h0.trans hr, h1.rex hr (by simp <;> omega), h2.rex hr (by simp <;> omega), h3.rex hr (by simp <;> omega)⟩) (fun c a d v w h => by cases d <;> exact h) ?_
  iterate 4
    apply nd_det (hg := rfl) (hal := rfl)
    · intro a W' hC hE
      obtain ⟨_, k1, k2, k3⟩ := hC
      have k1 := k1.cell
      have k3 := k3.cell
      first
        | (simp [Oper.looksAt, Op.operands, Call.operands, envOf, Det] at hE; simp [go_sem, Act.eval, IntWalk.i64_left, hE, k1, k2, k3]; try rfl)
        | (clear hE; simp [go_sem, Act.eval, IntWalk.i64_left, k1, k2, k3]; try rfl)
  refine nd_callv2 rfl rfl (fun W' hC => c5 W') (fun a W' hC hE => ?_) ?_
  · obtain ⟨_, k1, k2, k3⟩ := hC
    have k1 := k1.cell
    have k3 := k3.cell
    first
      | (simp [Oper.looksAt, Op.operands, Call.operands, envOf, Det] at hE; simp [go_sem, Act.eval, IntWalk.i64_left, hE, k1, k2, k3]; try rfl)
      | (clear hE; simp [go_sem, Act.eval, IntWalk.i64_left, k1, k2, k3]; try rfl)
  refine nd_callv2 rfl rfl (fun W' hC => c6 W') (fun a W' hC hE => ?_) ?_
  · obtain ⟨_, k1, k2, k3⟩ := hC
    have k1 := k1.cell
    have k3 := k3.cell
    first
      | (simp [Oper.looksAt, Op.operands, Call.operands, envOf, Det] at hE; simp [go_sem, Act.eval, IntWalk.i64_left, hE, k1, k2, k3]; try rfl)
      | (clear hE; simp [go_sem, Act.eval, IntWalk.i64_left, k1, k2, k3]; try rfl)
  iterate 3
    apply nd_det (hg := rfl) (hal := rfl)
    · intro a W' hC hE
      obtain ⟨_, k1, k2, k3⟩ := hC
      have k1 := k1.cell
      have k3 := k3.cell
      first
        | (simp [Oper.looksAt, Op.operands, Call.operands, envOf, Det] at hE; simp [go_sem, Act.eval, IntWalk.i64_left, hE, k1, k2, k3]; try rfl)
        | (clear hE; simp [go_sem, Act.eval, IntWalk.i64_left, k1, k2, k3]; try rfl)
  apply nd_alloc W.heap.size #[.int .i64 0, .int .u64 0] 238 rfl rfl
  · exact fun W' hC => hC.1.size
  · simp [others] <;> omega
  · intro w; kernel_rfl
  rintro W1 ⟨hR, c1, c2, c3⟩
  simp only [ndFinR, Det, forall_eq]
  intros
  repeat (rename GDet _ _ _ _ => hgd; clear hgd)
  simp only [Act.put, List.setIfInBounds_toArray, List.set_cons_zero, List.set_cons_succ, List.drop_succ_cons, List.drop_zero]
  obtain ⟨g2, rfl, hg2, n2⟩ := ‹NewVar _ _ _ _ _›
  have kn := n2.cell
  have fn := n2.frozen
  have k2 := c2.cell
  have f2 := c2.frozen
  have y5 := b2.lt
  have y6 : w.heap.size + 1 ≠ g2 := by omega
  clear c5 c6
  go_wp2
  refine bodyPost_ret (v := .tuple #[.agg #[.int .i64 oh, .int .u64 ol], .int .i64 rest]) (by simp [results, Tryz.results259, go_sem, k2, f2, y6]) rfl ⟨rfl, ?_⟩
  have hR' := hW.trans (hR.of_priv hW.size)
  have hz' := hW.size
  exact (have hUp := hR'; belowAny)
end Go.Proofs.YtbanjolokkghdaaGreatDoor
namespace Go.Proofs.YtbanjolokkghdaaGreatDoor
open Go.RowKit
/-- As blkAny, but quick where a great world has been written into. -/
theorem blkAny2 {w : World} {b : Nat} {cs : Array Value} {t : TypeId} (h : Blk w b cs t := by repeat (first | with_reducible assumption | with_reducible (apply Blk.set2) | with_reducible (apply Blk.setO) | ((with_reducible (show _ ≠ _)); omega) | with_reducible (refine Blk.new2 (by first | rfl | (simp; done) | (simp; omega) | omega) ?_) | with_reducible (refine Blk.alloc ?_ _) | with_reducible (refine Blk.calls ?_ (by assumption)) | with_reducible (refine Blk.rex ?_ (by assumption) (by first | (simp; done) | (simp; omega))) | ((with_reducible (show @Eq (Array Value) _ _)); rfl) | ((with_reducible (show @Eq Obj _ _)); rfl))) : Blk w b cs t := h
def Bz (_ : World) : Prop := True
def Bc (b : Nat) (cs : Array Value) (t : TypeId) (R : World → Prop) (w : World) : Prop := (Blk w b cs t ∧ b < w.heap.size ∧ (∀ i, w.cell? ⟨b, i, none⟩ = cs[i]?) ∧ ∀ i, w.frozen? ⟨b, i, none⟩ = false) ∧ R w
def Rc (F R : World → Prop) (w : World) : Prop := F w ∧ R w
theorem Bc.mk {b : Nat} {cs : Array Value} {t : TypeId} {R : World → Prop} {w : World} (h : Blk w b cs t) (r : R w) : Bc b cs t R w := ⟨⟨h, h.lt, h.cell, h.frozen⟩, r⟩
theorem Rc.mk {F R : World → Prop} {w : World} (h : F w) (r : R w) : Rc F R w := ⟨h, r⟩
def Cl (R : World → Prop) : Prop := ∀ w w', R w → Rex [] w w' → R w'
theorem Cl.z : Cl Bz := fun _ _ _ _ => trivial
theorem Cl.b {b : Nat} {cs : Array Value} {t : TypeId} {R : World → Prop} (h : Cl R) : Cl (Bc b cs t R) := fun w w' hr hx => Bc.mk (hr.1.1.rex hx (by simp)) (h _ _ hr.2 hx)
theorem Cl.r {F R : World → Prop} (hF : ∀ w w', F w → Rex [] w w' → F w') (h : Cl R) : Cl (Rc F R) := fun w w' hr hx => ⟨hF _ _ hr.1 hx, h _ _ hr.2 hx⟩
theorem wp_cutB {P : Program} {c : Code} {Q : Exit → Act → World → Prop} {a : Act} {w : World} (w0 : World) (R : World → Prop) (hr : ∀ W, Below w0.heap.size w0 W → w0.heap.size ≤ W.heap.size → R W → c.wp P Q a W)
    (hI : Below w0.heap.size w0 w := by exact belowAny) (hR : R w := by repeat (first | exact trivial | refine Bc.mk (by exact blkAny2) ?_)) : c.wp P Q a w := hr w hI hI.size hR
theorem haveB {G : Prop} (w0 w : World) (R : World → Prop) (hr : Below w0.heap.size w0 w → w0.heap.size ≤ w.heap.size → R w → G)
    (hI : Below w0.heap.size w0 w := by exact belowAny) (hR : R w := by repeat (first | exact trivial | refine Bc.mk (by exact blkAny2) ?_)) : G := hr hI hI.size hR
section
variable {P : Program} {ops : Array Oper} {C : World → Prop} {X : List (Nat × Nat)} {a0 : Act} {Fin : List (Option Tmp × Spec) → Prop} {i : Nat} {o : Oper} {rest : List Oper} {acc : List (Option Tmp × Spec)}
theorem dA {c : Value} (hr : ndWalk P ops C X a0 Fin (i + 1) rest ((o.dst, Det c) :: acc)) (hg : o.guard = none := by exact rfl) (hal : isAlloc o = false := by exact rfl)
    (h : ∀ (a : Act) (w : World), C w → (∀ s ∈ o.looksAt ops, envOf a0 acc s (a.tmps.getD s undef) w) → (execOp a.eval o).run P w = .ok (.value c) w := by
      intro a W' hC hE
      simp only [Bc, Bz, Rc] at hC
      first
        | (simp [Oper.looksAt, Op.operands, Call.operands, envOf, Det] at hE; simp [go_sem, Act.eval, IntWalk.i64_left, hE, hC]; try rfl)
        | (clear hE; simp [go_sem, Act.eval, IntWalk.i64_left, hC]; try rfl)) : ndWalk P ops C X a0 Fin i (o :: rest) acc := nd_det c hg hal h hr
theorem gA {x want : Bool} {k : Nat} {d : Tmp} {c : Value} (hr : ndWalk P ops C X a0 Fin (i + 1) rest ((o.dst, GDet (true && (x == want)) c) :: acc)) (hg : o.guard = some (k, want) := by exact rfl) (hd : wrOf ops k = some d := by exact rfl) (hal : isAlloc o = false := by exact rfl)
    (hx : ∀ v w, envOf a0 acc d v w → if true = true then v = .bool x else v = undef := by
      intro v W' h
      simp [envOf, Det, GDet] at h
      simp
      exact h)
    (h : true = true → x = want → ∀ (a : Act) (w : World), C w → (∀ s ∈ o.looksAt ops, envOf a0 acc s (a.tmps.getD s undef) w) → (execOp a.eval o).run P w = .ok (.value c) w := by
      intro hp hx a W' hC hE
      simp only [Bc, Bz, Rc] at hC
      simp [Oper.looksAt, Op.operands, Call.operands, envOf, Det, GDet, hx] at hE
      simp [go_sem, Act.eval, IntWalk.i64_left, hE, hC]
      try rfl) : ndWalk P ops C X a0 Fin i (o :: rest) acc := nd_detg true x want k d c hg hd hal hx h hr
theorem pA {x y : Bool} {c t : Tmp} (hr : ndWalk P ops C X a0 Fin (i + 1) rest ((o.dst, Det (.bool (x && y))) :: acc)) (ho : o.op = .pick (.tmp c) (.tmp t) (.const (.bool false)) := by exact rfl) (hg : o.guard = none := by exact rfl)
    (hc : ∀ v w, envOf a0 acc c v w → v = .bool x := by
      intro v W' h
      simp [envOf, Det] at h
      exact h)
    (ht : ∀ v w, envOf a0 acc t v w → x = true → v = .bool y := by
      intro v W' h hx
      simp [envOf, GDet, hx] at h
      exact h) : ndWalk P ops C X a0 Fin i (o :: rest) acc := nd_pick_and x y c t ho hg hc ht hr
theorem pO {x y : Bool} {c t : Tmp} (hr : ndWalk P ops C X a0 Fin (i + 1) rest ((o.dst, Det (.bool (x || y))) :: acc)) (ho : o.op = .pick (.tmp c) (.const (.bool true)) (.tmp t) := by exact rfl) (hg : o.guard = none := by exact rfl)
    (hc : ∀ v w, envOf a0 acc c v w → v = .bool x := by
      intro v W' h
      simp [envOf, Det] at h
      exact h)
    (ht : ∀ v w, envOf a0 acc t v w → x = false → v = .bool y := by
      intro v W' h hx
      simp [envOf, GDet, hx] at h
      exact h) : ndWalk P ops C X a0 Fin i (o :: rest) acc := nd_pick_or x y c t ho hg hc ht hr
theorem pgA {g want x y : Bool} {k : Nat} {d c t : Tmp} (hr : ndWalk P ops C X a0 Fin (i + 1) rest ((o.dst, GDet (true && (g == want)) (.bool (x && y))) :: acc)) (ho : o.op = .pick (.tmp c) (.tmp t) (.const (.bool false)) := by exact rfl) (hg : o.guard = some (k, want) := by exact rfl) (hd : wrOf ops k = some d := by exact rfl)
    (hx : ∀ v w, envOf a0 acc d v w → if true = true then v = .bool g else v = undef := by
      intro v W' h
      simp [envOf, Det, GDet] at h
      simp
      exact h)
    (hc : true = true → g = want → ∀ v w, envOf a0 acc c v w → v = .bool x := by
      intro _ hx v W' h
      simp [envOf, Det, GDet, hx] at h
      exact h)
    (ht : true = true → g = want → ∀ v w, envOf a0 acc t v w → x = true → v = .bool y := by
      intro _ hx v W' h hy
      simp [envOf, GDet, hx, hy] at h
      exact h) : ndWalk P ops C X a0 Fin i (o :: rest) acc := nd_pickg_and true g want x y k d c t ho hg hd hx hc ht hr
theorem pgO {g want x y : Bool} {k : Nat} {d c t : Tmp} (hr : ndWalk P ops C X a0 Fin (i + 1) rest ((o.dst, GDet (true && (g == want)) (.bool (x || y))) :: acc)) (ho : o.op = .pick (.tmp c) (.const (.bool true)) (.tmp t) := by exact rfl) (hg : o.guard = some (k, want) := by exact rfl) (hd : wrOf ops k = some d := by exact rfl)
    (hx : ∀ v w, envOf a0 acc d v w → if true = true then v = .bool g else v = undef := by
      intro v W' h
      simp [envOf, Det, GDet] at h
      simp
      exact h)
    (hc : true = true → g = want → ∀ v w, envOf a0 acc c v w → v = .bool x := by
      intro _ hx v W' h
      simp [envOf, Det, GDet, hx] at h
      exact h)
    (ht : true = true → g = want → ∀ v w, envOf a0 acc t v w → x = false → v = .bool y := by
      intro _ hx v W' h hy
      simp [envOf, GDet, hx, hy] at h
      exact h) : ndWalk P ops C X a0 Fin i (o :: rest) acc := nd_pickg_or true g want x y k d c t ho hg hd hx hc ht hr
theorem cA {f : FuncId} {args : Array Value} {c : Value} (hc : ∀ w, C w → Calls P f args w fun e w' => e = .returned c ∧ Below w.heap.size w w') (hr : ndWalk P ops C X a0 Fin (i + 1) rest ((o.dst, Det c) :: acc)) (hg : o.guard = none := by exact rfl) (hal : isAlloc o = false := by exact rfl)
    (h : ∀ (a : Act) (w : World), C w → (∀ s ∈ o.looksAt ops, envOf a0 acc s (a.tmps.getD s undef) w) → (execOp a.eval o).run P w = .ok (.enter f args) w := by
      intro a W' hC hE
      simp only [Bc, Bz, Rc] at hC
      first
        | (simp [Oper.looksAt, Op.operands, Call.operands, envOf, Det] at hE; simp [go_sem, Act.eval, IntWalk.i64_left, hE, hC]; try rfl)
        | (clear hE; simp [go_sem, Act.eval, IntWalk.i64_left, hC]; try rfl)) : ndWalk P ops C X a0 Fin i (o :: rest) acc := nd_callv2 hg hal hc h hr
/-- The same where more facts are wanted: E tells them. -/
theorem dE {c : Value} {E : World → Prop} (e : ∀ w, C w → E w) (hr : ndWalk P ops C X a0 Fin (i + 1) rest ((o.dst, Det c) :: acc)) (hg : o.guard = none := by exact rfl) (hal : isAlloc o = false := by exact rfl)
    (h : ∀ (a : Act) (w : World), C w → E w → (∀ s ∈ o.looksAt ops, envOf a0 acc s (a.tmps.getD s undef) w) → (execOp a.eval o).run P w = .ok (.value c) w := by
      intro a W' hC hX hE
      simp only [Bc, Bz, Rc] at hC
      try simp only [Nat.zero_mul, Nat.one_mul, Nat.add_zero, Nat.zero_add] at hX
      first
        | (simp [Oper.looksAt, Op.operands, Call.operands, envOf, Det] at hE; simp [go_sem, Act.eval, IntWalk.i64_left, hE, hC, hX]; try rfl)
        | (clear hE; simp [go_sem, Act.eval, IntWalk.i64_left, hC, hX]; try rfl)) : ndWalk P ops C X a0 Fin i (o :: rest) acc := nd_det c hg hal (fun a w hC hE => h a w hC (e w hC) hE) hr
theorem gE {x want : Bool} {k : Nat} {d : Tmp} {c : Value} {E : World → Prop} (e : ∀ w, C w → E w) (hr : ndWalk P ops C X a0 Fin (i + 1) rest ((o.dst, GDet (true && (x == want)) c) :: acc)) (hg : o.guard = some (k, want) := by exact rfl) (hd : wrOf ops k = some d := by exact rfl) (hal : isAlloc o = false := by exact rfl)
    (hx : ∀ v w, envOf a0 acc d v w → if true = true then v = .bool x else v = undef := by
      intro v W' h
      simp [envOf, Det, GDet] at h
      simp
      exact h)
    (h : true = true → x = want → ∀ (a : Act) (w : World), C w → E w → (∀ s ∈ o.looksAt ops, envOf a0 acc s (a.tmps.getD s undef) w) → (execOp a.eval o).run P w = .ok (.value c) w := by
      intro hp hx a W' hC hX hE
      simp only [Bc, Bz, Rc] at hC
      try simp only [Nat.zero_mul, Nat.one_mul, Nat.add_zero, Nat.zero_add] at hX
      simp [Oper.looksAt, Op.operands, Call.operands, envOf, Det, GDet, hx] at hE
      simp [go_sem, Act.eval, IntWalk.i64_left, hE, hC, hX]
      try rfl) : ndWalk P ops C X a0 Fin i (o :: rest) acc := nd_detg true x want k d c hg hd hal hx (fun hp hx a w hC hE => h hp hx a w hC (e w hC) hE) hr
theorem gF {p x want : Bool} {k : Nat} {d : Tmp} {c : Value} {E : World → Prop} (e : ∀ w, C w → E w) (hr : ndWalk P ops C X a0 Fin (i + 1) rest ((o.dst, GDet (p && (x == want)) c) :: acc)) (hg : o.guard = some (k, want) := by exact rfl) (hd : wrOf ops k = some d := by exact rfl) (hal : isAlloc o = false := by exact rfl)
    (hx : ∀ v w, envOf a0 acc d v w → if p = true then v = .bool x else v = undef := by
      intro v W' h
      exact h)
    (h : p = true → x = want → ∀ (a : Act) (w : World), C w → E w → (∀ s ∈ o.looksAt ops, envOf a0 acc s (a.tmps.getD s undef) w) → (execOp a.eval o).run P w = .ok (.value c) w := by
      intro hp hx a W' hC hX hE
      simp only [Bc, Bz, Rc] at hC
      try simp only [Nat.zero_mul, Nat.one_mul, Nat.add_zero, Nat.zero_add] at hX
      try simp at hp
      try simp at hx
      simp [Oper.looksAt, Op.operands, Call.operands, envOf, Det, GDet, hp, hx] at hE
      simp [go_sem, Act.eval, IntWalk.i64_left, hE, hC, hX]
      try rfl) : ndWalk P ops C X a0 Fin i (o :: rest) acc := nd_detg p x want k d c hg hd hal hx (fun hp hx a w hC hE => h hp hx a w hC (e w hC) hE) hr
theorem cE {f : FuncId} {args : Array Value} {c : Value} {E : World → Prop} (e : ∀ w, C w → E w) (hc : ∀ w, C w → Calls P f args w fun e w' => e = .returned c ∧ Below w.heap.size w w') (hr : ndWalk P ops C X a0 Fin (i + 1) rest ((o.dst, Det c) :: acc)) (hg : o.guard = none := by exact rfl) (hal : isAlloc o = false := by exact rfl)
    (h : ∀ (a : Act) (w : World), C w → E w → (∀ s ∈ o.looksAt ops, envOf a0 acc s (a.tmps.getD s undef) w) → (execOp a.eval o).run P w = .ok (.enter f args) w := by
      intro a W' hC hX hE
      simp only [Bc, Bz, Rc] at hC
      try simp only [Nat.zero_mul, Nat.one_mul, Nat.add_zero, Nat.zero_add] at hX
      first
        | (simp [Oper.looksAt, Op.operands, Call.operands, envOf, Det] at hE; simp [go_sem, Act.eval, IntWalk.i64_left, hE, hC, hX]; try rfl)
        | (clear hE; simp [go_sem, Act.eval, IntWalk.i64_left, hC, hX]; try rfl)) : ndWalk P ops C X a0 Fin i (o :: rest) acc := nd_callv2 hg hal hc (fun a w hC hE => h a w hC (e w hC) hE) hr
theorem aI {a b : Prop} (x : a) (y : b) : a ∧ b := ⟨x, y⟩
theorem cG {f : FuncId} {args : Array Value} {c : Value} {x want : Bool} {k : Nat} {d : Tmp} (hc : true = true → x = want → ∀ w, C w → Calls P f args w fun e w' => e = .returned c ∧ Below w.heap.size w w')
    (hr : ndWalk P ops C X a0 Fin (i + 1) rest ((o.dst, GDet (true && (x == want)) c) :: acc)) (hg : o.guard = some (k, want) := by exact rfl) (hd : wrOf ops k = some d := by exact rfl) (hal : isAlloc o = false := by exact rfl)
    (hx : ∀ v w, envOf a0 acc d v w → if true = true then v = .bool x else v = undef := by
      intro v W' h
      simp [envOf, Det, GDet] at h
      simp
      exact h)
    (h : true = true → x = want → ∀ (a : Act) (w : World), C w → (∀ s ∈ o.looksAt ops, envOf a0 acc s (a.tmps.getD s undef) w) → (execOp a.eval o).run P w = .ok (.enter f args) w := by
      intro hp hx a W' hC hE
      simp only [Bc, Bz, Rc] at hC
      first
        | (simp [Oper.looksAt, Op.operands, Call.operands, envOf, Det, GDet, hx] at hE; simp [go_sem, Act.eval, IntWalk.i64_left, hE, hC]; try rfl)
        | (clear hE; simp [go_sem, Act.eval, IntWalk.i64_left, hC]; try rfl)) : ndWalk P ops C X a0 Fin i (o :: rest) acc := nd_callvg2 true x want k d hg hd hal hx hc h hr
end
section
variable {P : Program} {Q : Exit → Act → World → Prop} {a0 : Act} {id : Nat} {l : List Oper} {w0 W : World} {R : World → Prop}
/-- A region that draws its order, with its facts in one piece. -/
theorem wp_regD (n m : Nat) (hW : Below w0.heap.size w0 W) (hR : R W)
    (h : ndWalk P l.toArray (fun W' => Rex [] W W' ∧ R W') [] a0 (fun acc => ∀ w, Below w0.heap.size w0 w → w0.heap.size ≤ w.heap.size → R w → ndFinR w a0 acc fun a => wpList P l.toArray Q (l.drop n) a w) 0 (l.take n) [])
    (hf : P.follows .mixedOrders = true := by exact mixed) (hB : okB l.toArray n m = true := by kernel_rfl) (hm : m = a0.tmps.size := by exact rfl)
    (hcl : Cl R := by repeat (first | exact Cl.z | refine Cl.b ?_ | refine Cl.r (fun w w' h hr => h.rex hr (by simp <;> omega)) ?_))
    (hQ : ∀ c a d v w, Q (.panic c) (Act.put a d v) w → Q (.panic c) a w := by exact fun c a d v w h => by cases d <;> exact h) : (Code.region id l.toArray true).wp P Q a0 W :=
  wp_region_nd n m [] (fun W' => Rex [] W W' ∧ R W') hf hB hm ⟨(Rex.refl _ _).drew, hcl _ _ hR (Rex.refl _ _).drew⟩ (fun _ _ h hr => ⟨h.1.trans hr, hcl _ _ h.2 hr⟩) hQ
    (ndWalk_mono (fun acc hacc w hc => hacc w (hW.trans (hc.1.of_priv hW.size)) (hW.trans (hc.1.of_priv hW.size)).size hc.2) _ _ _ h)
theorem wp_regQ (n m : Nat) (hW : Below w0.heap.size w0 W) (hR : R W)
    (h : ndWalk P l.toArray (fun W' => Rex [] W W' ∧ R W') [] a0 (fun acc => ∀ w, Below w0.heap.size w0 w → w0.heap.size ≤ w.heap.size → R w → ndFinR w a0 acc fun a => wpList P l.toArray Q (l.drop n) a w) 0 (l.take n) [])
    (hf : P.follows .mixedOrders = true := by exact mixed) (hB : okB l.toArray n m = true := by kernel_rfl) (hm : m = a0.tmps.size := by exact rfl)
    (hcl : Cl R := by repeat (first | exact Cl.z | refine Cl.b ?_ | refine Cl.r (fun w w' h hr => h.rex hr (by simp <;> omega)) ?_))
    (hn : l.drop n = [] := by exact rfl) : (Code.region id l.toArray true).wp P Q a0 W :=
  wp_region_ndQ n m [] (fun W' => Rex [] W W' ∧ R W') hf hB hm ⟨(Rex.refl _ _).drew, hcl _ _ hR (Rex.refl _ _).drew⟩ (fun _ _ h hr => ⟨h.1.trans hr, hcl _ _ h.2 hr⟩) hn
    (ndWalk_mono (fun acc hacc w hc => hacc w (hW.trans (hc.1.of_priv hW.size)) (hW.trans (hc.1.of_priv hW.size)).size hc.2) _ _ _ h)
theorem wp_regS (n m : Nat) (hW : Below w0.heap.size w0 W) (hR : R W)
    (h : ndWalk P l.toArray (fun W' => Rex [] W W' ∧ R W') [] a0 (fun acc => ∀ w, Below w0.heap.size w0 w → w0.heap.size ≤ w.heap.size → R w → ndFinR w a0 acc fun a => wpList P l.toArray Q (l.drop n) a w) 0 (l.take n) [])
    (hB : InB m l = true := by kernel_rfl) (hm : m = a0.tmps.size := by exact rfl)
    (hcl : Cl R := by repeat (first | exact Cl.z | refine Cl.b ?_ | refine Cl.r (fun w w' h hr => h.rex hr (by simp <;> omega)) ?_)) : (Code.region id l.toArray false).wp P Q a0 W :=
  wp_region_sq n m [] (fun W' => Rex [] W W' ∧ R W') hB hm ⟨Rex.refl _ _, hR⟩ (fun _ _ h hr => ⟨h.1.trans hr, hcl _ _ h.2 hr⟩)
    (ndWalk_mono (fun acc hacc w hc => hacc w (hW.trans (hc.1.of_priv hW.size)) (hW.trans (hc.1.of_priv hW.size)).size hc.2) _ _ _ h)
end
theorem ndR : (∀ (w : World) (a0 : Act) (K : Act → Prop), ndFinR w a0 [] K = K a0) ∧ (∀ (w : World) (a0 : Act) (K : Act → Prop) (d : Option Tmp) (Φ : Spec) (r : List (Option Tmp × Spec)), ndFinR w a0 ((d, Φ) :: r) K = ndFinR w a0 r fun a => ∀ v, Φ v w → K (a.put d v)) ∧
    (∀ (c : Value) (w : World) (K : Value → Prop), (∀ v, Det c v w → K v) ↔ K c) := ⟨fun _ _ _ => rfl, fun _ _ _ _ _ _ => rfl, fun _ _ _ => ⟨fun h => h _ rfl, fun h _ e => e ▸ h⟩⟩
theorem ndS : (∀ (a : Act) (d : Tmp) (v : Value), Act.put a (some d) v = { a with tmps := a.tmps.setIfInBounds d v }) ∧ (∀ (a : Act) (v : Value), Act.put a none v = a) ∧ (∀ (l : List Value) (i : Nat) (a : Value), l.toArray.setIfInBounds i a = (l.set i a).toArray) ∧
    (∀ (a b : Value) (l : List Value), (a :: l).set 0 b = b :: l) ∧ (∀ (a b : Value) (l : List Value) (i : Nat), (a :: l).set (i + 1) b = a :: l.set i b) ∧ (∀ (a : Oper) (l : List Oper) (i : Nat), (a :: l).drop (i + 1) = l.drop i) ∧ (∀ l : List Oper, l.drop 0 = l) :=
  ⟨fun _ _ _ => rfl, fun _ _ => rfl, fun _ _ _ => List.setIfInBounds_toArray .., fun _ _ _ => rfl, fun _ _ _ _ => rfl, fun _ _ _ => rfl, fun _ => rfl⟩
end Go.Proofs.YtbanjolokkghdaaGreatDoor
namespace Go.Proofs.YtbanjolokkghdaaGreatDoor
open Go.RowKit

/-- The line's value, exact. -/
def lineVal (A R n d t : Int) : Int := (n * t + R) / d + A
def lineRest (R n d t : Int) : Int := (n * t + R) % d
structure LineOk (A R n d : Int) : Prop where
  A0 : -2305844108725321728 ≤ A
  A1 : A ≤ 2305844108725321728
  n0 : -4611688217450643456 ≤ n
  n1 : n ≤ 4611688217450643456
  d0 : 1 ≤ d
  d1 : d ≤ 281474976710656
  g : gcdI n d = 1
  R0 : 0 ≤ R
  R1 : R < d
theorem isLine_ok {A R n d : Int} : isLine A R n d = true ↔ LineOk A R n d := by
  unfold isLine isBack isSlope
  simp
  constructor
  · rintro ⟨⟨⟨⟨⟨_, _⟩, ⟨⟨_, _⟩, _⟩, _⟩, _⟩, _⟩, _⟩; constructor <;> assumption
  · rintro ⟨_, _, _, _, _, _, _, _, _⟩; refine ⟨⟨⟨⟨⟨?_, ?_⟩, ⟨⟨?_, ?_⟩, ?_⟩, ?_⟩, ?_⟩, ?_⟩, ?_⟩ <;> assumption

theorem div_abs (s : Int) {d : Int} (hd : 1 ≤ d) : (s ≤ s / d ∧ s / d ≤ 0) ∨ (0 ≤ s / d ∧ s / d ≤ s) := by
  rcases Int.lt_or_le s 0 with k | k
  · have h1 : s / d < 0 := Int.ediv_neg_of_neg_of_pos k (by omega)
    have h2 : s ≤ s / d := Int.le_ediv_of_mul_le (by omega) (by have := Int.mul_le_mul_of_nonneg_left (a := 1) (b := d) (c := -s) hd (by omega); rw [Int.neg_mul, Int.neg_mul] at this; omega)
    exact .inl ⟨h2, by omega⟩
  · exact .inr ⟨Int.ediv_nonneg k (by omega), Int.ediv_le_self _ k⟩
theorem div_W128 {s d : Int} (h : W128 s) (hd : 1 ≤ d) : W128 (s / d) := by
  obtain ⟨_, _⟩ := h; have := div_abs s hd; exact ⟨by omega, by omega⟩

theorem c_over (A R n d t : Int) (w : World) (h : LineOk A R n d) (ht : 0 ≤ t) (ht' : t ≤ 281474976710656) :
    Calls Tryz.prog 259 #[.agg #[.int .i64 A, .int .i64 R, .int .i64 n, .int .i64 d], .int .i64 t] w fun e w' => e = .returned (.tuple #[wideV (lineVal A R n d t), .int .i64 (lineRest R n d t)]) ∧ Below w.heap.size w w' := by
  have hA0 := h.A0; have hA1 := h.A1; have hn0 := h.n0; have hn1 := h.n1; have hd0 := h.d0; have hd1 := h.d1; have hR0 := h.R0; have hR1 := h.R1
  have m0 : (n * t).natAbs ≤ 4611688217450643456 * 281474976710656 := by
    rw [Int.natAbs_mul]; exact Nat.mul_le_mul (by omega) (by omega)
  have p1 : -1298074833603726549822761531867136 ≤ n * t ∧ n * t ≤ 1298074833603726549822761531867136 := by omega
  have w1 : W128 (n * t + R) := ⟨by omega, by omega⟩
  have q1 := div_W128 w1 hd0
  have q2 : -1298074833603726549822761531867136 * 1 - 1 ≤ (n * t + R) / d ∧ (n * t + R) / d ≤ 1298074833603726549822761531867136 * 2 := by
    have := div_abs (n * t + R) hd0; omega
  have w2 : W128 ((n * t + R) / d + A) := ⟨by omega, by omega⟩
  have z1 : I64 n := ⟨by omega, by omega⟩
  have z2 : I64 t := ⟨by omega, by omega⟩
  have z3 : I64 R := ⟨by omega, by omega⟩
  have z4 : I64 A := ⟨by omega, by omega⟩
  have c3 := fun w => c_Add (n * t) R w (W128_mul z1 z2) z3.w
  have c6 := fun w => c_Add ((n * t + R) / d) A w q1 z4.w
  rw [inW_in w1, wrapW_in w1] at c3
  rw [inW_in w2, wrapW_in w2] at c6
  exact over_w A R n d t _ _ _ _ _ _ _ _ _ _ _ _ _ _ _ w (fun w => c_Mul n t w z1 z2) (fun w => c_Of R w z3) c3 (fun w => c_Div (n * t + R) d w w1 hd0 (by omega)) (fun w => c_Of A w z4) c6

set_option maxRecDepth 100000 in
set_option maxHeartbeats 1000000 in
theorem value_ok (A R n d t oh ol rest v : Int) (w : World)
    (c1 : ∀ w, Calls Tryz.prog 259 #[.agg #[.int .i64 A, .int .i64 R, .int .i64 n, .int .i64 d], .int .i64 t] w fun e w' => e = .returned (.tuple #[.agg #[.int .i64 oh, .int .u64 ol], .int .i64 rest]) ∧ Below w.heap.size w w')
    (c2 : ∀ w, Calls Tryz.prog 217 #[.agg #[.int .i64 oh, .int .u64 ol]] w fun e' w' => e' = .returned (.tuple #[.int .i64 v, .int .i64 0]) ∧ Below w.heap.size w w')
    (c3 : ∀ w, Calls Tryz.prog 218 #[.int .i64 v] w fun e w' => e = .returned (.bool true) ∧ Below w.heap.size w w') :
    Calls Tryz.prog 229 #[.agg #[.int .i64 A, .int .i64 R, .int .i64 n, .int .i64 d], .int .i64 t] w fun e w' => e = .returned (.tuple #[.int .i64 v, .int .i64 0]) ∧ Below w.heap.size w w' := by
  have H_c1 := Lib.hid c1
  clear c1
  have H_c2 := Lib.hid c2
  clear c2
  have H_c3 := Lib.hid c3
  clear c3
  go_enter Tryz.func229, Tryz.ntmps229
  go_upto_region 1 with (fail)
  refine wp_cutB w (Bc w.heap.size #[.int .i64 A, .int .i64 R, .int .i64 n, .int .i64 d] 315 <| Bz) ?_
  rintro W1 hW z2 ⟨⟨b1, yb1, k1, f1⟩, -⟩
  go_wp2_with fail
  refine (H_c1.out _).mono ?_
  rintro e w3 ⟨rfl, hb3⟩
  have z4 := hb3.size
  try simp at z4
  clear k1 f1
  refine haveB w w3 (Bc w.heap.size #[.int .i64 A, .int .i64 R, .int .i64 n, .int .i64 d] 315 <| Bz) ?_
  clear b1 hW
  rintro hW z5 ⟨⟨b1, yb1, k1, f1⟩, -⟩
  clear hb3
  go_wp2_with fail
  refine (H_c2.out _).mono ?_
  rintro e w6 ⟨rfl, hb6⟩
  have z7 := hb6.size
  try simp at z7
  clear k1 f1
  refine haveB w w6 (Bc w.heap.size #[.int .i64 A, .int .i64 R, .int .i64 n, .int .i64 d] 315 <| Bz) ?_
  clear b1 hW
  rintro hW z8 ⟨⟨b1, yb1, k1, f1⟩, -⟩
  clear hb6
  go_upto_region 3 with (fail)
  clear k1 f1
  refine wp_cutB w (Bc w.heap.size #[.int .i64 A, .int .i64 R, .int .i64 n, .int .i64 d] 315 <| Bz) ?_
  clear b1 hW
  rintro W9 hW z10 hL
  refine wp_regS 7 29 hW hL ?_
  iterate 3 refine dA ?_
  refine gA ?_
  refine cG (fun hp hx W' hC => H_c3.out W') ?_
  refine gA ?_
  refine pO ?_
  clear hW hL
  rintro W11 hW z12 hL
  simp only [ndR]
  intros
  repeat (rename GDet _ _ _ _ => hgd; clear hgd)
  simp only [ndS]
  refine wpList_nil ?_
  obtain ⟨⟨b1, yb1, k1, f1⟩, -⟩ := hL
  go_wp2
  refine bodyPost_ret (by simp [results, Tryz.results229, go_sem, k1, f1, yb1]) rfl ⟨rfl, by exact belowAny⟩

set_option maxRecDepth 100000 in
set_option maxHeartbeats 1000000 in
theorem value_over (A R n d t oh ol rest v : Int) (w : World)
    (c1 : ∀ w, Calls Tryz.prog 259 #[.agg #[.int .i64 A, .int .i64 R, .int .i64 n, .int .i64 d], .int .i64 t] w fun e w' => e = .returned (.tuple #[.agg #[.int .i64 oh, .int .u64 ol], .int .i64 rest]) ∧ Below w.heap.size w w')
    (c2 : ∀ w, Calls Tryz.prog 217 #[.agg #[.int .i64 oh, .int .u64 ol]] w fun e' w' => e' = .returned (.tuple #[.int .i64 v, .int .i64 0]) ∧ Below w.heap.size w w')
    (c3 : ∀ w, Calls Tryz.prog 218 #[.int .i64 v] w fun e w' => e = .returned (.bool false) ∧ Below w.heap.size w w') :
    Calls Tryz.prog 229 #[.agg #[.int .i64 A, .int .i64 R, .int .i64 n, .int .i64 d], .int .i64 t] w fun e w' => e = .returned (.tuple #[.int .i64 0, .int .i64 5]) ∧ Below w.heap.size w w' := by
  have H_c1 := Lib.hid c1
  clear c1
  have H_c2 := Lib.hid c2
  clear c2
  have H_c3 := Lib.hid c3
  clear c3
  go_enter Tryz.func229, Tryz.ntmps229
  go_upto_region 1 with (fail)
  refine wp_cutB w (Bc w.heap.size #[.int .i64 A, .int .i64 R, .int .i64 n, .int .i64 d] 315 <| Bz) ?_
  rintro W1 hW z2 ⟨⟨b1, yb1, k1, f1⟩, -⟩
  go_wp2_with fail
  refine (H_c1.out _).mono ?_
  rintro e w3 ⟨rfl, hb3⟩
  have z4 := hb3.size
  try simp at z4
  clear k1 f1
  refine haveB w w3 (Bc w.heap.size #[.int .i64 A, .int .i64 R, .int .i64 n, .int .i64 d] 315 <| Bz) ?_
  clear b1 hW
  rintro hW z5 ⟨⟨b1, yb1, k1, f1⟩, -⟩
  clear hb3
  go_wp2_with fail
  refine (H_c2.out _).mono ?_
  rintro e w6 ⟨rfl, hb6⟩
  have z7 := hb6.size
  try simp at z7
  clear k1 f1
  refine haveB w w6 (Bc w.heap.size #[.int .i64 A, .int .i64 R, .int .i64 n, .int .i64 d] 315 <| Bz) ?_
  clear b1 hW
  rintro hW z8 ⟨⟨b1, yb1, k1, f1⟩, -⟩
  clear hb6
  go_upto_region 3 with (fail)
  clear k1 f1
  refine wp_cutB w (Bc w.heap.size #[.int .i64 A, .int .i64 R, .int .i64 n, .int .i64 d] 315 <| Bz) ?_
  clear b1 hW
  rintro W9 hW z10 hL
  refine wp_regS 7 29 hW hL ?_
  iterate 3 refine dA ?_
  refine gA ?_
  refine cG (fun hp hx W' hC => H_c3.out W') ?_
  refine gA ?_
  refine pO ?_
  clear hW hL
  rintro W11 hW z12 hL
  simp only [ndR]
  intros
  repeat (rename GDet _ _ _ _ => hgd; clear hgd)
  simp only [ndS]
  refine wpList_nil ?_
  obtain ⟨⟨b1, yb1, k1, f1⟩, -⟩ := hL
  go_wp2
  refine bodyPost_ret (by simp [results, Tryz.results229, go_sem, k1, f1, yb1]) rfl ⟨rfl, by exact belowAny⟩

set_option maxRecDepth 100000 in
set_option maxHeartbeats 1000000 in
theorem value_wide (A R n d t oh ol rest v : Int) (w : World)
    (c1 : ∀ w, Calls Tryz.prog 259 #[.agg #[.int .i64 A, .int .i64 R, .int .i64 n, .int .i64 d], .int .i64 t] w fun e w' => e = .returned (.tuple #[.agg #[.int .i64 oh, .int .u64 ol], .int .i64 rest]) ∧ Below w.heap.size w w')
    (c2 : ∀ w, Calls Tryz.prog 217 #[.agg #[.int .i64 oh, .int .u64 ol]] w fun e' w' => e' = .returned (.tuple #[.int .i64 v, .int .i64 5]) ∧ Below w.heap.size w w')
    (c3 : ∀ w, Calls Tryz.prog 218 #[.int .i64 v] w fun e w' => e = .returned (.bool true) ∧ Below w.heap.size w w') :
    Calls Tryz.prog 229 #[.agg #[.int .i64 A, .int .i64 R, .int .i64 n, .int .i64 d], .int .i64 t] w fun e w' => e = .returned (.tuple #[.int .i64 0, .int .i64 5]) ∧ Below w.heap.size w w' := by
  have H_c1 := Lib.hid c1
  clear c1
  have H_c2 := Lib.hid c2
  clear c2
  have H_c3 := Lib.hid c3
  clear c3
  go_enter Tryz.func229, Tryz.ntmps229
  go_upto_region 1 with (fail)
  refine wp_cutB w (Bc w.heap.size #[.int .i64 A, .int .i64 R, .int .i64 n, .int .i64 d] 315 <| Bz) ?_
  rintro W1 hW z2 ⟨⟨b1, yb1, k1, f1⟩, -⟩
  go_wp2_with fail
  refine (H_c1.out _).mono ?_
  rintro e w3 ⟨rfl, hb3⟩
  have z4 := hb3.size
  try simp at z4
  clear k1 f1
  refine haveB w w3 (Bc w.heap.size #[.int .i64 A, .int .i64 R, .int .i64 n, .int .i64 d] 315 <| Bz) ?_
  clear b1 hW
  rintro hW z5 ⟨⟨b1, yb1, k1, f1⟩, -⟩
  clear hb3
  go_wp2_with fail
  refine (H_c2.out _).mono ?_
  rintro e w6 ⟨rfl, hb6⟩
  have z7 := hb6.size
  try simp at z7
  clear k1 f1
  refine haveB w w6 (Bc w.heap.size #[.int .i64 A, .int .i64 R, .int .i64 n, .int .i64 d] 315 <| Bz) ?_
  clear b1 hW
  rintro hW z8 ⟨⟨b1, yb1, k1, f1⟩, -⟩
  clear hb6
  go_wp2
  refine bodyPost_ret (by simp [results, Tryz.results229, go_sem, k1, f1, yb1]) rfl ⟨rfl, by exact belowAny⟩


theorem back_in {o : Int} (h : isBack o = true) : I64 o := by unfold isBack at h; simp at h; unfold I64; omega
theorem lineVal_W128 {A R n d t : Int} (h : LineOk A R n d) (ht : 0 ≤ t) (ht' : t ≤ 281474976710656) : W128 (lineVal A R n d t) := by
  have hA0 := h.A0; have hA1 := h.A1; have hn0 := h.n0; have hn1 := h.n1; have hd0 := h.d0; have hd1 := h.d1; have hR0 := h.R0; have hR1 := h.R1
  have m0 : (n * t).natAbs ≤ 4611688217450643456 * 281474976710656 := by
    rw [Int.natAbs_mul]; exact Nat.mul_le_mul (by omega) (by omega)
  have := div_abs (n * t + R) hd0
  unfold lineVal
  exact ⟨by omega, by omega⟩

theorem c_value (A R n d t : Int) (w : World) (h : LineOk A R n d) (ht : 0 ≤ t) (ht' : t ≤ 281474976710656) :
    Calls Tryz.prog 229 #[.agg #[.int .i64 A, .int .i64 R, .int .i64 n, .int .i64 d], .int .i64 t] w fun e w' => e = .returned (.tuple #[.int .i64 (wv (isBack (lineVal A R n d t)) (lineVal A R n d t)), .int .i64 (we (isBack (lineVal A R n d t)))]) ∧ Below w.heap.size w w' := by
  have c1 := fun w => c_over A R n d t w h ht ht'
  have c2 := fun w => c_Int (lineVal A R n d t) w (lineVal_W128 h ht ht')
  have c3 := fun w => c_back (lineVal A R n d t) w
  cases hb : isBack (lineVal A R n d t) with
  | true =>
    rw [inI_in (back_in hb)] at c2
    rw [hb] at c3
    exact value_ok A R n d t _ _ _ _ w c1 c2 c3
  | false =>
    cases hi : inI (lineVal A R n d t) with
    | true =>
      rw [hi] at c2
      rw [hb] at c3
      exact value_over A R n d t _ _ _ _ w c1 c2 c3
    | false =>
      rw [hi] at c2
      exact value_wide A R n d t _ _ _ _ w c1 c2 (fun w => c_back 0 w)
end Go.Proofs.YtbanjolokkghdaaGreatDoor
namespace Go.Proofs.YtbanjolokkghdaaGreatDoor
open Go.RowKit
def isTime (t : Int) : Bool := decide (0 ≤ t) && decide (t ≤ 281474976710656)
theorem isTime_iff {t : Int} : isTime t = true ↔ 0 ≤ t ∧ t ≤ 281474976710656 := by unfold isTime; simp
set_option maxRecDepth 100000 in
set_option maxHeartbeats 1000000 in
theorem c_timeIs (t : Int) (w : World) : Calls Tryz.prog 228 #[.int .i64 t] w fun e w' => e = .returned (.bool (isTime t)) ∧ Below w.heap.size w w' := by
  unfold isTime
  go_enter Tryz.func228, Tryz.ntmps228
  go_upto_region 1 with (fail)
  refine wp_cutB w (Bz) ?_
  rintro W1 hW z2 hL
  refine wp_regS 7 9 hW hL ?_
  iterate 3 refine dA ?_
  iterate 2 refine gA ?_
  refine pA ?_
  refine dA ?_
  clear hW hL
  rintro W3 hW z4 hL
  simp only [ndR]
  intros
  repeat (rename GDet _ _ _ _ => hgd; clear hgd)
  simp only [ndS]
  refine wpList_nil ?_
  obtain ⟨-⟩ := hL
  go_wp2
  refine bodyPost_ret (by simp [results, Tryz.results228, go_sem]) rfl ⟨rfl, by exact belowAny⟩
def eLine (b : Bool) : Int := if b = true then 0 else 150
end Go.Proofs.YtbanjolokkghdaaGreatDoor
