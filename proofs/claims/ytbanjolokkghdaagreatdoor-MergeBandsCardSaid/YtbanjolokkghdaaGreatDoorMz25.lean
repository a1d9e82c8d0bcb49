/- Parts of the proof that follows: The laws of chapter 14: a segment, and some of a row of segments, in memory of their own. No condition but that they can be read. | Reference 25: Back: what is told at each kept time. No condition but that the segments may be. | Reference 24: a series' times, and how many it keeps. No condition but that the segments may be. | References 14, 24: which segments may be a row, and which series may be. No condition. | slices.Equal, of runs and of numbers; the segment's Same, and the document's. -/
import Derived.Test.YtbanjolokkghdaaGreatDoorMz24
set_option maxRecDepth 100000
set_option maxHeartbeats 8000000
set_option linter.unusedSimpArgs false
set_option linter.unusedVariables false
namespace Go.Proofs.YtbanjolokkghdaaGreatDoor
open Go.RowKit
def RunW (B n : Nat) (l : List RunT) : Spec := fun v w => OwnR w B 94 3 v n (flatCells l)
def IntW (B n : Nat) (l : List Int) : Spec := fun v w => OwnR w B 2 1 v n (l.map (Value.int .i64))
theorem RunW.closed (B n : Nat) (l : List RunT) : Closed [] (RunW B n l) := fun _ _ _ hr h => OwnR.rex h hr rfl
theorem IntW.closed (B n : Nat) (l : List Int) : Closed [] (IntW B n l) := fun _ _ _ hr h => OwnR.rex h hr rfl
theorem OwnR.setO {w : World} {B o j n s : Nat} {e : TypeId} {v u : Value} {xs : List Value} (h : OwnR w B e s v n xs) (ho : o < B) : OwnR (w.setCell ⟨o, j, none⟩ u) B e s v n xs := by
  refine ⟨h.own.1, ?_⟩
  rcases h.own.2 with h0 | ⟨g, cap, cur, rfl, hB, hg, h1, h2, h3, h4⟩
  · exact .inl h0
  · refine .inr ⟨g, cap, cur, rfl, hB, ?_, h1, h2, h3, h4⟩
    exact (Below.heap_setCell _ _ _ _ (by show g ≠ o; omega)).trans hg
theorem OwnR.grownX {w w' : World} {B B' n n' s s' : Nat} {e e' : TypeId} {v v' : Value} {xs xs' : List Value} {o : Obj} (h : OwnR w B e s v n xs) (ho : w.ownsRow B' e' s' v' n' xs') (hne : e ≠ e') (hg : (w.alloc o).grownBy w' v'.ownBlock) : OwnR w' B e s v n xs := by
  refine ⟨h.own.1, ?_⟩
  rcases h.own.2 with h0 | ⟨g, cap, cur, rfl, hB, hb, h1, h2, h3, h4⟩
  · exact .inl h0
  · exact .inr ⟨g, cap, cur, rfl, hB, Blk.grown (g := g) hb ho hne hg, h1, h2, h3, h4⟩
theorem arr_new {w : World} {g : Nat} {cs : Array Value} {t : TypeId} (hb : Blk w g cs t) {j : Nat} {u : Value} (hu : cs.toList[j]? = some u) : w.cell? ((⟨g, 0, none⟩ : Addr).add j) = some u := by
  have hadd : (⟨g, 0, none⟩ : Addr).add j = ⟨g, j, none⟩ := by unfold Addr.add; split <;> simp_all
  rw [hadd, hb.cell]
  simpa using hu
set_option maxRecDepth 100000 in
set_option maxHeartbeats 2000000 in
theorem cloneRunW_some (a : Addr) (cap : Nat) (l : List RunT) (w : World) (hl : l.length ≤ 300) (h : RunsIn w (some a) l) : Calls Tryz.prog 68 #[.slice (some a) l.length cap] w fun e w' => ∃ v, e = .returned v ∧ Below w.heap.size w w' ∧ RunW w.heap.size l.length l v w' := by
  have hnil : ∀ W, (binOp .eql 24 (.slice (some a) l.length cap) (.slice none 0 0)).run Tryz.prog W = .ok (.bool false) W := fun W => Lib.run_eql_slice_nil W 24 94 _ _ _ _ _ (by kernel_rfl)
  go_enter Tryz.func68, Tryz.ntmps68
  go_upto_region 3 with (fail)
  clear hnil
  have hmk : ∀ W, (Instr.buildSlice 24 0 #[]).run Tryz.prog W = .ok (.slice (some ⟨W.heap.size, 0, none⟩) 0 0) (W.alloc (.cells #[] 94)) := fun W => by kernel_rfl
  obtain ⟨i, hi, hz0, hz1, hz2⟩ := info_parts Tryz.infoRun
  have hW : Below w.heap.size w (w.alloc (.cells #[] 94)) := belowAny
  have hown0 := World.ownsRow_made (e := 94) (size := 3) (base := w.heap.size) w #[] 0 (Nat.le_refl _) (by simp [maxLen]) (by simp)
  go_wp2_with (at_builtin; refine wpList_append_own _ rfl (.tmp 5) (.tmp 6) 24 rfl w.heap.size 94 i _ 3 24 (by kernel_rfl) hi hz0 hz1 hz2 rfl (by omega) _ 0 [] rfl hown0 a l.length cap (flatCells l) rfl (by rw [length_flatCells]) ((h.below hW).flat) (fun v hv => by obtain ⟨x, rfl⟩ := flat_mem l v hv; rfl) (by simp [maxLen]; omega) (by omega) (by simp) ?_)
  intro v' w' hown hgr _
  have hB := Lib.hid (clone_below hgr)
  replace hown := Lib.hid hown
  clear hgr
  go_wp2
  go_ret
  exact ⟨_, rfl, hB.out, ⟨by simpa using hown.out⟩⟩
set_option maxRecDepth 100000 in
set_option maxHeartbeats 2000000 in
theorem cloneIntW_some (a : Addr) (cap : Nat) (l : List Int) (w : World) (hl : l.length ≤ 300) (h : IntsIn w (some a) l) : Calls Tryz.prog 69 #[.slice (some a) l.length cap] w fun e w' => ∃ v, e = .returned v ∧ Below w.heap.size w w' ∧ IntW w.heap.size l.length l v w' := by
  have hnil : ∀ W, (binOp .eql 27 (.slice (some a) l.length cap) (.slice none 0 0)).run Tryz.prog W = .ok (.bool false) W := fun W => Lib.run_eql_slice_nil W 27 2 _ _ _ _ _ (by kernel_rfl)
  go_enter Tryz.func69, Tryz.ntmps69
  go_upto_region 3 with (fail)
  clear hnil
  have hmk : ∀ W, (Instr.buildSlice 27 0 #[]).run Tryz.prog W = .ok (.slice (some ⟨W.heap.size, 0, none⟩) 0 0) (W.alloc (.cells #[] 2)) := fun W => by kernel_rfl
  obtain ⟨i, hi, hz0, hz1, hz2⟩ := info_parts Tryz.infoInt
  have hW : Below w.heap.size w (w.alloc (.cells #[] 2)) := belowAny
  have hown0 := World.ownsRow_made (e := 2) (size := 1) (base := w.heap.size) w #[] 0 (Nat.le_refl _) (by simp [maxLen]) (by simp)
  go_wp2_with (at_builtin; refine wpList_append_own _ rfl (.tmp 5) (.tmp 6) 27 rfl w.heap.size 2 i _ 1 8 (by kernel_rfl) hi hz0 hz1 hz2 rfl (by omega) _ 0 [] rfl hown0 a l.length cap (l.map (Value.int .i64)) rfl (by simp) (fun j u hu => ints_flat (h.below hW) j u hu) (fun v hv => by simp only [List.mem_map] at hv; obtain ⟨x, _, rfl⟩ := hv; rfl) (by simp [maxLen]; omega) (by omega) (by simp) ?_)
  intro v' w' hown hgr _
  have hB := Lib.hid (clone_below hgr)
  replace hown := Lib.hid hown
  clear hgr
  go_wp2
  go_ret
  exact ⟨_, rfl, hB.out, ⟨by simpa using hown.out⟩⟩
set_option maxRecDepth 100000 in
set_option maxHeartbeats 2000000 in
theorem cloneRunW_nil (w : World) : Calls Tryz.prog 68 #[.slice none 0 0] w fun e w' => e = .returned (.slice none 0 0) ∧ Below w.heap.size w w' := by
  go_enter Tryz.func68, Tryz.ntmps68
  have hnil : ∀ W, (binOp .eql 24 (.slice none 0 0) (.slice none 0 0)).run Tryz.prog W = .ok (.bool true) W := fun W => by kernel_rfl
  go_wp2
  go_ret
  exact ⟨rfl, belowAny⟩
set_option maxRecDepth 100000 in
set_option maxHeartbeats 2000000 in
theorem cloneIntW_nil (w : World) : Calls Tryz.prog 69 #[.slice none 0 0] w fun e w' => e = .returned (.slice none 0 0) ∧ Below w.heap.size w w' := by
  go_enter Tryz.func69, Tryz.ntmps69
  have hnil : ∀ W, (binOp .eql 27 (.slice none 0 0) (.slice none 0 0)).run Tryz.prog W = .ok (.bool true) W := fun W => by kernel_rfl
  go_wp2
  go_ret
  exact ⟨rfl, belowAny⟩
theorem c_CloneRunW (p : Option Addr) (cap : Nat) (l : List RunT) (w : World) (B : Nat) (hB : B ≤ w.heap.size) (hl : l.length ≤ 300) (h : RunsIn w p l) (hn : p = none → l = [] ∧ cap = 0) :
    Calls Tryz.prog 68 #[.slice p l.length cap] w fun e w' => ∃ v, e = .returned v ∧ Below w.heap.size w w' ∧ RunW B l.length l v w' := by
  cases p with
  | none =>
    obtain ⟨rfl, rfl⟩ := hn rfl
    exact (cloneRunW_nil w).mono fun e w' ⟨h1, h2⟩ => ⟨_, h1, h2, OwnR.nil _ _ _ _⟩
  | some a => exact (cloneRunW_some a cap l w hl h).mono fun e w' ⟨v, h1, h2, h3⟩ => ⟨v, h1, h2, OwnR.mono h3 hB⟩
theorem c_CloneIntW (p : Option Addr) (cap : Nat) (l : List Int) (w : World) (B : Nat) (hB : B ≤ w.heap.size) (hl : l.length ≤ 300) (h : IntsIn w p l) (hn : p = none → l = [] ∧ cap = 0) :
    Calls Tryz.prog 69 #[.slice p l.length cap] w fun e w' => ∃ v, e = .returned v ∧ Below w.heap.size w w' ∧ IntW B l.length l v w' := by
  cases p with
  | none =>
    obtain ⟨rfl, rfl⟩ := hn rfl
    exact (cloneIntW_nil w).mono fun e w' ⟨h1, h2⟩ => ⟨_, h1, h2, OwnR.nil _ _ _ _⟩
  | some a => exact (cloneIntW_some a cap l w hl h).mono fun e w' ⟨v, h1, h2, h3⟩ => ⟨v, h1, h2, OwnR.mono h3 hB⟩
set_option maxRecDepth 100000 in
set_option maxHeartbeats 2000000 in
theorem own14_w (s : SegT) (p q : Option Addr) (cap vc : Nat) (w : World) (M K : Nat) (h : Came w s p q cap vc) (hM : (s.runs.take 257).length = M) (hK : (s.raw.take 257).length = K) :
    Calls Tryz.prog 41 #[.agg #[.int .i64 s.K, .slice p s.runs.length cap, .int .i64 s.A, .int .i64 s.R, .int .i64 s.n, .int .i64 s.d, .slice q s.raw.length vc, .int .i64 s.E]] w fun e w' => ∃ p1 c1 q1 c2, e = .returned (.agg #[.int .i64 s.K, .slice p1 M c1, .int .i64 s.A, .int .i64 s.R, .int .i64 s.n, .int .i64 s.d, .slice q1 K c2, .int .i64 s.E]) ∧ Below w.heap.size w w' ∧ RunW w.heap.size M (s.runs.take 257) (.slice p1 M c1) w' ∧ IntW w.heap.size K (s.raw.take 257) (.slice q1 K c2) w' := by
  have lM := hM
  have lK := hK
  rw [List.length_take] at lM lK
  have EM := Lib.hid (show (if (257 : Int) < (s.runs.length : Int) then (257 : Int) else s.runs.length) = (M : Int) by split <;> omega)
  have EK := Lib.hid (show (if (257 : Int) < (s.raw.length : Int) then (257 : Int) else s.raw.length) = (K : Int) by split <;> omega)
  have hcR := h.capR
  have hcV := h.capV
  have hMc : (M : Int) ≤ cap := by omega
  have hM0 : (0 : Int) ≤ M := by omega
  have hKc : (K : Int) ≤ vc := by omega
  have hK0 : (0 : Int) ≤ K := by omega
  have cR := Lib.hid (fun W B (hW : Below w.heap.size w W) (hB : B ≤ W.heap.size) => (show Calls Tryz.prog 68 #[.slice p M cap] W fun e w' => ∃ v, e = .returned v ∧ Below W.heap.size W w' ∧ RunW B M (s.runs.take 257) v w' from by
    have t := c_CloneRunW p cap (s.runs.take 257) W B hB (by omega) ((h.runs.below hW).take 257) (fun e => ⟨by rw [(h.nilR e).1]; rfl, (h.nilR e).2⟩)
    rw [hM] at t
    exact t))
  have cI := Lib.hid (fun W B (hW : Below w.heap.size w W) (hB : B ≤ W.heap.size) => (show Calls Tryz.prog 69 #[.slice q K vc] W fun e w' => ∃ v, e = .returned v ∧ Below W.heap.size W w' ∧ IntW B K (s.raw.take 257) v w' from by
    have t := c_CloneIntW q vc (s.raw.take 257) W B hB (by omega) ((h.raw.below hW).take 257) (fun e => ⟨by rw [(h.nilV e).1]; rfl, (h.nilV e).2⟩)
    rw [hK] at t
    exact t))
  clear lM lK hM hK hcR hcV h
  go_enter Tryz.func41, Tryz.ntmps41
  go_upto_region 1 with (fail)
  refine wp_cutB w (Bc w.heap.size #[.int .i64 s.K, .slice p s.runs.length cap, .int .i64 s.A, .int .i64 s.R, .int .i64 s.n, .int .i64 s.d, .slice q s.raw.length vc, .int .i64 s.E] 29 <| Bc (w.heap.size + 1) #[.int .i64 0, .slice none 0 0, .int .i64 0, .int .i64 0, .int .i64 0, .int .i64 0, .slice none 0 0, .int .i64 0] 29 <| Bz) ?_
  rintro W1 hW z2 ⟨⟨b1, yb1, k1, f1⟩, ⟨b2, yb2, k2, f2⟩, -⟩
  go_upto_region 1 with (fail)
  clear k1 f1 k2 f2
  refine wp_cutB w (Bc w.heap.size #[.int .i64 s.K, .slice p s.runs.length cap, .int .i64 s.A, .int .i64 s.R, .int .i64 s.n, .int .i64 s.d, .slice q s.raw.length vc, .int .i64 s.E] 29 <| Bc (w.heap.size + 1) #[.int .i64 0, .slice none 0 0, .int .i64 0, .int .i64 0, .int .i64 0, .int .i64 0, .slice none 0 0, .int .i64 0] 29 <| Bz) ?_
  clear b1 b2 hW
  rintro W3 hW z4 hL
  obtain ⟨⟨b1, yb1, k1, f1⟩, ⟨b2, yb2, k2, f2⟩, -⟩ := id hL
  clear k1 f1 k2 f2
  refine wp_regD 17 22 hW hL ?_
  iterate 5 refine dA ?_
  apply nd_det (.int .i64 ((M : Nat) : Int)) (hg := rfl) (hal := rfl)
  · intro a' W' hC hE
    simp [Oper.looksAt, Op.operands, Call.operands, envOf, Det] at hE
    simp [go_sem, Act.eval, hE, EM.out]
  apply nd_det (.slice p M cap) (hg := rfl) (hal := rfl)
  · intro a' W' hC hE
    simp [Oper.looksAt, Op.operands, Call.operands, envOf, Det] at hE
    simp [go_sem, Act.eval, hE, hMc, hM0, add_zero_map]
  apply nd_call (RunW W3.heap.size M (s.runs.take 257)) (hg := rfl) (hal := rfl)
  · exact RunW.closed _ _ _
  · intro a' W' hC hE
    simp [Oper.looksAt, Op.operands, Call.operands, envOf, Det] at hE
    refine ⟨_, _, ?_, (cR.out W' W3.heap.size (hW.trans (hC.1.of_priv hW.size)) hC.1.size).mono ?_⟩
    · simp [go_sem, Act.eval, hE]
      try rfl
    · rintro e w' ⟨v, rfl, hB, hv⟩
      exact ⟨v, rfl, hB, hv⟩
  iterate 5 refine dA ?_
  apply nd_det (.int .i64 ((K : Nat) : Int)) (hg := rfl) (hal := rfl)
  · intro a' W' hC hE
    simp [Oper.looksAt, Op.operands, Call.operands, envOf, Det] at hE
    simp [go_sem, Act.eval, hE, EK.out]
  apply nd_det (.slice q K vc) (hg := rfl) (hal := rfl)
  · intro a' W' hC hE
    simp [Oper.looksAt, Op.operands, Call.operands, envOf, Det] at hE
    simp [go_sem, Act.eval, hE, hKc, hK0, add_zero_map]
  apply nd_call (IntW W3.heap.size K (s.raw.take 257)) (hg := rfl) (hal := rfl)
  · exact IntW.closed _ _ _
  · intro a' W' hC hE
    simp [Oper.looksAt, Op.operands, Call.operands, envOf, Det] at hE
    refine ⟨_, _, ?_, (cI.out W' W3.heap.size (hW.trans (hC.1.of_priv hW.size)) hC.1.size).mono ?_⟩
    · simp [go_sem, Act.eval, hE]
      try rfl
    · rintro e w' ⟨v, rfl, hB, hv⟩
      exact ⟨v, rfl, hB, hv⟩
  refine dA ?_
  clear hW hL b1 b2
  rintro W5 hW z6 hL
  simp only [ndR]
  intros
  simp only [ndS]
  obtain ⟨⟨b1, yb1, k1, f1⟩, ⟨b2, yb2, k2, f2⟩, -⟩ := hL
  have z7 := hW.size
  rename RunW _ _ _ _ _ => hr
  rename IntW _ _ _ _ _ => hv
  obtain ⟨p1, c1, rfl, -, -, -, -⟩ := OwnR.form hr
  obtain ⟨q1, c2, rfl, -, -, -, -⟩ := OwnR.form hv
  go_upto_region 2 with (fail)
  clear k1 f1 k2 f2
  refine wp_cutB w (Bc w.heap.size #[.int .i64 s.K, .slice p1 M c1, .int .i64 s.A, .int .i64 s.R, .int .i64 s.n, .int .i64 s.d, .slice q1 K c2, .int .i64 s.E] 29 <| Bc (w.heap.size + 1) #[.int .i64 0, .slice none 0 0, .int .i64 0, .int .i64 0, .int .i64 0, .int .i64 0, .slice none 0 0, .int .i64 0] 29 <| Rc (fun W' => RunW (w.heap.size + 1 + 1) M (s.runs.take 257) (.slice p1 M c1) W') <| Rc (fun W' => IntW (w.heap.size + 1 + 1) K (s.raw.take 257) (.slice q1 K c2) W') <| Bz) ?_ (hI := by exact belowAny) (hR := (Bc.mk (by exact blkAny2) <| Bc.mk (by exact blkAny2) <| Rc.mk (by exact OwnR.setO (OwnR.setO (OwnR.mono hr (by omega)) (by omega)) (by omega)) <| Rc.mk (by exact OwnR.setO (OwnR.setO (OwnR.mono hv (by omega)) (by omega)) (by omega)) <| trivial))
  clear b1 b2 hW
  rintro W8 hW z9 ⟨⟨b1, yb1, k1, f1⟩, ⟨b2, yb2, k2, f2⟩, b3, b4, -⟩
  have hr := b3
  have hv := b4
  clear b3 b4
  go_wp2
  have d2 : Blk ((((((((W8.setCell ⟨w.heap.size + 1, 0, none⟩ (.int .i64 s.K)).setCell ⟨w.heap.size + 1, 1, none⟩ (.slice p1 M c1)).setCell ⟨w.heap.size + 1, 2, none⟩ (.int .i64 s.A)).setCell ⟨w.heap.size + 1, 3, none⟩ (.int .i64 s.R)).setCell ⟨w.heap.size + 1, 4, none⟩ (.int .i64 s.n)).setCell ⟨w.heap.size + 1, 5, none⟩ (.int .i64 s.d)).setCell ⟨w.heap.size + 1, 6, none⟩ (.slice q1 K c2)).setCell ⟨w.heap.size + 1, 7, none⟩ (.int .i64 s.E)) (w.heap.size + 1) #[.int .i64 s.K, .slice p1 M c1, .int .i64 s.A, .int .i64 s.R, .int .i64 s.n, .int .i64 s.d, .slice q1 K c2, .int .i64 s.E] 29 := blkAny2
  have hB9 : Below w.heap.size w ((((((((W8.setCell ⟨w.heap.size + 1, 0, none⟩ (.int .i64 s.K)).setCell ⟨w.heap.size + 1, 1, none⟩ (.slice p1 M c1)).setCell ⟨w.heap.size + 1, 2, none⟩ (.int .i64 s.A)).setCell ⟨w.heap.size + 1, 3, none⟩ (.int .i64 s.R)).setCell ⟨w.heap.size + 1, 4, none⟩ (.int .i64 s.n)).setCell ⟨w.heap.size + 1, 5, none⟩ (.int .i64 s.d)).setCell ⟨w.heap.size + 1, 6, none⟩ (.slice q1 K c2)).setCell ⟨w.heap.size + 1, 7, none⟩ (.int .i64 s.E)) := belowAny
  have hr9 : RunW (w.heap.size + 1 + 1) M (s.runs.take 257) (.slice p1 M c1) ((((((((W8.setCell ⟨w.heap.size + 1, 0, none⟩ (.int .i64 s.K)).setCell ⟨w.heap.size + 1, 1, none⟩ (.slice p1 M c1)).setCell ⟨w.heap.size + 1, 2, none⟩ (.int .i64 s.A)).setCell ⟨w.heap.size + 1, 3, none⟩ (.int .i64 s.R)).setCell ⟨w.heap.size + 1, 4, none⟩ (.int .i64 s.n)).setCell ⟨w.heap.size + 1, 5, none⟩ (.int .i64 s.d)).setCell ⟨w.heap.size + 1, 6, none⟩ (.slice q1 K c2)).setCell ⟨w.heap.size + 1, 7, none⟩ (.int .i64 s.E)) := (OwnR.setO (OwnR.setO (OwnR.setO (OwnR.setO (OwnR.setO (OwnR.setO (OwnR.setO (OwnR.setO hr (by omega)) (by omega)) (by omega)) (by omega)) (by omega)) (by omega)) (by omega)) (by omega))
  have hv9 : IntW (w.heap.size + 1 + 1) K (s.raw.take 257) (.slice q1 K c2) ((((((((W8.setCell ⟨w.heap.size + 1, 0, none⟩ (.int .i64 s.K)).setCell ⟨w.heap.size + 1, 1, none⟩ (.slice p1 M c1)).setCell ⟨w.heap.size + 1, 2, none⟩ (.int .i64 s.A)).setCell ⟨w.heap.size + 1, 3, none⟩ (.int .i64 s.R)).setCell ⟨w.heap.size + 1, 4, none⟩ (.int .i64 s.n)).setCell ⟨w.heap.size + 1, 5, none⟩ (.int .i64 s.d)).setCell ⟨w.heap.size + 1, 6, none⟩ (.slice q1 K c2)).setCell ⟨w.heap.size + 1, 7, none⟩ (.int .i64 s.E)) := (OwnR.setO (OwnR.setO (OwnR.setO (OwnR.setO (OwnR.setO (OwnR.setO (OwnR.setO (OwnR.setO hv (by omega)) (by omega)) (by omega)) (by omega)) (by omega)) (by omega)) (by omega)) (by omega))
  obtain ⟨W9, hW9⟩ : ∃ W9, W9 = ((((((((W8.setCell ⟨w.heap.size + 1, 0, none⟩ (.int .i64 s.K)).setCell ⟨w.heap.size + 1, 1, none⟩ (.slice p1 M c1)).setCell ⟨w.heap.size + 1, 2, none⟩ (.int .i64 s.A)).setCell ⟨w.heap.size + 1, 3, none⟩ (.int .i64 s.R)).setCell ⟨w.heap.size + 1, 4, none⟩ (.int .i64 s.n)).setCell ⟨w.heap.size + 1, 5, none⟩ (.int .i64 s.d)).setCell ⟨w.heap.size + 1, 6, none⟩ (.slice q1 K c2)).setCell ⟨w.heap.size + 1, 7, none⟩ (.int .i64 s.E)) := ⟨_, rfl⟩
  rw [← hW9] at d2 hB9 hr9 hv9 ⊢
  clear hW9 b1 b2 hr hv k1 f1 k2 f2
  have k2 := d2.cell
  have f2 := d2.frozen
  have y_2 := d2.lt
  refine bodyPost_ret (v := .agg #[.int .i64 s.K, .slice p1 M c1, .int .i64 s.A, .int .i64 s.R, .int .i64 s.n, .int .i64 s.d, .slice q1 K c2, .int .i64 s.E]) (by simp [results, Tryz.results41, go_sem, k2, f2, y_2]) rfl ⟨p1, c1, q1, c2, rfl, hB9, OwnR.mono hr9 (by omega), OwnR.mono hv9 (by omega)⟩
/-- A segment whose rows lie in blocks from B on. -/
structure SegRow (w : World) (B : Nat) (x : SegR) : Prop where
  runs : OwnR w B 94 3 (.slice x.p x.s.runs.length x.cap) x.s.runs.length (flatCells x.s.runs)
  raw : OwnR w B 2 1 (.slice x.q x.s.raw.length x.vc) x.s.raw.length (x.s.raw.map (Value.int .i64))
  fewR : x.s.runs.length ≤ 300
  fewV : x.s.raw.length ≤ 300
theorem SegRow.below {w w' : World} {B : Nat} {x : SegR} (h : SegRow w B x) (hb : Below w.heap.size w w') : SegRow w' B x := ⟨h.runs.below hb, h.raw.below hb, h.fewR, h.fewV⟩
structure SegRows (w : World) (B : Nat) (l : List SegR) : Prop where
  at' : ∀ x, x ∈ l → SegRow w B x
theorem SegRows.below {w w' : World} {B : Nat} {l : List SegR} (h : SegRows w B l) (hb : Below w.heap.size w w') : SegRows w' B l := ⟨fun x hx => (h.at' x hx).below hb⟩
theorem flatSegs_snoc (l : List SegR) (x : SegR) : flatSegs (l ++ [x]) = flatSegs l ++ (segRA x).toList := by
  unfold flatSegs
  rw [List.flatMap_append]
  simp
theorem few_rows {w w' : World} {B n s : Nat} {RL : List SegR} {x : SegR} {v : Value} {xs : List Value} {o : Obj} (ho : w.ownsRow B 29 s v n xs) (h : SegRows w B RL) (hx : SegRow w B x) (hg : (w.alloc o).grownBy w' v.ownBlock) : SegRows w' B (RL ++ [x]) := ⟨fun y hy => by
  have k : ∀ {y : SegR}, SegRow w B y → SegRow w' B y := fun h => ⟨h.runs.grownX ho (by decide) hg, h.raw.grownX ho (by decide) hg, h.fewR, h.fewV⟩
  rcases List.mem_append.1 hy with h1 | h1
  · exact k (h.at' y h1)
  · rw [List.mem_singleton.1 h1]; exact k hx⟩
theorem few_take {rows : List SegR} {RL : List SegR} {i : Nat} {r0 : SegR} {p1 q1 : Option Addr} {c1 c2 : Nat} (h : RL.map (·.s) = (rows.take (min i 12)).map fun r => ownK r.s) (hr : rows[i]? = some r0) (hi : i ≤ 11) :
    (RL ++ [(⟨ownK r0.s, p1, q1, c1, c2⟩ : SegR)]).map (·.s) = (rows.take (min (i + 1) 12)).map fun r => ownK r.s := by
  rw [List.map_append, h, show min i 12 = i by omega, show min (i + 1) 12 = i + 1 by omega, List.take_add_one, hr, List.map_append]
  rfl
theorem few_more {rows : List SegR} {RL : List SegR} {i : Nat} (h : RL.map (·.s) = (rows.take (min i 12)).map fun r => ownK r.s) (hi : ¬ i ≤ 11) : RL.map (·.s) = (rows.take (min (i + 1) 12)).map fun r => ownK r.s := by
  rw [h, show min i 12 = 12 by omega, show min (i + 1) 12 = 12 by omega]
theorem few_all {rows : List SegR} {RL : List SegR} {i : Nat} (h : RL.map (·.s) = (rows.take (min i 12)).map fun r => ownK r.s) (hi : rows.length ≤ i) : RL.map (·.s) = (rows.take 12).map fun r => ownK r.s := by
  rw [h]
  rcases Nat.le_total i 12 with h1 | h1
  · rw [show min i 12 = i by omega, List.take_of_length_le (by omega), List.take_of_length_le (by omega)]
  · rw [show min i 12 = 12 by omega]
theorem OwnR.segsF {W : World} {B n : Nat} {e : TypeId} {p : Option Addr} {cap : Nat} {RL : List SegR} (h : OwnR W B e 8 (.slice p n cap) n (flatSegs RL)) (hP : SegRows W B RL) : SegsIn W p (RL.map (·.s)) := by
  rcases h.own.2 with ⟨h1, h0⟩ | ⟨g, cap', cur, h1, hg, hb, hn, hmx, _, ht⟩
  · have h2 := h.own.1
    rw [flatSegs_len, h0] at h2
    have : RL = [] := List.length_eq_zero_iff.1 (by omega)
    subst this
    exact ⟨fun i r hr => by simp at hr⟩
  · injection h1 with h2 _ _
    subst h2
    refine ⟨fun i r hr => ?_⟩
    rw [List.getElem?_map] at hr
    obtain ⟨x, hx, rfl⟩ := Option.map_eq_some_iff.1 hr
    have hm := hP.at' x (List.mem_of_getElem? hx)
    obtain ⟨_, _, ev, hcv, _, _, _⟩ := hm.raw.form
    injection ev with _ _ ev
    refine ⟨g, 0, x.p, x.q, x.cap, x.vc, rfl, fun j v hv => ?_, ⟨hm.runs.runs, hm.raw.ints, hm.fewR, hm.fewV⟩, by omega⟩
    have h3 : (flatSegs RL)[i * 8 + j]? = some v := flat_to _ 8 segRA_len RL i x j v hx (by simpa [segRA] using hv)
    rw [cell_of_row W g _ cur e (0, 0) hb, Nat.zero_add]
    exact row_take ht h3
def fewRel (w : World) (p : Option Addr) (cap : Nat) (rows : List SegR) (a' : Act) (W : World) : Prop :=
  Below w.heap.size w W ∧ ∃ (i : Nat) (v : Value) (RL : List SegR), (∃ u : Nat → Value, a' = { tmps := #[.slice p rows.length cap, u 1, .slice none 0 0, v, u 4, u 5, .slice p rows.length cap, .int .i64 (rows.length : Int), .int .i64 (i : Int), u 9, u 10, u 11, u 12, u 13, u 14, u 15, u 16, u 17, u 18, u 19, u 20, u 21], defers := [] }) ∧ OwnR W w.heap.size 29 8 v RL.length (flatSegs RL) ∧ SegRows W w.heap.size RL ∧ RL.map (·.s) = ((rows.take (min i 12)).map fun r => ownK r.s) ∧ i ≤ rows.length
set_option maxRecDepth 100000 in
set_option maxHeartbeats 2000000 in
theorem c_few14 (p : Option Addr) (cap : Nat) (rows : List SegR) (w : World) (h : SegsCame w p rows) (hmx : rows.length ≤ 9223372036854775807) :
    Calls Tryz.prog 11 #[.slice p rows.length cap] w fun e w' => ∃ p' c', e = .returned (.slice p' ((rows.take 12).map fun r => ownK r.s).length c') ∧ Below w.heap.size w w' ∧ SegsIn w' p' ((rows.take 12).map fun r => ownK r.s) := by
  obtain ⟨i0, hi, hz0, hz1, hz2⟩ := info_parts Tryz.infoSeg
  go_enter Tryz.func11, Tryz.ntmps11
  go_wp2
  refine wp_loop (fewRel w p cap rows) (fun a' _ => rows.length - (intAt (a'.tmps.getD 8 undef)).toNat) ?_ ?_
  · unfold fewRel
    exact ⟨Below.refl _ _, 0, _, [], frame_ex rfl, OwnR.nil _ _ _ _, ⟨fun x hx => by cases hx⟩, by simp, Nat.zero_le _⟩
  rintro a' W ⟨hW, i, v, RL, ⟨u, rfl⟩, hown, hrows, hRL, hi'⟩
  have hz := hW.size
  have hlR : RL.length ≤ 12 := by
    have e := congrArg List.length hRL
    rw [List.length_map, List.length_map, List.length_take] at e
    omega
  rcases Nat.lt_or_ge i rows.length with hlt | hge
  · obtain ⟨r0, tr⟩ : ∃ x, rows[i]? = some x := ⟨rows[i]'(by omega), List.getElem?_eq_getElem (by omega)⟩
    obtain ⟨b, o, rfl, hcs, hcm⟩ := (h.below hW) i _ tr
    have q0 : W.cell? ⟨b, o + i * 8, none⟩ = some (.int .i64 r0.s.K) := hcs 0 _ rfl
    have q1' : W.cell? ⟨b, o + i * 8 + 1, none⟩ = some (.slice r0.p r0.s.runs.length r0.cap) := hcs 1 _ rfl
    have q2 : W.cell? ⟨b, o + i * 8 + 2, none⟩ = some (.int .i64 r0.s.A) := hcs 2 _ rfl
    have q3 : W.cell? ⟨b, o + i * 8 + 3, none⟩ = some (.int .i64 r0.s.R) := hcs 3 _ rfl
    have q4 : W.cell? ⟨b, o + i * 8 + 4, none⟩ = some (.int .i64 r0.s.n) := hcs 4 _ rfl
    have q5 : W.cell? ⟨b, o + i * 8 + 5, none⟩ = some (.int .i64 r0.s.d) := hcs 5 _ rfl
    have q6 : W.cell? ⟨b, o + i * 8 + 6, none⟩ = some (.slice r0.q r0.s.raw.length r0.vc) := hcs 6 _ rfl
    have q7 : W.cell? ⟨b, o + i * 8 + 7, none⟩ = some (.int .i64 r0.s.E) := hcs 7 _ rfl
    have zq := cell_lt q0
    try simp only at zq
    clear hcs
    replace tr := Lib.hid tr
    by_cases h9 : i ≤ 11
    · obtain ⟨M, hM⟩ : ∃ M, (r0.s.runs.take 257).length = M := ⟨_, rfl⟩
      obtain ⟨K, hK⟩ : ∃ K, (r0.s.raw.take 257).length = K := ⟨_, rfl⟩
      have c1 := Lib.hid (fun W' (hW' : Below W.heap.size W W') => own14_w r0.s r0.p r0.q r0.cap r0.vc W' M K (hcm.below hW') hM hK)
      replace hM := Lib.hid hM
      replace hK := Lib.hid hK
      clear hcm
      replace hown := Lib.hid hown
      replace hrows := Lib.hid hrows
      replace hRL := Lib.hid hRL
      go_wp2_with fail
      refine (c1.out _ (by exact belowAny)).mono ?_
      rintro e w9 ⟨p1, c1', q1, c2', rfl, hB9, hr1, hv1⟩
      have hA : Below W.heap.size W (W.alloc (.cells #[.int .i64 r0.s.K, .slice r0.p r0.s.runs.length r0.cap, .int .i64 r0.s.A, .int .i64 r0.s.R, .int .i64 r0.s.n, .int .i64 r0.s.d, .slice r0.q r0.s.raw.length r0.vc, .int .i64 r0.s.E] 29)) := belowAny
      have zA : w.heap.size ≤ (W.alloc (.cells #[.int .i64 r0.s.K, .slice r0.p r0.s.runs.length r0.cap, .int .i64 r0.s.A, .int .i64 r0.s.R, .int .i64 r0.s.n, .int .i64 r0.s.d, .slice r0.q r0.s.raw.length r0.vc, .int .i64 r0.s.E] 29)).heap.size := Nat.le_trans hW.size hA.size
      have hWb := hA.trans (hB9.mono hA.size)
      have hO := hown.out.below hWb
      have hR9 := hrows.out.below hWb
      have hX9 : SegRow w9 w.heap.size ⟨ownK r0.s, p1, q1, c1', c2'⟩ := ⟨by show OwnR w9 w.heap.size _ 3 (.slice p1 (r0.s.runs.take 257).length c1') (r0.s.runs.take 257).length _; rw [hM.out]; exact OwnR.mono hr1 zA, by show OwnR w9 w.heap.size _ 1 (.slice q1 (r0.s.raw.take 257).length c2') (r0.s.raw.take 257).length _; rw [hK.out]; exact OwnR.mono hv1 zA, by show (r0.s.runs.take 257).length ≤ 300; rw [List.length_take]; omega, by show (r0.s.raw.take 257).length ≤ 300; rw [List.length_take]; omega⟩
      have hV := hW.trans (hWb.mono hW.size)
      have zz := hV.size
      clear hown hrows hA zA hWb hB9 hW q0 q1' q2 q3 q4 q5 q6 q7 hr1 hv1
      replace hR9 := Lib.hid hR9
      replace hX9 := Lib.hid hX9
      go_wp2_with (at_builtin; refine wpList_append_own _ rfl (.tmp 15) (.tmp 18) 22 rfl w.heap.size 29 i0 (.agg #[.int .i64 0, .slice none 0 0, .int .i64 0, .int .i64 0, .int .i64 0, .int .i64 0, .slice none 0 0, .int .i64 0]) 8 96 (by kernel_rfl) hi hz0 hz1 hz2 rfl (by decide) _ _ _ rfl (hO.own.alloc _) ⟨w9.heap.size, 0, none⟩ 1 1 (#[.int .i64 r0.s.K, .slice p1 M c1', .int .i64 r0.s.A, .int .i64 r0.s.R, .int .i64 r0.s.n, .int .i64 r0.s.d, .slice q1 K c2', .int .i64 r0.s.E] : Array Value).toList rfl rfl (fun j u hu => arr_new (by exact blkAny2) hu) (by simp [Value.oneCell']) (by simp [maxLen]; omega) (by omega) (by simp; omega) ?_)
      intro v' w8 hown2 hgr _
      have hB := Lib.hid (below_append hV zz hO.own hgr)
      have hS2 := Lib.hid (few_rows hO.own hR9.out hX9.out hgr)
      replace hown2 := Lib.hid hown2
      clear hgr hO hR9 hX9
      have hY := Lib.hid (show (segRA ⟨ownK r0.s, p1, q1, c1', c2'⟩).toList = (#[.int .i64 r0.s.K, .slice p1 M c1', .int .i64 r0.s.A, .int .i64 r0.s.R, .int .i64 r0.s.n, .int .i64 r0.s.d, .slice q1 K c2', .int .i64 r0.s.E] : Array Value).toList by unfold segRA segA ownK; simp only [hM.out, hK.out])
      go_wp2
      have ht := few_take hRL.out tr.out (p1 := p1) (q1 := q1) (c1 := c1') (c2 := c2') (by omega)
      rw [show (i : Int) + 1 = ((i + 1 : Nat) : Int) by omega]
      refine ⟨?_, by simp [intAt]; omega⟩
      unfold fewRel
      exact ⟨hB.out, i + 1, v', RL ++ [⟨ownK r0.s, p1, q1, c1', c2'⟩], frame_ex rfl, ⟨by rw [flatSegs_snoc, List.length_append, hY.out]; exact hown2.out⟩, hS2.out, ht, by omega⟩
    · clear hcm
      replace hown := Lib.hid hown
      replace hrows := Lib.hid hrows
      have hm := Lib.hid (few_more hRL (by omega : ¬ i ≤ 11))
      clear hRL
      have hA : Below w.heap.size w (W.alloc (.cells #[.int .i64 r0.s.K, .slice r0.p r0.s.runs.length r0.cap, .int .i64 r0.s.A, .int .i64 r0.s.R, .int .i64 r0.s.n, .int .i64 r0.s.d, .slice r0.q r0.s.raw.length r0.vc, .int .i64 r0.s.E] 29)) := belowAny
      have hA2 : Below W.heap.size W (W.alloc (.cells #[.int .i64 r0.s.K, .slice r0.p r0.s.runs.length r0.cap, .int .i64 r0.s.A, .int .i64 r0.s.R, .int .i64 r0.s.n, .int .i64 r0.s.d, .slice r0.q r0.s.raw.length r0.vc, .int .i64 r0.s.E] 29)) := belowAny
      have hw1 := Lib.hid (show wrap64 ((i : Int) + 1) = (i : Int) + 1 by rw [wrap64_eq]; omega)
      go_wp2
      rw [show (i : Int) + 1 = ((i + 1 : Nat) : Int) by omega]
      refine ⟨?_, by simp [intAt]; omega⟩
      unfold fewRel
      exact ⟨hA, i + 1, v, RL, frame_ex rfl, hown.out.below hA2, hrows.out.below hA2, hm.out, by omega⟩
  · have hlen : rows.length ≤ i := by omega
    have hall := few_all hRL hlen
    obtain ⟨vp, vc, rfl, -, -, -, -⟩ := hown.form
    have hl : ((rows.take 12).map fun r => ownK r.s).length = RL.length := by rw [← hall, List.length_map]
    have hS := hown.segsF hrows
    rw [hall] at hS
    replace hS := Lib.hid hS
    replace hl := Lib.hid hl
    clear hown hrows hRL hall
    go_wp2
    go_ret
    exact ⟨vp, vc, by rw [hl.out]; rfl, hW, hS.out⟩
theorem SerIn.rex {L : List Nat} {w w' : World} {s : SerT} {ps po : Option Addr} (h : SerIn w s ps po) (hr : Rex L w w') (hL : L = []) : SerIn w' s ps po := by subst hL; exact h.below hr.below
theorem SerIn.drew {w : World} {s : SerT} {ps po : Option Addr} (h : SerIn w s ps po) : SerIn w.drew s ps po :=
 ⟨⟨fun i r hr => by
  obtain ⟨b, o, p', q', cap, vc, e, h1, h2, h3⟩ := h.segs.at' i r hr
  exact ⟨b, o, p', q', cap, vc, e, h1, ⟨⟨h2.runs.at'⟩, ⟨h2.raw.at'⟩, h2.fewR, h2.fewV⟩, h3⟩⟩, h.opn.drew, h.fewS, h.fewO⟩
def bkT (x : Int × Int × Int) : RunT := ⟨x.1, x.2.1, x.2.2⟩

/-- Cells that lie in a row. -/
structure CellsP (w : World) (b o : Nat) (cs : Array Value) : Prop where
  at' : ∀ (j : Nat) (v : Value), cs[j]? = some v → w.cell? ⟨b, o + j, none⟩ = some v
theorem CellsP.below {w w' : World} {b o : Nat} {cs : Array Value} (h : CellsP w b o cs) (hb : Below w.heap.size w w') : CellsP w' b o cs := ⟨fun j v hv => by
  have h1 := h.at' j v hv
  exact ((bcell hb).1 b _ (cell_lt h1)).trans h1⟩
theorem CellsP.rex {L : List Nat} {w w' : World} {b o : Nat} {cs : Array Value} (h : CellsP w b o cs) (hr : Rex L w w') (hL : L = []) : CellsP w' b o cs := by subst hL; exact h.below hr.below
theorem CellsP.drew {w : World} {b o : Nat} {cs : Array Value} (h : CellsP w b o cs) : CellsP w.drew b o cs := ⟨h.at'⟩
def r14Rel (w : World) (p : Option Addr) (cap : Nat) (l : List SegT) (a' : Act) (W : World) : Prop :=
  Below w.heap.size w W ∧ ∃ i : Nat, (∃ u : Nat → Value, a' = { tmps := #[.slice p l.length cap, u 1, u 2, u 3, u 4, .slice p l.length cap, .int .i64 (l.length : Int), .int .i64 (i : Int), u 8, u 9, u 10, u 11, u 12, u 13, u 14, u 15, u 16, u 17, u 18, u 19, u 20, u 21, u 22, u 23, u 24, u 25, u 26, u 27, u 28, u 29], defers := [] }) ∧ rowB (-1) (l.take i) = true ∧ i ≤ l.length
theorem rowB_cut {b : Int} {l : List SegT} (i : Nat) (h : rowB b (l.take i) = false) : rowB b l = false := by
  have key : ∀ (m : List SegT) (b : Int) (r : List SegT), rowB b m = false → rowB b (m ++ r) = false := by
    intro m
    induction m with
    | nil => intro b r h; simp [rowB] at h
    | cons y m ih =>
      intro b r h
      simp only [List.cons_append, rowB] at h ⊢
      cases h1 : segB y with
      | false => rfl
      | true =>
        rw [h1, Bool.true_and] at h
        rw [Bool.true_and]
        cases h2 : decide (b < firstT y.runs) with
        | false => rfl
        | true => rw [h2, Bool.true_and] at h; rw [Bool.true_and]; exact ih _ r h
  have := key _ b (l.drop i) h
  rwa [List.take_append_drop] at this
set_option maxRecDepth 100000 in
set_option maxHeartbeats 2000000 in
theorem c_r14Right (l : List SegT) (p : Option Addr) (cap : Nat) (w : World) (h : SegsIn w p l) (hl : l.length ≤ 100) :
    Calls Tryz.prog 13 #[.slice p l.length cap] w fun e w' => e = .returned (.bool (rowB (-1) l)) ∧ Below w.heap.size w w' := by
  go_enter Tryz.func13, Tryz.ntmps13
  go_wp2
  refine wp_loop (r14Rel w p cap l) (fun a' _ => l.length - (intAt (a'.tmps.getD 7 undef)).toNat) ?_ ?_
  · unfold r14Rel
    exact ⟨Below.refl _ _, 0, frame_ex rfl, rfl, by omega⟩
  rintro a' W ⟨hW0, i, ⟨u, rfl⟩, hrow, hi⟩
  have hz := hW0.size
  rcases Nat.lt_or_ge i l.length with hlt | hge
  · obtain ⟨x, tr⟩ : ∃ r, l[i]? = some r := ⟨l[i]'(by omega), List.getElem?_eq_getElem (by omega)⟩
    obtain ⟨b, o, p', q', cps, vc, rfl, hs, hvc, q0, q1, q2, q3, q4, q5, q6, q7⟩ := (h.below hW0).one tr
    have e1 : l.take (i + 1) = l.take i ++ [x] := by rw [List.take_add_one, tr]; rfl
    have hst : rowB (-1) (l.take (i + 1)) = (segB x && decide (((l.take i).getLast?.map fun y => lastT y.runs).getD (-1) < firstT x.runs)) := by rw [e1, rowB_snoc, hrow, Bool.true_and]
    obtain ⟨z, hz0⟩ : ∃ z, ((l.take i).getLast?.map fun y => lastT y.runs).getD (-1) = z := ⟨_, rfl⟩
    rw [hz0] at hst
    have c1 := fun W' (hW' : Below W.heap.size W W') => c_refRight x p' q' cps vc W' (hs.below hW')
    unfold segA at c1
    have zc := cell_lt q0
    try simp only at zc
    obtain ⟨F, hF⟩ : ∃ F, rowB (-1) (l.take (i + 1)) = F := ⟨_, rfl⟩
    have hno : F = false → rowB (-1) l = false := fun e => rowB_cut (i + 1) (hF.trans e)
    replace hno := Lib.hid hno
    obtain ⟨B, hB⟩ : ∃ B, segB x = B := ⟨_, rfl⟩
    rw [hB] at c1 hst
    replace c1 := Lib.hid c1
    by_cases h0 : i = 0
    · have E0 := Lib.hid (show decide (0 < i) = false from decide_eq_false (by omega))
      obtain rfl : -1 = z := by rw [← hz0, h0]; rfl
      have hv := Lib.hid (show (!B || false) = !F by
        rw [← hF, hst]
        cases B with
        | false => rfl
        | true =>
          have := first_in (segB_runs hB)
          rw [decide_eq_true (show -1 < firstT x.runs by omega)]
          rfl)
      replace h0 := Lib.hid h0
      replace hF := Lib.hid hF
      clear tr e1 hz0 hst hs
      go_upto_region 4 with (fail)
      refine wp_cutB W (Bc W.heap.size #[.int .i64 x.K, .slice p' x.runs.length cps, .int .i64 x.A, .int .i64 x.R, .int .i64 x.n, .int .i64 x.d, .slice q' x.raw.length vc, .int .i64 x.E] 29 <| Bz) ?_
      rintro W21 hW z22 hL
      obtain ⟨⟨b1, yb1, k1, f1⟩, -⟩ := id hL
      clear k1 f1
      refine wp_regD 17 30 hW hL ?_
      refine dE (fun W' hC => E0.out) ?_
      refine cE (fun W' hC => E0.out) (fun W' hC => c1.out W' (hW.trans (hC.1.of_priv hW.size))) ?_
      iterate 2 refine dE (fun W' hC => E0.out) ?_
      iterate 3 refine gE (fun W' hC => E0.out) ?_
      apply nd_detg (c := undef) (hg := rfl) (hd := rfl) (hal := rfl)
      · intro v W' h
        exact h
      · intro hp hx
        cases hx
      apply nd_detg (c := undef) (hg := rfl) (hd := rfl) (hal := rfl)
      · intro v W' h
        exact h
      · intro hp hx
        cases hx
      apply nd_detg (c := undef) (hg := rfl) (hd := rfl) (hal := rfl)
      · intro v W' h
        exact h
      · intro hp hx
        cases hx
      apply nd_detg (c := undef) (hg := rfl) (hd := rfl) (hal := rfl)
      · intro v W' h
        exact h
      · intro hp hx
        cases hx
      apply nd_detg (c := undef) (hg := rfl) (hd := rfl) (hal := rfl)
      · intro v W' h
        exact h
      · intro hp hx
        cases hx
      apply nd_detg (c := undef) (hg := rfl) (hd := rfl) (hal := rfl)
      · intro v W' h
        exact h
      · intro hp hx
        cases hx
      apply nd_detg (c := undef) (hg := rfl) (hd := rfl) (hal := rfl)
      · intro v W' h
        exact h
      · intro hp hx
        cases hx
      apply nd_detg (c := undef) (hg := rfl) (hd := rfl) (hal := rfl)
      · intro v W' h
        exact h
      · intro hp hx
        cases hx
      apply nd_pickg_and (p := true) (x := false) (y := false) (ho := rfl) (hg := rfl) (hd := rfl)
      · intro v W' h
        simp [envOf, Det, GDet] at h
        simp
        exact h
      · intro _ hx v W' h
        simp [envOf, Det, GDet, hx] at h
        exact h
      · intro _ hx v W' h hy
        cases hy
      refine pO ?_
      clear hW hL b1
      rintro W23 hW z24 hL
      simp only [ndR]
      intros
      repeat (rename GDet _ _ _ _ => hgd; clear hgd)
      simp only [ndS]
      refine wpList_nil ?_
      obtain ⟨⟨b1, yb1, k1, f1⟩, -⟩ := hL
      rw [hv.out]
      cases F with
      | false =>
        go_wp2
        go_ret
        exact ⟨by rw [hno.out (by trivial)]; rfl, by exact belowAny⟩
      | true =>
        go_wp2
        rw [show (i : Int) + 1 = ((i + 1 : Nat) : Int) by omega]
        refine ⟨?_, by simp [intAt]; omega⟩
        unfold r14Rel
        exact ⟨hW0.trans (hW.mono hz), i + 1, frame_ex rfl, hF.out, by omega⟩
    · obtain ⟨j, hj⟩ : ∃ j, i = j + 1 := ⟨i - 1, by omega⟩
      obtain ⟨y, ty⟩ : ∃ r, l[j]? = some r := ⟨l[j]'(by omega), List.getElem?_eq_getElem (by omega)⟩
      obtain ⟨b', o', p2, q2, cp2, vc2, eb, hy0, gy, -⟩ := (h.below hW0).at' j y ty
      obtain ⟨rfl, rfl⟩ : b = b' ∧ o = o' := by injection eb with e; injection e with e1 e2; exact ⟨e1, e2⟩
      have E0 := Lib.hid (show decide (0 < i) = true from decide_eq_true (by omega))
      have E1 := Lib.hid (show wrap64 ((i : Int) - 1) = (j : Int) by rw [wrap64_eq]; omega)
      have g1 : j < l.length := by omega
      have hlast : (l.take i).getLast? = some y := by rw [hj, List.take_add_one, ty]; simp
      obtain rfl : lastT y.runs = z := by rw [← hz0, hlast]; rfl
      have hyB : segB y = true := rowB_seg hrow y (List.mem_iff_getElem?.2 ⟨j, by rw [List.getElem?_take]; simp [ty]; omega⟩)
      obtain ⟨B2, hB2⟩ : ∃ B, decide (lastT y.runs < firstT x.runs) = B := ⟨_, rfl⟩
      have c2 := fun (e : B = true) W' (hW' : Below W.heap.size W W') => c_r14Behind y x p2 q2 p' q' cp2 vc2 cps vc W' (gy.below hW') hyB (hs.below hW') (hB.trans e)
      rw [hB2] at hst c2
      unfold segA at c2 hy0
      replace c2 := Lib.hid c2
      have hv := Lib.hid (show (!B || !B2) = !F by rw [← hF, hst]; cases B <;> cases B2 <;> rfl)
      replace hF := Lib.hid hF
      replace hj := Lib.hid hj
      clear tr ty e1 hst hs eb gy hyB hlast hB hB2 hz0
      go_upto_region 4 with (fail)
      refine wp_cutB W (Bc W.heap.size #[.int .i64 x.K, .slice p' x.runs.length cps, .int .i64 x.A, .int .i64 x.R, .int .i64 x.n, .int .i64 x.d, .slice q' x.raw.length vc, .int .i64 x.E] 29 <| Rc (fun W' => CellsP W' b (o + j * 8) #[.int .i64 y.K, .slice p2 y.runs.length cp2, .int .i64 y.A, .int .i64 y.R, .int .i64 y.n, .int .i64 y.d, .slice q2 y.raw.length vc2, .int .i64 y.E]) <| Bz) ?_ (hI := by exact belowAny) (hR := (Bc.mk (by exact blkAny2) <| Rc.mk (by first | exact ⟨hy0⟩ | (exact (CellsP.mk hy0).below belowAny)) <| trivial))
      rintro W21 hW z22 hL
      obtain ⟨⟨b1, yb1, k1, f1⟩, b2, -⟩ := id hL
      clear k1 f1
      refine wp_regD 17 30 hW hL ?_
      refine dE (fun W' hC => aI E0.out (aI E1.out (aI g1 (aI (Nat.not_le.2 g1) (aI (hC.2.2.1.at' 0 _ rfl) (aI (hC.2.2.1.at' 1 _ rfl) (aI (hC.2.2.1.at' 2 _ rfl) (aI (hC.2.2.1.at' 3 _ rfl) (aI (hC.2.2.1.at' 4 _ rfl) (aI (hC.2.2.1.at' 5 _ rfl) (aI (hC.2.2.1.at' 6 _ rfl) (hC.2.2.1.at' 7 _ rfl)))))))))))) ?_
      refine cE (fun W' hC => aI E0.out (aI E1.out (aI g1 (aI (Nat.not_le.2 g1) (aI (hC.2.2.1.at' 0 _ rfl) (aI (hC.2.2.1.at' 1 _ rfl) (aI (hC.2.2.1.at' 2 _ rfl) (aI (hC.2.2.1.at' 3 _ rfl) (aI (hC.2.2.1.at' 4 _ rfl) (aI (hC.2.2.1.at' 5 _ rfl) (aI (hC.2.2.1.at' 6 _ rfl) (hC.2.2.1.at' 7 _ rfl)))))))))))) (fun W' hC => c1.out W' (hW.trans (hC.1.of_priv hW.size))) ?_
      iterate 2 refine dE (fun W' hC => aI E0.out (aI E1.out (aI g1 (aI (Nat.not_le.2 g1) (aI (hC.2.2.1.at' 0 _ rfl) (aI (hC.2.2.1.at' 1 _ rfl) (aI (hC.2.2.1.at' 2 _ rfl) (aI (hC.2.2.1.at' 3 _ rfl) (aI (hC.2.2.1.at' 4 _ rfl) (aI (hC.2.2.1.at' 5 _ rfl) (aI (hC.2.2.1.at' 6 _ rfl) (hC.2.2.1.at' 7 _ rfl)))))))))))) ?_
      iterate 3 refine gE (fun W' hC => aI E0.out (aI E1.out (aI g1 (aI (Nat.not_le.2 g1) (aI (hC.2.2.1.at' 0 _ rfl) (aI (hC.2.2.1.at' 1 _ rfl) (aI (hC.2.2.1.at' 2 _ rfl) (aI (hC.2.2.1.at' 3 _ rfl) (aI (hC.2.2.1.at' 4 _ rfl) (aI (hC.2.2.1.at' 5 _ rfl) (aI (hC.2.2.1.at' 6 _ rfl) (hC.2.2.1.at' 7 _ rfl)))))))))))) ?_
      iterate 6 refine gF (fun W' hC => aI E0.out (aI E1.out (aI g1 (aI (Nat.not_le.2 g1) (aI (hC.2.2.1.at' 0 _ rfl) (aI (hC.2.2.1.at' 1 _ rfl) (aI (hC.2.2.1.at' 2 _ rfl) (aI (hC.2.2.1.at' 3 _ rfl) (aI (hC.2.2.1.at' 4 _ rfl) (aI (hC.2.2.1.at' 5 _ rfl) (aI (hC.2.2.1.at' 6 _ rfl) (hC.2.2.1.at' 7 _ rfl)))))))))))) ?_
      apply nd_callvg2 (p := _) (hg := rfl) (hd := rfl) (hal := rfl)
      · intro v W' h
        first
          | exact h
          | (simp [envOf, GDet] at h; simp; exact h)
      · intro hp hx W' hC
        exact c2.out (by simpa using hp) W' (hW.trans (hC.1.of_priv hW.size))
      · intro hp hx a W' hC hE
        obtain ⟨_, ⟨-, -, k1, -⟩, k2, -⟩ := hC
        have t0 := k2.at' 0 _ rfl; have t1 := k2.at' 1 _ rfl; have t2 := k2.at' 2 _ rfl; have t3 := k2.at' 3 _ rfl; have t4 := k2.at' 4 _ rfl; have t5 := k2.at' 5 _ rfl; have t6 := k2.at' 6 _ rfl; have t7 := k2.at' 7 _ rfl; simp only [Nat.add_zero] at t0
        try simp at hp
        try simp at hx
        first
          | (simp [Oper.looksAt, Op.operands, Call.operands, envOf, Det, GDet, hp, hx] at hE; simp [go_sem, Act.eval, IntWalk.i64_left, hE, k1, k2, E0.out, E1.out, g1, Nat.not_le.2 g1, t0, t1, t2, t3, t4, t5, t6, t7]; try rfl)
          | (clear hE; simp [go_sem, Act.eval, IntWalk.i64_left, k1, k2, E0.out, E1.out, g1, Nat.not_le.2 g1, t0, t1, t2, t3, t4, t5, t6, t7]; try rfl)
      refine gF (fun W' hC => aI E0.out (aI E1.out (aI g1 (aI (Nat.not_le.2 g1) (aI (hC.2.2.1.at' 0 _ rfl) (aI (hC.2.2.1.at' 1 _ rfl) (aI (hC.2.2.1.at' 2 _ rfl) (aI (hC.2.2.1.at' 3 _ rfl) (aI (hC.2.2.1.at' 4 _ rfl) (aI (hC.2.2.1.at' 5 _ rfl) (aI (hC.2.2.1.at' 6 _ rfl) (hC.2.2.1.at' 7 _ rfl)))))))))))) ?_
      refine pgA ?_
      refine pO ?_
      clear hW hL b1 b2
      rintro W23 hW z24 hL
      simp only [ndR]
      intros
      repeat (rename GDet _ _ _ _ => hgd; clear hgd)
      simp only [ndS]
      refine wpList_nil ?_
      obtain ⟨⟨b1, yb1, k1, f1⟩, b2, -⟩ := hL
      rw [hv.out]
      cases F with
      | false =>
        go_wp2
        go_ret
        exact ⟨by rw [hno.out (by trivial)]; rfl, by exact belowAny⟩
      | true =>
        go_wp2
        rw [show (i : Int) + 1 = ((i + 1 : Nat) : Int) by omega]
        refine ⟨?_, by simp [intAt]; omega⟩
        unfold r14Rel
        exact ⟨hW0.trans (hW.mono hz), i + 1, frame_ex rfl, hF.out, by omega⟩
  · obtain rfl : i = l.length := by omega
    rw [List.take_length] at hrow
    replace hrow := Lib.hid hrow
    go_wp2
    go_ret
    exact ⟨by rw [hrow.out]; rfl, hW0⟩
def eqRunRel (w : World) (p : Option Addr) (cap : Nat) (p' : Option Addr) (cap' : Nat) (A B : List RunT) (a' : Act) (W : World) : Prop :=
 Below w.heap.size w W /\ ∃ (i : Nat), (∃ u : Nat -> Value, a' = { tmps := #[.slice p A.length cap, .slice p' A.length cap', u 2, u 3, .bool false, u 5, u 6, u 7, u 8, u 9, u 10, u 11, .int .i64 (A.length : Int), .int .i64 (i : Int), u 14, u 15, u 16, u 17, u 18, u 19, u 20, u 21, u 22, u 23, u 24, u 25], defers := [] }) /\ i <= A.length /\ ∀ k, k < i -> A[k]? = B[k]?
def eqIntRel (w : World) (p : Option Addr) (cap : Nat) (p' : Option Addr) (cap' : Nat) (A B : List Int) (a' : Act) (W : World) : Prop :=
 Below w.heap.size w W /\ ∃ (i : Nat), (∃ u : Nat -> Value, a' = { tmps := #[.slice p A.length cap, .slice p' A.length cap', u 2, u 3, .bool false, u 5, u 6, u 7, u 8, u 9, u 10, u 11, .int .i64 (A.length : Int), .int .i64 (i : Int), u 14, u 15, u 16, u 17, u 18, u 19, u 20, u 21, u 22, u 23, u 24, u 25], defers := [] }) /\ i <= A.length /\ ∀ k, k < i -> A[k]? = B[k]?
end Go.Proofs.YtbanjolokkghdaaGreatDoor
