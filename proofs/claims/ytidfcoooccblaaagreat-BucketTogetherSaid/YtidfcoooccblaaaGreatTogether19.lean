/- Parts of the proof that follows: slices.Equal, of pieces, of answers. No condition. | Layer bucket: the plan of an answer. No condition but that the segments may be. | The laws of chapter 26: plain, wakes. No condition. | The laws of chapter 25: own. No condition. | slices.Clone, of segments and points, and of runs and numbers that may be nil. No condition. -/
import Derived.Test.YtidfcoooccblaaaGreatTogether18
set_option maxRecDepth 100000
set_option maxHeartbeats 8000000
set_option linter.unusedSimpArgs false
set_option linter.unusedVariables false
namespace Go.Proofs.YtidfcoooccblaaaGreat
open Go.RowKit
attribute [local simp] Oper.looksAt Op.operands Call.operands envOf Det GDet
def eqPieceRel (w : World) (p : Option Addr) (cap : Nat) (p' : Option Addr) (cap' : Nat) (A B : List RunT) (a' : Act) (W : World) : Prop :=
 Below w.heap.size w W /\ ∃ (i : Nat), (∃ u : Nat -> Value, a' = { tmps := #[.slice p A.length cap, .slice p' A.length cap', u 2, u 3, .bool false, u 5, u 6, u 7, u 8, u 9, u 10, u 11, .int .i64 (A.length : Int), .int .i64 (i : Int), u 14, u 15, u 16, u 17, u 18, u 19, u 20, u 21, u 22, u 23, u 24, u 25], defers := [] }) /\ i <= A.length /\ ∀ k, k < i -> A[k]? = B[k]?
theorem eqPiece_w (p : Option Addr) (cap : Nat) (p' : Option Addr) (cap' : Nat) (A B : List RunT) (w : World) (hl : A.length = B.length) (hlen : A.length <= 1000000) (hA0 : RunsIn w p A) (hB0 : RunsIn w p' B) :
  Calls Tryz.prog 35 #[.slice p A.length cap, .slice p' A.length cap'] w fun e w' => e = .returned (.bool (decide (A = B))) /\ Below w.heap.size w w' := by
 go_enter Tryz.func35, Tryz.ntmps35
 replace hl := Lib.hid hl
 go_wp2
 refine wp_loop (eqPieceRel w p cap p' cap' A B) (fun a' _ => A.length - (intAt (a'.tmps.getD 13 undef)).toNat) ?_ ?_
 ·unfold eqPieceRel
  exact ⟨Below.refl _ _, 0, frame_ex rfl, by omega, fun k hk => by omega⟩
 ·rintro a' W ⟨hW0, i, ⟨u, rfl⟩, hi', hall⟩
  have hz := hW0.size
  replace hall := Lib.hid hall
  rcases Nat.lt_or_ge i A.length with hlt | hge
  ·obtain ⟨r, tr⟩ : ∃ r, A[i]? = some r := ⟨A[i]'(by omega), List.getElem?_eq_getElem (by omega)⟩
   obtain ⟨q, tq⟩ : ∃ q, B[i]? = some q := ⟨B[i]'(by have := hl.out; omega), List.getElem?_eq_getElem (by have := hl.out; omega)⟩
   obtain ⟨b, o, rfl, -⟩ := hA0.at' i r tr
   obtain ⟨b', o', rfl, -⟩ := hB0.at' i q tq
   have hA : RunsP W b o A := ⟨hA0.below hW0⟩
   have hB : RunsP W b' o' B := ⟨hB0.below hW0⟩
   replace tr := Lib.hid tr
   replace tq := Lib.hid tq
   have l1 := hlt
   have l2 : i < B.length := by have := hl.out; omega
   go_upto_region 6 with (fail)
   refine wp_facts (fun W' => Below W.heap.size W W' /\ RunsP W' b o A /\ RunsP W' b' o' B) ⟨by exact belowAny, by exact hA.below belowAny, by exact hB.below belowAny⟩ ?_
   rintro W1 ⟨hW, b1, b2⟩
   have z2 := hW.size
   refine wp_region_ndQ 9 26 [] (fun W' => Rex [] W1 W' /\ RunsP W' b o A /\ RunsP W' b' o' B) mixed (by kernel_rfl) rfl ⟨(Rex.refl _ _).drew, b1.drew, b2.drew⟩ (fun w w' ⟨h0, h1, h2⟩ hr => ⟨h0.trans hr, h1.rex hr (by simp <;> omega), h2.rex hr (by simp <;> omega)⟩) rfl ?_
   iterate 9
    apply nd_det (hg := rfl) (hal := rfl)
    ·intro a W' hC hE
     obtain ⟨_, k1, k2⟩ := hC
     obtain ⟨q0, q1, q2⟩ := k1.cellAt tr.out; obtain ⟨q3, q4, q5⟩ := k2.cellAt tq.out
     first
      | (simp at hE; simp [go_sem, Act.eval, IntWalk.i64_left, hE, k1, k2, q0, q1, q2, q3, q4, q5, l1, l2, ite_eq3]; try rfl)
      | (clear hE; simp [go_sem, Act.eval, IntWalk.i64_left, k1, k2, q0, q1, q2, q3, q4, q5, l1, l2, ite_eq3]; try rfl)
   rintro W3 ⟨hR, d1, d2⟩
   simp only [ndFinR, Det, forall_eq]
   intros
   repeat (rename GDet _ _ _ _ => hgd; clear hgd)
   simp only [Act.put, List.setIfInBounds_toArray, List.set_cons_zero, List.set_cons_succ]
   refine wpList_nil ?_
   replace hW := hW.trans (hR.of_priv hW.size)
   clear hR
   try clear b1 b2
   have b1 := d1
   clear d1
   have b2 := d2
   clear d2
   by_cases hrq : r = q
   ·have hall' := Lib.hid (show ∀ k, k < i + 1 -> A[k]? = B[k]? from fun k hk => by
     rcases Nat.lt_or_ge k i with h | h
     ·exact hall.out k h
     ·obtain rfl : k = i := by omega
      rw [tr.out, tq.out, hrq])
    rw [show (!decide (r.f = q.f) || !decide (r.s = q.s) || !decide (r.c = q.c)) = false by subst hrq; simp]
    clear hrq
    go_wp2
    rw [show (i : Int) + 1 = ((i + 1 : Nat) : Int) by omega]
    refine ⟨?_, by simp [intAt]; omega⟩
    unfold eqPieceRel
    exact ⟨hW0.trans (hW.mono hz), i + 1, frame_ex rfl, by omega, hall'.out⟩
   ·have hne := Lib.hid (show decide (A = B) = false by
     rw [decide_eq_false_iff_not]
     rintro rfl
     rw [tr.out] at tq
     exact hrq (Option.some.inj tq.out))
    rw [show (!decide (r.f = q.f) || !decide (r.s = q.s) || !decide (r.c = q.c)) = true by
     obtain ⟨r1, r2, r3⟩ := r
     obtain ⟨q1, q2, q3⟩ := q
     simp at hrq
     simp
     by_cases h1 : r1 = q1 <;> by_cases h2 : r2 = q2 <;> simp [h1, h2] at hrq ⊢
     exact hrq]
    clear hrq
    go_wp2
    go_ret
    exact ⟨by rw [hne.out]; rfl, hW0.trans (hW.mono hz)⟩
  ·obtain rfl : i = A.length := by omega
   have heq := Lib.hid (show decide (A = B) = true by
    rw [decide_eq_true_eq]
    apply List.ext_getElem?
    intro k
    rcases Nat.lt_or_ge k A.length with h | h
    ·exact hall.out k h
    ·rw [List.getElem?_eq_none h, List.getElem?_eq_none (by have := hl.out; omega)])
   go_wp2
   go_ret
   exact ⟨by rw [heq.out]; rfl, hW0⟩
theorem eqPiece_len (p : Option Addr) (n cap : Nat) (p' : Option Addr) (m cap' : Nat) (w : World) (hl : ¬ n = m) :
  Calls Tryz.prog 35 #[.slice p n cap, .slice p' m cap'] w fun e w' => e = .returned (.bool false) /\ Below w.heap.size w w' := by
 go_enter Tryz.func35, Tryz.ntmps35
 go_wp2
 go_ret
 exact ⟨rfl, Below.refl _ _⟩
theorem c_eqPiece (p : Option Addr) (cap : Nat) (p' : Option Addr) (cap' : Nat) (A B : List RunT) (w : World) (hlen : A.length <= 1000000) (hA0 : RunsIn w p A) (hB0 : RunsIn w p' B) :
  Calls Tryz.prog 35 #[.slice p A.length cap, .slice p' B.length cap'] w fun e w' => e = .returned (.bool (decide (A = B))) /\ Below w.heap.size w w' := by
 by_cases h : A.length = B.length
 ·rw [<- h]; exact eqPiece_w p cap p' cap' A B w h hlen hA0 hB0
 ·rw [show decide (A = B) = false by rw [decide_eq_false_iff_not]; rintro rfl; exact h rfl]
  exact eqPiece_len p _ cap p' _ cap' w h
def eqAnsRel (w : World) (p : Option Addr) (cap : Nat) (p' : Option Addr) (cap' : Nat) (A B : List AnsT) (a' : Act) (W : World) : Prop :=
 Below w.heap.size w W /\ ∃ (i : Nat), (∃ u : Nat -> Value, a' = { tmps := #[.slice p A.length cap, .slice p' A.length cap', u 2, u 3, .bool false, u 5, u 6, u 7, u 8, u 9, u 10, u 11, .int .i64 (A.length : Int), .int .i64 (i : Int), u 14, u 15, u 16, u 17, u 18, u 19, u 20, u 21, u 22, u 23, u 24, u 25], defers := [] }) /\ i <= A.length /\ ∀ k, k < i -> A[k]? = B[k]?
end Go.Proofs.YtidfcoooccblaaaGreat
namespace Go.Proofs.YtidfcoooccblaaaGreat
open Go.RowKit Go.Shelf
attribute [local go_sem] Oper.semAt_some
theorem planK_few (s : SerT) (a b : Int) (k : Nat) : (planK s a b k).length <= k := by
 induction k with
 | zero => simp [planK]
 | succ k ih =>
  unfold planK at ih ⊢
  rw [List.range_succ, List.flatMap_append, List.length_append, List.flatMap_cons, List.flatMap_nil, List.append_nil]
  have : (planI s a b k).length <= 1 := by
   unfold planI
   split
   ·unfold segPl; split <;> simp
   ·simp
  omega
theorem planL_few (s : SerT) (a b : Int) : (planL s a b).length <= s.segs.length + 1 := by
 have := planK_few s a b s.segs.length
 unfold planL
 rw [List.length_append]
 have h2 : (planO s a b).length <= 1 := by unfold planO; split <;> simp
 omega
theorem Tryz.infoPiece : (Tryz.prog.info? 75).map (fun i => (i.zero, i.size, i.bytes)) = some (some (.agg #[.int .i64 0, .int .i64 0, .int .i64 0]), 3, 24) := by kernel_rfl
def PlanPost (L : List RunT) (er : Int) (w : World) (e : Ending) (w' : World) : Prop :=
 ∃ p k, e = .returned (.tuple #[.slice p L.length k, .int .i64 er]) /\ RunsIn w' p L /\ Below w.heap.size w w'
theorem plan1_in (s : SerT) (ps po : Option Addr) (cs co : Nat) (a b : Int) (gs ga gb : Nat) (w : World) (hin : SerIn w s ps po) (hv : ∀ x, x ∈ s.segs -> segB x = true)
  (b1 : Blk w gs #[.string s.name, .int .i64 s.eps, .int .i64 s.floor, .int .i64 s.last, .int .i64 s.scale, .slice ps s.segs.length cs, .slice po s.opn.length co] 25) (b2 : Blk w ga #[.int .i64 a] 2) (b3 : Blk w gb #[.int .i64 b] 2) :
  CallsIn Fence.wide 4 Tryz.prog 83 #[.pointer (some ⟨gs, 0, none⟩), .pointer (some ⟨ga, 0, none⟩), .pointer (some ⟨gb, 0, none⟩)] w (PlanPost (planL s a b) 0 w) := by
 obtain ⟨i0, hi, hz0, hz1, hz2⟩ := info_parts Tryz.infoPiece
 have hfew : (planL s a b).length <= 101 := by have := planL_few s a b; have := hin.fewS; omega
 refine callsIn_of_wp_marks Tryz.func83 rfl trivial ?_ rfl
 simp only [Tryz.ntmps83, List.size_toArray, List.length_cons, List.length_nil, Nat.reduceAdd, Nat.reduceSub, Array.replicate_succ, Array.replicate_zero, List.push_toArray, List.append_toArray, List.nil_append, List.cons_append]
 refine wpIn_wide.2 ?_
 have y1 := b1.lt
 have y2 := b2.lt
 have y3 := b3.lt
 have k1 := b1.cell
 have f1 := b1.frozen
 have k2 := b2.cell
 have f2 := b2.frozen
 have k3 := b3.cell
 have f3 := b3.frozen
 go_upto_region 3 with (fail)
 clear k1 f1 k2 f2 k3 f3
 refine wp_facts (fun W' => Below w.heap.size w W' /\ Blk W' gs #[.string s.name, .int .i64 s.eps, .int .i64 s.floor, .int .i64 s.last, .int .i64 s.scale, .slice ps s.segs.length cs, .slice po s.opn.length co] 25 /\ Blk W' ga #[.int .i64 a] 2 /\ Blk W' gb #[.int .i64 b] 2 /\ Blk W' w.heap.size #[.string s.name, .int .i64 s.eps, .int .i64 s.floor, .int .i64 s.last, .int .i64 s.scale, .slice ps s.segs.length cs, .slice po s.opn.length co, .int .i64 a, .int .i64 b] 157 /\ Blk W' (w.heap.size + 1) #[.slice none 0 0] 70) ⟨by exact belowAny, by exact blkAny2, by exact blkAny2, by exact blkAny2, by exact blkAny2, by exact blkAny2⟩ ?_
 clear b1 b2 b3
 rintro W1 ⟨hW, b1, b2, b3, b4, b5⟩
 have z2 := hW.size
 have z3 := b1.lt
 have z4 := b2.lt
 have z5 := b3.lt
 have z6 := b4.lt
 have z7 := b5.lt
 have k1 := b1.cell
 have f1 := b1.frozen
 have k2 := b2.cell
 have f2 := b2.frozen
 have k3 := b3.cell
 have f3 := b3.frozen
 have k4 := b4.cell
 have f4 := b4.frozen
 have k5 := b5.cell
 have f5 := b5.frozen
 go_wp2_with fail
 refine (c_plPieces _ _).mono ?_
 rintro e w' ⟨rfl, rfl⟩
 have c1 : Below w.heap.size w ((W1.alloc (.cells #[.pointer (some ⟨w.heap.size, 0, none⟩)] 155)).alloc (.cells #[.func (.func 143) #[.pointer (some ⟨w.heap.size, 0, none⟩)] #[]] 228)) := belowAny
 have d1 : Blk ((W1.alloc (.cells #[.pointer (some ⟨w.heap.size, 0, none⟩)] 155)).alloc (.cells #[.func (.func 143) #[.pointer (some ⟨w.heap.size, 0, none⟩)] #[]] 228)) w.heap.size #[.string s.name, .int .i64 s.eps, .int .i64 s.floor, .int .i64 s.last, .int .i64 s.scale, .slice ps s.segs.length cs, .slice po s.opn.length co, .int .i64 a, .int .i64 b] 157 := blkAny2
 have d2 : Blk ((W1.alloc (.cells #[.pointer (some ⟨w.heap.size, 0, none⟩)] 155)).alloc (.cells #[.func (.func 143) #[.pointer (some ⟨w.heap.size, 0, none⟩)] #[]] 228)) (w.heap.size + 1) #[.slice none 0 0] 70 := blkAny2
 have d3 : Blk ((W1.alloc (.cells #[.pointer (some ⟨w.heap.size, 0, none⟩)] 155)).alloc (.cells #[.func (.func 143) #[.pointer (some ⟨w.heap.size, 0, none⟩)] #[]] 228)) W1.heap.size #[.pointer (some ⟨w.heap.size, 0, none⟩)] 155 := blkAny2
 have d4 : Blk ((W1.alloc (.cells #[.pointer (some ⟨w.heap.size, 0, none⟩)] 155)).alloc (.cells #[.func (.func 143) #[.pointer (some ⟨w.heap.size, 0, none⟩)] #[]] 228)) (W1.heap.size + 1) #[.func (.func 143) #[.pointer (some ⟨w.heap.size, 0, none⟩)] #[]] 228 := blkAny2
 have hsz : ((W1.alloc (.cells #[.pointer (some ⟨w.heap.size, 0, none⟩)] 155)).alloc (.cells #[.func (.func 143) #[.pointer (some ⟨w.heap.size, 0, none⟩)] #[]] 228)).heap.size = W1.heap.size + 1 + 1 := by simp
 obtain ⟨W0, hWe⟩ : ∃ W0, W0 = ((W1.alloc (.cells #[.pointer (some ⟨w.heap.size, 0, none⟩)] 155)).alloc (.cells #[.func (.func 143) #[.pointer (some ⟨w.heap.size, 0, none⟩)] #[]] 228)) := ⟨_, rfl⟩
 rw [<- hWe] at c1 d1 d2 d3 d4 hsz ⊢
 have zV := hW.size
 have zO := b5.lt
 clear hWe b1 b2 b3 b4 b5 k1 k2 k3 k4 k5 f1 f2 f3 f4 f5
 go_wp2
 refine (wpIn_wide (n := 4)).1 ?_
 refine wpIn_rangeFunc_ownH rfl (by omega) (gf := 144) (lb := #[.pointer (some ⟨W1.heap.size, 0, none⟩), .pointer (some ⟨W1.heap.size + 1, 0, none⟩)]) rfl trivial (enters_of Tryz.func144 (by kernel_rfl) rfl)
  (encs := fun x : RunT => #[Value.agg #[.int .i64 x.f, .int .i64 x.s, .int .i64 x.c]]) (Kp := fun A B => Below w.heap.size A B /\ ∀ T, T ≠ 70 -> T ≠ 75 -> KeepsT T A B) (S := fun ys => ys = planL s a b) (Sp := fun pre => pre <+: planL s a b) (N := (planL s a b).length) (w0 := W0)
  (fun lr J Jx W hWW hJ _ hY h0 => plPieces1_in 3 (by omega) lr W1.heap.size (W1.heap.size + 1) w.heap.size s ps po cs co a b w hin hv _ (fun h => h) J Jx W hJ (fun pre x W1 h1 h2 => hY pre x W1 h1 (by have := h2.length_le; simp at this; omega)) (c1.trans (hWW.mono c1.size)) (d3.below hWW) (d4.below hWW) (d1.below hWW) h0)
  (fun h k => ⟨h.1.trans k.1, fun T e1 e2 => (h.2 T e1 e2).trans (k.2 T e1 e2)⟩) (fun W k o o' hk ho h1 h2 => ⟨belowK_b (w := w) (Nat.le_refl _) W k o o' (by omega) ho h1 h2, fun T _ _ => keepsT_putObj o' ho h1⟩) (Below.refl _ _) (fun _ => rfl)
  (fun pre W => (∃ v, Boxed W (w.heap.size + 1) 70 v /\ W.ownsRow w.heap.size 75 3 v pre.length (flatCells pre) /\ True) /\ Below w.heap.size w W)
  (fun _ _ _ => False)
  (OwnFrom.and (Own.from (holdsRow_own w.heap.size (w.heap.size + 1) 70 75 3 (fun pre : List RunT => pre.length) (fun pre => flatCells pre) (fun _ _ => True)) _) (ownFrom_below (Nat.le_refl _) (by omega)))
  (fun _ _ _ _ _ hs _ _ => hs)
  ⟨⟨_, d2, World.ownsRow_nil _ _ _ _, trivial⟩, c1⟩
  (fun x a' W => ∃ Bx, w.heap.size + 1 < Bx /\ Blk W Bx #[.int .i64 x.f, .int .i64 x.s, .int .i64 x.c] 75 /\ a' = { tmps := #[.pointer (some ⟨gs, 0, none⟩), .pointer (some ⟨ga, 0, none⟩), .pointer (some ⟨gb, 0, none⟩), .slice none 0 0, .int .i64 0, .pointer (some ⟨w.heap.size, 0, none⟩), .pointer (some ⟨w.heap.size + 1, 0, none⟩), .pointer (some ⟨Bx, 0, none⟩), .agg #[.string s.name, .int .i64 s.eps, .int .i64 s.floor, .int .i64 s.last, .int .i64 s.scale, .slice ps s.segs.length cs, .slice po s.opn.length co], .int .i64 a, .int .i64 b, .agg #[.string s.name, .int .i64 s.eps, .int .i64 s.floor, .int .i64 s.last, .int .i64 s.scale, .slice ps s.segs.length cs, .slice po s.opn.length co, .int .i64 a, .int .i64 b], .pointer (some ⟨w.heap.size, 0, none⟩), .pointer (some ⟨w.heap.size, 0, none⟩), .func (.func 144) #[] #[.pointer (some ⟨W1.heap.size, 0, none⟩), .pointer (some ⟨W1.heap.size + 1, 0, none⟩)], .agg #[.int .i64 x.f, .int .i64 x.s, .int .i64 x.c], undef, undef, undef, undef, undef], defers := [] })
  (fun x a' _ X Y row hs hg hr => by obtain ⟨Bx, h1, h2, h3⟩ := hs; exact ⟨Bx, h1, blk_own Bx 75 (fun (_ : Unit) => #[Value.int .i64 x.f, Value.int .i64 x.s, Value.int .i64 x.c]) () X Y row h2 hg (fun r e => (hr r e).2), h3⟩) ?assign ?body ?done ?stop
 case assign =>
  rintro l pre x W K ⟨⟨v, hv1, hrow, _⟩, hB⟩ hK
  have hlt := hv1.lt
  have hz := hB.size
  gi_wp2
  exact hK _ _ ((KeepsOthers.alloc _ _).from _) ⟨(Below.refl _ _).alloc hz _, fun T _ _ => keepsT_of_below ((Below.refl _ _).alloc (Nat.le_refl _) _)⟩ ⟨⟨v, hv1.alloc _, hrow.alloc _, trivial⟩, hB.alloc hz _⟩ ⟨W.heap.size, hlt, Blk.new' rfl, rfl⟩
 case body =>
  rintro l pre x a' W hl' ⟨r, hr⟩ ⟨⟨v, hv1, hrow, _⟩, hB⟩ ⟨Bx, hBx, bX, rfl⟩ hlt
  have hc := hv1.cell
  have kx := bX.cell
  have yx := bX.lt
  have hp9 : pre.length <= 101 := by omega
  have hcat := Lib.hid (flatCells_snoc pre x)
  clear hr
  gi_wp2_with (gi_at_builtin; refine wpListIn_append_own _ rfl _ _ 70 rfl w.heap.size 75 i0 (.agg #[.int .i64 0, .int .i64 0, .int .i64 0]) 3 24 (by kernel_rfl) hi hz0 hz1 hz2 rfl (by decide) _ _ _ rfl (hrow.alloc _) ⟨W.heap.size, 0, none⟩ 1 1 [.int .i64 x.f, .int .i64 x.s, .int .i64 x.c] rfl rfl (cell_three_new _ _ _ _ _) (by simp [Value.oneCell']) (by simp [maxLen]; omega) (by omega) (by have := hB.size; simp; omega) ?_; intro v' w1 hown' hgrow _; obtain ⟨g', cap', rfl⟩ := ownsRow_succ hown'; obtain ⟨hv2, hv3, hr2, hk2, hb2⟩ := hv1.appended (by decide) hrow hB.size (by omega) hown' hgrow; have hkt := fun T h1 h2 => keepsT_appended (v' := .slice (some ⟨g', 0, none⟩) (pre.length + 1) cap') (T := T) hv1 hrow hgrow h1 h2; have hc1 := hv2.cell; have hf1 := hv2.frozen)
  exact ⟨hk2.from _, ⟨hb2, hkt⟩, ⟨_, hv3, own_cast hr2 (by simp) hcat.out.symm, trivial⟩, hB.trans hb2⟩
 case done =>
  rintro D ys W hD rfl ⟨⟨v, hv1, hrow, _⟩, hB⟩ hK
  have hc := hv1.cell
  obtain ⟨p, cap, rfl, -, -, -, -⟩ := (OwnR.mk hrow).form
  have hrow' := ownsRow_putObj hrow (.deferred none) hK rfl
  have hR9 := Lib.hid (OwnR.mk hrow').runs
  have hB9 := Lib.hid (hB.trans (belowK_b (w := w) (Nat.le_refl _) W D _ (.deferred none) (by omega) hK rfl rfl))
  clear hrow hrow'
  simp only [Exit.inBlock, Exit.then]
  go_wp2
  simp only [bodyPostM]
  refine ⟨by simp, .inl ⟨_, _, rfl, run_takeDeferred hK, ?_⟩⟩
  refine ⟨.tuple #[.slice p (planL s a b).length cap, .int .i64 0], by simp [results, Tryz.f83, go_sem], p, cap, rfl, hR9.out, hB9.out⟩
 case stop =>
  rintro D c pre W _ _ h _
  exact h.elim
theorem toldp_bad (nm : ByteArray) (ep fl la sc : Int) (ps po : Option Addr) (ns cs no co : Nat) (gs ga gb : Nat) (w : World)
  (c1 : ∀ W, Below w.heap.size w W -> Calls Tryz.prog 14 #[.agg #[.string nm, .int .i64 ep, .int .i64 fl, .int .i64 la, .int .i64 sc, .slice ps ns cs, .slice po no co]] W fun e w' => e = .returned (.int .i64 340) /\ Below W.heap.size W w') :
  Calls Tryz.prog 82 #[.agg #[.string nm, .int .i64 ep, .int .i64 fl, .int .i64 la, .int .i64 sc, .slice ps ns cs, .slice po no co], .func (.func 83) #[] #[.pointer (some ⟨gs, 0, none⟩), .pointer (some ⟨ga, 0, none⟩), .pointer (some ⟨gb, 0, none⟩)]] w (PlanPost [] 340 w) := by
 have H_c1 := Lib.hid c1
 clear c1
 go_enter Tryz.func82, Tryz.ntmps82
 have c1 := H_c1.out
 go_wp2_with fail
 refine (c1 _ belowAny).mono ?_
 rintro e w1 ⟨rfl, hb1⟩
 clear c1
 have z2 := hb1.size
 try simp at z2
 have b1 : Blk w1 w.heap.size #[.string nm, .int .i64 ep, .int .i64 fl, .int .i64 la, .int .i64 sc, .slice ps ns cs, .slice po no co] 25 := blkAny2
 have hW : Below w.heap.size w w1 := belowAny
 have z3 := b1.lt
 clear hb1
 have k1 := b1.cell
 have f1 := b1.frozen
 go_wp2
 refine bodyPost_ret (v := .tuple #[.slice none 0 0, .int .i64 340]) (by simp [results, Tryz.results82, go_sem]) rfl ⟨none, 0, rfl, ⟨fun i r hr => by simp at hr⟩, belowAny⟩
theorem toldp_ok (nm : ByteArray) (ep fl la sc : Int) (ps po : Option Addr) (ns cs no co : Nat) (gs ga gb : Nat) (L : List RunT) (er : Int) (w : World)
  (c1 : ∀ W, Below w.heap.size w W -> Calls Tryz.prog 14 #[.agg #[.string nm, .int .i64 ep, .int .i64 fl, .int .i64 la, .int .i64 sc, .slice ps ns cs, .slice po no co]] W fun e w' => e = .returned (.int .i64 0) /\ Below W.heap.size W w')
  (c2 : ∀ W, Below w.heap.size w W -> Calls Tryz.prog 83 #[.pointer (some ⟨gs, 0, none⟩), .pointer (some ⟨ga, 0, none⟩), .pointer (some ⟨gb, 0, none⟩)] W (PlanPost L er W)) :
  Calls Tryz.prog 82 #[.agg #[.string nm, .int .i64 ep, .int .i64 fl, .int .i64 la, .int .i64 sc, .slice ps ns cs, .slice po no co], .func (.func 83) #[] #[.pointer (some ⟨gs, 0, none⟩), .pointer (some ⟨ga, 0, none⟩), .pointer (some ⟨gb, 0, none⟩)]] w (PlanPost L er w) := by
 have H_c1 := Lib.hid c1
 clear c1
 have H_c2 := Lib.hid c2
 clear c2
 go_enter Tryz.func82, Tryz.ntmps82
 have c1 := H_c1.out
 go_wp2_with fail
 refine (c1 _ belowAny).mono ?_
 rintro e w1 ⟨rfl, hb1⟩
 clear c1
 have z2 := hb1.size
 try simp at z2
 have b1 : Blk w1 w.heap.size #[.string nm, .int .i64 ep, .int .i64 fl, .int .i64 la, .int .i64 sc, .slice ps ns cs, .slice po no co] 25 := blkAny2
 have hW : Below w.heap.size w w1 := belowAny
 have z3 := b1.lt
 clear hb1
 have k1 := b1.cell
 have f1 := b1.frozen
 have c2 := H_c2.out
 go_wp2_with fail
 refine (c2 _ belowAny).mono ?_
 rintro e w4 ⟨p, k, rfl, hR, hb4⟩
 clear c2
 have z5 := hb4.size
 try simp at z5
 clear k1 f1
 have b1 : Blk w4 w.heap.size #[.string nm, .int .i64 ep, .int .i64 fl, .int .i64 la, .int .i64 sc, .slice ps ns cs, .slice po no co] 25 := blkAny2
 have hW : Below w.heap.size w w4 := belowAny
 have z6 := b1.lt
 have k1 := b1.cell
 have f1 := b1.frozen
 replace hR := Lib.hid hR
 go_wp2
 refine bodyPost_ret (v := .tuple #[.slice p L.length k, .int .i64 er]) (by simp [results, Tryz.results82, go_sem]) rfl ⟨p, k, rfl, hR.out, belowAny⟩
theorem plan_w (nm : ByteArray) (ep fl la sc : Int) (ps po : Option Addr) (ns cs no co : Nat) (a b : Int) (L : List RunT) (er : Int) (w : World)
  (c1 : ∀ W, Below w.heap.size w W -> Blk W w.heap.size #[.string nm, .int .i64 ep, .int .i64 fl, .int .i64 la, .int .i64 sc, .slice ps ns cs, .slice po no co] 25 -> Blk W (w.heap.size + 1) #[.int .i64 a] 2 -> Blk W (w.heap.size + 1 + 1) #[.int .i64 b] 2 -> Calls Tryz.prog 82 #[.agg #[.string nm, .int .i64 ep, .int .i64 fl, .int .i64 la, .int .i64 sc, .slice ps ns cs, .slice po no co], .func (.func 83) #[] #[.pointer (some ⟨w.heap.size, 0, none⟩), .pointer (some ⟨w.heap.size + 1, 0, none⟩), .pointer (some ⟨w.heap.size + 1 + 1, 0, none⟩)]] W (PlanPost L er W)) :
  Calls Tryz.prog 34 #[.agg #[.string nm, .int .i64 ep, .int .i64 fl, .int .i64 la, .int .i64 sc, .slice ps ns cs, .slice po no co], .int .i64 a, .int .i64 b] w (PlanPost L er w) := by
 have H_c1 := Lib.hid c1
 clear c1
 go_enter Tryz.func34, Tryz.ntmps34
 have hmf : ∀ (fn : Fn) (first cap : Array Value) (w : World), (Instr.makeFunc fn first cap).run Tryz.prog w = .ok (.func fn first cap) w := fun _ _ _ _ => rfl
 go_upto_region 1 with (fail)
 refine wp_facts (fun W' => Below w.heap.size w W' /\ Blk W' w.heap.size #[.string nm, .int .i64 ep, .int .i64 fl, .int .i64 la, .int .i64 sc, .slice ps ns cs, .slice po no co] 25 /\ Blk W' (w.heap.size + 1) #[.int .i64 a] 2 /\ Blk W' (w.heap.size + 1 + 1) #[.int .i64 b] 2) ⟨by exact belowAny, by exact blkAny2, by exact blkAny2, by exact blkAny2⟩ ?_
 rintro W1 ⟨hW, b1, b2, b3⟩
 have z2 := hW.size
 have z3 := b1.lt
 have z4 := b2.lt
 have z5 := b3.lt
 have k1 := b1.cell
 have f1 := b1.frozen
 have k2 := b2.cell
 have f2 := b2.frozen
 have k3 := b3.cell
 have f3 := b3.frozen
 have c1 := H_c1.out
 go_wp2_with fail
 refine (c1 W1 hW b1 b2 b3).mono ?_
 rintro e w6 ⟨p, k, rfl, hR, hb6⟩
 clear c1
 have z7 := hb6.size
 try simp at z7
 clear k1 f1 k2 f2 k3 f3
 have b1 : Blk w6 w.heap.size #[.string nm, .int .i64 ep, .int .i64 fl, .int .i64 la, .int .i64 sc, .slice ps ns cs, .slice po no co] 25 := blkAny2
 have b2 : Blk w6 (w.heap.size + 1) #[.int .i64 a] 2 := blkAny2
 have b3 : Blk w6 (w.heap.size + 1 + 1) #[.int .i64 b] 2 := blkAny2
 have hW : Below w.heap.size w w6 := belowAny
 have z8 := b1.lt
 have z9 := b2.lt
 have z10 := b3.lt
 have k1 := b1.cell
 have f1 := b1.frozen
 have k2 := b2.cell
 have f2 := b2.frozen
 have k3 := b3.cell
 have f3 := b3.frozen
 replace hR := Lib.hid hR
 go_wp2
 refine bodyPost_ret (v := .tuple #[.slice p L.length k, .int .i64 er]) (by simp [results, Tryz.results34, go_sem]) rfl ⟨p, k, rfl, hR.out, belowAny⟩
def plL (s : SerT) (a b : Int) : List RunT := if checkB s then planL s a b else []
theorem c_bkPlan (s : SerT) (ps po : Option Addr) (cs co : Nat) (a b : Int) (w : World) (hin : SerIn w s ps po) :
  Calls Tryz.prog 34 #[.agg (serA s ps cs po co), .int .i64 a, .int .i64 b] w (PlanPost (plL s a b) (if checkB s then 0 else 340) w) := by
 unfold serA
 refine plan_w _ _ _ _ _ _ _ _ _ _ _ a b _ _ w fun W hW k1 k2 k3 => ?_
 have hin' := hin.below hW
 have ck := c_srCheck s ps po cs co
 unfold serA checkE at ck
 unfold plL
 cases hc : checkB s with
 | false =>
  rw [hc] at ck
  exact toldp_bad s.name s.eps s.floor s.last s.scale ps po s.segs.length cs s.opn.length co _ _ _ W (fun W' hW' => ck W' (hin'.below hW'))
 | true =>
  rw [hc] at ck
  simp only [if_true]
  exact toldp_ok s.name s.eps s.floor s.last s.scale ps po s.segs.length cs s.opn.length co _ _ _ _ _ W (fun W' hW' => ck W' (hin'.below hW')) fun W' hW' => callsIn_wide.1 (plan1_in s ps po cs co a b _ _ _ W' (hin'.below hW') (chk_segs hc) (k1.below hW') (k2.below hW') (k3.below hW'))
end Go.Proofs.YtidfcoooccblaaaGreat
namespace Go.Proofs.YtidfcoooccblaaaGreat
open Go.RowKit
theorem c_plain (w : World) :
  Calls Tryz.prog 72 #[] w fun e w' => ∃ ps po, e = .returned (.agg (serA some0 ps 1 po 2)) /\ Below w.heap.size w w' /\ SerIn w' some0 ps po := by
 go_enter Tryz.func72, Tryz.ntmps72
 go_wp2
 obtain ⟨W9, hW9⟩ : ∃ W9, W9 = ((((w.alloc (.cells #[.string { data := #[97] }, .int .i64 2, .int .i64 3, .int .i64 12, .int .i64 0, .slice (some ⟨w.heap.size + 1 + 1, 0, none⟩) 1 1, .slice (some ⟨w.heap.size + 1 + 1 + 1, 0, none⟩) 2 2] 25)).alloc (.cells #[.int .i64 0, .int .i64 2, .int .i64 4] 144)).alloc (.cells #[.int .i64 1, .slice (some ⟨w.heap.size + 1, 0, none⟩) 1 1, .int .i64 10, .int .i64 0, .int .i64 0, .int .i64 1, .slice none 0 0, .int .i64 1] 98)).alloc (.cells #[.int .i64 9, .int .i64 20, .int .i64 12, .int .i64 5] 91)) := ⟨_, rfl⟩
 have b1 : Blk ((((w.alloc (.cells #[.string { data := #[97] }, .int .i64 2, .int .i64 3, .int .i64 12, .int .i64 0, .slice (some ⟨w.heap.size + 1 + 1, 0, none⟩) 1 1, .slice (some ⟨w.heap.size + 1 + 1 + 1, 0, none⟩) 2 2] 25)).alloc (.cells #[.int .i64 0, .int .i64 2, .int .i64 4] 144)).alloc (.cells #[.int .i64 1, .slice (some ⟨w.heap.size + 1, 0, none⟩) 1 1, .int .i64 10, .int .i64 0, .int .i64 0, .int .i64 1, .slice none 0 0, .int .i64 1] 98)).alloc (.cells #[.int .i64 9, .int .i64 20, .int .i64 12, .int .i64 5] 91)) w.heap.size #[.string { data := #[97] }, .int .i64 2, .int .i64 3, .int .i64 12, .int .i64 0, .slice (some ⟨w.heap.size + 1 + 1, 0, none⟩) 1 1, .slice (some ⟨w.heap.size + 1 + 1 + 1, 0, none⟩) 2 2] 25 := blkAny2
 have b2 : Blk ((((w.alloc (.cells #[.string { data := #[97] }, .int .i64 2, .int .i64 3, .int .i64 12, .int .i64 0, .slice (some ⟨w.heap.size + 1 + 1, 0, none⟩) 1 1, .slice (some ⟨w.heap.size + 1 + 1 + 1, 0, none⟩) 2 2] 25)).alloc (.cells #[.int .i64 0, .int .i64 2, .int .i64 4] 144)).alloc (.cells #[.int .i64 1, .slice (some ⟨w.heap.size + 1, 0, none⟩) 1 1, .int .i64 10, .int .i64 0, .int .i64 0, .int .i64 1, .slice none 0 0, .int .i64 1] 98)).alloc (.cells #[.int .i64 9, .int .i64 20, .int .i64 12, .int .i64 5] 91)) (w.heap.size + 1) (runCells [⟨0, 2, 4⟩]) 144 := (blkAny2 : Blk _ (w.heap.size + 1) #[.int .i64 0, .int .i64 2, .int .i64 4] 144)
 have b3 : Blk ((((w.alloc (.cells #[.string { data := #[97] }, .int .i64 2, .int .i64 3, .int .i64 12, .int .i64 0, .slice (some ⟨w.heap.size + 1 + 1, 0, none⟩) 1 1, .slice (some ⟨w.heap.size + 1 + 1 + 1, 0, none⟩) 2 2] 25)).alloc (.cells #[.int .i64 0, .int .i64 2, .int .i64 4] 144)).alloc (.cells #[.int .i64 1, .slice (some ⟨w.heap.size + 1, 0, none⟩) 1 1, .int .i64 10, .int .i64 0, .int .i64 0, .int .i64 1, .slice none 0 0, .int .i64 1] 98)).alloc (.cells #[.int .i64 9, .int .i64 20, .int .i64 12, .int .i64 5] 91)) (w.heap.size + 1 + 1) #[.int .i64 1, .slice (some ⟨w.heap.size + 1, 0, none⟩) 1 1, .int .i64 10, .int .i64 0, .int .i64 0, .int .i64 1, .slice none 0 0, .int .i64 1] 98 := blkAny2
 have b4 : Blk ((((w.alloc (.cells #[.string { data := #[97] }, .int .i64 2, .int .i64 3, .int .i64 12, .int .i64 0, .slice (some ⟨w.heap.size + 1 + 1, 0, none⟩) 1 1, .slice (some ⟨w.heap.size + 1 + 1 + 1, 0, none⟩) 2 2] 25)).alloc (.cells #[.int .i64 0, .int .i64 2, .int .i64 4] 144)).alloc (.cells #[.int .i64 1, .slice (some ⟨w.heap.size + 1, 0, none⟩) 1 1, .int .i64 10, .int .i64 0, .int .i64 0, .int .i64 1, .slice none 0 0, .int .i64 1] 98)).alloc (.cells #[.int .i64 9, .int .i64 20, .int .i64 12, .int .i64 5] 91)) (w.heap.size + 1 + 1 + 1) #[.int .i64 9, .int .i64 20, .int .i64 12, .int .i64 5] 91 := blkAny2
 have hB : Below w.heap.size w ((((w.alloc (.cells #[.string { data := #[97] }, .int .i64 2, .int .i64 3, .int .i64 12, .int .i64 0, .slice (some ⟨w.heap.size + 1 + 1, 0, none⟩) 1 1, .slice (some ⟨w.heap.size + 1 + 1 + 1, 0, none⟩) 2 2] 25)).alloc (.cells #[.int .i64 0, .int .i64 2, .int .i64 4] 144)).alloc (.cells #[.int .i64 1, .slice (some ⟨w.heap.size + 1, 0, none⟩) 1 1, .int .i64 10, .int .i64 0, .int .i64 0, .int .i64 1, .slice none 0 0, .int .i64 1] 98)).alloc (.cells #[.int .i64 9, .int .i64 20, .int .i64 12, .int .i64 5] 91)) := belowAny
 rw [<- hW9] at b1 b2 b3 b4 hB ⊢
 clear hW9
 have k1 := b1.cell
 have y1 := b1.lt
 refine bodyPost_ret (v := .agg #[.string { data := #[97] }, .int .i64 2, .int .i64 3, .int .i64 12, .int .i64 0, .slice (some ⟨w.heap.size + 1 + 1, 0, none⟩) 1 1, .slice (some ⟨w.heap.size + 1 + 1 + 1, 0, none⟩) 2 2]) (by simp [results, Tryz.results72, go_sem, k1, y1]) rfl ⟨some ⟨w.heap.size + 1 + 1, 0, none⟩, some ⟨w.heap.size + 1 + 1 + 1, 0, none⟩, rfl, hB, ⟨⟨fun i s hs => ?_⟩, pts_in (n := 4) b4 rfl, by decide, by decide⟩⟩
 have hi : i = 0 := by
  have := (List.getElem?_eq_some_iff.1 hs).1
  simp [some0] at this
  exact this
 subst hi
 have e : s = ⟨1, [⟨0, 2, 4⟩], 10, 0, 0, 1, [], 1⟩ := (Option.some.inj hs).symm
 subst e
 refine ⟨w.heap.size + 1 + 1, 0, some ⟨w.heap.size + 1, 0, none⟩, none, 1, 0, rfl, fun j v hv => ?_, ⟨RunsIn.of_blk b2 _ [] rfl, ints_nil _ _, by decide, by decide⟩, Nat.le_refl _⟩
 rw [show 0 + 0 * 8 + j = j by omega, b3.cell]
 exact hv
theorem wakes26_w (nm : ByteArray) (L1 L3 : List AnsT) (P : List RunT) (r1 r0 : AnsT) (w : World) (h1 : Hid (L1[1]? = some r1)) (h0 : Hid (L3[0]? = some r0)) (e1 : Hid (r1.n = 2)) (e2 : Hid (r0.x = 9)) (e3 : Hid (r0.y = 11))
  (cP : ∀ W, Calls Tryz.prog 72 #[] W fun e w' => ∃ ps po, e = .returned (.agg #[.string nm, .int .i64 2, .int .i64 3, .int .i64 12, .int .i64 0, .slice ps 1 1, .slice po 2 2]) /\ Below W.heap.size W w' /\ SerIn w' some0 ps po)
  (cB1 : ∀ W ps po, SerIn W some0 ps po -> Calls Tryz.prog 38 #[.agg #[.string nm, .int .i64 2, .int .i64 3, .int .i64 12, .int .i64 0, .slice ps 1 1, .slice po 2 2], .int .i64 1, .int .i64 0, .int .i64 5, .int .i64 3] W fun e w' => ∃ p k, e = .returned (.tuple #[.slice p 3 k, .int .i64 0]) /\ AnsIn w' p L1 /\ Below W.heap.size W w')
  (cB3 : ∀ W ps po, SerIn W some0 ps po -> Calls Tryz.prog 38 #[.agg #[.string nm, .int .i64 2, .int .i64 3, .int .i64 12, .int .i64 0, .slice ps 1 1, .slice po 2 2], .int .i64 3, .int .i64 0, .int .i64 5, .int .i64 3] W fun e w' => ∃ p k, e = .returned (.tuple #[.slice p 3 k, .int .i64 0]) /\ AnsIn w' p L3 /\ Below W.heap.size W w')
  (cL : ∀ W ps po, SerIn W some0 ps po -> Calls Tryz.prog 34 #[.agg #[.string nm, .int .i64 2, .int .i64 3, .int .i64 12, .int .i64 0, .slice ps 1 1, .slice po 2 2], .int .i64 0, .int .i64 9] W fun e w' => ∃ p k, e = .returned (.tuple #[.slice p 2 k, .int .i64 0]) /\ RunsIn w' p P /\ Below W.heap.size W w')
  (cO : ∀ W ps po, SerIn W some0 ps po -> Calls Tryz.prog 33 #[.agg #[.string nm, .int .i64 2, .int .i64 3, .int .i64 12, .int .i64 0, .slice ps 1 1, .slice po 2 2], .int .i64 4, .int .i64 4, .int .i64 9] W fun e w' => e = .returned (.agg #[.int .i64 0, .int .i64 0, .int .i64 38, .int .i64 42, .int .i64 0, .int .i64 0, .int .i64 0, .int .i64 0, .int .i64 0]) /\ Below W.heap.size W w')
  (cB4 : ∀ W ps po, SerIn W some0 ps po -> Calls Tryz.prog 38 #[.agg #[.string nm, .int .i64 2, .int .i64 3, .int .i64 12, .int .i64 0, .slice ps 1 1, .slice po 2 2], .int .i64 4, .int .i64 0, .int .i64 0, .int .i64 1] W fun e w' => ∃ p k, e = .returned (.tuple #[.slice p 0 k, .int .i64 2]) /\ Below W.heap.size W w')
  (cE : ∀ W p k g, RunsIn W p P -> Blk W g #[.int .i64 2, .int .i64 0, .int .i64 2, .int .i64 3, .int .i64 0, .int .i64 1] 75 -> Calls Tryz.prog 35 #[.slice p 2 k, .slice (some ⟨g, 0, none⟩) 2 2] W fun e w' => e = .returned (.bool true) /\ Below W.heap.size W w')
  (cO6 : ∀ W ps po, SerIn W some0 ps po -> Calls Tryz.prog 33 #[.agg #[.string nm, .int .i64 2, .int .i64 3, .int .i64 12, .int .i64 0, .slice ps 1 1, .slice po 2 2], .int .i64 6, .int .i64 0, .int .i64 9] W fun e w' => e = .returned (.agg #[.int .i64 2, .int .i64 0, .int .i64 0, .int .i64 0, .int .i64 0, .int .i64 0, .int .i64 0, .int .i64 0, .int .i64 0]) /\ Below W.heap.size W w') :
  Calls Tryz.prog 28 #[] w fun e w' => e = .returned (.bool true) /\ Below w.heap.size w w' := by
 have H_cP := Lib.hid cP
 clear cP
 have H_cB1 := Lib.hid cB1
 clear cB1
 have H_cB3 := Lib.hid cB3
 clear cB3
 have H_cL := Lib.hid cL
 clear cL
 have H_cO := Lib.hid cO
 clear cO
 have H_cB4 := Lib.hid cB4
 clear cB4
 have H_cE := Lib.hid cE
 clear cE
 have H_cO6 := Lib.hid cO6
 clear cO6
 go_enter Tryz.func28, Tryz.ntmps28
 have cP := H_cP.out
 go_wp2_with fail
 refine (cP _).mono ?_
 rintro e w1 ⟨ps1, po1, rfl, hb1, hs1⟩
 clear cP
 have z2 := hb1.size
 try simp at z2
 have hW : Below w.heap.size w w1 := belowAny
 have cB1 := H_cB1.out
 go_wp2_with fail
 refine (cB1 _ ps1 po1 hs1).mono ?_
 rintro e w3 ⟨p1, q1, rfl, hA, hb3⟩
 clear cB1
 have z4 := hb3.size
 try simp at z4
 have hW : Below w.heap.size w w3 := belowAny
 clear hs1
 have b1 := hA
 clear hA
 have cP := H_cP.out
 go_wp2_with fail
 refine (cP _).mono ?_
 rintro e w5 ⟨ps2, po2, rfl, hb5, hs2⟩
 clear cP
 have z6 := hb5.size
 try simp at z6
 have b1 : AnsIn w5 p1 L1 := by first | exact b1 | exact b1.below (by assumption) | exact b1.below belowAny
 have hW : Below w.heap.size w w5 := belowAny
 have cB3 := H_cB3.out
 go_wp2_with fail
 refine (cB3 _ ps2 po2 hs2).mono ?_
 rintro e w7 ⟨p2, q2, rfl, hA, hb7⟩
 clear cB3
 have z8 := hb7.size
 try simp at z8
 have b1 : AnsIn w7 p1 L1 := by first | exact b1 | exact b1.below (by assumption) | exact b1.below belowAny
 have hW : Below w.heap.size w w7 := belowAny
 clear hs2
 have b2 := hA
 clear hA
 have cP := H_cP.out
 go_wp2_with fail
 refine (cP _).mono ?_
 rintro e w9 ⟨ps3, po3, rfl, hb9, hs3⟩
 clear cP
 have z10 := hb9.size
 try simp at z10
 have b1 : AnsIn w9 p1 L1 := by first | exact b1 | exact b1.below (by assumption) | exact b1.below belowAny
 have b2 : AnsIn w9 p2 L3 := by first | exact b2 | exact b2.below (by assumption) | exact b2.below belowAny
 have hW : Below w.heap.size w w9 := belowAny
 have cL := H_cL.out
 go_wp2_with fail
 refine (cL _ ps3 po3 hs3).mono ?_
 rintro e w11 ⟨p3, q3, rfl, hA, hb11⟩
 clear cL
 have z12 := hb11.size
 try simp at z12
 have b1 : AnsIn w11 p1 L1 := by first | exact b1 | exact b1.below (by assumption) | exact b1.below belowAny
 have b2 : AnsIn w11 p2 L3 := by first | exact b2 | exact b2.below (by assumption) | exact b2.below belowAny
 have hW : Below w.heap.size w w11 := belowAny
 clear hs3
 have b3 := hA
 clear hA
 have cP := H_cP.out
 go_wp2_with fail
 refine (cP _).mono ?_
 rintro e w13 ⟨ps4, po4, rfl, hb13, hs4⟩
 clear cP
 have z14 := hb13.size
 try simp at z14
 have b1 : AnsIn w13 p1 L1 := by first | exact b1 | exact b1.below (by assumption) | exact b1.below belowAny
 have b2 : AnsIn w13 p2 L3 := by first | exact b2 | exact b2.below (by assumption) | exact b2.below belowAny
 have b3 : RunsIn w13 p3 P := by first | exact b3 | exact b3.below (by assumption) | exact b3.below belowAny
 have hW : Below w.heap.size w w13 := belowAny
 have cO := H_cO.out
 go_wp2_with fail
 refine (cO _ ps4 po4 hs4).mono ?_
 rintro e w15 ⟨rfl, hb15⟩
 clear cO
 have z16 := hb15.size
 try simp at z16
 have b1 : AnsIn w15 p1 L1 := by first | exact b1 | exact b1.below (by assumption) | exact b1.below belowAny
 have b2 : AnsIn w15 p2 L3 := by first | exact b2 | exact b2.below (by assumption) | exact b2.below belowAny
 have b3 : RunsIn w15 p3 P := by first | exact b3 | exact b3.below (by assumption) | exact b3.below belowAny
 have hW : Below w.heap.size w w15 := belowAny
 clear hb15
 clear hs4
 have cP := H_cP.out
 go_wp2_with fail
 refine (cP _).mono ?_
 rintro e w17 ⟨ps5, po5, rfl, hb17, hs5⟩
 clear cP
 have z18 := hb17.size
 try simp at z18
 have b1 : AnsIn w17 p1 L1 := by first | exact b1 | exact b1.below (by assumption) | exact b1.below belowAny
 have b2 : AnsIn w17 p2 L3 := by first | exact b2 | exact b2.below (by assumption) | exact b2.below belowAny
 have b3 : RunsIn w17 p3 P := by first | exact b3 | exact b3.below (by assumption) | exact b3.below belowAny
 have b4 : Blk w17 w15.heap.size #[.int .i64 0, .int .i64 0, .int .i64 38, .int .i64 42, .int .i64 0, .int .i64 0, .int .i64 0, .int .i64 0, .int .i64 0] 67 := blkAny2
 have hW : Below w.heap.size w w17 := belowAny
 have z19 := b4.lt
 have k4 := b4.cell
 have f4 := b4.frozen
 have cB4 := H_cB4.out
 go_wp2_with fail
 refine (cB4 _ ps5 po5 hs5).mono ?_
 rintro e w20 ⟨p5, q5, rfl, hb20⟩
 clear cB4
 have z21 := hb20.size
 try simp at z21
 clear k4 f4
 have b1 : AnsIn w20 p1 L1 := by first | exact b1 | exact b1.below (by assumption) | exact b1.below belowAny
 have b2 : AnsIn w20 p2 L3 := by first | exact b2 | exact b2.below (by assumption) | exact b2.below belowAny
 have b3 : RunsIn w20 p3 P := by first | exact b3 | exact b3.below (by assumption) | exact b3.below belowAny
 have b4 : Blk w20 w15.heap.size #[.int .i64 0, .int .i64 0, .int .i64 38, .int .i64 42, .int .i64 0, .int .i64 0, .int .i64 0, .int .i64 0, .int .i64 0] 67 := blkAny2
 have hW : Below w.heap.size w w20 := belowAny
 have z22 := b4.lt
 have k4 := b4.cell
 have f4 := b4.frozen
 clear hs5
 obtain ⟨bc, oc, rfl, hc1⟩ := b1.at' 1 r1 h1.out
 obtain ⟨bm, om, rfl, hm1⟩ := b2.at' 0 r0 h0.out
 have u1 := hc1 1 _ rfl
 have u2 := hm1 2 _ rfl
 have u3 := hm1 3 _ rfl
 rw [e1.out] at u1
 rw [e2.out] at u2
 rw [e3.out] at u3
 simp only [Nat.one_mul, Nat.zero_mul, Nat.add_zero] at u1 u2 u3
 have v1 := cell_lt u1
 have v2 := cell_lt u2
 try simp only at v1 v2
 clear hc1 hm1
 clear b1 b2
 have b1 := b3
 clear b3
 have b2 := b4
 clear b4 k4 f4
 have k2 := b2.cell
 have f2 := b2.frozen
 have cE := H_cE.out
 go_wp2_with fail
 refine (cE _ p3 q3 _ (RunsIn.alloc b1 _) (Blk.new' rfl)).mono ?_
 rintro e w23 ⟨rfl, hb23⟩
 clear cE
 have z24 := hb23.size
 try simp at z24
 clear k2 f2
 have b1 : RunsIn w23 p3 P := by first | exact b1 | exact b1.below (by assumption) | exact b1.below belowAny
 have b2 : Blk w23 w15.heap.size #[.int .i64 0, .int .i64 0, .int .i64 38, .int .i64 42, .int .i64 0, .int .i64 0, .int .i64 0, .int .i64 0, .int .i64 0] 67 := blkAny2
 have b3 : Blk w23 w20.heap.size #[.int .i64 2, .int .i64 0, .int .i64 2, .int .i64 3, .int .i64 0, .int .i64 1] 75 := blkAny2
 have hW : Below w.heap.size w w23 := belowAny
 have z25 := b2.lt
 have z26 := b3.lt
 clear hb23
 have k2 := b2.cell
 have f2 := b2.frozen
 have k3 := b3.cell
 have f3 := b3.frozen
 have cP := H_cP.out
 go_wp2_with fail
 refine (cP _).mono ?_
 rintro e w27 ⟨ps6, po6, rfl, hb27, hs6⟩
 clear cP
 have z28 := hb27.size
 try simp at z28
 clear k2 f2 k3 f3
 have b1 : RunsIn w27 p3 P := by first | exact b1 | exact b1.below (by assumption) | exact b1.below belowAny
 have b2 : Blk w27 w15.heap.size #[.int .i64 0, .int .i64 0, .int .i64 38, .int .i64 42, .int .i64 0, .int .i64 0, .int .i64 0, .int .i64 0, .int .i64 0] 67 := blkAny2
 have b3 : Blk w27 w20.heap.size #[.int .i64 2, .int .i64 0, .int .i64 2, .int .i64 3, .int .i64 0, .int .i64 1] 75 := blkAny2
 have hW : Below w.heap.size w w27 := belowAny
 have z29 := b2.lt
 have z30 := b3.lt
 have k2 := b2.cell
 have f2 := b2.frozen
 have k3 := b3.cell
 have f3 := b3.frozen
 have cO6 := H_cO6.out
 go_wp2_with fail
 refine (cO6 _ ps6 po6 hs6).mono ?_
 rintro e w31 ⟨rfl, hb31⟩
 clear cO6
 have z32 := hb31.size
 try simp at z32
 clear k2 f2 k3 f3
 have b1 : RunsIn w31 p3 P := by first | exact b1 | exact b1.below (by assumption) | exact b1.below belowAny
 have b2 : Blk w31 w15.heap.size #[.int .i64 0, .int .i64 0, .int .i64 38, .int .i64 42, .int .i64 0, .int .i64 0, .int .i64 0, .int .i64 0, .int .i64 0] 67 := blkAny2
 have b3 : Blk w31 w20.heap.size #[.int .i64 2, .int .i64 0, .int .i64 2, .int .i64 3, .int .i64 0, .int .i64 1] 75 := blkAny2
 have hW : Below w.heap.size w w31 := belowAny
 have z33 := b2.lt
 have z34 := b3.lt
 clear hb31
 have k2 := b2.cell
 have f2 := b2.frozen
 have k3 := b3.cell
 have f3 := b3.frozen
 go_wp2
 have y_2 := b2.lt
 have y_3 := b3.lt
 refine bodyPost_ret (v := .bool true) (by simp [results, Tryz.results28, go_sem, k2, f2, k3, f3, y_2, y_3]) rfl ⟨rfl, by exact belowAny⟩
theorem pieces_lit {w : World} {g : Nat} {t : TypeId} (h : Blk w g #[.int .i64 2, .int .i64 0, .int .i64 2, .int .i64 3, .int .i64 0, .int .i64 1] t) : RunsIn w (some ⟨g, 0, none⟩) [⟨2, 0, 2⟩, ⟨3, 0, 1⟩] := RunsIn.of_blk (l := [⟨2, 0, 2⟩, ⟨3, 0, 1⟩]) h _ [] rfl
theorem some_asks : checkB some0 = true /\ planL some0 0 9 = [⟨2, 0, 2⟩, ⟨3, 0, 1⟩] /\ (bucketL some0 1 0 5 3)[1]? = some (ansT some0 1 5 9) /\ (ansT some0 1 5 9).n = 2 /\ (bucketL some0 3 0 5 3)[0]? = some (ansT some0 3 0 4) /\ (ansT some0 3 0 4).x = 9 /\ (ansT some0 3 0 4).y = 11 /\ oneA some0 4 4 9 = #[.int .i64 0, .int .i64 0, .int .i64 38, .int .i64 42, .int .i64 0, .int .i64 0, .int .i64 0, .int .i64 0, .int .i64 0] /\ oneA some0 6 0 9 = #[.int .i64 2, .int .i64 0, .int .i64 0, .int .i64 0, .int .i64 0, .int .i64 0, .int .i64 0, .int .i64 0, .int .i64 0] := by
 refine ⟨?_, ?_, ?_, ?_, ?_, ?_, ?_, ?_, ?_⟩ <;> kernel_rfl
theorem c_wakes26 (w : World) : Calls Tryz.prog 28 #[] w fun e w' => e = .returned (.bool true) /\ Below w.heap.size w w' := by
 obtain ⟨x1, x2, x3, x4, x5, x6, x7, x8, x9⟩ := some_asks
 have a1 : askedB 1 0 5 3 = true := by decide
 have a3 : askedB 3 0 5 3 = true := by decide
 have a4 : askedB 4 0 0 1 = false := by decide
 refine wakes26_w ⟨#[97]⟩ (bucketL some0 1 0 5 3) (bucketL some0 3 0 5 3) [⟨2, 0, 2⟩, ⟨3, 0, 1⟩] _ _ w (Lib.hid x3) (Lib.hid x5) (Lib.hid x4) (Lib.hid x6) (Lib.hid x7) (fun W => c_plain W) (fun W ps po h => ?_) (fun W ps po h => ?_) (fun W ps po h => ?_) (fun W ps po h => ?_) (fun W ps po h => ?_) (fun W p k g h1 h2 => ?_) (fun W ps po h => ?_)
 ·have t := c_bkBuckets some0 ps po 1 2 1 0 5 3 W h
  unfold bkL bkE at t
  rw [x1, a1] at t
  exact t
 ·have t := c_bkBuckets some0 ps po 1 2 3 0 5 3 W h
  unfold bkL bkE at t
  rw [x1, a3] at t
  exact t
 ·have t := c_bkPlan some0 ps po 1 2 0 9 W h
  unfold plL at t
  rw [x1, if_pos rfl, if_pos rfl, x2] at t
  exact t
 ·have t := c_bkOne some0 ps po 1 2 4 4 9 W h (by decide)
  rw [x8] at t
  exact t
 ·have t := c_bkBuckets some0 ps po 1 2 4 0 0 1 W h
  unfold bkL bkE at t
  rw [x1, a4] at t
  refine t.mono ?_
  rintro e w' ⟨p, k, he, _, hB⟩
  exact ⟨p, k, he, hB⟩
 ·have t := c_eqPiece p k (some ⟨g, 0, none⟩) 2 [⟨2, 0, 2⟩, ⟨3, 0, 1⟩] [⟨2, 0, 2⟩, ⟨3, 0, 1⟩] W (by decide) h1 (pieces_lit h2)
  rw [show decide (([⟨2, 0, 2⟩, ⟨3, 0, 1⟩] : List RunT) = [⟨2, 0, 2⟩, ⟨3, 0, 1⟩]) = true from decide_eq_true rfl] at t
  exact t
 ·have t := c_bkOne some0 ps po 1 2 6 0 9 W h (by decide)
  rw [x9] at t
  exact t
theorem Tryz.infoSeg : (Tryz.prog.info? 98).map (fun i => (i.zero, i.size, i.bytes)) = some (some (.agg #[.int .i64 0, .slice none 0 0, .int .i64 0, .int .i64 0, .int .i64 0, .int .i64 0, .slice none 0 0, .int .i64 0]), 8, 96) := by kernel_rfl
theorem add_zero_map (p : Option Addr) : (Option.map (fun x : Addr => x) p) = p := by cases p <;> rfl
theorem flatSegs_len (l : List SegR) : (flatSegs l).length = l.length * 8 := by
 unfold flatSegs
 induction l with
 | nil => rfl
 | cons x l ih => rw [List.flatMap_cons, List.length_append, ih, segRA_len, List.length_cons]; omega
theorem flatSegs_one {l : List SegR} (u : Value) (h : u ∈ flatSegs l) : u.oneCell' = true := by
 unfold flatSegs at h
 obtain ⟨r, _, hu⟩ := List.mem_flatMap.1 h
 unfold segRA segA at hu
 simp at hu
 rcases hu with rfl | rfl | rfl | rfl | rfl | rfl | rfl | rfl <;> rfl
def ownG (s : SegT) : SegT := ⟨s.K, s.runs.take 300, s.A, s.R, s.n, s.d, s.raw.take 300, s.E⟩
theorem RunsIn.rex1 {w w' : World} {p : Option Addr} {l : List RunT} {g : Nat} {L : List Nat} (h : RunsIn w p l) (hL : ∀ x, x ∈ L -> x <= g) (hg : ∀ a, p = some a -> g < a.block) (hr : Rex L w w') : RunsIn w' p l := ⟨fun i r hi => by
 obtain ⟨b, o, e, h1, h2, h3⟩ := h.at' i r hi
 have hb := hg _ e
 have key : ∀ z v, w.cell? ⟨b, z, none⟩ = some v -> w'.cell? ⟨b, z, none⟩ = some v := fun z v hv => (World.cell?_of_block (hr.block b (cell_lt hv) (fun hx => by have := hL _ hx; simp at hb; omega))).trans hv
 exact ⟨b, o, e, key _ _ h1, key _ _ h2, key _ _ h3⟩⟩
theorem IntsIn.rex1 {w w' : World} {p : Option Addr} {l : List Int} {g : Nat} {L : List Nat} (h : IntsIn w p l) (hL : ∀ x, x ∈ L -> x <= g) (hg : ∀ a, p = some a -> g < a.block) (hr : Rex L w w') : IntsIn w' p l := ⟨fun i r hi => by
 obtain ⟨b, o, e, h1⟩ := h.at' i r hi
 have hb := hg _ e
 exact ⟨b, o, e, (World.cell?_of_block (hr.block b (cell_lt h1) (fun hx => by have := hL _ hx; simp at hb; omega))).trans h1⟩⟩
structure OwnSeg (W : World) (g : Nat) (r0 r : SegR) : Prop where
 says : r.s = ownG r0.s
 runs : RunsIn W r.p r.s.runs
 raw : IntsIn W r.q r.s.raw
 capV : r.s.raw.length <= r.vc
 farR : ∀ a, r.p = some a -> g < a.block
 farV : ∀ a, r.q = some a -> g < a.block
theorem OwnSeg.rex {W W' : World} {g : Nat} {r0 r : SegR} {L : List Nat} (h : OwnSeg W g r0 r) (hL : ∀ x, x ∈ L -> x <= g) (hr : Rex L W W') : OwnSeg W' g r0 r := ⟨h.says, h.runs.rex1 hL h.farR hr, h.raw.rex1 hL h.farV hr, h.capV, h.farR, h.farV⟩
structure OwnTo (W : World) (g : Nat) (rows R : List SegR) (i : Nat) : Prop where
 len : R.length = rows.length
 rest : ∀ k, i <= k -> R[k]? = rows[k]?
 own : ∀ k, k < i -> ∀ r, R[k]? = some r -> ∃ r0, rows[k]? = some r0 /\ OwnSeg W g r0 r
theorem OwnTo.start (W : World) (g : Nat) (rows : List SegR) : OwnTo W g rows rows 0 := ⟨rfl, fun _ _ => rfl, fun k h => by omega⟩
theorem OwnTo.rex {W W' : World} {g i : Nat} {rows R : List SegR} {L : List Nat} (h : OwnTo W g rows R i) (hL : ∀ x, x ∈ L -> x <= g) (hr : Rex L W W') : OwnTo W' g rows R i := ⟨h.len, h.rest, fun k hk r hR => by
 obtain ⟨r0, h1, h2⟩ := h.own k hk r hR
 exact ⟨r0, h1, h2.rex hL hr⟩⟩
theorem OwnTo.step {W : World} {g i : Nat} {rows R : List SegR} {r0 r1 : SegR} (h : OwnTo W g rows R i) (h0 : rows[i]? = some r0) (h1 : OwnSeg W g r0 r1) : OwnTo W g rows (R.set i r1) (i + 1) := ⟨by rw [List.length_set]; exact h.len, fun k hk => by rw [List.getElem?_set_ne (by omega)]; exact h.rest k (by omega), fun k hk r hR => by
 rw [List.getElem?_set] at hR
 split at hR
 ·rename_i e
  subst e
  split at hR
  ·injection hR with hR
   subst hR
   exact ⟨r0, h0, h1⟩
  ·cases hR
 ·exact h.own k (by omega) r hR⟩
theorem segRA_runs (r : SegR) (l : List RunT) (p : Option Addr) (c : Nat) : segRA ⟨⟨r.s.K, l, r.s.A, r.s.R, r.s.n, r.s.d, r.s.raw, r.s.E⟩, p, r.q, c, r.vc⟩ = (segRA r).setIfInBounds 1 (.slice p l.length c) := rfl
theorem segRA_raw (r : SegR) (l : List Int) (q : Option Addr) (c : Nat) : segRA ⟨⟨r.s.K, r.s.runs, r.s.A, r.s.R, r.s.n, r.s.d, l, r.s.E⟩, r.p, q, r.cap, c⟩ = (segRA r).setIfInBounds 6 (.slice q l.length c) := rfl
theorem Tryz.infoPt : (Tryz.prog.info? 91).map (fun i => (i.zero, i.size, i.bytes)) = some (some (.agg #[.int .i64 0, .int .i64 0]), 2, 16) := by kernel_rfl
theorem flatPts_len9 : ∀ l : List (Int × Int), (flatPts l).length = l.length * 2
 | [] => rfl
 | x :: l => by
  rw [show flatPts (x :: l) = [.int .i64 x.1, .int .i64 x.2] ++ flatPts l from rfl, List.length_append, flatPts_len9 l]
  simp only [List.length_cons, List.length_nil]
  omega
theorem flatPts_one9 : ∀ (l : List (Int × Int)) (u : Value), u ∈ flatPts l -> u.oneCell' = true
 | [], u, h => by simp [flatPts] at h
 | x :: l, u, h => by
  rw [show flatPts (x :: l) = [.int .i64 x.1, .int .i64 x.2] ++ flatPts l from rfl] at h
  simp only [List.mem_append, List.mem_cons, List.not_mem_nil, or_false] at h
  rcases h with (rfl | rfl) | h
  ·rfl
  ·rfl
  ·exact flatPts_one9 l u h
theorem flatPts_flat : ∀ l : List (Int × Int), flatPts l = l.flatMap fun x => [.int .i64 x.1, .int .i64 x.2]
 | [] => rfl
 | x :: l => by rw [List.flatMap_cons, <- flatPts_flat l]; rfl
theorem pts_flat9 {w : World} {a : Addr} {l : List (Int × Int)} (h : PtsIn w (some a) l) (j : Nat) (u : Value) (hu : (flatPts l)[j]? = some u) : w.cell? (a.add j) = some u := by
 rw [flatPts_flat] at hu
 obtain ⟨i, x, k, h1, h2, rfl, h3⟩ := flat_of _ 2 (by omega) (fun _ => rfl) l j u hu
 obtain ⟨b, o, e, c0, c1⟩ := h.at' i x h1
 injection e with e
 subst e
 rw [show (⟨b, o, none⟩ : Addr).add (i * 2 + k) = ⟨b, o + i * 2 + k, none⟩ by unfold Addr.add; split <;> simp_all <;> omega]
 match k, h2, h3 with
 | 0, _, h3 => simp at h3; subst h3; exact c0
 | 1, _, h3 => simp at h3; subst h3; exact c1
theorem PtsIn.take9 {w : World} {p : Option Addr} {l : List (Int × Int)} (h : PtsIn w p l) (k : Nat) : PtsIn w p (l.take k) := ⟨fun i r hr => h.at' i r (by
 rw [List.getElem?_take] at hr
 split at hr
 ·exact hr
 ·cases hr)⟩
def ownRel (w : World) (nm : ByteArray) (ep fl la sc : Int) (po : Option Addr) (co np : Nat) (rows : List SegR) (M gS capS : Nat) (a' : Act) (W : World) : Prop :=
 Below w.heap.size w W /\ Blk W w.heap.size #[.string nm, .int .i64 ep, .int .i64 fl, .int .i64 la, .int .i64 sc, .slice (some ⟨gS, 0, none⟩) M capS, .slice po np co] 25 /\ Blk W (w.heap.size + 1) #[.string .empty, .int .i64 0, .int .i64 0, .int .i64 0, .int .i64 0, .slice none 0 0, .slice none 0 0] 25 /\ ∃ (i : Nat) (cur : Array Value) (R : List SegR), Blk W gS cur 98 /\ SegCells cur R /\ OwnTo W gS rows R i /\ (∃ u : Nat -> Value, a' = { tmps := #[u 0, .pointer (some ⟨w.heap.size, 0, none⟩), .pointer (some ⟨w.heap.size + 1, 0, none⟩), u 3, u 4, u 5, u 6, u 7, u 8, u 9, u 10, u 11, u 12, u 13, u 14, u 15, .slice (some ⟨gS, 0, none⟩) M capS, .int .i64 (M : Int), .int .i64 (i : Int), u 19, u 20, u 21, u 22, u 23, u 24, u 25, u 26, u 27, u 28, u 29, u 30, u 31, u 32, u 33, u 34, u 35, u 36, u 37, u 38, u 39, u 40, u 41, u 42, u 43, u 44, u 45, u 46, u 47, u 48, u 49, u 50, u 51, u 52, u 53, u 54, u 55, u 56, u 57, u 58, u 59, u 60, u 61, u 62], defers := [] }) /\ i <= M
def RowOwn (w : World) (e : TypeId) (n k : Nat) (news : List Value) (v : Value) (w' : World) : Prop := ∃ g cap' cur, v = .slice (some ⟨g, 0, none⟩) n cap' /\ w.heap.size <= g /\ Blk w' g cur e /\ n <= cap' /\ cur.toList.take k = news
theorem cloneSeg_some (a : Addr) (cap : Nat) (rows : List SegR) (w : World) (hl : rows.length <= 100) (h : SegsCame w (some a) rows) : Calls Tryz.prog 73 #[.slice (some a) rows.length cap] w fun e w' => ∃ v, e = .returned v /\ Below w.heap.size w w' /\ RowOwn w 98 rows.length (rows.length * 8) (flatSegs rows) v w' := by
 have hnil : ∀ W, (binOp .eql 22 (.slice (some a) rows.length cap) (.slice none 0 0)).run Tryz.prog W = .ok (.bool false) W := fun W => Lib.run_eql_slice_nil W 22 98 _ _ _ _ _ (by kernel_rfl)
 go_enter Tryz.func73, Tryz.ntmps73
 go_upto_region 3 with (fail)
 clear hnil
 have hmk : ∀ W, (Instr.buildSlice 22 0 #[]).run Tryz.prog W = .ok (.slice (some ⟨W.heap.size, 0, none⟩) 0 0) (W.alloc (.cells #[] 98)) := fun W => by kernel_rfl
 obtain ⟨i, hi, hz0, hz1, hz2⟩ := info_parts Tryz.infoSeg
 have hW : Below w.heap.size w (w.alloc (.cells #[] 98)) := belowAny
 have hown0 := World.ownsRow_made (e := 98) (size := 8) (base := w.heap.size) w #[] 0 (Nat.le_refl _) (by simp [maxLen]) (by simp)
 go_wp2_with (at_builtin; refine wpList_append_own _ rfl (.tmp 5) (.tmp 6) 22 rfl w.heap.size 98 i _ 8 96 (by kernel_rfl) hi hz0 hz1 hz2 rfl (by omega) _ 0 [] rfl hown0 a rows.length cap (flatSegs rows) rfl (by rw [flatSegs_len]) (fun j u hu => (h.below hW).flat a rfl j u hu) (fun v hv => flatSegs_one v hv) (by simp [maxLen]; omega) (by omega) (by simp) ?_)
 intro v' w' hown hgr hvn
 have hB := Lib.hid (clone_below hgr)
 replace hown := Lib.hid hown
 replace hvn := Lib.hid hvn
 clear hgr
 go_wp2
 go_ret
 obtain ⟨_, h2 | ⟨g, cap', cur, rfl, hg, hb, hn, _, hc, ht⟩⟩ := hown.out
 ·exact (hvn.out h2.1).elim
 ·exact ⟨_, rfl, hB.out, g, cap', cur, by simp, hg, hb, by omega, by simpa using ht⟩
theorem clonePt_some (a : Addr) (cap : Nat) (l : List (Int × Int)) (w : World) (hl : l.length <= 100) (h : PtsIn w (some a) l) : Calls Tryz.prog 74 #[.slice (some a) l.length cap] w fun e w' => ∃ v, e = .returned v /\ Below w.heap.size w w' /\ RowOwn w 91 l.length (l.length * 2) (flatPts l) v w' := by
 have hnil : ∀ W, (binOp .eql 23 (.slice (some a) l.length cap) (.slice none 0 0)).run Tryz.prog W = .ok (.bool false) W := fun W => Lib.run_eql_slice_nil W 23 91 _ _ _ _ _ (by kernel_rfl)
 go_enter Tryz.func74, Tryz.ntmps74
 go_upto_region 3 with (fail)
 clear hnil
 have hmk : ∀ W, (Instr.buildSlice 23 0 #[]).run Tryz.prog W = .ok (.slice (some ⟨W.heap.size, 0, none⟩) 0 0) (W.alloc (.cells #[] 91)) := fun W => by kernel_rfl
 obtain ⟨i, hi, hz0, hz1, hz2⟩ := info_parts Tryz.infoPt
 have hW : Below w.heap.size w (w.alloc (.cells #[] 91)) := belowAny
 have hown0 := World.ownsRow_made (e := 91) (size := 2) (base := w.heap.size) w #[] 0 (Nat.le_refl _) (by simp [maxLen]) (by simp)
 go_wp2_with (at_builtin; refine wpList_append_own _ rfl (.tmp 5) (.tmp 6) 23 rfl w.heap.size 91 i _ 2 16 (by kernel_rfl) hi hz0 hz1 hz2 rfl (by omega) _ 0 [] rfl hown0 a l.length cap (flatPts l) rfl (by rw [flatPts_len9]) (fun j u hu => pts_flat9 (h.below hW) j u hu) (fun v hv => flatPts_one9 l v hv) (by simp [maxLen]; omega) (by omega) (by simp) ?_)
 intro v' w' hown hgr hvn
 have hB := Lib.hid (clone_below hgr)
 replace hown := Lib.hid hown
 replace hvn := Lib.hid hvn
 clear hgr
 go_wp2
 go_ret
 obtain ⟨_, h2 | ⟨g, cap', cur, rfl, hg, hb, hn, _, hc, ht⟩⟩ := hown.out
 ·exact (hvn.out h2.1).elim
 ·exact ⟨_, rfl, hB.out, g, cap', cur, by simp, hg, hb, by omega, by simpa using ht⟩
theorem cloneSeg_nil (w : World) : Calls Tryz.prog 73 #[.slice none 0 0] w fun e w' => e = .returned (.slice none 0 0) /\ Below w.heap.size w w' := by
 go_enter Tryz.func73, Tryz.ntmps73
 have hnil : ∀ W, (binOp .eql 22 (.slice none 0 0) (.slice none 0 0)).run Tryz.prog W = .ok (.bool true) W := fun W => by kernel_rfl
 go_wp2
 go_ret
 exact ⟨rfl, belowAny⟩
theorem clonePt_nil (w : World) : Calls Tryz.prog 74 #[.slice none 0 0] w fun e w' => e = .returned (.slice none 0 0) /\ Below w.heap.size w w' := by
 go_enter Tryz.func74, Tryz.ntmps74
 have hnil : ∀ W, (binOp .eql 23 (.slice none 0 0) (.slice none 0 0)).run Tryz.prog W = .ok (.bool true) W := fun W => by kernel_rfl
 go_wp2
 go_ret
 exact ⟨rfl, belowAny⟩
theorem c_CloneRunO (p : Option Addr) (cap : Nat) (l : List RunT) (w : World) (hl : l.length <= 300) (h : RunsIn w p l) (hn : p = none -> l.length = 0 /\ cap = 0) :
  Calls Tryz.prog 75 #[.slice p l.length cap] w (CloneR w p l) := by
 cases p with
 | none =>
  obtain ⟨h1, rfl⟩ := hn rfl
  have e : l = [] := List.length_eq_zero_iff.1 h1
  subst e
  exact cloneRun_nil w
 | some a => exact cloneRun_some a cap l w hl h
theorem c_CloneIntO (p : Option Addr) (cap : Nat) (l : List Int) (w : World) (hl : l.length <= 300) (h : IntsIn w p l) (hn : p = none -> l.length = 0 /\ cap = 0) :
  Calls Tryz.prog 76 #[.slice p l.length cap] w (CloneI w p l) := by
 cases p with
 | none =>
  obtain ⟨h1, rfl⟩ := hn rfl
  have e : l = [] := List.length_eq_zero_iff.1 h1
  subst e
  exact cloneInt_nil w
 | some a => exact cloneInt_some a cap l w hl h
end Go.Proofs.YtidfcoooccblaaaGreat
