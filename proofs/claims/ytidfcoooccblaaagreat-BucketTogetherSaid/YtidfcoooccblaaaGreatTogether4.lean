/- Parts of the proof that follows: Layer fsum: add. | Layer fsum: steps. | Layer fsum: Line$1, tells. | Layer fsum: Line. | Layer fsum: what Line comes to. | Layer fsum: what Line comes to. | Layer runs: last, sure, what rises defers. | Layer runs: what a row of runs is laid as; many. | Layer runs: rises. -/
import Derived.Laws.EntriesVeiled
import Derived.Tactics
import Derived.Tactics2
import Derived.Defers
import Derived.Recover
import Derived.Laws.Pointers
import Derived.Test.YtidfcoooccblaaaGreatTogether3
set_option maxRecDepth 100000
set_option maxHeartbeats 8000000
set_option linter.unusedSimpArgs false
set_option linter.unusedVariables false
namespace Go.Proofs.YtidfcoooccblaaaGreat
open Go.RowKit
attribute [local simp] Oper.looksAt Op.operands Call.operands envOf Det GDet
theorem add_w (g : Nat) (sh sl n ah al bh bl m xh xl t ph pl rh rl e1 e2 : Int) (w : World) (hg : Blk w g #[sh, .int .u64 sl, n, ah, .int .u64 al, bh, .int .u64 bl, m] 311)
  (c1 : ∀ w, Calls Tryz.prog 241 #[.agg #[xh, .int .u64 xl], t] w fun e w' => e = .returned (.tuple #[.agg #[ph, .int .u64 pl], e1]) /\ Below w.heap.size w w')
  (c2 : ∀ w, Calls Tryz.prog 16 #[.agg #[sh, .int .u64 sl], .agg #[ph, .int .u64 pl]] w fun e w' => e = .returned (.tuple #[.agg #[rh, .int .u64 rl], e2]) /\ Below w.heap.size w w') :
  Calls Tryz.prog 236 #[.pointer (some ⟨g, 0, none⟩), .agg #[xh, .int .u64 xl], t] w fun e w' => e = .returned (.tuple #[]) /\ Rex [g] w w' /\ Blk w' g #[rh, .int .u64 rl, n, ah, .int .u64 al, bh, .int .u64 bl, m] 311 := by
 have y0 := hg.lt
 have H_c1 := Lib.hid c1
 clear c1
 have H_c2 := Lib.hid c2
 clear c2
 go_enter Tryz.func236, Tryz.ntmps236
 go_upto_region 1 with (fail)
 refine wp_facts (fun W' => Rex [g] w W' /\ Blk W' g #[sh, .int .u64 sl, n, ah, .int .u64 al, bh, .int .u64 bl, m] 311 /\ Blk W' w.heap.size #[xh, .int .u64 xl] 36) ⟨by exact rexAny, by exact blkAny, by exact blkAny⟩ ?_
 rintro W1 ⟨hW, b1, b2⟩
 have z2 := hW.size
 have z3 := b1.lt
 have z4 := b2.lt
 have k1 := b1.cell
 have f1 := b1.frozen
 have k2 := b2.cell
 have f2 := b2.frozen
 have c1 := H_c1.out
 go_wp2_with fail
 refine (c1 _).mono ?_
 rintro e w5 ⟨rfl, hb5⟩
 clear c1
 have z6 := hb5.size
 try simp at z6
 clear k1 f1 k2 f2
 have b1 : Blk w5 g #[sh, .int .u64 sl, n, ah, .int .u64 al, bh, .int .u64 bl, m] 311 := blkAny
 have b2 : Blk w5 w.heap.size #[xh, .int .u64 xl] 36 := blkAny
 have hW : Rex [g] w w5 := rexAny
 have z7 := b1.lt
 have z8 := b2.lt
 clear hb5
 have k1 := b1.cell
 have f1 := b1.frozen
 have k2 := b2.cell
 have f2 := b2.frozen
 go_upto_region 2 with (fail)
 clear k1 f1 k2 f2
 refine wp_facts (fun W' => Rex [g] w W' /\ Blk W' g #[sh, .int .u64 sl, n, ah, .int .u64 al, bh, .int .u64 bl, m] 311 /\ Blk W' w.heap.size #[ph, .int .u64 pl] 36) ⟨by exact rexAny, by exact blkAny, by exact blkAny⟩ ?_
 clear b1 b2 hW
 rintro W9 ⟨hW, b1, b2⟩
 have z10 := hW.size
 have z11 := b1.lt
 have z12 := b2.lt
 have c2 := H_c2.out
 refine wp_region_nd 12 24 [] (fun W' => Rex [] W9 W' /\ Blk W' g #[sh, .int .u64 sl, n, ah, .int .u64 al, bh, .int .u64 bl, m] 311 /\ Blk W' w.heap.size #[ph, .int .u64 pl] 36) mixed (by kernel_rfl) rfl ⟨(Rex.refl _ _).drew, b1, b2⟩ (fun w w' ⟨h0, h1, h2⟩ hr => ⟨h0.trans hr, h1.rex hr (by simp <;> omega), h2.rex hr (by simp <;> omega)⟩) (fun c a d v w h => by cases d <;> exact h) ?_
 iterate 6
  apply nd_det (hg := rfl) (hal := rfl)
  ·intro a W' hC hE
   obtain ⟨_, k1, k2⟩ := hC
   have k1 := k1.cell
   have k2 := k2.cell
   first
    | (simp at hE; simp [go_sem, Act.eval, IntWalk.i64_left, hE, k1, k2]; try rfl)
    | (clear hE; simp [go_sem, Act.eval, IntWalk.i64_left, k1, k2]; try rfl)
 refine nd_callv2 rfl rfl (fun W' hC => c2 W') (fun a W' hC hE => ?_) ?_
 ·obtain ⟨_, k1, k2⟩ := hC
  have k1 := k1.cell
  have k2 := k2.cell
  first
   | (simp at hE; simp [go_sem, Act.eval, IntWalk.i64_left, hE, k1, k2]; try rfl)
   | (clear hE; simp [go_sem, Act.eval, IntWalk.i64_left, k1, k2]; try rfl)
 iterate 5
  apply nd_det (hg := rfl) (hal := rfl)
  ·intro a W' hC hE
   obtain ⟨_, k1, k2⟩ := hC
   have k1 := k1.cell
   have k2 := k2.cell
   first
    | (simp at hE; simp [go_sem, Act.eval, IntWalk.i64_left, hE, k1, k2]; try rfl)
    | (clear hE; simp [go_sem, Act.eval, IntWalk.i64_left, k1, k2]; try rfl)
 rintro W13 ⟨hR, d1, d2⟩
 simp only [ndFinR, Det, forall_eq]
 intros
 repeat (rename GDet _ _ _ _ => hgd; clear hgd)
 simp only [Act.put, List.setIfInBounds_toArray, List.set_cons_zero, List.set_cons_succ, List.drop_succ_cons, List.drop_zero]
 replace hW := hW.trans (hR.more (by simp))
 clear hR
 clear c2
 try clear b1 b2
 have b1 := d1
 clear d1
 have b2 := d2
 clear d2
 have k1 := b1.cell
 have f1 := b1.frozen
 have k2 := b2.cell
 have f2 := b2.frozen
 go_wp2
 refine bodyPost_end (results_none rfl _ _ _) rfl ⟨rfl, rexAny, blkAny⟩
def rowCells (s n a b m : Int) : Array Value := #[.int .i64 (hiW s), .int .u64 (loW s), n, .int .i64 (hiW a), .int .u64 (loW a), .int .i64 (hiW b), .int .u64 (loW b), m]
theorem c_add (g : Nat) (s n a b m x t : Int) (w : World) (hg : Blk w g (rowCells s n a b m) 311) (hs : W128 s) (hx : W128 x) (ht : I64 t) (h1 : W128 (x * t)) (h2 : W128 (s + x * t)) :
  Calls Tryz.prog 236 #[.pointer (some ⟨g, 0, none⟩), wideV x, t] w fun e w' => e = .returned (.tuple #[]) /\ Rex [g] w w' /\ Blk w' g (rowCells (s + x * t) n a b m) 311 := by
 have c1 := fun w => c_Scale x t w hx ht
 rw [inW_in h1] at c1
 have c2 := fun w => c_Add s (x * t) w hs h1
 rw [inW_in h2, wrapW_in h2] at c2
 exact add_w g _ _ n _ _ _ _ m _ _ t _ _ _ _ _ _ w hg c1 c2
theorem steps_w (g : Nat) (sh sl s1h s1l s2h s2l s3h s3l n ah al bh bl m qh ql ar rh rl br p sm smh sml : Int) (w : World) (hg : Blk w g #[sh, .int .u64 sl, n, ah, .int .u64 al, bh, .int .u64 bl, m] 311)
  (c1 : ∀ w, Calls Tryz.prog 61 #[.agg #[ah, .int .u64 al], m] w fun e w' => e = .returned (.tuple #[.agg #[qh, .int .u64 ql], ar, .int .i64 0]) /\ Below w.heap.size w w')
  (c2 : ∀ w, Calls Tryz.prog 243 #[n] w fun e w' => e = .returned (p) /\ Below w.heap.size w w')
  (c3 : ∀ w, Blk w g #[sh, .int .u64 sl, n, ah, .int .u64 al, bh, .int .u64 bl, m] 311 -> Calls Tryz.prog 236 #[.pointer (some ⟨g, 0, none⟩), .agg #[qh, .int .u64 ql], p] w fun e w' => e = .returned (.tuple #[]) /\ Rex [g] w w' /\ Blk w' g #[s1h, .int .u64 s1l, n, ah, .int .u64 al, bh, .int .u64 bl, m] 311)
  (c4 : ∀ w, Calls Tryz.prog 61 #[.agg #[bh, .int .u64 bl], m] w fun e w' => e = .returned (.tuple #[.agg #[rh, .int .u64 rl], br, .int .i64 0]) /\ Below w.heap.size w w')
  (c5 : ∀ w, Blk w g #[s1h, .int .u64 s1l, n, ah, .int .u64 al, bh, .int .u64 bl, m] 311 -> Calls Tryz.prog 236 #[.pointer (some ⟨g, 0, none⟩), .agg #[rh, .int .u64 rl], n] w fun e w' => e = .returned (.tuple #[]) /\ Rex [g] w w' /\ Blk w' g #[s2h, .int .u64 s2l, n, ah, .int .u64 al, bh, .int .u64 bl, m] 311)
  (c6 : ∀ w, Calls Tryz.prog 244 #[n, ar, br, m] w fun e w' => e = .returned (sm) /\ Below w.heap.size w w')
  (c7 : ∀ w, Calls Tryz.prog 117 #[sm] w fun e w' => e = .returned (.agg #[smh, .int .u64 sml]) /\ Below w.heap.size w w')
  (c8 : ∀ w, Blk w g #[s2h, .int .u64 s2l, n, ah, .int .u64 al, bh, .int .u64 bl, m] 311 -> Calls Tryz.prog 236 #[.pointer (some ⟨g, 0, none⟩), .agg #[smh, .int .u64 sml], .int .i64 1] w fun e w' => e = .returned (.tuple #[]) /\ Rex [g] w w' /\ Blk w' g #[s3h, .int .u64 s3l, n, ah, .int .u64 al, bh, .int .u64 bl, m] 311) :
  Calls Tryz.prog 240 #[.pointer (some ⟨g, 0, none⟩)] w fun e w' => e = .returned (.tuple #[]) /\ Rex [g] w w' /\ Blk w' g #[s3h, .int .u64 s3l, n, ah, .int .u64 al, bh, .int .u64 bl, m] 311 := by
 have y0 := hg.lt
 have hmf : ∀ (fn : Fn) (first cap : Array Value) (w : World), (Instr.makeFunc fn first cap).run Tryz.prog w = .ok (.func fn first cap) w := fun _ _ _ _ => rfl
 have H_c1 := Lib.hid c1
 clear c1
 have H_c2 := Lib.hid c2
 clear c2
 have H_c3 := Lib.hid c3
 clear c3
 have H_c4 := Lib.hid c4
 clear c4
 have H_c5 := Lib.hid c5
 clear c5
 have H_c6 := Lib.hid c6
 clear c6
 have H_c7 := Lib.hid c7
 clear c7
 have H_c8 := Lib.hid c8
 clear c8
 go_enter Tryz.func240, Tryz.ntmps240
 go_upto_region 1 with (fail)
 refine wp_facts (fun W' => Rex [g] w W' /\ Blk W' g #[sh, .int .u64 sl, n, ah, .int .u64 al, bh, .int .u64 bl, m] 311) ⟨by exact rexAny, by exact blkAny⟩ ?_
 rintro W1 ⟨hW, b1⟩
 have z2 := hW.size
 have z3 := b1.lt
 have c1 := H_c1.out
 refine wp_region_nd 14 67 [] (fun W' => Rex [] W1 W' /\ Blk W' g #[sh, .int .u64 sl, n, ah, .int .u64 al, bh, .int .u64 bl, m] 311) mixed (by kernel_rfl) rfl ⟨(Rex.refl _ _).drew, b1⟩ (fun w w' ⟨h0, h1⟩ hr => ⟨h0.trans hr, h1.rex hr (by simp <;> omega)⟩) (fun c a d v w h => by cases d <;> exact h) ?_
 iterate 8
  apply nd_det (hg := rfl) (hal := rfl)
  ·intro a W' hC hE
   obtain ⟨_, k1⟩ := hC
   have k1 := k1.cell
   first
    | (simp at hE; simp [go_sem, Act.eval, IntWalk.i64_left, hE, k1]; try rfl)
    | (clear hE; simp [go_sem, Act.eval, IntWalk.i64_left, k1]; try rfl)
 refine nd_callv2 rfl rfl (fun W' hC => c1 W') (fun a W' hC hE => ?_) ?_
 ·obtain ⟨_, k1⟩ := hC
  have k1 := k1.cell
  first
   | (simp at hE; simp [go_sem, Act.eval, IntWalk.i64_left, hE, k1]; try rfl)
   | (clear hE; simp [go_sem, Act.eval, IntWalk.i64_left, k1]; try rfl)
 iterate 4
  apply nd_det (hg := rfl) (hal := rfl)
  ·intro a W' hC hE
   obtain ⟨_, k1⟩ := hC
   have k1 := k1.cell
   first
    | (simp at hE; simp [go_sem, Act.eval, IntWalk.i64_left, hE, k1]; try rfl)
    | (clear hE; simp [go_sem, Act.eval, IntWalk.i64_left, k1]; try rfl)
 apply nd_alloc W1.heap.size #[.int .i64 0, .int .u64 0] 36 rfl rfl
 ·exact fun W' hC => hC.1.size
 ·simp [others] <;> omega
 ·intro w; kernel_rfl
 rintro W4 ⟨hR, d1⟩
 simp only [ndFinR, Det, forall_eq]
 intros
 repeat (rename GDet _ _ _ _ => hgd; clear hgd)
 simp only [Act.put, List.setIfInBounds_toArray, List.set_cons_zero, List.set_cons_succ, List.drop_succ_cons, List.drop_zero]
 replace hW := hW.trans (hR.more (by simp))
 clear hR
 clear c1
 try clear b1
 have b1 := d1
 clear d1
 obtain ⟨v, rfl, hg_v, b2⟩ := ‹NewVar _ _ _ _ _›
 have z5 := b2.lt
 have k1 := b1.cell
 have f1 := b1.frozen
 have k2 := b2.cell
 have f2 := b2.frozen
 go_upto_region 2 with (fail)
 clear k1 f1 k2 f2
 refine wp_facts (fun W' => Rex [g] w W' /\ Blk W' g #[sh, .int .u64 sl, n, ah, .int .u64 al, bh, .int .u64 bl, m] 311 /\ Blk W' v #[qh, .int .u64 ql] 36) ⟨by exact rexAny, by exact blkAny, by exact blkAny⟩ ?_
 clear b1 b2 hW
 rintro W6 ⟨hW, b1, b2⟩
 have z7 := hW.size
 have z8 := b1.lt
 have z9 := b2.lt
 have c2 := H_c2.out
 refine wp_region_nd 7 67 [] (fun W' => Rex [] W6 W' /\ Blk W' g #[sh, .int .u64 sl, n, ah, .int .u64 al, bh, .int .u64 bl, m] 311 /\ Blk W' v #[qh, .int .u64 ql] 36) mixed (by kernel_rfl) rfl ⟨(Rex.refl _ _).drew, b1, b2⟩ (fun w w' ⟨h0, h1, h2⟩ hr => ⟨h0.trans hr, h1.rex hr (by simp <;> omega), h2.rex hr (by simp <;> omega)⟩) (fun c a d v w h => by cases d <;> exact h) ?_
 iterate 6
  apply nd_det (hg := rfl) (hal := rfl)
  ·intro a W' hC hE
   obtain ⟨_, k1, k2⟩ := hC
   have k1 := k1.cell
   have k2 := k2.cell
   first
    | (simp at hE; simp [go_sem, Act.eval, IntWalk.i64_left, hE, k1, k2]; try rfl)
    | (clear hE; simp [go_sem, Act.eval, IntWalk.i64_left, k1, k2]; try rfl)
 refine nd_callv2 rfl rfl (fun W' hC => c2 W') (fun a W' hC hE => ?_) ?_
 ·obtain ⟨_, k1, k2⟩ := hC
  have k1 := k1.cell
  have k2 := k2.cell
  first
   | (simp at hE; simp [go_sem, Act.eval, IntWalk.i64_left, hE, k1, k2]; try rfl)
   | (clear hE; simp [go_sem, Act.eval, IntWalk.i64_left, k1, k2]; try rfl)
 rintro W10 ⟨hR, d1, d2⟩
 simp only [ndFinR, Det, forall_eq]
 intros
 repeat (rename GDet _ _ _ _ => hgd; clear hgd)
 simp only [Act.put, List.setIfInBounds_toArray, List.set_cons_zero, List.set_cons_succ, List.drop_succ_cons, List.drop_zero]
 replace hW := hW.trans (hR.more (by simp))
 clear hR
 clear c2
 try clear b1 b2
 have b1 := d1
 clear d1
 have b2 := d2
 clear d2
 have k1 := b1.cell
 have f1 := b1.frozen
 have k2 := b2.cell
 have f2 := b2.frozen
 have c3 := H_c3.out
 go_wp2_with fail
 refine (c3 _ (blkAny)).mono ?_
 rintro e w11 ⟨rfl, hb11, hn11⟩
 clear c3
 have z12 := hb11.size
 try simp at z12
 clear k1 f1 k2 f2
 have b1 : Blk w11 g #[s1h, .int .u64 s1l, n, ah, .int .u64 al, bh, .int .u64 bl, m] 311 := by exact hn11
 have b2 : Blk w11 v #[qh, .int .u64 ql] 36 := blkAny
 have hW : Rex [g] w w11 := rexAny
 have z13 := b1.lt
 have z14 := b2.lt
 clear hb11 hn11
 have k1 := b1.cell
 have f1 := b1.frozen
 have k2 := b2.cell
 have f2 := b2.frozen
 go_upto_region 3 with (fail)
 clear k1 f1 k2 f2
 refine wp_facts (fun W' => Rex [g] w W' /\ Blk W' g #[s1h, .int .u64 s1l, n, ah, .int .u64 al, bh, .int .u64 bl, m] 311 /\ Blk W' v #[qh, .int .u64 ql] 36) ⟨by exact rexAny, by exact blkAny, by exact blkAny⟩ ?_
 clear b1 b2 hW
 rintro W15 ⟨hW, b1, b2⟩
 have z16 := hW.size
 have z17 := b1.lt
 have z18 := b2.lt
 have c4 := H_c4.out
 refine wp_region_nd 13 67 [] (fun W' => Rex [] W15 W' /\ Blk W' g #[s1h, .int .u64 s1l, n, ah, .int .u64 al, bh, .int .u64 bl, m] 311 /\ Blk W' v #[qh, .int .u64 ql] 36) mixed (by kernel_rfl) rfl ⟨(Rex.refl _ _).drew, b1, b2⟩ (fun w w' ⟨h0, h1, h2⟩ hr => ⟨h0.trans hr, h1.rex hr (by simp <;> omega), h2.rex hr (by simp <;> omega)⟩) (fun c a d v w h => by cases d <;> exact h) ?_
 iterate 8
  apply nd_det (hg := rfl) (hal := rfl)
  ·intro a W' hC hE
   obtain ⟨_, k1, k2⟩ := hC
   have k1 := k1.cell
   first
    | (simp at hE; simp [go_sem, Act.eval, IntWalk.i64_left, hE, k1, k2]; try rfl)
    | (clear hE; simp [go_sem, Act.eval, IntWalk.i64_left, k1, k2]; try rfl)
 refine nd_callv2 rfl rfl (fun W' hC => c4 W') (fun a W' hC hE => ?_) ?_
 ·obtain ⟨_, k1, k2⟩ := hC
  have k1 := k1.cell
  first
   | (simp at hE; simp [go_sem, Act.eval, IntWalk.i64_left, hE, k1, k2]; try rfl)
   | (clear hE; simp [go_sem, Act.eval, IntWalk.i64_left, k1, k2]; try rfl)
 iterate 4
  apply nd_det (hg := rfl) (hal := rfl)
  ·intro a W' hC hE
   obtain ⟨_, k1, k2⟩ := hC
   have k1 := k1.cell
   first
    | (simp at hE; simp [go_sem, Act.eval, IntWalk.i64_left, hE, k1, k2]; try rfl)
    | (clear hE; simp [go_sem, Act.eval, IntWalk.i64_left, k1, k2]; try rfl)
 rintro W19 ⟨hR, d1, d2⟩
 simp only [ndFinR, Det, forall_eq]
 intros
 repeat (rename GDet _ _ _ _ => hgd; clear hgd)
 simp only [Act.put, List.setIfInBounds_toArray, List.set_cons_zero, List.set_cons_succ, List.drop_succ_cons, List.drop_zero]
 replace hW := hW.trans (hR.more (by simp))
 clear hR
 clear c4
 try clear b1 b2
 have b1 := d1
 clear d1
 have b2 := d2
 clear d2
 have k1 := b1.cell
 have f1 := b1.frozen
 have k2 := b2.cell
 have f2 := b2.frozen
 go_upto_region 4 with (fail)
 clear k1 f1 k2 f2
 refine wp_facts (fun W' => Rex [g] w W' /\ Blk W' g #[s1h, .int .u64 s1l, n, ah, .int .u64 al, bh, .int .u64 bl, m] 311 /\ Blk W' v #[rh, .int .u64 rl] 36) ⟨by exact rexAny, by exact blkAny, by exact blkAny⟩ ?_
 clear b1 b2 hW
 rintro W20 ⟨hW, b1, b2⟩
 have z21 := hW.size
 have z22 := b1.lt
 have z23 := b2.lt
 refine wp_region_nd 6 67 [] (fun W' => Rex [] W20 W' /\ Blk W' g #[s1h, .int .u64 s1l, n, ah, .int .u64 al, bh, .int .u64 bl, m] 311 /\ Blk W' v #[rh, .int .u64 rl] 36) mixed (by kernel_rfl) rfl ⟨(Rex.refl _ _).drew, b1, b2⟩ (fun w w' ⟨h0, h1, h2⟩ hr => ⟨h0.trans hr, h1.rex hr (by simp <;> omega), h2.rex hr (by simp <;> omega)⟩) (fun c a d v w h => by cases d <;> exact h) ?_
 iterate 6
  apply nd_det (hg := rfl) (hal := rfl)
  ·intro a W' hC hE
   obtain ⟨_, k1, k2⟩ := hC
   have k1 := k1.cell
   have k2 := k2.cell
   first
    | (simp at hE; simp [go_sem, Act.eval, IntWalk.i64_left, hE, k1, k2]; try rfl)
    | (clear hE; simp [go_sem, Act.eval, IntWalk.i64_left, k1, k2]; try rfl)
 rintro W24 ⟨hR, d1, d2⟩
 simp only [ndFinR, Det, forall_eq]
 intros
 repeat (rename GDet _ _ _ _ => hgd; clear hgd)
 simp only [Act.put, List.setIfInBounds_toArray, List.set_cons_zero, List.set_cons_succ, List.drop_succ_cons, List.drop_zero]
 replace hW := hW.trans (hR.more (by simp))
 clear hR
 try clear b1 b2
 have b1 := d1
 clear d1
 have b2 := d2
 clear d2
 have k1 := b1.cell
 have f1 := b1.frozen
 have k2 := b2.cell
 have f2 := b2.frozen
 have c5 := H_c5.out
 go_wp2_with fail
 refine (c5 _ (blkAny)).mono ?_
 rintro e w25 ⟨rfl, hb25, hn25⟩
 clear c5
 have z26 := hb25.size
 try simp at z26
 clear k1 f1 k2 f2
 have b1 : Blk w25 g #[s2h, .int .u64 s2l, n, ah, .int .u64 al, bh, .int .u64 bl, m] 311 := by exact hn25
 have b2 : Blk w25 v #[rh, .int .u64 rl] 36 := blkAny
 have hW : Rex [g] w w25 := rexAny
 have z27 := b1.lt
 have z28 := b2.lt
 clear hb25 hn25
 have k1 := b1.cell
 have f1 := b1.frozen
 have k2 := b2.cell
 have f2 := b2.frozen
 go_upto_region 5 with (fail)
 clear k1 f1 k2 f2
 refine wp_facts (fun W' => Rex [g] w W' /\ Blk W' g #[s2h, .int .u64 s2l, n, ah, .int .u64 al, bh, .int .u64 bl, m] 311 /\ Blk W' v #[rh, .int .u64 rl] 36) ⟨by exact rexAny, by exact blkAny, by exact blkAny⟩ ?_
 clear b1 b2 hW
 rintro W29 ⟨hW, b1, b2⟩
 have z30 := hW.size
 have z31 := b1.lt
 have z32 := b2.lt
 have c6 := H_c6.out
 have c7 := H_c7.out
 refine wp_region_nd 13 67 [] (fun W' => Rex [] W29 W' /\ Blk W' g #[s2h, .int .u64 s2l, n, ah, .int .u64 al, bh, .int .u64 bl, m] 311 /\ Blk W' v #[rh, .int .u64 rl] 36) mixed (by kernel_rfl) rfl ⟨(Rex.refl _ _).drew, b1, b2⟩ (fun w w' ⟨h0, h1, h2⟩ hr => ⟨h0.trans hr, h1.rex hr (by simp <;> omega), h2.rex hr (by simp <;> omega)⟩) (fun c a d v w h => by cases d <;> exact h) ?_
 iterate 11
  apply nd_det (hg := rfl) (hal := rfl)
  ·intro a W' hC hE
   obtain ⟨_, k1, k2⟩ := hC
   have k1 := k1.cell
   have k2 := k2.cell
   first
    | (simp at hE; simp [go_sem, Act.eval, IntWalk.i64_left, hE, k1, k2]; try rfl)
    | (clear hE; simp [go_sem, Act.eval, IntWalk.i64_left, k1, k2]; try rfl)
 refine nd_callv2 rfl rfl (fun W' hC => c6 W') (fun a W' hC hE => ?_) ?_
 ·obtain ⟨_, k1, k2⟩ := hC
  have k1 := k1.cell
  have k2 := k2.cell
  first
   | (simp at hE; simp [go_sem, Act.eval, IntWalk.i64_left, hE, k1, k2]; try rfl)
   | (clear hE; simp [go_sem, Act.eval, IntWalk.i64_left, k1, k2]; try rfl)
 refine nd_callv2 rfl rfl (fun W' hC => c7 W') (fun a W' hC hE => ?_) ?_
 ·obtain ⟨_, k1, k2⟩ := hC
  have k1 := k1.cell
  have k2 := k2.cell
  first
   | (simp at hE; simp [go_sem, Act.eval, IntWalk.i64_left, hE, k1, k2]; try rfl)
   | (clear hE; simp [go_sem, Act.eval, IntWalk.i64_left, k1, k2]; try rfl)
 rintro W33 ⟨hR, d1, d2⟩
 simp only [ndFinR, Det, forall_eq]
 intros
 repeat (rename GDet _ _ _ _ => hgd; clear hgd)
 simp only [Act.put, List.setIfInBounds_toArray, List.set_cons_zero, List.set_cons_succ, List.drop_succ_cons, List.drop_zero]
 replace hW := hW.trans (hR.more (by simp))
 clear hR
 clear c6
 clear c7
 try clear b1 b2
 have b1 := d1
 clear d1
 have b2 := d2
 clear d2
 have k1 := b1.cell
 have f1 := b1.frozen
 have k2 := b2.cell
 have f2 := b2.frozen
 have c8 := H_c8.out
 go_wp2_with fail
 refine (c8 _ (blkAny)).mono ?_
 rintro e w34 ⟨rfl, hb34, hn34⟩
 clear c8
 have z35 := hb34.size
 try simp at z35
 clear k1 f1 k2 f2
 have b1 : Blk w34 g #[s3h, .int .u64 s3l, n, ah, .int .u64 al, bh, .int .u64 bl, m] 311 := by exact hn34
 have b2 : Blk w34 v #[rh, .int .u64 rl] 36 := blkAny
 have hW : Rex [g] w w34 := rexAny
 have z36 := b1.lt
 have z37 := b2.lt
 clear hb34 hn34
 have k1 := b1.cell
 have f1 := b1.frozen
 have k2 := b2.cell
 have f2 := b2.frozen
 go_wp2
 refine bodyPost_end (results_none rfl _ _ _) rfl ⟨rfl, rexAny, blkAny⟩
theorem line1_w (g gl : Nat) (sh sl s1h s1l n ah al bh bl m A R N d wAh wAl : Int) (w : World) (hne : gl ≠ g) (hg : Blk w g #[sh, .int .u64 sl, n, ah, .int .u64 al, bh, .int .u64 bl, m] 311) (hl : Blk w gl #[A, R, N, d] 95)
  (c1 : ∀ w, Calls Tryz.prog 117 #[A] w fun e w' => e = .returned (.agg #[wAh, .int .u64 wAl]) /\ Below w.heap.size w w')
  (c2 : ∀ w, Blk w g #[sh, .int .u64 sl, n, ah, .int .u64 al, bh, .int .u64 bl, m] 311 -> Calls Tryz.prog 236 #[.pointer (some ⟨g, 0, none⟩), .agg #[wAh, .int .u64 wAl], n] w fun e w' => e = .returned (.tuple #[]) /\ Rex [g] w w' /\ Blk w' g #[s1h, .int .u64 s1l, n, ah, .int .u64 al, bh, .int .u64 bl, m] 311) :
  Calls Tryz.prog 235 #[.pointer (some ⟨g, 0, none⟩), .pointer (some ⟨gl, 0, none⟩)] w fun e w' => e = .returned (.agg #[s1h, .int .u64 s1l]) /\ Rex [g] w w' /\ Blk w' g #[s1h, .int .u64 s1l, n, ah, .int .u64 al, bh, .int .u64 bl, m] 311 := by
 have y0 := hg.lt
 have y1 := hl.lt
 have H_c1 := Lib.hid c1
 clear c1
 have H_c2 := Lib.hid c2
 clear c2
 go_enter Tryz.func235, Tryz.ntmps235
 go_upto_region 1 with (fail)
 refine wp_facts (fun W' => Rex [g] w W' /\ Blk W' g #[sh, .int .u64 sl, n, ah, .int .u64 al, bh, .int .u64 bl, m] 311 /\ Blk W' gl #[A, R, N, d] 95 /\ Blk W' w.heap.size #[.int .i64 0, .int .u64 0] 36) ⟨by exact rexAny, by exact blkAny, by exact blkAny, by exact blkAny⟩ ?_
 rintro W1 ⟨hW, b1, b2, b3⟩
 have z2 := hW.size
 have z3 := b1.lt
 have z4 := b2.lt
 have z5 := b3.lt
 have c1 := H_c1.out
 refine wp_region_nd 10 20 [] (fun W' => Rex [] W1 W' /\ Blk W' g #[sh, .int .u64 sl, n, ah, .int .u64 al, bh, .int .u64 bl, m] 311 /\ Blk W' gl #[A, R, N, d] 95 /\ Blk W' w.heap.size #[.int .i64 0, .int .u64 0] 36) mixed (by kernel_rfl) rfl ⟨(Rex.refl _ _).drew, b1, b2, b3⟩ (fun w w' ⟨h0, h1, h2, h3⟩ hr => ⟨h0.trans hr, h1.rex hr (by simp <;> omega), h2.rex hr (by simp <;> omega), h3.rex hr (by simp <;> omega)⟩) (fun c a d v w h => by cases d <;> exact h) ?_
 iterate 5
  apply nd_det (hg := rfl) (hal := rfl)
  ·intro a W' hC hE
   obtain ⟨_, k1, k2, k3⟩ := hC
   have k1 := k1.cell
   have k2 := k2.cell
   first
    | (simp at hE; simp [go_sem, Act.eval, IntWalk.i64_left, hE, k1, k2, k3]; try rfl)
    | (clear hE; simp [go_sem, Act.eval, IntWalk.i64_left, k1, k2, k3]; try rfl)
 refine nd_callv2 rfl rfl (fun W' hC => c1 W') (fun a W' hC hE => ?_) ?_
 ·obtain ⟨_, k1, k2, k3⟩ := hC
  have k1 := k1.cell
  have k2 := k2.cell
  first
   | (simp at hE; simp [go_sem, Act.eval, IntWalk.i64_left, hE, k1, k2, k3]; try rfl)
   | (clear hE; simp [go_sem, Act.eval, IntWalk.i64_left, k1, k2, k3]; try rfl)
 iterate 4
  apply nd_det (hg := rfl) (hal := rfl)
  ·intro a W' hC hE
   obtain ⟨_, k1, k2, k3⟩ := hC
   have k1 := k1.cell
   have k2 := k2.cell
   first
    | (simp at hE; simp [go_sem, Act.eval, IntWalk.i64_left, hE, k1, k2, k3]; try rfl)
    | (clear hE; simp [go_sem, Act.eval, IntWalk.i64_left, k1, k2, k3]; try rfl)
 rintro W6 ⟨hR, d1, d2, d3⟩
 simp only [ndFinR, Det, forall_eq]
 intros
 repeat (rename GDet _ _ _ _ => hgd; clear hgd)
 simp only [Act.put, List.setIfInBounds_toArray, List.set_cons_zero, List.set_cons_succ, List.drop_succ_cons, List.drop_zero]
 replace hW := hW.trans (hR.more (by simp))
 clear hR
 clear c1
 try clear b1 b2 b3
 have b1 := d1
 clear d1
 have b2 := d2
 clear d2
 have b3 := d3
 clear d3
 have k1 := b1.cell
 have f1 := b1.frozen
 have k2 := b2.cell
 have f2 := b2.frozen
 have k3 := b3.cell
 have f3 := b3.frozen
 have c2 := H_c2.out
 go_wp2_with fail
 refine (c2 _ (blkAny)).mono ?_
 rintro e w7 ⟨rfl, hb7, hn7⟩
 clear c2
 have z8 := hb7.size
 try simp at z8
 clear k1 f1 k2 f2 k3 f3
 have b1 : Blk w7 g #[s1h, .int .u64 s1l, n, ah, .int .u64 al, bh, .int .u64 bl, m] 311 := by exact hn7
 have b2 : Blk w7 gl #[A, R, N, d] 95 := blkAny
 have b3 : Blk w7 w.heap.size #[.int .i64 0, .int .u64 0] 36 := blkAny
 have hW : Rex [g] w w7 := rexAny
 have z9 := b1.lt
 have z10 := b2.lt
 have z11 := b3.lt
 clear hb7 hn7
 have k1 := b1.cell
 have f1 := b1.frozen
 have k2 := b2.cell
 have f2 := b2.frozen
 have k3 := b3.cell
 have f3 := b3.frozen
 go_wp2
 have y_1 := b1.lt
 have y_2 := b2.lt
 have y_3 := b3.lt
 refine bodyPost_ret (v := .agg #[s1h, .int .u64 s1l]) (by simp [results, Tryz.results235, go_sem, k1, f1, k2, f2, k3, f3, y_1, y_2, y_3]) rfl ⟨rfl, rexAny, blkAny⟩
theorem tells_w (gl : Nat) (sh sl s1h s1l n ah al bh bl m A R N d : Int) (w : World) (hl : Blk w gl #[A, R, N, d] 95) (n0 : decide (n < 0) = false) (n1 : decide (256 < n) = false) (m0 : decide (m < 1) = false) (m1 : decide (281474976710656 < m) = false)
  (c1 : ∀ w, Calls Tryz.prog 239 #[.agg #[ah, .int .u64 al]] w fun e w' => e = .returned (.bool true) /\ Below w.heap.size w w')
  (c2 : ∀ w, Calls Tryz.prog 239 #[.agg #[bh, .int .u64 bl]] w fun e w' => e = .returned (.bool true) /\ Below w.heap.size w w')
  (c3 : ∀ g w, Blk w g #[.int .i64 0, .int .u64 0, n, ah, .int .u64 al, bh, .int .u64 bl, m] 311 -> Calls Tryz.prog 240 #[.pointer (some ⟨g, 0, none⟩)] w fun e w' => e = .returned (.tuple #[]) /\ Rex [g] w w' /\ Blk w' g #[sh, .int .u64 sl, n, ah, .int .u64 al, bh, .int .u64 bl, m] 311)
  (c4 : ∀ g w, gl ≠ g -> Blk w g #[sh, .int .u64 sl, n, ah, .int .u64 al, bh, .int .u64 bl, m] 311 -> Blk w gl #[A, R, N, d] 95 -> Calls Tryz.prog 235 #[.pointer (some ⟨g, 0, none⟩), .pointer (some ⟨gl, 0, none⟩)] w fun e w' => e = .returned (.agg #[s1h, .int .u64 s1l]) /\ Rex [g] w w' /\ Blk w' g #[s1h, .int .u64 s1l, n, ah, .int .u64 al, bh, .int .u64 bl, m] 311) :
  Calls Tryz.prog 234 #[.agg #[.int .i64 0, .int .u64 0, n, ah, .int .u64 al, bh, .int .u64 bl, m], .func (.func 235) #[] #[.pointer (some ⟨gl, 0, none⟩)]] w fun e w' => e = .returned (.tuple #[.agg #[s1h, .int .u64 s1l], .int .i64 0]) /\ Below w.heap.size w w' := by
 have y1 := hl.lt
 have H_c1 := Lib.hid c1
 clear c1
 have H_c2 := Lib.hid c2
 clear c2
 have H_c3 := Lib.hid c3
 clear c3
 have H_c4 := Lib.hid c4
 clear c4
 go_enter Tryz.func234, Tryz.ntmps234
 go_upto_region 1 with (fail)
 refine wp_facts (fun W' => Below w.heap.size w W' /\ Blk W' w.heap.size #[.int .i64 0, .int .u64 0, n, ah, .int .u64 al, bh, .int .u64 bl, m] 311 /\ Blk W' (w.heap.size + 1) #[.int .i64 0, .int .u64 0] 36 /\ Blk W' gl #[A, R, N, d] 95) ⟨by exact belowAny, by exact blkAny, by exact blkAny, by exact blkAny⟩ ?_
 rintro W1 ⟨hW, b1, b2, b3⟩
 have z2 := hW.size
 have z3 := b1.lt
 have z4 := b2.lt
 have z5 := b3.lt
 have k1 := b1.cell
 have f1 := b1.frozen
 have k2 := b2.cell
 have f2 := b2.frozen
 have k3 := b3.cell
 have f3 := b3.frozen
 have c1 := H_c1.out
 go_wp2_with fail
 refine (c1 _).mono ?_
 rintro e w6 ⟨rfl, hb6⟩
 clear c1
 have z7 := hb6.size
 try simp at z7
 clear k1 f1 k2 f2 k3 f3
 have b1 : Blk w6 w.heap.size #[.int .i64 0, .int .u64 0, n, ah, .int .u64 al, bh, .int .u64 bl, m] 311 := blkAny
 have b2 : Blk w6 (w.heap.size + 1) #[.int .i64 0, .int .u64 0] 36 := blkAny
 have b3 : Blk w6 gl #[A, R, N, d] 95 := blkAny
 have hW : Below w.heap.size w w6 := belowAny
 have z8 := b1.lt
 have z9 := b2.lt
 have z10 := b3.lt
 clear hb6
 have k1 := b1.cell
 have f1 := b1.frozen
 have k2 := b2.cell
 have f2 := b2.frozen
 have k3 := b3.cell
 have f3 := b3.frozen
 have c2 := H_c2.out
 go_wp2_with fail
 refine (c2 _).mono ?_
 rintro e w11 ⟨rfl, hb11⟩
 clear c2
 have z12 := hb11.size
 try simp at z12
 clear k1 f1 k2 f2 k3 f3
 have b1 : Blk w11 w.heap.size #[.int .i64 0, .int .u64 0, n, ah, .int .u64 al, bh, .int .u64 bl, m] 311 := blkAny
 have b2 : Blk w11 (w.heap.size + 1) #[.int .i64 0, .int .u64 0] 36 := blkAny
 have b3 : Blk w11 gl #[A, R, N, d] 95 := blkAny
 have hW : Below w.heap.size w w11 := belowAny
 have z13 := b1.lt
 have z14 := b2.lt
 have z15 := b3.lt
 clear hb11
 have k1 := b1.cell
 have f1 := b1.frozen
 have k2 := b2.cell
 have f2 := b2.frozen
 have k3 := b3.cell
 have f3 := b3.frozen
 have c3 := H_c3.out
 go_wp2_with fail
 refine (c3 _ _ (blkAny)).mono ?_
 rintro e w16 ⟨rfl, hb16, hn16⟩
 clear c3
 have z17 := hb16.size
 try simp at z17
 clear k1 f1 k2 f2 k3 f3
 have b1 : Blk w16 w.heap.size #[sh, .int .u64 sl, n, ah, .int .u64 al, bh, .int .u64 bl, m] 311 := by exact hn16
 have b2 : Blk w16 (w.heap.size + 1) #[.int .i64 0, .int .u64 0] 36 := blkAny
 have b3 : Blk w16 gl #[A, R, N, d] 95 := blkAny
 have hW : Below w.heap.size w w16 := belowAny
 have z18 := b1.lt
 have z19 := b2.lt
 have z20 := b3.lt
 clear hb16 hn16
 have k1 := b1.cell
 have f1 := b1.frozen
 have k2 := b2.cell
 have f2 := b2.frozen
 have k3 := b3.cell
 have f3 := b3.frozen
 have c4 := H_c4.out
 go_wp2_with fail
 refine (c4 _ _ (by omega) (blkAny) (blkAny)).mono ?_
 rintro e w21 ⟨rfl, hb21, hn21⟩
 clear c4
 have z22 := hb21.size
 try simp at z22
 clear k1 f1 k2 f2 k3 f3
 have b1 : Blk w21 w.heap.size #[s1h, .int .u64 s1l, n, ah, .int .u64 al, bh, .int .u64 bl, m] 311 := by exact hn21
 have b2 : Blk w21 (w.heap.size + 1) #[.int .i64 0, .int .u64 0] 36 := blkAny
 have b3 : Blk w21 gl #[A, R, N, d] 95 := blkAny
 have hW : Below w.heap.size w w21 := belowAny
 have z23 := b1.lt
 have z24 := b2.lt
 have z25 := b3.lt
 clear hb21 hn21
 have k1 := b1.cell
 have f1 := b1.frozen
 have k2 := b2.cell
 have f2 := b2.frozen
 have k3 := b3.cell
 have f3 := b3.frozen
 go_wp2
 have y_1 := b1.lt
 have y_2 := b2.lt
 have y_3 := b3.lt
 refine bodyPost_ret (v := .tuple #[.agg #[s1h, .int .u64 s1l], .int .i64 0]) (by simp [results, Tryz.results234, go_sem, k1, f1, k2, f2, k3, f3, y_1, y_2, y_3]) rfl ⟨rfl, by exact belowAny⟩
theorem fline_w (A R N d n from_ step n1 x y ph pl rrh rrl ah al bh bl rh rl e1 : Int) (w : World)
  (k0 : decide (n < 0) = false) (k1' : decide (256 < n) = false) (k2' : decide (from_ < 0) = false) (k3' : decide (281474976710656 < from_) = false) (k4' : decide (step < 0) = false) (k5' : decide (281474976710656 < step) = false)
  (k6' : decide (0 < n) = true) (g1 : wrap64 (n - 1) = n1) (g2 : wrap64 (n1 * step) = x) (g3 : wrap64 (281474976710656 - from_) = y) (k7' : decide (y < x) = false)
  (c1 : ∀ w, Calls Tryz.prog 233 #[.agg #[A, R, N, d]] w fun e w' => e = .returned (.int .i64 0) /\ Below w.heap.size w w')
  (c2 : ∀ w, Calls Tryz.prog 157 #[N, from_] w fun e w' => e = .returned (.agg #[ph, .int .u64 pl]) /\ Below w.heap.size w w')
  (c3 : ∀ w, Calls Tryz.prog 117 #[R] w fun e w' => e = .returned (.agg #[rrh, .int .u64 rrl]) /\ Below w.heap.size w w')
  (c4 : ∀ w, Calls Tryz.prog 16 #[.agg #[ph, .int .u64 pl], .agg #[rrh, .int .u64 rrl]] w fun e w' => e = .returned (.tuple #[.agg #[bh, .int .u64 bl], e1]) /\ Below w.heap.size w w')
  (c5 : ∀ w, Calls Tryz.prog 157 #[N, step] w fun e w' => e = .returned (.agg #[ah, .int .u64 al]) /\ Below w.heap.size w w')
  (c6 : ∀ gl w, Blk w gl #[A, R, N, d] 95 -> Calls Tryz.prog 234 #[.agg #[.int .i64 0, .int .u64 0, n, ah, .int .u64 al, bh, .int .u64 bl, d], .func (.func 235) #[] #[.pointer (some ⟨gl, 0, none⟩)]] w fun e w' => e = .returned (.tuple #[.agg #[rh, .int .u64 rl], .int .i64 0]) /\ Below w.heap.size w w') :
  Calls Tryz.prog 217 #[.agg #[A, R, N, d], from_, step, n] w fun e w' => e = .returned (.tuple #[.agg #[rh, .int .u64 rl], .int .i64 0]) /\ Below w.heap.size w w' := by
 have hmf : ∀ (fn : Fn) (first cap : Array Value) (w : World), (Instr.makeFunc fn first cap).run Tryz.prog w = .ok (.func fn first cap) w := fun _ _ _ _ => rfl
 have H_c1 := Lib.hid c1
 clear c1
 have H_c2 := Lib.hid c2
 clear c2
 have H_c3 := Lib.hid c3
 clear c3
 have H_c4 := Lib.hid c4
 clear c4
 have H_c5 := Lib.hid c5
 clear c5
 have H_c6 := Lib.hid c6
 clear c6
 go_enter Tryz.func217, Tryz.ntmps217
 go_upto_region 1 with (fail)
 refine wp_facts (fun W' => Below w.heap.size w W' /\ Blk W' w.heap.size #[A, R, N, d] 95 /\ Blk W' (w.heap.size + 1) #[.int .i64 0, .int .u64 0] 36) ⟨by exact belowAny, by exact blkAny, by exact blkAny⟩ ?_
 rintro W1 ⟨hW, b1, b2⟩
 have z2 := hW.size
 have z3 := b1.lt
 have z4 := b2.lt
 have k1 := b1.cell
 have f1 := b1.frozen
 have k2 := b2.cell
 have f2 := b2.frozen
 have c1 := H_c1.out
 go_wp2_with fail
 refine (c1 _).mono ?_
 rintro e w5 ⟨rfl, hb5⟩
 clear c1
 have z6 := hb5.size
 try simp at z6
 clear k1 f1 k2 f2
 have b1 : Blk w5 w.heap.size #[A, R, N, d] 95 := blkAny
 have b2 : Blk w5 (w.heap.size + 1) #[.int .i64 0, .int .u64 0] 36 := blkAny
 have hW : Below w.heap.size w w5 := belowAny
 have z7 := b1.lt
 have z8 := b2.lt
 clear hb5
 have k1 := b1.cell
 have f1 := b1.frozen
 have k2 := b2.cell
 have f2 := b2.frozen
 go_upto_region 8 with (fail)
 clear k1 f1 k2 f2
 refine wp_facts (fun W' => Below w.heap.size w W' /\ Blk W' w.heap.size #[A, R, N, d] 95 /\ Blk W' (w.heap.size + 1) #[.int .i64 0, .int .u64 0] 36) ⟨by exact belowAny, by exact blkAny, by exact blkAny⟩ ?_
 clear b1 b2 hW
 rintro W9 ⟨hW, b1, b2⟩
 have z10 := hW.size
 have z11 := b1.lt
 have z12 := b2.lt
 have c2 := H_c2.out
 have c3 := H_c3.out
 have c4 := H_c4.out
 refine wp_region_nd 12 78 [] (fun W' => Rex [] W9 W' /\ Blk W' w.heap.size #[A, R, N, d] 95 /\ Blk W' (w.heap.size + 1) #[.int .i64 0, .int .u64 0] 36) mixed (by kernel_rfl) rfl ⟨(Rex.refl _ _).drew, b1, b2⟩ (fun w w' ⟨h0, h1, h2⟩ hr => ⟨h0.trans hr, h1.rex hr (by simp <;> omega), h2.rex hr (by simp <;> omega)⟩) (fun c a d v w h => by cases d <;> exact h) ?_
 iterate 3
  apply nd_det (hg := rfl) (hal := rfl)
  ·intro a W' hC hE
   obtain ⟨_, k1, k2⟩ := hC
   have k1 := k1.cell
   first
    | (simp at hE; simp [go_sem, Act.eval, IntWalk.i64_left, hE, k1, k2]; try rfl)
    | (clear hE; simp [go_sem, Act.eval, IntWalk.i64_left, k1, k2]; try rfl)
 refine nd_callv2 rfl rfl (fun W' hC => c2 W') (fun a W' hC hE => ?_) ?_
 ·obtain ⟨_, k1, k2⟩ := hC
  have k1 := k1.cell
  first
   | (simp at hE; simp [go_sem, Act.eval, IntWalk.i64_left, hE, k1, k2]; try rfl)
   | (clear hE; simp [go_sem, Act.eval, IntWalk.i64_left, k1, k2]; try rfl)
 iterate 2
  apply nd_det (hg := rfl) (hal := rfl)
  ·intro a W' hC hE
   obtain ⟨_, k1, k2⟩ := hC
   have k1 := k1.cell
   first
    | (simp at hE; simp [go_sem, Act.eval, IntWalk.i64_left, hE, k1, k2]; try rfl)
    | (clear hE; simp [go_sem, Act.eval, IntWalk.i64_left, k1, k2]; try rfl)
 refine nd_callv2 rfl rfl (fun W' hC => c3 W') (fun a W' hC hE => ?_) ?_
 ·obtain ⟨_, k1, k2⟩ := hC
  have k1 := k1.cell
  first
   | (simp at hE; simp [go_sem, Act.eval, IntWalk.i64_left, hE, k1, k2]; try rfl)
   | (clear hE; simp [go_sem, Act.eval, IntWalk.i64_left, k1, k2]; try rfl)
 refine nd_callv2 rfl rfl (fun W' hC => c4 W') (fun a W' hC hE => ?_) ?_
 ·obtain ⟨_, k1, k2⟩ := hC
  have k1 := k1.cell
  first
   | (simp at hE; simp [go_sem, Act.eval, IntWalk.i64_left, hE, k1, k2]; try rfl)
   | (clear hE; simp [go_sem, Act.eval, IntWalk.i64_left, k1, k2]; try rfl)
 iterate 3
  apply nd_det (hg := rfl) (hal := rfl)
  ·intro a W' hC hE
   obtain ⟨_, k1, k2⟩ := hC
   have k1 := k1.cell
   first
    | (simp at hE; simp [go_sem, Act.eval, IntWalk.i64_left, hE, k1, k2]; try rfl)
    | (clear hE; simp [go_sem, Act.eval, IntWalk.i64_left, k1, k2]; try rfl)
 apply nd_alloc W9.heap.size #[.int .i64 0, .int .u64 0] 36 rfl rfl
 ·exact fun W' hC => hC.1.size
 ·simp [others] <;> omega
 ·intro w; kernel_rfl
 rintro W13 ⟨hR, d1, d2⟩
 simp only [ndFinR, Det, forall_eq]
 intros
 repeat (rename GDet _ _ _ _ => hgd; clear hgd)
 simp only [Act.put, List.setIfInBounds_toArray, List.set_cons_zero, List.set_cons_succ, List.drop_succ_cons, List.drop_zero]
 replace hW := hW.trans (hR.of_priv hW.size)
 clear hR
 clear c2
 clear c3
 clear c4
 try clear b1 b2
 have b1 := d1
 clear d1
 have b2 := d2
 clear d2
 obtain ⟨v, rfl, hg_v, b3⟩ := ‹NewVar _ _ _ _ _›
 have z14 := b3.lt
 have k1 := b1.cell
 have f1 := b1.frozen
 have k2 := b2.cell
 have f2 := b2.frozen
 have k3 := b3.cell
 have f3 := b3.frozen
 go_upto_region 9 with (fail)
 clear k1 f1 k2 f2 k3 f3
 refine wp_facts (fun W' => Below w.heap.size w W' /\ Blk W' w.heap.size #[A, R, N, d] 95 /\ Blk W' (w.heap.size + 1) #[.int .i64 0, .int .u64 0] 36 /\ Blk W' v #[bh, .int .u64 bl] 36) ⟨by exact belowAny, by exact blkAny, by exact blkAny, by exact blkAny⟩ ?_
 clear b1 b2 b3 hW
 rintro W15 ⟨hW, b1, b2, b3⟩
 have z16 := hW.size
 have z17 := b1.lt
 have z18 := b2.lt
 have z19 := b3.lt
 have c5 := H_c5.out
 have c6 := H_c6.out
 refine wp_region_nd 13 78 [] (fun W' => Rex [] W15 W' /\ Blk W' w.heap.size #[A, R, N, d] 95 /\ Blk W' (w.heap.size + 1) #[.int .i64 0, .int .u64 0] 36 /\ Blk W' v #[bh, .int .u64 bl] 36) mixed (by kernel_rfl) rfl ⟨(Rex.refl _ _).drew, b1, b2, b3⟩ (fun w w' ⟨h0, h1, h2, h3⟩ hr => ⟨h0.trans hr, h1.rex hr (by simp <;> omega), h2.rex hr (by simp <;> omega), h3.rex hr (by simp <;> omega)⟩) (fun c a d v w h => by cases d <;> exact h) ?_
 iterate 4
  apply nd_det (hg := rfl) (hal := rfl)
  ·intro a W' hC hE
   obtain ⟨_, k1, k2, k3⟩ := hC
   have k1 := k1.cell
   have k3 := k3.cell
   first
    | (simp at hE; simp [go_sem, Act.eval, IntWalk.i64_left, hE, k1, k2, k3]; try rfl)
    | (clear hE; simp [go_sem, Act.eval, IntWalk.i64_left, k1, k2, k3]; try rfl)
 refine nd_callv2 rfl rfl (fun W' hC => c5 W') (fun a W' hC hE => ?_) ?_
 ·obtain ⟨_, k1, k2, k3⟩ := hC
  have k1 := k1.cell
  have k3 := k3.cell
  first
   | (simp at hE; simp [go_sem, Act.eval, IntWalk.i64_left, hE, k1, k2, k3]; try rfl)
   | (clear hE; simp [go_sem, Act.eval, IntWalk.i64_left, k1, k2, k3]; try rfl)
 iterate 5
  apply nd_det (hg := rfl) (hal := rfl)
  ·intro a W' hC hE
   obtain ⟨_, k1, k2, k3⟩ := hC
   have k1 := k1.cell
   have k3 := k3.cell
   first
    | (simp at hE; simp [go_sem, Act.eval, IntWalk.i64_left, hE, k1, k2, k3]; try rfl)
    | (clear hE; simp [go_sem, Act.eval, IntWalk.i64_left, k1, k2, k3]; try rfl)
 refine nd_callv2 rfl rfl (fun W' hC => c6 _ W' hC.2.1) (fun a W' hC hE => ?_) ?_
 ·obtain ⟨_, k1, k2, k3⟩ := hC
  have k1 := k1.cell
  have k3 := k3.cell
  first
   | (simp at hE; simp [go_sem, Act.eval, IntWalk.i64_left, hE, k1, k2, k3]; try rfl)
   | (clear hE; simp [go_sem, Act.eval, IntWalk.i64_left, k1, k2, k3]; try rfl)
 iterate 2
  apply nd_det (hg := rfl) (hal := rfl)
  ·intro a W' hC hE
   obtain ⟨_, k1, k2, k3⟩ := hC
   have k1 := k1.cell
   have k3 := k3.cell
   first
    | (simp at hE; simp [go_sem, Act.eval, IntWalk.i64_left, hE, k1, k2, k3]; try rfl)
    | (clear hE; simp [go_sem, Act.eval, IntWalk.i64_left, k1, k2, k3]; try rfl)
 rintro W20 ⟨hR, d1, d2, d3⟩
 simp only [ndFinR, Det, forall_eq]
 intros
 repeat (rename GDet _ _ _ _ => hgd; clear hgd)
 simp only [Act.put, List.setIfInBounds_toArray, List.set_cons_zero, List.set_cons_succ, List.drop_succ_cons, List.drop_zero]
 replace hW := hW.trans (hR.of_priv hW.size)
 clear hR
 clear c5
 clear c6
 try clear b1 b2 b3
 have b1 := d1
 clear d1
 have b2 := d2
 clear d2
 have b3 := d3
 clear d3
 have k1 := b1.cell
 have f1 := b1.frozen
 have k2 := b2.cell
 have f2 := b2.frozen
 have k3 := b3.cell
 have f3 := b3.frozen
 go_wp2
 have y_1 := b1.lt
 have y_2 := b2.lt
 have y_3 := b3.lt
 refine bodyPost_ret (v := .tuple #[.agg #[rh, .int .u64 rl], .int .i64 0]) (by simp [results, Tryz.results217, go_sem, k1, f1, k2, f2, k3, f3, y_1, y_2, y_3]) rfl ⟨rfl, by exact belowAny⟩
end Go.Proofs.YtidfcoooccblaaaGreat
namespace Go.Proofs.YtidfcoooccblaaaGreat
open Go.RowKit
def sumI (f : Nat -> Int) : Nat -> Int
 | 0 => 0
 | n + 1 => sumI f n + f n
theorem sumI_congr {f g : Nat -> Int} : ∀ n, (∀ i, i < n -> f i = g i) -> sumI f n = sumI g n
 | 0, _ => rfl
 | n + 1, h => by simp only [sumI]; rw [sumI_congr n fun i hi => h i (by omega), h n (by omega)]
theorem sumI_add (f g : Nat -> Int) : ∀ n, sumI (fun i => f i + g i) n = sumI f n + sumI g n
 | 0 => rfl
 | n + 1 => by simp only [sumI]; rw [sumI_add f g n]; omega
theorem sumI_const (c : Int) : ∀ n : Nat, sumI (fun _ => c) n = c * n
 | 0 => by simp [sumI]
 | n + 1 => by simp only [sumI]; rw [sumI_const c n]; rw [Int.natCast_add, Int.mul_add]; omega
theorem sumI_mul (c : Int) (f : Nat -> Int) : ∀ n, sumI (fun i => c * f i) n = c * sumI f n
 | 0 => by simp [sumI]
 | n + 1 => by simp only [sumI]; rw [sumI_mul c f n, Int.mul_add]
theorem sumI_cast (f : Nat -> Nat) : ∀ n, sumI (fun i => (f i : Int)) n = (sumTo f n : Int)
 | 0 => rfl
 | n + 1 => by simp only [sumI, sumTo]; rw [sumI_cast f n]; simp
def stepSum (n a b m : Int) : Int := a / m * (n * (n - 1) / 2) + b / m * n + floI n (a % m) (b % m) m
theorem pairs_cast (n : Nat) : (n : Int) * ((n : Int) - 1) / 2 = ((n * (n - 1) / 2 : Nat) : Int) := by
 cases n with
 | zero => rfl
 | succ n => simp
theorem stepSum_eq (n : Nat) (a b m : Int) (hm : 1 <= m) : stepSum n a b m = sumI (fun i => (a * i + b) / m) n := by
 have r0 := Int.emod_nonneg a (show m ≠ 0 by omega)
 have r1 := Int.emod_nonneg b (show m ≠ 0 by omega)
 have e : ∀ i : Nat, (a * i + b) / m = a / m * (i : Int) + (b / m + (((a % m).toNat * i + (b % m).toNat) / m.toNat : Nat)) := by
  intro i
  have e1 := Int.emod_add_mul_ediv a m
  have e2 := Int.emod_add_mul_ediv b m
  have e3 : a * i = m * (a / m * i) + a % m * i := by
   rw [<- Int.mul_assoc, <- Int.add_mul]; congr 1; omega
  have e4 : a * i + b = (a % m * i + b % m) + m * (a / m * i + b / m) := by rw [Int.mul_add]; omega
  rw [e4, Int.add_mul_ediv_left _ _ (by omega)]
  have e5 : a % m * i + b % m = (((a % m).toNat * i + (b % m).toNat : Nat) : Int) := by
   simp; rw [Int.max_eq_left r0, Int.max_eq_left r1]
  rw [e5]
  have e6 : m = ((m.toNat : Nat) : Int) := by omega
  have e7 : (((a % m).toNat * i + (b % m).toNat : Nat) : Int) / m = ((((a % m).toNat * i + (b % m).toNat) / m.toNat : Nat) : Int) := by
   rw [Int.natCast_ediv, <- e6]
  rw [e7]; omega
 rw [sumI_congr n fun i _ => e i, sumI_add, sumI_mul, sumI_add, sumI_const, sumI_cast, sumI_cast, sumTo_id, <- pairs_cast]
 unfold stepSum floI floSum
 simp only [Int.toNat_natCast]
 omega
theorem natAbs_mul_le {a b : Int} {x y : Nat} (ha : a.natAbs <= x) (hb : b.natAbs <= y) : (a * b).natAbs <= x * y := by
 rw [Int.natAbs_mul]; exact Nat.mul_le_mul ha hb
theorem natAbs_div_le (s : Int) {d : Int} (hd : 1 <= d) : (s / d).natAbs <= s.natAbs := by have := div_abs s hd; omega
structure StepsOk (n a b m : Int) : Prop where
 n0 : 0 <= n
 n1 : n <= 256
 a1 : a.natAbs <= 2596148429267413814265248164610048
 b1 : b.natAbs <= 2596148429267413814265248164610048
 m0 : 1 <= m
 m1 : m <= 281474976710656
theorem StepsOk.pairs {n a b m : Int} (h : StepsOk n a b m) : 0 <= n * (n - 1) / 2 /\ n * (n - 1) / 2 <= 32640 := by
 have h0 := h.n0; have h1 := h.n1
 obtain ⟨k, rfl⟩ := Int.eq_ofNat_of_zero_le h0
 rw [pairs_cast]
 have : k * (k - 1) <= 256 * 255 := Nat.mul_le_mul (by omega) (by omega)
 refine ⟨Int.natCast_nonneg _, Int.ofNat_le.2 (show _ <= 32640 by omega)⟩
theorem StepsOk.flo {n a b m : Int} (h : StepsOk n a b m) : 0 <= floI n (a % m) (b % m) m /\ floI n (a % m) (b % m) m <= 65792 := by
 have h0 := h.n0; have h1 := h.n1; have m0 := h.m0
 have r0 := Int.emod_nonneg a (show m ≠ 0 by omega)
 have r1 := Int.emod_nonneg b (show m ≠ 0 by omega)
 have l0 := Int.emod_lt_of_pos a (show 0 < m by omega)
 have l1 := Int.emod_lt_of_pos b (show 0 < m by omega)
 unfold floI
 have := floSum_le n.toNat (a % m).toNat (b % m).toNat m.toNat (by omega) (by omega) (by omega)
 have h2 : (n.toNat + 1) * n.toNat <= 257 * 256 := Nat.mul_le_mul (by omega) (by omega)
 omega
theorem StepsOk.small {n a b m : Int} (h : StepsOk n a b m) : SmallAt (floI n (a % m) (b % m) m) n (a % m) (b % m) m 0 := by
 have m0 := h.m0; have m1 := h.m1
 have r0 := Int.emod_nonneg a (show m ≠ 0 by omega)
 have r1 := Int.emod_nonneg b (show m ≠ 0 by omega)
 have l0 := Int.emod_lt_of_pos a (show 0 < m by omega)
 have l1 := Int.emod_lt_of_pos b (show 0 < m by omega)
 have := h.flo
 exact ⟨h.n0, h.n1, r0, by omega, r1, by omega, m0, m1, by omega, by omega, by omega⟩
theorem c_steps (g : Nat) (n a b m : Int) (w : World) (h : StepsOk n a b m) (hg : Blk w g (rowCells 0 n a b m) 311) :
  Calls Tryz.prog 240 #[.pointer (some ⟨g, 0, none⟩)] w fun e w' => e = .returned (.tuple #[]) /\ Rex [g] w w' /\ Blk w' g (rowCells (stepSum n a b m) n a b m) 311 := by
 have n0 := h.n0; have n1 := h.n1; have a1 := h.a1; have b1 := h.b1; have m0 := h.m0; have m1 := h.m1
 obtain ⟨p0, p1⟩ := h.pairs
 obtain ⟨f0, f1⟩ := h.flo
 have da := natAbs_div_le a m0
 have db := natAbs_div_le b m0
 have x1 : (a / m * (n * (n - 1) / 2)).natAbs <= 2596148429267413814265248164610048 * 32640 := natAbs_mul_le (by omega) (by omega)
 have x2 : (b / m * n).natAbs <= 2596148429267413814265248164610048 * 256 := natAbs_mul_le (by omega) (by omega)
 have wa : W128 a := ⟨by omega, by omega⟩
 have wb : W128 b := ⟨by omega, by omega⟩
 have e3 : stepSum n a b m = (0 + a / m * (n * (n - 1) / 2) + b / m * n) + floI n (a % m) (b % m) m * 1 := by unfold stepSum; omega
 rw [e3]
 refine steps_w g _ _ _ _ _ _ _ _ n _ _ _ _ m _ _ (a % m) _ _ (b % m) (n * (n - 1) / 2) (floI n (a % m) (b % m) m) _ _ w hg (fun w => c_Div a m w wa m0 (by omega)) (fun w => c_pairs n w n0 (by omega)) (fun w hg => c_add g 0 n a b m (a / m) (n * (n - 1) / 2) w hg (by decide) ⟨by omega, by omega⟩ ⟨by omega, by omega⟩ ⟨by omega, by omega⟩ ⟨by omega, by omega⟩)
  (fun w => c_Div b m w wb m0 (by omega)) (fun w hg => c_add g _ n a b m (b / m) n w hg ⟨by omega, by omega⟩ ⟨by omega, by omega⟩ ⟨by omega, by omega⟩ ⟨by omega, by omega⟩ ⟨by omega, by omega⟩)
  (fun w => c_small n (a % m) (b % m) m _ w h.small) (fun w => c_Of _ w ⟨by omega, by omega⟩) (fun w hg => c_add g _ n a b m _ 1 w hg ⟨by omega, by omega⟩ ⟨by omega, by omega⟩ ⟨by omega, by omega⟩ ⟨by omega, by omega⟩ ⟨by omega, by omega⟩)
structure FlineOk (f s n : Int) : Prop where
 f0 : 0 <= f
 s0 : 0 <= s
 s1 : s <= 281474976710656
 n0 : 1 <= n
 n1 : n <= 256
 all : f + (n - 1) * s <= 281474976710656
theorem FlineOk.last {f s n : Int} (h : FlineOk f s n) : 0 <= (n - 1) * s := Int.mul_nonneg (by have := h.n0; omega) h.s0
theorem line_sum (A R N d f s : Int) (n : Nat) : sumI (fun i => (N * s * i + (N * f + R)) / d) n + A * n = sumI (fun i => lineVal A R N d (f + i * s)) n := by
 rw [<- sumI_const, <- sumI_add]
 refine sumI_congr n fun i _ => ?_
 unfold lineVal
 have : N * s * i + (N * f + R) = N * (f + i * s) + R := by
  rw [Int.mul_add, <- Int.mul_assoc, Int.mul_comm N i, Int.mul_assoc (i : Int), Int.mul_comm (i : Int)]; omega
 rw [this]
theorem c_fline (A R N d f s : Int) (n : Nat) (w : World) (h : LineOk A R N d) (hf : FlineOk f s n) :
  Calls Tryz.prog 217 #[.agg #[.int .i64 A, .int .i64 R, .int .i64 N, .int .i64 d], .int .i64 f, .int .i64 s, .int .i64 n] w fun e w' => e = .returned (.tuple #[wideV (sumI (fun i => lineVal A R N d (f + i * s)) n), .int .i64 0]) /\ Below w.heap.size w w' := by
 have hA0 := h.A0; have hA1 := h.A1; have hn0 := h.n0; have hn1 := h.n1; have hd0 := h.d0; have hd1 := h.d1; have hR0 := h.R0; have hR1 := h.R1
 have f0 := hf.f0; have s0 := hf.s0; have s1 := hf.s1; have n0 := hf.n0; have n1 := hf.n1; have hall := hf.all
 have hl := hf.last
 have f1 : f <= 281474976710656 := by omega
 have p1 : (N * f).natAbs <= 4611688217450643456 * 281474976710656 := natAbs_mul_le (by omega) (by omega)
 have p2 : (N * s).natAbs <= 4611688217450643456 * 281474976710656 := natAbs_mul_le (by omega) (by omega)
 have p3 : (A * (n : Int)).natAbs <= 2305844108725321728 * 256 := natAbs_mul_le (by omega) (by omega)
 have zN : I64 N := ⟨by omega, by omega⟩
 have zf : I64 f := ⟨by omega, by omega⟩
 have zs : I64 s := ⟨by omega, by omega⟩
 have zR : I64 R := ⟨by omega, by omega⟩
 have zA : I64 A := ⟨by omega, by omega⟩
 have wb : W128 (N * f + R) := ⟨by omega, by omega⟩
 have st : StepsOk n (N * s) (N * f + R) d := ⟨by omega, n1, by omega, by omega, hd0, hd1⟩
 obtain ⟨q0, q1⟩ := st.pairs
 obtain ⟨fl0, fl1⟩ := st.flo
 have da := natAbs_div_le (N * s) hd0
 have db := natAbs_div_le (N * f + R) hd0
 have x1 : (N * s / d * ((n : Int) * (n - 1) / 2)).natAbs <= 2596148429267413814265248164610048 * 32640 := natAbs_mul_le (by omega) (by omega)
 have x2 : ((N * f + R) / d * (n : Int)).natAbs <= 2596148429267413814265248164610048 * 256 := natAbs_mul_le (by omega) (by omega)
 have ws : -127605000000000000000000000000000000000 <= stepSum n (N * s) (N * f + R) d /\ stepSum n (N * s) (N * f + R) d <= 127605000000000000000000000000000000000 := by
  unfold stepSum; omega
 have c4 := fun w => c_Add (N * f) R w (W128_mul zN zf) zR.w
 rw [inW_in wb, wrapW_in wb] at c4
 rw [<- line_sum, <- stepSum_eq n _ _ d hd0]
 have ck := fun w => c_Check A R N d w
 rw [isLine_ok.2 h] at ck
 have D : ∀ {a b : Int}, ¬ a < b -> decide (a < b) = false := fun h => decide_eq_false h
 refine fline_w A R N d n f s (n - 1) ((n - 1) * s) (281474976710656 - f) _ _ _ _ _ _ _ _ _ _ _ w (D (by omega)) (D (by omega)) (D (by omega)) (D (by omega)) (D (by omega)) (D (by omega)) (decide_eq_true (by omega))
  (by rw [wrap64_eq]; omega) (by rw [wrap64_eq]; omega) (by rw [wrap64_eq]; omega) (D (by omega)) ck (fun w => c_Mul N f w zN zf) (fun w => c_Of R w zR) c4 (fun w => c_Mul N s w zN zs) (fun gl w hgl => ?_)
 refine tells_w gl _ _ _ _ n _ _ _ _ d A R N d w hgl (D (by omega)) (D (by omega)) (D (by omega)) (D (by omega)) (fun w => c_term (N * s) w (by omega)) (fun w => c_term (N * f + R) w (by omega)) (fun g w hg => c_steps g n (N * s) (N * f + R) d w st hg) (fun g w hne hg hl => ?_)
 exact line1_w g gl _ _ _ _ n _ _ _ _ d A R N d _ _ w hne hg hl (fun w => c_Of A w zA) (fun w hg => c_add g _ n (N * s) (N * f + R) d A n w hg ⟨by omega, by omega⟩ zA.w ⟨by omega, by omega⟩ ⟨by omega, by omega⟩ ⟨by omega, by omega⟩)
theorem last_w (f s c c1 p x : Int) (w : World) (e1 : wrap64 (c - 1) = c1) (e2 : wrap64 (s * c1) = p) (e3 : wrap64 (f + p) = x) :
  Calls Tryz.prog 182 #[.agg #[f, s, c]] w fun e w' => e = .returned (x) /\ Below w.heap.size w w' := by
 go_enter Tryz.func182, Tryz.ntmps182
 go_wp2
 refine bodyPost_ret (v := x) (by simp [results, Tryz.results182, go_sem, e3]) rfl ⟨rfl, by exact belowAny⟩
theorem sure_t (w : World) : Calls Tryz.prog 181 #[.bool true] w fun e w' => e = .returned (.tuple #[]) /\ w' = w := by
 go_enter Tryz.func181, Tryz.ntmps181
 go_wp2
 go_end0
 exact ⟨rfl, rfl⟩
theorem sure_f (w : World) : Calls Tryz.prog 181 #[.bool false] w fun e w' => e = .panicked [{ v := .iface 28 (.int .i64 170), recovered := false }] /\ w' = w := by
 go_enter Tryz.func181, Tryz.ntmps181
 go_wp2
 simp [bodyPost]
theorem catch_panicking (p : Addr) (x : Bool) (u : TypeId) (pv : Value) (older : List PanicEntry) (w : World) (hc : w.cell? p = some (.bool x)) (hz : w.frozen? p = false) :
  CallsD Tryz.prog 180 #[.pointer (some p)] (.panicking ({ v := .iface u pv, recovered := false } :: older)) w fun e u' w' =>
   e = .returned (.tuple #[]) /\ u' = .panicking ({ v := .iface u pv, recovered := true } :: older) /\ w' = w.setCell p (.bool false) := by
 refine callsD_of_wpS Tryz.func180 rfl fun c₀ cs hu => ?_
 apply wpS_seq
 apply wpS_region
 simp [wpOpsS, go_sem, recoverD, hu, Tryz.ntmps180, Exit.thenS]
 refine wpS_cond (t := true) (by simp [Act.eval, Array.replicate]) ?_
 simp only [if_true]
 apply wpS_region
 simp [wpOpsS, go_sem, hc, hz, bodyPostS, results, Tryz.results180]
theorem catch_idle (p : Addr) (w : World) :
  CallsD Tryz.prog 180 #[.pointer (some p)] .returning w fun e u' w' => e = .returned (.tuple #[]) /\ u' = .returning /\ w' = w := by
 refine callsD_of_wpS Tryz.func180 rfl fun c₀ cs hu => ?_
 apply wpS_seq
 apply wpS_region
 simp [wpOpsS, go_sem, recoverD, hu, Tryz.ntmps180, Exit.thenS]
 refine wpS_cond (t := false) (by simp [Act.eval, Array.replicate]) ?_
 simp only [Bool.false_eq_true, if_false]
 refine wpS_of_wp (wp_skip ?_)
 cases c₀
 simp_all [bodyPostS, results, Tryz.results180]
structure RunT where
 f : Int
 s : Int
 c : Int
structure RunsIn (w : World) (p : Option Addr) (l : List RunT) : Prop where
 at' : ∀ (i : Nat) (r : RunT), l[i]? = some r -> ∃ b o, p = some ⟨b, o, none⟩ /\ w.cell? ⟨b, o + i * 3, none⟩ = some (r.f) /\ w.cell? ⟨b, o + i * 3 + 1, none⟩ = some (r.s) /\ w.cell? ⟨b, o + i * 3 + 2, none⟩ = some (r.c)
theorem cell_lt {w : World} {b o : Nat} {v : Value} (h : w.cell? ⟨b, o, none⟩ = some v) : b < w.heap.size := by
 by_cases hlt : b < w.heap.size
 ·exact hlt
 ·have hn : w.heap[b]? = none := by simp; omega
  simp [World.cell?, hn] at h
theorem RunsIn.below {w w' : World} {p : Option Addr} {l : List RunT} (h : RunsIn w p l) (hb : Below w.heap.size w w') : RunsIn w' p l := ⟨fun i r hr => by
 obtain ⟨b, o, e, h1, h2, h3⟩ := h.at' i r hr
 have hB := (bcell hb).1
 exact ⟨b, o, e, (hB b _ (cell_lt h1)).trans h1, (hB b _ (cell_lt h2)).trans h2, (hB b _ (cell_lt h3)).trans h3⟩⟩
theorem RunsIn.drew {w : World} {p : Option Addr} {l : List RunT} (h : RunsIn w p l) : RunsIn w.drew p l := ⟨h.at'⟩
def countTo (l : List RunT) : Nat -> Int
 | 0 => 0
 | n + 1 => countTo l n + ((l[n]?).map (·.c)).getD 0
theorem many_w (p : Option Addr) (len cap : Nat) (l : List RunT) (w : World) (hl : l.length = len) (hlen : len <= 256) (h : RunsIn w p l) (hc : ∀ (i : Nat) (r : RunT), l[i]? = some r -> 0 <= r.c /\ r.c <= 256) :
  Calls Tryz.prog 152 #[.slice p len cap] w fun e w' => e = .returned (.int .i64 (countTo l len)) /\ Below w.heap.size w w' := by
 go_enter Tryz.func152, Tryz.ntmps152
 go_wp2
 refine wp_loop (fun a' W => Below w.heap.size w W /\ ∃ (i : Nat) (n : Int) (u1 u4 u5 u9 u10 u11 u12 u13 u14 u15 u16 u17 : Value), a' = { tmps := #[(.slice p len cap), u1, .int .i64 0, n, u4, u5, (.slice p len cap), .int .i64 (len : Int), .int .i64 (i : Int), u9, u10, u11, u12, u13, u14, u15, u16, u17], defers := [] } /\ i <= len /\ n = countTo l i /\ 0 <= n /\ n <= 256 * (i : Int)) (fun a' _ => len - (intAt (a'.tmps.getD 8 undef)).toNat) ?_ ?_
 ·exact ⟨Below.refl _ _, 0, 0, _, _, _, _, _, _, _, _, _, _, _, _, rfl, by omega, rfl, by omega, by omega⟩
 ·rintro a' W ⟨hW, i, n, u1, u4, u5, u9, u10, u11, u12, u13, u14, u15, u16, u17, rfl, hi, hn, hn0, hn1⟩
  have hz := hW.size
  rcases Nat.lt_or_ge i len with hlt | hge
  ·have hd : decide ((i : Int) < (len : Int)) = true := by simp; omega
   obtain ⟨r, hr⟩ : ∃ r, l[i]? = some r := ⟨l[i]'(by omega), List.getElem?_eq_getElem (by omega)⟩
   obtain ⟨b, o, rfl, k0, k1, k2⟩ := (h.below hW).at' i r hr
   subst hn
   have hcr := hc i r hr
   have e1 : wrap64 (countTo l i + r.c) = countTo l i + r.c := by rw [wrap64_eq]; omega
   have e2 : wrap64 ((i : Int) + 1) = ((i + 1 : Nat) : Int) := by rw [wrap64_eq]; omega
   have e3 : countTo l (i + 1) = countTo l i + r.c := by simp [countTo, hr]
   go_wp2
   rw [show (i : Int) + 1 = ((i + 1 : Nat) : Int) by omega]
   refine ⟨⟨belowAny, i + 1, countTo l i + r.c, _, _, _, _, _, _, _, _, _, _, _, _, rfl, by omega, by omega, by omega, by omega⟩, by simp [intAt]; omega⟩
  ·have hd : decide ((i : Int) < (len : Int)) = false := by simp; omega
   have e : i = len := by omega
   go_wp2
   subst e
   subst hn
   go_ret
   exact ⟨rfl, hW⟩
attribute [local simp] Oper.looksAt Op.operands Call.operands envOf Det GDet
theorem c_sure (b : Bool) (w : World) : Calls Tryz.prog 181 #[.bool b] w fun e w' => w' = w /\ (b = true /\ e = .returned (.tuple #[]) ∨ b = false /\ e = .panicked [{ v := .iface 28 (.int .i64 170), recovered := false }]) := by
 cases b with
 | true => exact (sure_t w).mono fun e w' ⟨h1, h2⟩ => ⟨h2, .inl ⟨rfl, h1⟩⟩
 | false => exact (sure_f w).mono fun e w' ⟨h1, h2⟩ => ⟨h2, .inr ⟨rfl, h1⟩⟩
def MT : Int := 281474976710656
def lastI (r : RunT) : Int := r.f + r.s * (r.c - 1)
def run1 (r : RunT) : Bool := decide (1 <= r.c) && decide (r.c <= 256) && decide (0 <= r.f) && decide (r.f <= 281474976710656) && decide (0 <= r.s) && decide (r.s <= 281474976710656)
def run2 (len i : Nat) (r : RunT) : Bool := (decide (r.c = 1) == decide (r.s = 0)) && (decide (1 < r.c) || decide ((i : Int) = (len : Int) - 1)) && decide (lastI r <= 281474976710656)
def run3 (q r : RunT) : Bool := decide (lastI q < r.f) && (r.f - lastI q != q.s)
def okAt (l : List RunT) (i : Nat) : Bool := match l[i]? with
 | some r => run1 r && run2 l.length i r && (decide (i = 0) || (match l[i - 1]? with | some q => run3 q r | none => true))
 | none => true
def okTo (l : List RunT) : Nat -> Bool
 | 0 => true
 | i + 1 => okTo l i && okAt l i
def risesB (l : List RunT) : Bool := (decide (0 < l.length) && decide ((l.length : Int) <= 256)) && okTo l l.length && decide (countTo l l.length <= 256)
theorem run1_bd {r : RunT} (h : run1 r = true) : (0 <= r.f /\ r.f <= 281474976710656) /\ (0 <= r.s /\ r.s <= 281474976710656) /\ 1 <= r.c /\ r.c <= 256 := by
 unfold run1 at h; simp at h; omega
theorem okAt_1 {l : List RunT} {i : Nat} {r : RunT} (hr : l[i]? = some r) (h : run1 r = false) : okAt l i = false := by unfold okAt; rw [hr]; simp [h]
theorem okAt_2 {l : List RunT} {i : Nat} {r : RunT} (hr : l[i]? = some r) (h : run2 l.length i r = false) : okAt l i = false := by unfold okAt; rw [hr]; simp [h]
theorem okAt_3 {l : List RunT} {i : Nat} {q r : RunT} (hr : l[i]? = some r) (hi : 0 < i) (hq : l[i - 1]? = some q) (h : run3 q r = false) : okAt l i = false := by unfold okAt; rw [hr]; simp [hq, h]; omega
theorem c_last (r : RunT) (w : World) (hf : 0 <= r.f /\ r.f <= 281474976710656) (hs : 0 <= r.s /\ r.s <= 281474976710656) (hc : 1 <= r.c /\ r.c <= 256) :
  Calls Tryz.prog 182 #[.agg #[r.f, r.s, r.c]] w fun e w' => e = .returned (.int .i64 (lastI r)) /\ Below w.heap.size w w' := by
 have m : (r.s * (r.c - 1)).natAbs <= 281474976710656 * 256 := natAbs_mul_le (by omega) (by omega)
 exact last_w r.f r.s r.c (r.c - 1) (r.s * (r.c - 1)) (lastI r) w (by rw [wrap64_eq]; omega) (by rw [wrap64_eq]; omega) (by unfold lastI; rw [wrap64_eq]; omega)
theorem okTo_false {l : List RunT} {i : Nat} (h : okAt l i = false) : ∀ n, i < n -> okTo l n = false
 | 0, hn => by omega
 | n + 1, hn => by
  simp only [okTo]
  rcases Nat.lt_or_ge i n with k | k
  ·rw [okTo_false h n k]; rfl
  ·have : i = n := by omega
   subst this; rw [h, Bool.and_false]
theorem risesB_false {l : List RunT} {i : Nat} (h : okAt l i = false) (hi : i < l.length) : risesB l = false := by
 unfold risesB; rw [okTo_false h _ hi, Bool.and_false, Bool.false_and]
theorem rises_out (w W : World) (tmps : Array Value) (d : List Deferred) (u : TypeId) (pv : Value) (hs : tmps[2]?.getD undef = .pointer (some ⟨w.heap.size, 0, none⟩)) (hd : d = [{ target := .fn (.func 180) #[.pointer (some ⟨w.heap.size, 0, none⟩)], args := #[] }])
  (hW : Below w.heap.size w W) (hb : Blk W w.heap.size #[.bool false] 4) (b : Bool) (hf : b = false) :
  Leaves Tryz.prog Tryz.f151 tmps (fun e w' => e = .returned (.bool b) /\ Below w.heap.size w w') d (.panicking [{ v := .iface u pv, recovered := false }]) W := by
 subst hd hf
 refine leaves_cons (f := 180) (args := #[.pointer (some ⟨w.heap.size, 0, none⟩)]) (by simp) (by simp [go_sem]) ?_
 have k1 := hb.cell
 have f1 := hb.frozen
 refine (catch_panicking ⟨w.heap.size, 0, none⟩ false u pv [] W (by simp [k1]) (by simp [f1])).mono ?_
 rintro e u' w'' ⟨rfl, rfl, rfl⟩
 refine ⟨.bool false, by simp [results, Tryz.results151, go_sem, hs, k1, f1], rfl, belowAny⟩
theorem rises_ret (w W : World) (tmps : Array Value) (d : List Deferred) (hs : tmps[2]?.getD undef = .pointer (some ⟨w.heap.size, 0, none⟩)) (hd : d = [{ target := .fn (.func 180) #[.pointer (some ⟨w.heap.size, 0, none⟩)], args := #[] }])
  (hW : Below w.heap.size w W) (v : Bool) (hb : Blk W w.heap.size #[.bool v] 4) (b : Bool) (hf : b = v) :
  Leaves Tryz.prog Tryz.f151 tmps (fun e w' => e = .returned (.bool b) /\ Below w.heap.size w w') d .returning W := by
 subst hd hf
 refine leaves_cons (f := 180) (args := #[.pointer (some ⟨w.heap.size, 0, none⟩)]) (by simp) (by simp [go_sem]) ?_
 have k1 := hb.cell
 have f1 := hb.frozen
 refine (catch_idle ⟨w.heap.size, 0, none⟩ W).mono ?_
 rintro e u' w'' ⟨rfl, rfl, rfl⟩
 refine ⟨.bool b, by simp [results, Tryz.results151, go_sem, hs, k1, f1], rfl, hW⟩
theorem okTo_step {l : List RunT} {i : Nat} {r : RunT} (hok : okTo l i = true) (hr : l[i]? = some r) (g1 : run1 r = true) (g2 : run2 l.length i r = true) (h : i = 0 ∨ ∃ q, l[i - 1]? = some q /\ run3 q r = true) : okTo l (i + 1) = true := by
 simp only [okTo, okAt, hr, hok, g1, g2, Bool.true_and, Bool.and_true]
 rcases h with rfl | ⟨q, hq, g3⟩
 ·simp
 ·simp [hq, g3]
theorem okTo_run1 {l : List RunT} : ∀ {i j : Nat} {q : RunT}, okTo l i = true -> j < i -> l[j]? = some q -> run1 q = true
 | 0, _, _, _, hj, _ => by omega
 | i + 1, j, q, h, hj, hq => by
  simp only [okTo, Bool.and_eq_true] at h
  rcases Nat.lt_or_ge j i with k | k
  ·exact okTo_run1 h.1 k hq
  ·have : j = i := by omega
   subst this
   have := h.2
   unfold okAt at this
   rw [hq] at this
   simp at this
   exact this.1.1
theorem lastI_bd {r : RunT} (hf : 0 <= r.f /\ r.f <= 281474976710656) (hs : 0 <= r.s /\ r.s <= 281474976710656) (hc : 1 <= r.c /\ r.c <= 256) : 0 <= lastI r /\ lastI r <= 281474976710656 * 257 := by
 have m : (r.s * (r.c - 1)).natAbs <= 281474976710656 * 256 := natAbs_mul_le (by omega) (by omega)
 have m0 : 0 <= r.s * (r.c - 1) := Int.mul_nonneg (by omega) (by omega)
 unfold lastI; omega
theorem RunsIn.cells {w : World} {b o : Nat} {l : List RunT} (h : RunsIn w (some ⟨b, o, none⟩) l) {i : Nat} {r : RunT} (hr : l[i]? = some r) : w.cell? ⟨b, o + i * 3, none⟩ = some (r.f) /\ w.cell? ⟨b, o + i * 3 + 1, none⟩ = some (r.s) /\ w.cell? ⟨b, o + i * 3 + 2, none⟩ = some (r.c) := by
 obtain ⟨b', o', e, h1, h2, h3⟩ := h.at' i r hr
 cases e
 exact ⟨h1, h2, h3⟩
theorem RunsIn.rex {L : List Nat} {w w' : World} {p : Option Addr} {l : List RunT} (h : RunsIn w p l) (hr : Rex L w w') (hL : L = []) : RunsIn w' p l := by subst hL; exact h.below hr.below
theorem prev_facts {l : List RunT} {i : Nat} {r : RunT} (hok : okTo l i = true) (hlt : i < l.length) (hlen : l.length <= 256) : 0 < i -> run1 r = true -> ∃ q, l[i - 1]? = some q /\ ((0 <= q.f /\ q.f <= 281474976710656) /\ (0 <= q.s /\ q.s <= 281474976710656) /\ (1 <= q.c /\ q.c <= 256)) /\ wrap64 ((i : Int) - 1) = ((i - 1 : Nat) : Int) /\ i - 1 < l.length /\ decide (0 < (i : Int)) = true /\ wrap64 (r.f - lastI q) = r.f - lastI q := by
 intro hi0 g1
 obtain ⟨q, hq⟩ : ∃ q, l[i - 1]? = some q := ⟨l[i - 1]'(by omega), List.getElem?_eq_getElem (by omega)⟩
 obtain ⟨a1, a2, a3⟩ := run1_bd (okTo_run1 hok (show i - 1 < i by omega) hq)
 obtain ⟨r1, r2, r3⟩ := run1_bd g1
 have hlq := lastI_bd a1 a2 a3
 exact ⟨q, hq, ⟨a1, a2, a3⟩, by rw [wrap64_eq]; omega, by omega, by simp; omega, by rw [wrap64_eq]; omega⟩
theorem rises_w (p : Option Addr) (cap : Nat) (l : List RunT) (w : World) (hlen : l.length <= 9223372036854775807) (h : RunsIn w p l) :
  Calls Tryz.prog 151 #[.slice p l.length cap] w fun e w' => e = .returned (.bool (risesB l)) /\ Below w.heap.size w w' := by
 have hmf : ∀ (fn : Fn) (first cap : Array Value) (w : World), (Instr.makeFunc fn first cap).run Tryz.prog w = .ok (.func fn first cap) w := fun _ _ _ _ => rfl
 go_enter_defers Tryz.func151, Tryz.ntmps151
 go_upto_region 2 with (fail)
 refine wp_facts (fun W' => Below w.heap.size w W' /\ Blk W' w.heap.size #[.bool false] 4) ⟨by exact belowAny, by exact blkAny⟩ ?_
 rintro W1 ⟨hW, b1⟩
 have z2 := hW.size
 have z3 := b1.lt
 refine wp_region_sq 8 109 [] (fun W' => Rex [] W1 W' /\ Blk W' w.heap.size #[.bool false] 4) (by kernel_rfl) rfl ⟨(Rex.refl _ _), b1⟩ (fun w w' ⟨h0, h1⟩ hr => ⟨h0.trans hr, h1.rex hr (by simp <;> omega)⟩) ?_
 iterate 4
  apply nd_det (hg := rfl) (hal := rfl)
  ·intro a W' hC hE
   obtain ⟨_, k1⟩ := hC
   have k1 := k1.cell
   first
    | (simp at hE; simp [go_sem, Act.eval, IntWalk.i64_left, hE, k1]; try rfl)
    | (clear hE; simp [go_sem, Act.eval, IntWalk.i64_left, k1]; try rfl)
 iterate 3
  apply nd_detg (p := true) (hg := rfl) (hd := rfl) (hal := rfl)
  ·intro v W' h
   simp at h
   simp
   exact h
  ·intro hp hx a W' hC hE
   obtain ⟨_, k1⟩ := hC
   have k1 := k1.cell
   simp [hx] at hE
   simp [go_sem, Act.eval, IntWalk.i64_left, hE, k1]
   try rfl
 apply nd_pick_and (ho := rfl) (hg := rfl)
 ·intro v W' h
  simp at h
  exact h
 ·intro v W' h hx
  simp [hx] at h
  exact h
 rintro W4 ⟨hR, d1⟩
 simp only [ndFinR, Det, forall_eq]
 intros
 repeat (rename GDet _ _ _ _ => hgd; clear hgd)
 simp only [Act.put, List.setIfInBounds_toArray, List.set_cons_zero, List.set_cons_succ, List.drop_succ_cons, List.drop_zero]
 replace hW := hW.trans (hR.of_priv hW.size)
 clear hR
 try clear b1
 have b1 := d1
 clear d1
 go_wp2_with fail
 refine (c_sure _ _).mono ?_
 rintro e w' ⟨rfl, hh⟩
 rcases hh with ⟨hb, rfl⟩ | ⟨hb, rfl⟩
 ·have hlen' : 0 < l.length /\ l.length <= 256 := by simp at hb; omega
  clear hlen
  go_wp2
  refine wp_loop (fun a' W => Below w.heap.size w W /\ Blk W w.heap.size #[.bool false] 4 /\ ∃ (i : Nat) (n : Int), (∃ u : Nat -> Value, a' = { tmps := #[(.slice p l.length cap), u 1, .pointer (some ⟨w.heap.size, 0, none⟩), n, u 4, u 5, u 6, .func (.func 180) #[] #[.pointer (some ⟨w.heap.size, 0, none⟩)], u 8, u 9, u 10, u 11, u 12, u 13, u 14, u 15, u 16, (.slice p l.length cap), .int .i64 (l.length : Int), .int .i64 (i : Int), u 20, u 21, u 22, u 23, u 24, u 25, u 26, u 27, u 28, u 29, u 30, u 31, u 32, u 33, u 34, u 35, u 36, u 37, u 38, u 39, u 40, u 41, u 42, u 43, u 44, u 45, u 46, u 47, u 48, u 49, u 50, u 51, u 52, u 53, u 54, u 55, u 56, u 57, u 58, u 59, u 60, u 61, u 62, u 63, u 64, u 65, u 66, u 67, u 68, u 69, u 70, u 71, u 72, u 73, u 74, u 75, u 76, u 77, u 78, u 79, u 80, u 81, u 82, u 83, u 84, u 85, u 86, u 87, u 88, u 89, u 90, u 91, u 92, u 93, u 94, u 95, u 96, u 97, u 98, u 99, u 100, u 101, u 102, u 103, u 104, u 105, u 106, u 107, u 108], defers := [{ target := .fn (.func 180) #[.pointer (some ⟨w.heap.size, 0, none⟩)], args := #[] }] }) /\ i <= l.length /\ okTo l i = true /\ n = countTo l i /\ 0 <= n /\ n <= 256 * (i : Int)) (fun a' _ => l.length - (intAt (a'.tmps.getD 19 undef)).toNat) ?_ ?_
  ·exact ⟨hW, b1, 0, 0, frame_ex rfl, by omega, rfl, rfl, by omega, by omega⟩
  ·rintro a' W0 ⟨hW, b1, i, n, ⟨u, rfl⟩, hi, hok, hn, hn0, hn1⟩
   have hz := hW.size
   subst hn
   rcases Nat.lt_or_ge i l.length with hlt | hge
   ·have hd : decide ((i : Int) < (l.length : Int)) = true := by simp; omega
    obtain ⟨r, hr⟩ : ∃ r, l[i]? = some r := ⟨l[i]'(by omega), List.getElem?_eq_getElem (by omega)⟩
    obtain ⟨b, o, rfl, q0, q1, q2⟩ := (h.below hW).at' i r hr
    have hprev : 0 < i -> run1 r = true -> ∃ q, l[i - 1]? = some q /\ ((0 <= q.f /\ q.f <= 281474976710656) /\ (0 <= q.s /\ q.s <= 281474976710656) /\ (1 <= q.c /\ q.c <= 256)) /\ wrap64 ((i : Int) - 1) = ((i - 1 : Nat) : Int) /\ i - 1 < l.length /\ decide (0 < (i : Int)) = true /\ wrap64 (r.f - lastI q) = r.f - lastI q := prev_facts hok hlt (by omega)
    replace hprev := Lib.hid hprev
    go_upto_region 7 with (fail)
    refine wp_facts (fun W' => Below w.heap.size w W' /\ Blk W' w.heap.size #[.bool false] 4 /\ Blk W' W0.heap.size #[r.f, r.s, r.c] 144) ⟨by exact belowAny, by exact blkAny, by exact blkAny⟩ ?_
    clear b1 hW
    rintro W1 ⟨hW, b1, b2⟩
    have z2 := hW.size
    have z3 := b1.lt
    have z4 := b2.lt
    refine wp_region_sq 28 109 [] (fun W' => Rex [] W1 W' /\ Blk W' w.heap.size #[.bool false] 4 /\ Blk W' W0.heap.size #[r.f, r.s, r.c] 144) (by kernel_rfl) rfl ⟨(Rex.refl _ _), b1, b2⟩ (fun w w' ⟨h0, h1, h2⟩ hr => ⟨h0.trans hr, h1.rex hr (by simp <;> omega), h2.rex hr (by simp <;> omega)⟩) ?_
    iterate 28
     first
     | (
      apply nd_det (hg := rfl) (hal := rfl)
      ·intro a W' hC hE
       obtain ⟨_, k1, k2⟩ := hC
       have k1 := k1.cell
       have k2 := k2.cell
       first
        | (simp at hE; simp [go_sem, Act.eval, IntWalk.i64_left, hE, k1, k2]; try rfl)
        | (clear hE; simp [go_sem, Act.eval, IntWalk.i64_left, k1, k2]; try rfl))
     | (
      apply nd_detg (p := true) (hg := rfl) (hd := rfl) (hal := rfl)
      ·intro v W' h
       simp at h
       simp
       exact h
      ·intro hp hx a W' hC hE
       obtain ⟨_, k1, k2⟩ := hC
       have k1 := k1.cell
       have k2 := k2.cell
       simp [hx] at hE
       simp [go_sem, Act.eval, IntWalk.i64_left, hE, k1, k2]
       try rfl)
     | (
      apply nd_pick_and (ho := rfl) (hg := rfl)
      ·intro v W' h
       simp at h
       exact h
      ·intro v W' h hx
       simp [hx] at h
       exact h)
    rintro W5 ⟨hR, d1, d2⟩
    simp only [ndFinR, Det, forall_eq]
    intros
    repeat (rename GDet _ _ _ _ => hgd; clear hgd)
    simp only [Act.put, List.setIfInBounds_toArray, List.set_cons_zero, List.set_cons_succ, List.drop_succ_cons, List.drop_zero]
    replace hW := hW.trans (hR.of_priv hW.size)
    clear hR
    try clear b1 b2
    have b1 := d1
    clear d1
    have b2 := d2
    clear d2
    clear q0 q1 q2
    go_wp2_with fail
    refine (c_sure _ _).mono ?_
    rintro e w' ⟨rfl, hh⟩
    rcases hh with ⟨hb, rfl⟩ | ⟨hb, rfl⟩
    rotate_left
    ·exact rises_out w _ _ _ _ _ rfl rfl hW b1 _ (risesB_false (okAt_1 hr hb) hlt)
    have g1 : run1 r = true := hb
    obtain ⟨⟨rf0, rf1⟩, ⟨rs0, rs1⟩, rc0, rc1⟩ := run1_bd g1
    have e0 := Lib.hid (show wrap64 ((l.length : Int) - 1) = (l.length : Int) - 1 by rw [wrap64_eq]; omega)
    go_upto_region 8 with (fail)
    refine wp_facts (fun W' => Below w.heap.size w W' /\ Blk W' w.heap.size #[.bool false] 4 /\ Blk W' W0.heap.size #[r.f, r.s, r.c] 144) ⟨by exact belowAny, by exact blkAny, by exact blkAny⟩ ?_
    clear b1 b2 hW
    rintro W6 ⟨hW, b1, b2⟩
    have z7 := hW.size
    have z8 := b1.lt
    have z9 := b2.lt
    refine wp_region_sq 24 109 [] (fun W' => Rex [] W6 W' /\ Blk W' w.heap.size #[.bool false] 4 /\ Blk W' W0.heap.size #[r.f, r.s, r.c] 144) (by kernel_rfl) rfl ⟨(Rex.refl _ _), b1, b2⟩ (fun w w' ⟨h0, h1, h2⟩ hr => ⟨h0.trans hr, h1.rex hr (by simp <;> omega), h2.rex hr (by simp <;> omega)⟩) ?_
    iterate 21
     first
     | (
      apply nd_det (hg := rfl) (hal := rfl)
      ·intro a W' hC hE
       obtain ⟨_, k1, k2⟩ := hC
       have k1 := k1.cell
       have k2 := k2.cell
       first
        | (simp at hE; simp [go_sem, Act.eval, IntWalk.i64_left, hE, k1, k2, e0.out]; try rfl)
        | (clear hE; simp [go_sem, Act.eval, IntWalk.i64_left, k1, k2, e0.out]; try rfl))
     | (
      apply nd_detg (p := true) (hg := rfl) (hd := rfl) (hal := rfl)
      ·intro v W' h
       simp at h
       simp
       exact h
      ·intro hp hx a W' hC hE
       obtain ⟨_, k1, k2⟩ := hC
       have k1 := k1.cell
       have k2 := k2.cell
       simp [hx] at hE
       simp [go_sem, Act.eval, IntWalk.i64_left, hE, k1, k2, e0.out]
       try rfl)
     | (
      apply nd_detg (p := _) (hg := rfl) (hd := rfl) (hal := rfl)
      ·intro v W' h
       exact h
      ·intro hp hx a W' hC hE
       obtain ⟨_, k1, k2⟩ := hC
       have k1 := k1.cell
       have k2 := k2.cell
       try simp at hp
       try simp at hx
       simp [hp, hx] at hE
       simp [go_sem, Act.eval, IntWalk.i64_left, hE, k1, k2, e0.out]
       try rfl)
     | (
      apply nd_pickg_or (p := true) (ho := rfl) (hg := rfl) (hd := rfl)
      ·intro v W' h
       simp at h
       simp
       exact h
      ·intro _ hx v W' h
       simp [hx] at h
       exact h
      ·intro _ hx v W' h hy
       simp [hx, hy] at h
       exact h)
     | (
      apply nd_pick_and (ho := rfl) (hg := rfl)
      ·intro v W' h
       simp at h
       exact h
      ·intro v W' h hx
       simp [hx] at h
       exact h)
    apply nd_callvg2 (p := true) (hg := rfl) (hd := rfl) (hal := rfl)
    ·intro v W' h
     simp at h
     simp
     exact h
    ·intro hp hx W' hC
     exact c_last r W' ⟨rf0, rf1⟩ ⟨rs0, rs1⟩ ⟨rc0, rc1⟩
    ·intro hp hx a W' hC hE
     obtain ⟨_, k1, k2⟩ := hC
     have k1 := k1.cell
     have k2 := k2.cell
     first
      | (simp [hx] at hE; simp [go_sem, Act.eval, IntWalk.i64_left, hE, k1, k2, e0.out]; try rfl)
      | (clear hE; simp [go_sem, Act.eval, IntWalk.i64_left, k1, k2, e0.out]; try rfl)
    iterate 1
     apply nd_detg (p := true) (hg := rfl) (hd := rfl) (hal := rfl)
     ·intro v W' h
      simp at h
      simp
      exact h
     ·intro hp hx a W' hC hE
      obtain ⟨_, k1, k2⟩ := hC
      have k1 := k1.cell
      have k2 := k2.cell
      simp [hx] at hE
      simp [go_sem, Act.eval, IntWalk.i64_left, hE, k1, k2, e0.out]
      try rfl
    apply nd_pick_and (ho := rfl) (hg := rfl)
    ·intro v W' h
     simp at h
     exact h
    ·intro v W' h hx
     simp [hx] at h
     exact h
    rintro W10 ⟨hR, d1, d2⟩
    simp only [ndFinR, Det, forall_eq]
    intros
    repeat (rename GDet _ _ _ _ => hgd; clear hgd)
    simp only [Act.put, List.setIfInBounds_toArray, List.set_cons_zero, List.set_cons_succ, List.drop_succ_cons, List.drop_zero]
    replace hW := hW.trans (hR.of_priv hW.size)
    clear hR
    try clear b1 b2
    have b1 := d1
    clear d1
    have b2 := d2
    clear d2
    go_wp2_with fail
    refine (c_sure _ _).mono ?_
    rintro e w' ⟨rfl, hh⟩
    rcases hh with ⟨hb, rfl⟩ | ⟨hb, rfl⟩
    rotate_left
    ·exact rises_out w _ _ _ _ _ rfl rfl hW b1 _ (risesB_false (okAt_2 hr hb) hlt)
    have g2 : run2 l.length i r = true := hb
    have e5 := Lib.hid (show countTo l (i + 1) = countTo l i + r.c by simp [countTo, hr])
    clear e0
    rcases Nat.eq_zero_or_pos i with hi0 | hi0
    ·subst hi0
     have k1 := b1.cell
     have f1 := b1.frozen
     have k2 := b2.cell
     have f2 := b2.frozen
     go_wp2
     exact ⟨⟨hW, b1, 1, countTo l 0 + r.c, frame_ex rfl, by omega, okTo_step hok hr g1 g2 (.inl rfl), e5.out.symm, by omega, by omega⟩, by simp [intAt]; omega⟩
    ·obtain ⟨q, hq, ⟨qf, qs, qc⟩, e8, e9, hi1, e10⟩ := hprev.out hi0 g1
     replace e8 := Lib.hid e8
     replace e10 := Lib.hid e10
     have k1 := b1.cell
     have f1 := b1.frozen
     have k2 := b2.cell
     have f2 := b2.frozen
     go_upto_region 10 with (fail)
     clear k1 f1 k2 f2
     refine wp_facts (fun W' => Below w.heap.size w W' /\ Blk W' w.heap.size #[.bool false] 4 /\ Blk W' W0.heap.size #[r.f, r.s, r.c] 144 /\ RunsIn W' (some ⟨b, o, none⟩) l) ⟨by exact belowAny, by exact blkAny, by exact blkAny, by exact h.below (belowAny)⟩ ?_
     clear b1 b2 hW
     rintro W11 ⟨hW, b1, b2, b3⟩
     have z12 := hW.size
     have z13 := b1.lt
     have z14 := b2.lt
     refine wp_region_ndQ 10 109 [] (fun W' => Rex [] W11 W' /\ Blk W' w.heap.size #[.bool false] 4 /\ Blk W' W0.heap.size #[r.f, r.s, r.c] 144 /\ RunsIn W' (some ⟨b, o, none⟩) l) mixed (by kernel_rfl) rfl ⟨(Rex.refl _ _).drew, b1, b2, b3.drew⟩ (fun w w' ⟨h0, h1, h2, h3⟩ hr => ⟨h0.trans hr, h1.rex hr (by simp <;> omega), h2.rex hr (by simp <;> omega), h3.rex hr (by simp <;> omega)⟩) rfl ?_
     iterate 7
      apply nd_det (hg := rfl) (hal := rfl)
      ·intro a W' hC hE
       obtain ⟨_, k1, k2, k3⟩ := hC
       have k2 := k2.cell
       obtain ⟨q0, q1, q2⟩ := k3.cells hq
       first
        | (simp at hE; simp [go_sem, Act.eval, IntWalk.i64_left, hE, k1, k2, k3, e8.out, e9, e10.out, q0, q1, q2]; try rfl)
        | (clear hE; simp [go_sem, Act.eval, IntWalk.i64_left, k1, k2, k3, e8.out, e9, e10.out, q0, q1, q2]; try rfl)
     refine nd_callv2 rfl rfl (fun W' hC => c_last q W' qf qs qc) (fun a W' hC hE => ?_) ?_
     ·obtain ⟨_, k1, k2, k3⟩ := hC
      have k2 := k2.cell
      obtain ⟨q0, q1, q2⟩ := k3.cells hq
      first
       | (simp at hE; simp [go_sem, Act.eval, IntWalk.i64_left, hE, k1, k2, k3, e8.out, e9, e10.out, q0, q1, q2]; try rfl)
       | (clear hE; simp [go_sem, Act.eval, IntWalk.i64_left, k1, k2, k3, e8.out, e9, e10.out, q0, q1, q2]; try rfl)
     iterate 2
      apply nd_det (hg := rfl) (hal := rfl)
      ·intro a W' hC hE
       obtain ⟨_, k1, k2, k3⟩ := hC
       have k2 := k2.cell
       obtain ⟨q0, q1, q2⟩ := k3.cells hq
       first
        | (simp at hE; simp [go_sem, Act.eval, IntWalk.i64_left, hE, k1, k2, k3, e8.out, e9, e10.out, q0, q1, q2]; try rfl)
        | (clear hE; simp [go_sem, Act.eval, IntWalk.i64_left, k1, k2, k3, e8.out, e9, e10.out, q0, q1, q2]; try rfl)
     rintro W15 ⟨hR, d1, d2, d3⟩
     simp only [ndFinR, Det, forall_eq]
     intros
     repeat (rename GDet _ _ _ _ => hgd; clear hgd)
     simp only [Act.put, List.setIfInBounds_toArray, List.set_cons_zero, List.set_cons_succ]
     refine wpList_nil ?_
     replace hW := hW.trans (hR.of_priv hW.size)
     clear hR
     try clear b1 b2 b3
     have b1 := d1
     clear d1
     have b2 := d2
     clear d2
     have b3 := d3
     clear d3
     go_upto_region 11 with (fail)
     refine wp_facts (fun W' => Below w.heap.size w W' /\ Blk W' w.heap.size #[.bool false] 4 /\ Blk W' W0.heap.size #[r.f, r.s, r.c] 144 /\ RunsIn W' (some ⟨b, o, none⟩) l) ⟨by exact belowAny, by exact blkAny, by exact blkAny, by exact h.below (belowAny)⟩ ?_
     clear b1 b2 b3 hW
     rintro W16 ⟨hW, b1, b2, b3⟩
     have z17 := hW.size
     have z18 := b1.lt
     have z19 := b2.lt
     refine wp_region_sq 12 109 [] (fun W' => Rex [] W16 W' /\ Blk W' w.heap.size #[.bool false] 4 /\ Blk W' W0.heap.size #[r.f, r.s, r.c] 144 /\ RunsIn W' (some ⟨b, o, none⟩) l) (by kernel_rfl) rfl ⟨(Rex.refl _ _), b1, b2, b3⟩ (fun w w' ⟨h0, h1, h2, h3⟩ hr => ⟨h0.trans hr, h1.rex hr (by simp <;> omega), h2.rex hr (by simp <;> omega), h3.rex hr (by simp <;> omega)⟩) ?_
     iterate 3
      apply nd_det (hg := rfl) (hal := rfl)
      ·intro a W' hC hE
       obtain ⟨_, k1, k2, k3⟩ := hC
       have k2 := k2.cell
       obtain ⟨q0, q1, q2⟩ := k3.cells hq
       first
        | (simp at hE; simp [go_sem, Act.eval, IntWalk.i64_left, hE, k1, k2, k3, e8.out, e9, q0, q1, q2]; try rfl)
        | (clear hE; simp [go_sem, Act.eval, IntWalk.i64_left, k1, k2, k3, e8.out, e9, q0, q1, q2]; try rfl)
     iterate 8
      apply nd_detg (p := true) (hg := rfl) (hd := rfl) (hal := rfl)
      ·intro v W' h
       simp at h
       simp
       exact h
      ·intro hp hx a W' hC hE
       obtain ⟨_, k1, k2, k3⟩ := hC
       have k2 := k2.cell
       obtain ⟨q0, q1, q2⟩ := k3.cells hq
       simp [hx] at hE
       simp [go_sem, Act.eval, IntWalk.i64_left, hE, k1, k2, k3, e8.out, e9, q0, q1, q2]
       try rfl
     apply nd_pick_and (ho := rfl) (hg := rfl)
     ·intro v W' h
      simp at h
      exact h
     ·intro v W' h hx
      simp [hx] at h
      exact h
     rintro W20 ⟨hR, d1, d2, d3⟩
     simp only [ndFinR, Det, forall_eq]
     intros
     repeat (rename GDet _ _ _ _ => hgd; clear hgd)
     simp only [Act.put, List.setIfInBounds_toArray, List.set_cons_zero, List.set_cons_succ, List.drop_succ_cons, List.drop_zero]
     replace hW := hW.trans (hR.of_priv hW.size)
     clear hR
     try clear b1 b2 b3
     have b1 := d1
     clear d1
     have b2 := d2
     clear d2
     have b3 := d3
     clear d3
     go_wp2_with fail
     refine (c_sure _ _).mono ?_
     rintro e w' ⟨rfl, hh⟩
     rcases hh with ⟨hb, rfl⟩ | ⟨hb, rfl⟩
     rotate_left
     ·exact rises_out w _ _ _ _ _ rfl rfl hW b1 _ (risesB_false (okAt_3 hr hi0 hq hb) hlt)
     have HB := Lib.hid (okTo_step hok hr g1 g2 (.inr ⟨q, hq, hb⟩))
     clear hb hq qf qs qc e8 e9 e10 hi1 hprev b3 g1 g2 hr hok
     have k1 := b1.cell
     have f1 := b1.frozen
     have k2 := b2.cell
     have f2 := b2.frozen
     go_wp2
     rw [show (i : Int) + 1 = ((i + 1 : Nat) : Int) by omega]
     exact ⟨⟨hW, b1, i + 1, countTo l i + r.c, frame_ex rfl, by omega, HB.out, e5.out.symm, by omega, by omega⟩, by simp [intAt]; omega⟩
   ·have hd : decide ((i : Int) < (l.length : Int)) = false := by simp; omega
    have e : i = l.length := by omega
    subst e
    have k1 := b1.cell
    have f1 := b1.frozen
    go_wp2
    refine rises_ret w _ _ _ rfl rfl (belowAny) (decide (countTo l l.length <= 256)) (blkAny) _ ?_
    unfold risesB
    rw [hok, hb]
    rfl
 ·exact rises_out w _ _ _ _ _ rfl rfl hW b1 _ (by unfold risesB; rw [hb, Bool.false_and, Bool.false_and])
end Go.Proofs.YtidfcoooccblaaaGreat
