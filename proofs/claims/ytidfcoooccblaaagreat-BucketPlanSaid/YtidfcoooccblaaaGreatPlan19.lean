/- Parts of the proof that follows: Layer bucket: the plan of an answer. No condition but that the segments may be. | The laws of chapter 26: plain, wakes. No condition. | The laws of chapter 26: BucketPlan's walk. No condition. -/
import Derived.BigQuiet
import Derived.Test.YtidfcoooccblaaaGreatPlan18
set_option maxRecDepth 100000
set_option maxHeartbeats 8000000
set_option linter.unusedSimpArgs false
set_option linter.unusedVariables false
namespace Go.Proofs.YtidfcoooccblaaaGreat
open Go.RowKit Go.Shelf
attribute [local go_sem] Oper.semAt_some
theorem planK_few (s : SerT) (a b : Int) (k : Nat) : (planK s a b k).length <= k := by
 induction k with
 | zero => simp [planK]
 | succ k ih =>
  unfold planK at ih ⊢
  rw [List.range_succ, List.flatMap_append, List.length_append, List.flatMap_cons, List.flatMap_nil, List.append_nil]
  have : (planI s a b k).length <= 1 := by
   unfold planI
   split
   ·unfold segPl; split <;> simp
   ·simp
  omega
theorem planL_few (s : SerT) (a b : Int) : (planL s a b).length <= s.segs.length + 1 := by
 have := planK_few s a b s.segs.length
 unfold planL
 rw [List.length_append]
 have h2 : (planO s a b).length <= 1 := by unfold planO; split <;> simp
 omega
theorem Tryz.infoPiece : (Tryz.prog.info? 75).map (fun i => (i.zero, i.size, i.bytes)) = some (some (.agg #[.int .i64 0, .int .i64 0, .int .i64 0]), 3, 24) := by kernel_rfl
def PlanPost (L : List RunT) (er : Int) (w : World) (e : Ending) (w' : World) : Prop :=
 ∃ p k, e = .returned (.tuple #[.slice p L.length k, .int .i64 er]) /\ RunsIn w' p L /\ Below w.heap.size w w'
theorem plan1_in (s : SerT) (ps po : Option Addr) (cs co : Nat) (a b : Int) (gs ga gb : Nat) (w : World) (hin : SerIn w s ps po) (hv : ∀ x, x ∈ s.segs -> segB x = true)
  (b1 : Blk w gs #[.string s.name, .int .i64 s.eps, .int .i64 s.floor, .int .i64 s.last, .int .i64 s.scale, .slice ps s.segs.length cs, .slice po s.opn.length co] 25) (b2 : Blk w ga #[.int .i64 a] 2) (b3 : Blk w gb #[.int .i64 b] 2) :
  CallsIn Fence.wide 4 Tryz.prog 83 #[.pointer (some ⟨gs, 0, none⟩), .pointer (some ⟨ga, 0, none⟩), .pointer (some ⟨gb, 0, none⟩)] w (PlanPost (planL s a b) 0 w) := by
 obtain ⟨i0, hi, hz0, hz1, hz2⟩ := info_parts Tryz.infoPiece
 have hfew : (planL s a b).length <= 101 := by have := planL_few s a b; have := hin.fewS; omega
 refine callsIn_of_wp_marks Tryz.func83 rfl trivial ?_ rfl
 simp only [Tryz.ntmps83, List.size_toArray, List.length_cons, List.length_nil, Nat.reduceAdd, Nat.reduceSub, Array.replicate_succ, Array.replicate_zero, List.push_toArray, List.append_toArray, List.nil_append, List.cons_append]
 refine wpIn_wide.2 ?_
 have y1 := b1.lt
 have y2 := b2.lt
 have y3 := b3.lt
 have k1 := b1.cell
 have f1 := b1.frozen
 have k2 := b2.cell
 have f2 := b2.frozen
 have k3 := b3.cell
 have f3 := b3.frozen
 go_upto_region 3 with (fail)
 clear k1 f1 k2 f2 k3 f3
 refine wp_facts (fun W' => Below w.heap.size w W' /\ Blk W' gs #[.string s.name, .int .i64 s.eps, .int .i64 s.floor, .int .i64 s.last, .int .i64 s.scale, .slice ps s.segs.length cs, .slice po s.opn.length co] 25 /\ Blk W' ga #[.int .i64 a] 2 /\ Blk W' gb #[.int .i64 b] 2 /\ Blk W' w.heap.size #[.string s.name, .int .i64 s.eps, .int .i64 s.floor, .int .i64 s.last, .int .i64 s.scale, .slice ps s.segs.length cs, .slice po s.opn.length co, .int .i64 a, .int .i64 b] 157 /\ Blk W' (w.heap.size + 1) #[.slice none 0 0] 70) ⟨by exact belowAny, by exact blkAny2, by exact blkAny2, by exact blkAny2, by exact blkAny2, by exact blkAny2⟩ ?_
 clear b1 b2 b3
 rintro W1 ⟨hW, b1, b2, b3, b4, b5⟩
 have z2 := hW.size
 have z3 := b1.lt
 have z4 := b2.lt
 have z5 := b3.lt
 have z6 := b4.lt
 have z7 := b5.lt
 have k1 := b1.cell
 have f1 := b1.frozen
 have k2 := b2.cell
 have f2 := b2.frozen
 have k3 := b3.cell
 have f3 := b3.frozen
 have k4 := b4.cell
 have f4 := b4.frozen
 have k5 := b5.cell
 have f5 := b5.frozen
 go_wp2_with fail
 refine (c_plPieces _ _).mono ?_
 rintro e w' ⟨rfl, rfl⟩
 have c1 : Below w.heap.size w ((W1.alloc (.cells #[.pointer (some ⟨w.heap.size, 0, none⟩)] 155)).alloc (.cells #[.func (.func 143) #[.pointer (some ⟨w.heap.size, 0, none⟩)] #[]] 228)) := belowAny
 have d1 : Blk ((W1.alloc (.cells #[.pointer (some ⟨w.heap.size, 0, none⟩)] 155)).alloc (.cells #[.func (.func 143) #[.pointer (some ⟨w.heap.size, 0, none⟩)] #[]] 228)) w.heap.size #[.string s.name, .int .i64 s.eps, .int .i64 s.floor, .int .i64 s.last, .int .i64 s.scale, .slice ps s.segs.length cs, .slice po s.opn.length co, .int .i64 a, .int .i64 b] 157 := blkAny2
 have d2 : Blk ((W1.alloc (.cells #[.pointer (some ⟨w.heap.size, 0, none⟩)] 155)).alloc (.cells #[.func (.func 143) #[.pointer (some ⟨w.heap.size, 0, none⟩)] #[]] 228)) (w.heap.size + 1) #[.slice none 0 0] 70 := blkAny2
 have d3 : Blk ((W1.alloc (.cells #[.pointer (some ⟨w.heap.size, 0, none⟩)] 155)).alloc (.cells #[.func (.func 143) #[.pointer (some ⟨w.heap.size, 0, none⟩)] #[]] 228)) W1.heap.size #[.pointer (some ⟨w.heap.size, 0, none⟩)] 155 := blkAny2
 have d4 : Blk ((W1.alloc (.cells #[.pointer (some ⟨w.heap.size, 0, none⟩)] 155)).alloc (.cells #[.func (.func 143) #[.pointer (some ⟨w.heap.size, 0, none⟩)] #[]] 228)) (W1.heap.size + 1) #[.func (.func 143) #[.pointer (some ⟨w.heap.size, 0, none⟩)] #[]] 228 := blkAny2
 have hsz : ((W1.alloc (.cells #[.pointer (some ⟨w.heap.size, 0, none⟩)] 155)).alloc (.cells #[.func (.func 143) #[.pointer (some ⟨w.heap.size, 0, none⟩)] #[]] 228)).heap.size = W1.heap.size + 1 + 1 := by simp
 obtain ⟨W0, hWe⟩ : ∃ W0, W0 = ((W1.alloc (.cells #[.pointer (some ⟨w.heap.size, 0, none⟩)] 155)).alloc (.cells #[.func (.func 143) #[.pointer (some ⟨w.heap.size, 0, none⟩)] #[]] 228)) := ⟨_, rfl⟩
 rw [<- hWe] at c1 d1 d2 d3 d4 hsz ⊢
 have zV := hW.size
 have zO := b5.lt
 clear hWe b1 b2 b3 b4 b5 k1 k2 k3 k4 k5 f1 f2 f3 f4 f5
 go_wp2
 refine (wpIn_wide (n := 4)).1 ?_
 refine wpIn_rangeFunc_ownH rfl (by omega) (gf := 144) (lb := #[.pointer (some ⟨W1.heap.size, 0, none⟩), .pointer (some ⟨W1.heap.size + 1, 0, none⟩)]) rfl trivial (enters_of Tryz.func144 (by kernel_rfl) rfl)
  (encs := fun x : RunT => #[Value.agg #[.int .i64 x.f, .int .i64 x.s, .int .i64 x.c]]) (Kp := fun A B => Below w.heap.size A B /\ ∀ T, T ≠ 70 -> T ≠ 75 -> KeepsT T A B) (S := fun ys => ys = planL s a b) (Sp := fun pre => pre <+: planL s a b) (N := (planL s a b).length) (w0 := W0)
  (fun lr J Jx W hWW hJ _ hY h0 => plPieces1_in 3 (by omega) lr W1.heap.size (W1.heap.size + 1) w.heap.size s ps po cs co a b w hin hv _ (fun h => h) J Jx W hJ (fun pre x W1 h1 h2 => hY pre x W1 h1 (by have := h2.length_le; simp at this; omega)) (c1.trans (hWW.mono c1.size)) (d3.below hWW) (d4.below hWW) (d1.below hWW) h0)
  (fun h k => ⟨h.1.trans k.1, fun T e1 e2 => (h.2 T e1 e2).trans (k.2 T e1 e2)⟩) (fun W k o o' hk ho h1 h2 => ⟨belowK_b (w := w) (Nat.le_refl _) W k o o' (by omega) ho h1 h2, fun T _ _ => keepsT_putObj o' ho h1⟩) (Below.refl _ _) (fun _ => rfl)
  (fun pre W => (∃ v, Boxed W (w.heap.size + 1) 70 v /\ W.ownsRow w.heap.size 75 3 v pre.length (flatCells pre) /\ True) /\ Below w.heap.size w W)
  (fun _ _ _ => False)
  (OwnFrom.and (Own.from (holdsRow_own w.heap.size (w.heap.size + 1) 70 75 3 (fun pre : List RunT => pre.length) (fun pre => flatCells pre) (fun _ _ => True)) _) (ownFrom_below (Nat.le_refl _) (by omega)))
  (fun _ _ _ _ _ hs _ _ => hs)
  ⟨⟨_, d2, World.ownsRow_nil _ _ _ _, trivial⟩, c1⟩
  (fun x a' W => ∃ Bx, w.heap.size + 1 < Bx /\ Blk W Bx #[.int .i64 x.f, .int .i64 x.s, .int .i64 x.c] 75 /\ a' = { tmps := #[.pointer (some ⟨gs, 0, none⟩), .pointer (some ⟨ga, 0, none⟩), .pointer (some ⟨gb, 0, none⟩), .slice none 0 0, .int .i64 0, .pointer (some ⟨w.heap.size, 0, none⟩), .pointer (some ⟨w.heap.size + 1, 0, none⟩), .pointer (some ⟨Bx, 0, none⟩), .agg #[.string s.name, .int .i64 s.eps, .int .i64 s.floor, .int .i64 s.last, .int .i64 s.scale, .slice ps s.segs.length cs, .slice po s.opn.length co], .int .i64 a, .int .i64 b, .agg #[.string s.name, .int .i64 s.eps, .int .i64 s.floor, .int .i64 s.last, .int .i64 s.scale, .slice ps s.segs.length cs, .slice po s.opn.length co, .int .i64 a, .int .i64 b], .pointer (some ⟨w.heap.size, 0, none⟩), .pointer (some ⟨w.heap.size, 0, none⟩), .func (.func 144) #[] #[.pointer (some ⟨W1.heap.size, 0, none⟩), .pointer (some ⟨W1.heap.size + 1, 0, none⟩)], .agg #[.int .i64 x.f, .int .i64 x.s, .int .i64 x.c], undef, undef, undef, undef, undef], defers := [] })
  (fun x a' _ X Y row hs hg hr => by obtain ⟨Bx, h1, h2, h3⟩ := hs; exact ⟨Bx, h1, blk_own Bx 75 (fun (_ : Unit) => #[Value.int .i64 x.f, Value.int .i64 x.s, Value.int .i64 x.c]) () X Y row h2 hg (fun r e => (hr r e).2), h3⟩) ?assign ?body ?done ?stop
 case assign =>
  rintro l pre x W K ⟨⟨v, hv1, hrow, _⟩, hB⟩ hK
  have hlt := hv1.lt
  have hz := hB.size
  gi_wp2
  exact hK _ _ ((KeepsOthers.alloc _ _).from _) ⟨(Below.refl _ _).alloc hz _, fun T _ _ => keepsT_of_below ((Below.refl _ _).alloc (Nat.le_refl _) _)⟩ ⟨⟨v, hv1.alloc _, hrow.alloc _, trivial⟩, hB.alloc hz _⟩ ⟨W.heap.size, hlt, Blk.new' rfl, rfl⟩
 case body =>
  rintro l pre x a' W hl' ⟨r, hr⟩ ⟨⟨v, hv1, hrow, _⟩, hB⟩ ⟨Bx, hBx, bX, rfl⟩ hlt
  have hc := hv1.cell
  have kx := bX.cell
  have yx := bX.lt
  have hp9 : pre.length <= 101 := by omega
  have hcat := Lib.hid (flatCells_snoc pre x)
  clear hr
  gi_wp2_with (gi_at_builtin; refine wpListIn_append_own _ rfl _ _ 70 rfl w.heap.size 75 i0 (.agg #[.int .i64 0, .int .i64 0, .int .i64 0]) 3 24 (by kernel_rfl) hi hz0 hz1 hz2 rfl (by decide) _ _ _ rfl (hrow.alloc _) ⟨W.heap.size, 0, none⟩ 1 1 [.int .i64 x.f, .int .i64 x.s, .int .i64 x.c] rfl rfl (cell_three_new _ _ _ _ _) (by simp [Value.oneCell']) (by simp [maxLen]; omega) (by omega) (by have := hB.size; simp; omega) ?_; intro v' w1 hown' hgrow _; obtain ⟨g', cap', rfl⟩ := ownsRow_succ hown'; obtain ⟨hv2, hv3, hr2, hk2, hb2⟩ := hv1.appended (by decide) hrow hB.size (by omega) hown' hgrow; have hkt := fun T h1 h2 => keepsT_appended (v' := .slice (some ⟨g', 0, none⟩) (pre.length + 1) cap') (T := T) hv1 hrow hgrow h1 h2; have hc1 := hv2.cell; have hf1 := hv2.frozen)
  exact ⟨hk2.from _, ⟨hb2, hkt⟩, ⟨_, hv3, own_cast hr2 (by simp) hcat.out.symm, trivial⟩, hB.trans hb2⟩
 case done =>
  rintro D ys W hD rfl ⟨⟨v, hv1, hrow, _⟩, hB⟩ hK
  have hc := hv1.cell
  obtain ⟨p, cap, rfl, -, -, -, -⟩ := (OwnR.mk hrow).form
  have hrow' := ownsRow_putObj hrow (.deferred none) hK rfl
  have hR9 := Lib.hid (OwnR.mk hrow').runs
  have hB9 := Lib.hid (hB.trans (belowK_b (w := w) (Nat.le_refl _) W D _ (.deferred none) (by omega) hK rfl rfl))
  clear hrow hrow'
  simp only [Exit.inBlock, Exit.then]
  go_wp2
  simp only [bodyPostM]
  refine ⟨by simp, .inl ⟨_, _, rfl, run_takeDeferred hK, ?_⟩⟩
  refine ⟨.tuple #[.slice p (planL s a b).length cap, .int .i64 0], by simp [results, Tryz.f83, go_sem], p, cap, rfl, hR9.out, hB9.out⟩
 case stop =>
  rintro D c pre W _ _ h _
  exact h.elim
theorem toldp_bad (nm : ByteArray) (ep fl la sc : Int) (ps po : Option Addr) (ns cs no co : Nat) (gs ga gb : Nat) (w : World)
  (c1 : ∀ W, Below w.heap.size w W -> Calls Tryz.prog 14 #[.agg #[.string nm, .int .i64 ep, .int .i64 fl, .int .i64 la, .int .i64 sc, .slice ps ns cs, .slice po no co]] W fun e w' => e = .returned (.int .i64 340) /\ Below W.heap.size W w') :
  Calls Tryz.prog 82 #[.agg #[.string nm, .int .i64 ep, .int .i64 fl, .int .i64 la, .int .i64 sc, .slice ps ns cs, .slice po no co], .func (.func 83) #[] #[.pointer (some ⟨gs, 0, none⟩), .pointer (some ⟨ga, 0, none⟩), .pointer (some ⟨gb, 0, none⟩)]] w (PlanPost [] 340 w) := by
 have H_c1 := Lib.hid c1
 clear c1
 go_enter Tryz.func82, Tryz.ntmps82
 have c1 := H_c1.out
 go_wp2_with fail
 refine (c1 _ belowAny).mono ?_
 rintro e w1 ⟨rfl, hb1⟩
 clear c1
 have z2 := hb1.size
 try simp at z2
 have b1 : Blk w1 w.heap.size #[.string nm, .int .i64 ep, .int .i64 fl, .int .i64 la, .int .i64 sc, .slice ps ns cs, .slice po no co] 25 := blkAny2
 have hW : Below w.heap.size w w1 := belowAny
 have z3 := b1.lt
 clear hb1
 have k1 := b1.cell
 have f1 := b1.frozen
 go_wp2
 refine bodyPost_ret (v := .tuple #[.slice none 0 0, .int .i64 340]) (by simp [results, Tryz.results82, go_sem]) rfl ⟨none, 0, rfl, ⟨fun i r hr => by simp at hr⟩, belowAny⟩
theorem toldp_ok (nm : ByteArray) (ep fl la sc : Int) (ps po : Option Addr) (ns cs no co : Nat) (gs ga gb : Nat) (L : List RunT) (er : Int) (w : World)
  (c1 : ∀ W, Below w.heap.size w W -> Calls Tryz.prog 14 #[.agg #[.string nm, .int .i64 ep, .int .i64 fl, .int .i64 la, .int .i64 sc, .slice ps ns cs, .slice po no co]] W fun e w' => e = .returned (.int .i64 0) /\ Below W.heap.size W w')
  (c2 : ∀ W, Below w.heap.size w W -> Calls Tryz.prog 83 #[.pointer (some ⟨gs, 0, none⟩), .pointer (some ⟨ga, 0, none⟩), .pointer (some ⟨gb, 0, none⟩)] W (PlanPost L er W)) :
  Calls Tryz.prog 82 #[.agg #[.string nm, .int .i64 ep, .int .i64 fl, .int .i64 la, .int .i64 sc, .slice ps ns cs, .slice po no co], .func (.func 83) #[] #[.pointer (some ⟨gs, 0, none⟩), .pointer (some ⟨ga, 0, none⟩), .pointer (some ⟨gb, 0, none⟩)]] w (PlanPost L er w) := by
 have H_c1 := Lib.hid c1
 clear c1
 have H_c2 := Lib.hid c2
 clear c2
 go_enter Tryz.func82, Tryz.ntmps82
 have c1 := H_c1.out
 go_wp2_with fail
 refine (c1 _ belowAny).mono ?_
 rintro e w1 ⟨rfl, hb1⟩
 clear c1
 have z2 := hb1.size
 try simp at z2
 have b1 : Blk w1 w.heap.size #[.string nm, .int .i64 ep, .int .i64 fl, .int .i64 la, .int .i64 sc, .slice ps ns cs, .slice po no co] 25 := blkAny2
 have hW : Below w.heap.size w w1 := belowAny
 have z3 := b1.lt
 clear hb1
 have k1 := b1.cell
 have f1 := b1.frozen
 have c2 := H_c2.out
 go_wp2_with fail
 refine (c2 _ belowAny).mono ?_
 rintro e w4 ⟨p, k, rfl, hR, hb4⟩
 clear c2
 have z5 := hb4.size
 try simp at z5
 clear k1 f1
 have b1 : Blk w4 w.heap.size #[.string nm, .int .i64 ep, .int .i64 fl, .int .i64 la, .int .i64 sc, .slice ps ns cs, .slice po no co] 25 := blkAny2
 have hW : Below w.heap.size w w4 := belowAny
 have z6 := b1.lt
 have k1 := b1.cell
 have f1 := b1.frozen
 replace hR := Lib.hid hR
 go_wp2
 refine bodyPost_ret (v := .tuple #[.slice p L.length k, .int .i64 er]) (by simp [results, Tryz.results82, go_sem]) rfl ⟨p, k, rfl, hR.out, belowAny⟩
theorem plan_w (nm : ByteArray) (ep fl la sc : Int) (ps po : Option Addr) (ns cs no co : Nat) (a b : Int) (L : List RunT) (er : Int) (w : World)
  (c1 : ∀ W, Below w.heap.size w W -> Blk W w.heap.size #[.string nm, .int .i64 ep, .int .i64 fl, .int .i64 la, .int .i64 sc, .slice ps ns cs, .slice po no co] 25 -> Blk W (w.heap.size + 1) #[.int .i64 a] 2 -> Blk W (w.heap.size + 1 + 1) #[.int .i64 b] 2 -> Calls Tryz.prog 82 #[.agg #[.string nm, .int .i64 ep, .int .i64 fl, .int .i64 la, .int .i64 sc, .slice ps ns cs, .slice po no co], .func (.func 83) #[] #[.pointer (some ⟨w.heap.size, 0, none⟩), .pointer (some ⟨w.heap.size + 1, 0, none⟩), .pointer (some ⟨w.heap.size + 1 + 1, 0, none⟩)]] W (PlanPost L er W)) :
  Calls Tryz.prog 34 #[.agg #[.string nm, .int .i64 ep, .int .i64 fl, .int .i64 la, .int .i64 sc, .slice ps ns cs, .slice po no co], .int .i64 a, .int .i64 b] w (PlanPost L er w) := by
 have H_c1 := Lib.hid c1
 clear c1
 go_enter Tryz.func34, Tryz.ntmps34
 have hmf : ∀ (fn : Fn) (first cap : Array Value) (w : World), (Instr.makeFunc fn first cap).run Tryz.prog w = .ok (.func fn first cap) w := fun _ _ _ _ => rfl
 go_upto_region 1 with (fail)
 refine wp_facts (fun W' => Below w.heap.size w W' /\ Blk W' w.heap.size #[.string nm, .int .i64 ep, .int .i64 fl, .int .i64 la, .int .i64 sc, .slice ps ns cs, .slice po no co] 25 /\ Blk W' (w.heap.size + 1) #[.int .i64 a] 2 /\ Blk W' (w.heap.size + 1 + 1) #[.int .i64 b] 2) ⟨by exact belowAny, by exact blkAny2, by exact blkAny2, by exact blkAny2⟩ ?_
 rintro W1 ⟨hW, b1, b2, b3⟩
 have z2 := hW.size
 have z3 := b1.lt
 have z4 := b2.lt
 have z5 := b3.lt
 have k1 := b1.cell
 have f1 := b1.frozen
 have k2 := b2.cell
 have f2 := b2.frozen
 have k3 := b3.cell
 have f3 := b3.frozen
 have c1 := H_c1.out
 go_wp2_with fail
 refine (c1 W1 hW b1 b2 b3).mono ?_
 rintro e w6 ⟨p, k, rfl, hR, hb6⟩
 clear c1
 have z7 := hb6.size
 try simp at z7
 clear k1 f1 k2 f2 k3 f3
 have b1 : Blk w6 w.heap.size #[.string nm, .int .i64 ep, .int .i64 fl, .int .i64 la, .int .i64 sc, .slice ps ns cs, .slice po no co] 25 := blkAny2
 have b2 : Blk w6 (w.heap.size + 1) #[.int .i64 a] 2 := blkAny2
 have b3 : Blk w6 (w.heap.size + 1 + 1) #[.int .i64 b] 2 := blkAny2
 have hW : Below w.heap.size w w6 := belowAny
 have z8 := b1.lt
 have z9 := b2.lt
 have z10 := b3.lt
 have k1 := b1.cell
 have f1 := b1.frozen
 have k2 := b2.cell
 have f2 := b2.frozen
 have k3 := b3.cell
 have f3 := b3.frozen
 replace hR := Lib.hid hR
 go_wp2
 refine bodyPost_ret (v := .tuple #[.slice p L.length k, .int .i64 er]) (by simp [results, Tryz.results34, go_sem]) rfl ⟨p, k, rfl, hR.out, belowAny⟩
def plL (s : SerT) (a b : Int) : List RunT := if checkB s then planL s a b else []
theorem c_bkPlan (s : SerT) (ps po : Option Addr) (cs co : Nat) (a b : Int) (w : World) (hin : SerIn w s ps po) :
  Calls Tryz.prog 34 #[.agg (serA s ps cs po co), .int .i64 a, .int .i64 b] w (PlanPost (plL s a b) (if checkB s then 0 else 340) w) := by
 unfold serA
 refine plan_w _ _ _ _ _ _ _ _ _ _ _ a b _ _ w fun W hW k1 k2 k3 => ?_
 have hin' := hin.below hW
 have ck := c_srCheck s ps po cs co
 unfold serA checkE at ck
 unfold plL
 cases hc : checkB s with
 | false =>
  rw [hc] at ck
  exact toldp_bad s.name s.eps s.floor s.last s.scale ps po s.segs.length cs s.opn.length co _ _ _ W (fun W' hW' => ck W' (hin'.below hW'))
 | true =>
  rw [hc] at ck
  simp only [if_true]
  exact toldp_ok s.name s.eps s.floor s.last s.scale ps po s.segs.length cs s.opn.length co _ _ _ _ _ W (fun W' hW' => ck W' (hin'.below hW')) fun W' hW' => callsIn_wide.1 (plan1_in s ps po cs co a b _ _ _ W' (hin'.below hW') (chk_segs hc) (k1.below hW') (k2.below hW') (k3.below hW'))
end Go.Proofs.YtidfcoooccblaaaGreat
namespace Go.Proofs.YtidfcoooccblaaaGreat
open Go.RowKit
theorem c_plain (w : World) :
  Calls Tryz.prog 72 #[] w fun e w' => ∃ ps po, e = .returned (.agg (serA some0 ps 1 po 2)) /\ Below w.heap.size w w' /\ SerIn w' some0 ps po := by
 go_enter Tryz.func72, Tryz.ntmps72
 go_wp2
 obtain ⟨W9, hW9⟩ : ∃ W9, W9 = ((((w.alloc (.cells #[.string { data := #[97] }, .int .i64 2, .int .i64 3, .int .i64 12, .int .i64 0, .slice (some ⟨w.heap.size + 1 + 1, 0, none⟩) 1 1, .slice (some ⟨w.heap.size + 1 + 1 + 1, 0, none⟩) 2 2] 25)).alloc (.cells #[.int .i64 0, .int .i64 2, .int .i64 4] 144)).alloc (.cells #[.int .i64 1, .slice (some ⟨w.heap.size + 1, 0, none⟩) 1 1, .int .i64 10, .int .i64 0, .int .i64 0, .int .i64 1, .slice none 0 0, .int .i64 1] 98)).alloc (.cells #[.int .i64 9, .int .i64 20, .int .i64 12, .int .i64 5] 91)) := ⟨_, rfl⟩
 have b1 : Blk ((((w.alloc (.cells #[.string { data := #[97] }, .int .i64 2, .int .i64 3, .int .i64 12, .int .i64 0, .slice (some ⟨w.heap.size + 1 + 1, 0, none⟩) 1 1, .slice (some ⟨w.heap.size + 1 + 1 + 1, 0, none⟩) 2 2] 25)).alloc (.cells #[.int .i64 0, .int .i64 2, .int .i64 4] 144)).alloc (.cells #[.int .i64 1, .slice (some ⟨w.heap.size + 1, 0, none⟩) 1 1, .int .i64 10, .int .i64 0, .int .i64 0, .int .i64 1, .slice none 0 0, .int .i64 1] 98)).alloc (.cells #[.int .i64 9, .int .i64 20, .int .i64 12, .int .i64 5] 91)) w.heap.size #[.string { data := #[97] }, .int .i64 2, .int .i64 3, .int .i64 12, .int .i64 0, .slice (some ⟨w.heap.size + 1 + 1, 0, none⟩) 1 1, .slice (some ⟨w.heap.size + 1 + 1 + 1, 0, none⟩) 2 2] 25 := blkAny2
 have b2 : Blk ((((w.alloc (.cells #[.string { data := #[97] }, .int .i64 2, .int .i64 3, .int .i64 12, .int .i64 0, .slice (some ⟨w.heap.size + 1 + 1, 0, none⟩) 1 1, .slice (some ⟨w.heap.size + 1 + 1 + 1, 0, none⟩) 2 2] 25)).alloc (.cells #[.int .i64 0, .int .i64 2, .int .i64 4] 144)).alloc (.cells #[.int .i64 1, .slice (some ⟨w.heap.size + 1, 0, none⟩) 1 1, .int .i64 10, .int .i64 0, .int .i64 0, .int .i64 1, .slice none 0 0, .int .i64 1] 98)).alloc (.cells #[.int .i64 9, .int .i64 20, .int .i64 12, .int .i64 5] 91)) (w.heap.size + 1) (runCells [⟨0, 2, 4⟩]) 144 := (blkAny2 : Blk _ (w.heap.size + 1) #[.int .i64 0, .int .i64 2, .int .i64 4] 144)
 have b3 : Blk ((((w.alloc (.cells #[.string { data := #[97] }, .int .i64 2, .int .i64 3, .int .i64 12, .int .i64 0, .slice (some ⟨w.heap.size + 1 + 1, 0, none⟩) 1 1, .slice (some ⟨w.heap.size + 1 + 1 + 1, 0, none⟩) 2 2] 25)).alloc (.cells #[.int .i64 0, .int .i64 2, .int .i64 4] 144)).alloc (.cells #[.int .i64 1, .slice (some ⟨w.heap.size + 1, 0, none⟩) 1 1, .int .i64 10, .int .i64 0, .int .i64 0, .int .i64 1, .slice none 0 0, .int .i64 1] 98)).alloc (.cells #[.int .i64 9, .int .i64 20, .int .i64 12, .int .i64 5] 91)) (w.heap.size + 1 + 1) #[.int .i64 1, .slice (some ⟨w.heap.size + 1, 0, none⟩) 1 1, .int .i64 10, .int .i64 0, .int .i64 0, .int .i64 1, .slice none 0 0, .int .i64 1] 98 := blkAny2
 have b4 : Blk ((((w.alloc (.cells #[.string { data := #[97] }, .int .i64 2, .int .i64 3, .int .i64 12, .int .i64 0, .slice (some ⟨w.heap.size + 1 + 1, 0, none⟩) 1 1, .slice (some ⟨w.heap.size + 1 + 1 + 1, 0, none⟩) 2 2] 25)).alloc (.cells #[.int .i64 0, .int .i64 2, .int .i64 4] 144)).alloc (.cells #[.int .i64 1, .slice (some ⟨w.heap.size + 1, 0, none⟩) 1 1, .int .i64 10, .int .i64 0, .int .i64 0, .int .i64 1, .slice none 0 0, .int .i64 1] 98)).alloc (.cells #[.int .i64 9, .int .i64 20, .int .i64 12, .int .i64 5] 91)) (w.heap.size + 1 + 1 + 1) #[.int .i64 9, .int .i64 20, .int .i64 12, .int .i64 5] 91 := blkAny2
 have hB : Below w.heap.size w ((((w.alloc (.cells #[.string { data := #[97] }, .int .i64 2, .int .i64 3, .int .i64 12, .int .i64 0, .slice (some ⟨w.heap.size + 1 + 1, 0, none⟩) 1 1, .slice (some ⟨w.heap.size + 1 + 1 + 1, 0, none⟩) 2 2] 25)).alloc (.cells #[.int .i64 0, .int .i64 2, .int .i64 4] 144)).alloc (.cells #[.int .i64 1, .slice (some ⟨w.heap.size + 1, 0, none⟩) 1 1, .int .i64 10, .int .i64 0, .int .i64 0, .int .i64 1, .slice none 0 0, .int .i64 1] 98)).alloc (.cells #[.int .i64 9, .int .i64 20, .int .i64 12, .int .i64 5] 91)) := belowAny
 rw [<- hW9] at b1 b2 b3 b4 hB ⊢
 clear hW9
 have k1 := b1.cell
 have y1 := b1.lt
 refine bodyPost_ret (v := .agg #[.string { data := #[97] }, .int .i64 2, .int .i64 3, .int .i64 12, .int .i64 0, .slice (some ⟨w.heap.size + 1 + 1, 0, none⟩) 1 1, .slice (some ⟨w.heap.size + 1 + 1 + 1, 0, none⟩) 2 2]) (by simp [results, Tryz.results72, go_sem, k1, y1]) rfl ⟨some ⟨w.heap.size + 1 + 1, 0, none⟩, some ⟨w.heap.size + 1 + 1 + 1, 0, none⟩, rfl, hB, ⟨⟨fun i s hs => ?_⟩, pts_in (n := 4) b4 rfl, by decide, by decide⟩⟩
 have hi : i = 0 := by
  have := (List.getElem?_eq_some_iff.1 hs).1
  simp [some0] at this
  exact this
 subst hi
 have e : s = ⟨1, [⟨0, 2, 4⟩], 10, 0, 0, 1, [], 1⟩ := (Option.some.inj hs).symm
 subst e
 refine ⟨w.heap.size + 1 + 1, 0, some ⟨w.heap.size + 1, 0, none⟩, none, 1, 0, rfl, fun j v hv => ?_, ⟨RunsIn.of_blk b2 _ [] rfl, ints_nil _ _, by decide, by decide⟩, Nat.le_refl _⟩
 rw [show 0 + 0 * 8 + j = j by omega, b3.cell]
 exact hv
theorem wakes26_w (nm : ByteArray) (L1 L3 : List AnsT) (P : List RunT) (r1 r0 : AnsT) (w : World) (h1 : Hid (L1[1]? = some r1)) (h0 : Hid (L3[0]? = some r0)) (e1 : Hid (r1.n = 2)) (e2 : Hid (r0.x = 9)) (e3 : Hid (r0.y = 11))
  (cP : ∀ W, Calls Tryz.prog 72 #[] W fun e w' => ∃ ps po, e = .returned (.agg #[.string nm, .int .i64 2, .int .i64 3, .int .i64 12, .int .i64 0, .slice ps 1 1, .slice po 2 2]) /\ Below W.heap.size W w' /\ SerIn w' some0 ps po)
  (cB1 : ∀ W ps po, SerIn W some0 ps po -> Calls Tryz.prog 38 #[.agg #[.string nm, .int .i64 2, .int .i64 3, .int .i64 12, .int .i64 0, .slice ps 1 1, .slice po 2 2], .int .i64 1, .int .i64 0, .int .i64 5, .int .i64 3] W fun e w' => ∃ p k, e = .returned (.tuple #[.slice p 3 k, .int .i64 0]) /\ AnsIn w' p L1 /\ Below W.heap.size W w')
  (cB3 : ∀ W ps po, SerIn W some0 ps po -> Calls Tryz.prog 38 #[.agg #[.string nm, .int .i64 2, .int .i64 3, .int .i64 12, .int .i64 0, .slice ps 1 1, .slice po 2 2], .int .i64 3, .int .i64 0, .int .i64 5, .int .i64 3] W fun e w' => ∃ p k, e = .returned (.tuple #[.slice p 3 k, .int .i64 0]) /\ AnsIn w' p L3 /\ Below W.heap.size W w')
  (cL : ∀ W ps po, SerIn W some0 ps po -> Calls Tryz.prog 34 #[.agg #[.string nm, .int .i64 2, .int .i64 3, .int .i64 12, .int .i64 0, .slice ps 1 1, .slice po 2 2], .int .i64 0, .int .i64 9] W fun e w' => ∃ p k, e = .returned (.tuple #[.slice p 2 k, .int .i64 0]) /\ RunsIn w' p P /\ Below W.heap.size W w')
  (cO : ∀ W ps po, SerIn W some0 ps po -> Calls Tryz.prog 33 #[.agg #[.string nm, .int .i64 2, .int .i64 3, .int .i64 12, .int .i64 0, .slice ps 1 1, .slice po 2 2], .int .i64 4, .int .i64 4, .int .i64 9] W fun e w' => e = .returned (.agg #[.int .i64 0, .int .i64 0, .int .i64 38, .int .i64 42, .int .i64 0, .int .i64 0, .int .i64 0, .int .i64 0, .int .i64 0]) /\ Below W.heap.size W w')
  (cB4 : ∀ W ps po, SerIn W some0 ps po -> Calls Tryz.prog 38 #[.agg #[.string nm, .int .i64 2, .int .i64 3, .int .i64 12, .int .i64 0, .slice ps 1 1, .slice po 2 2], .int .i64 4, .int .i64 0, .int .i64 0, .int .i64 1] W fun e w' => ∃ p k, e = .returned (.tuple #[.slice p 0 k, .int .i64 2]) /\ Below W.heap.size W w')
  (cE : ∀ W p k g, RunsIn W p P -> Blk W g #[.int .i64 2, .int .i64 0, .int .i64 2, .int .i64 3, .int .i64 0, .int .i64 1] 75 -> Calls Tryz.prog 35 #[.slice p 2 k, .slice (some ⟨g, 0, none⟩) 2 2] W fun e w' => e = .returned (.bool true) /\ Below W.heap.size W w')
  (cO6 : ∀ W ps po, SerIn W some0 ps po -> Calls Tryz.prog 33 #[.agg #[.string nm, .int .i64 2, .int .i64 3, .int .i64 12, .int .i64 0, .slice ps 1 1, .slice po 2 2], .int .i64 6, .int .i64 0, .int .i64 9] W fun e w' => e = .returned (.agg #[.int .i64 2, .int .i64 0, .int .i64 0, .int .i64 0, .int .i64 0, .int .i64 0, .int .i64 0, .int .i64 0, .int .i64 0]) /\ Below W.heap.size W w') :
  Calls Tryz.prog 28 #[] w fun e w' => e = .returned (.bool true) /\ Below w.heap.size w w' := by
 have H_cP := Lib.hid cP
 clear cP
 have H_cB1 := Lib.hid cB1
 clear cB1
 have H_cB3 := Lib.hid cB3
 clear cB3
 have H_cL := Lib.hid cL
 clear cL
 have H_cO := Lib.hid cO
 clear cO
 have H_cB4 := Lib.hid cB4
 clear cB4
 have H_cE := Lib.hid cE
 clear cE
 have H_cO6 := Lib.hid cO6
 clear cO6
 go_enter Tryz.func28, Tryz.ntmps28
 have cP := H_cP.out
 go_wp2_with fail
 refine (cP _).mono ?_
 rintro e w1 ⟨ps1, po1, rfl, hb1, hs1⟩
 clear cP
 have z2 := hb1.size
 try simp at z2
 have hW : Below w.heap.size w w1 := belowAny
 have cB1 := H_cB1.out
 go_wp2_with fail
 refine (cB1 _ ps1 po1 hs1).mono ?_
 rintro e w3 ⟨p1, q1, rfl, hA, hb3⟩
 clear cB1
 have z4 := hb3.size
 try simp at z4
 have hW : Below w.heap.size w w3 := belowAny
 clear hs1
 have b1 := hA
 clear hA
 have cP := H_cP.out
 go_wp2_with fail
 refine (cP _).mono ?_
 rintro e w5 ⟨ps2, po2, rfl, hb5, hs2⟩
 clear cP
 have z6 := hb5.size
 try simp at z6
 have b1 : AnsIn w5 p1 L1 := by first | exact b1 | exact b1.below (by assumption) | exact b1.below belowAny
 have hW : Below w.heap.size w w5 := belowAny
 have cB3 := H_cB3.out
 go_wp2_with fail
 refine (cB3 _ ps2 po2 hs2).mono ?_
 rintro e w7 ⟨p2, q2, rfl, hA, hb7⟩
 clear cB3
 have z8 := hb7.size
 try simp at z8
 have b1 : AnsIn w7 p1 L1 := by first | exact b1 | exact b1.below (by assumption) | exact b1.below belowAny
 have hW : Below w.heap.size w w7 := belowAny
 clear hs2
 have b2 := hA
 clear hA
 have cP := H_cP.out
 go_wp2_with fail
 refine (cP _).mono ?_
 rintro e w9 ⟨ps3, po3, rfl, hb9, hs3⟩
 clear cP
 have z10 := hb9.size
 try simp at z10
 have b1 : AnsIn w9 p1 L1 := by first | exact b1 | exact b1.below (by assumption) | exact b1.below belowAny
 have b2 : AnsIn w9 p2 L3 := by first | exact b2 | exact b2.below (by assumption) | exact b2.below belowAny
 have hW : Below w.heap.size w w9 := belowAny
 have cL := H_cL.out
 go_wp2_with fail
 refine (cL _ ps3 po3 hs3).mono ?_
 rintro e w11 ⟨p3, q3, rfl, hA, hb11⟩
 clear cL
 have z12 := hb11.size
 try simp at z12
 have b1 : AnsIn w11 p1 L1 := by first | exact b1 | exact b1.below (by assumption) | exact b1.below belowAny
 have b2 : AnsIn w11 p2 L3 := by first | exact b2 | exact b2.below (by assumption) | exact b2.below belowAny
 have hW : Below w.heap.size w w11 := belowAny
 clear hs3
 have b3 := hA
 clear hA
 have cP := H_cP.out
 go_wp2_with fail
 refine (cP _).mono ?_
 rintro e w13 ⟨ps4, po4, rfl, hb13, hs4⟩
 clear cP
 have z14 := hb13.size
 try simp at z14
 have b1 : AnsIn w13 p1 L1 := by first | exact b1 | exact b1.below (by assumption) | exact b1.below belowAny
 have b2 : AnsIn w13 p2 L3 := by first | exact b2 | exact b2.below (by assumption) | exact b2.below belowAny
 have b3 : RunsIn w13 p3 P := by first | exact b3 | exact b3.below (by assumption) | exact b3.below belowAny
 have hW : Below w.heap.size w w13 := belowAny
 have cO := H_cO.out
 go_wp2_with fail
 refine (cO _ ps4 po4 hs4).mono ?_
 rintro e w15 ⟨rfl, hb15⟩
 clear cO
 have z16 := hb15.size
 try simp at z16
 have b1 : AnsIn w15 p1 L1 := by first | exact b1 | exact b1.below (by assumption) | exact b1.below belowAny
 have b2 : AnsIn w15 p2 L3 := by first | exact b2 | exact b2.below (by assumption) | exact b2.below belowAny
 have b3 : RunsIn w15 p3 P := by first | exact b3 | exact b3.below (by assumption) | exact b3.below belowAny
 have hW : Below w.heap.size w w15 := belowAny
 clear hb15
 clear hs4
 have cP := H_cP.out
 go_wp2_with fail
 refine (cP _).mono ?_
 rintro e w17 ⟨ps5, po5, rfl, hb17, hs5⟩
 clear cP
 have z18 := hb17.size
 try simp at z18
 have b1 : AnsIn w17 p1 L1 := by first | exact b1 | exact b1.below (by assumption) | exact b1.below belowAny
 have b2 : AnsIn w17 p2 L3 := by first | exact b2 | exact b2.below (by assumption) | exact b2.below belowAny
 have b3 : RunsIn w17 p3 P := by first | exact b3 | exact b3.below (by assumption) | exact b3.below belowAny
 have b4 : Blk w17 w15.heap.size #[.int .i64 0, .int .i64 0, .int .i64 38, .int .i64 42, .int .i64 0, .int .i64 0, .int .i64 0, .int .i64 0, .int .i64 0] 67 := blkAny2
 have hW : Below w.heap.size w w17 := belowAny
 have z19 := b4.lt
 have k4 := b4.cell
 have f4 := b4.frozen
 have cB4 := H_cB4.out
 go_wp2_with fail
 refine (cB4 _ ps5 po5 hs5).mono ?_
 rintro e w20 ⟨p5, q5, rfl, hb20⟩
 clear cB4
 have z21 := hb20.size
 try simp at z21
 clear k4 f4
 have b1 : AnsIn w20 p1 L1 := by first | exact b1 | exact b1.below (by assumption) | exact b1.below belowAny
 have b2 : AnsIn w20 p2 L3 := by first | exact b2 | exact b2.below (by assumption) | exact b2.below belowAny
 have b3 : RunsIn w20 p3 P := by first | exact b3 | exact b3.below (by assumption) | exact b3.below belowAny
 have b4 : Blk w20 w15.heap.size #[.int .i64 0, .int .i64 0, .int .i64 38, .int .i64 42, .int .i64 0, .int .i64 0, .int .i64 0, .int .i64 0, .int .i64 0] 67 := blkAny2
 have hW : Below w.heap.size w w20 := belowAny
 have z22 := b4.lt
 have k4 := b4.cell
 have f4 := b4.frozen
 clear hs5
 obtain ⟨bc, oc, rfl, hc1⟩ := b1.at' 1 r1 h1.out
 obtain ⟨bm, om, rfl, hm1⟩ := b2.at' 0 r0 h0.out
 have u1 := hc1 1 _ rfl
 have u2 := hm1 2 _ rfl
 have u3 := hm1 3 _ rfl
 rw [e1.out] at u1
 rw [e2.out] at u2
 rw [e3.out] at u3
 simp only [Nat.one_mul, Nat.zero_mul, Nat.add_zero] at u1 u2 u3
 have v1 := cell_lt u1
 have v2 := cell_lt u2
 try simp only at v1 v2
 clear hc1 hm1
 clear b1 b2
 have b1 := b3
 clear b3
 have b2 := b4
 clear b4 k4 f4
 have k2 := b2.cell
 have f2 := b2.frozen
 have cE := H_cE.out
 go_wp2_with fail
 refine (cE _ p3 q3 _ (RunsIn.alloc b1 _) (Blk.new' rfl)).mono ?_
 rintro e w23 ⟨rfl, hb23⟩
 clear cE
 have z24 := hb23.size
 try simp at z24
 clear k2 f2
 have b1 : RunsIn w23 p3 P := by first | exact b1 | exact b1.below (by assumption) | exact b1.below belowAny
 have b2 : Blk w23 w15.heap.size #[.int .i64 0, .int .i64 0, .int .i64 38, .int .i64 42, .int .i64 0, .int .i64 0, .int .i64 0, .int .i64 0, .int .i64 0] 67 := blkAny2
 have b3 : Blk w23 w20.heap.size #[.int .i64 2, .int .i64 0, .int .i64 2, .int .i64 3, .int .i64 0, .int .i64 1] 75 := blkAny2
 have hW : Below w.heap.size w w23 := belowAny
 have z25 := b2.lt
 have z26 := b3.lt
 clear hb23
 have k2 := b2.cell
 have f2 := b2.frozen
 have k3 := b3.cell
 have f3 := b3.frozen
 have cP := H_cP.out
 go_wp2_with fail
 refine (cP _).mono ?_
 rintro e w27 ⟨ps6, po6, rfl, hb27, hs6⟩
 clear cP
 have z28 := hb27.size
 try simp at z28
 clear k2 f2 k3 f3
 have b1 : RunsIn w27 p3 P := by first | exact b1 | exact b1.below (by assumption) | exact b1.below belowAny
 have b2 : Blk w27 w15.heap.size #[.int .i64 0, .int .i64 0, .int .i64 38, .int .i64 42, .int .i64 0, .int .i64 0, .int .i64 0, .int .i64 0, .int .i64 0] 67 := blkAny2
 have b3 : Blk w27 w20.heap.size #[.int .i64 2, .int .i64 0, .int .i64 2, .int .i64 3, .int .i64 0, .int .i64 1] 75 := blkAny2
 have hW : Below w.heap.size w w27 := belowAny
 have z29 := b2.lt
 have z30 := b3.lt
 have k2 := b2.cell
 have f2 := b2.frozen
 have k3 := b3.cell
 have f3 := b3.frozen
 have cO6 := H_cO6.out
 go_wp2_with fail
 refine (cO6 _ ps6 po6 hs6).mono ?_
 rintro e w31 ⟨rfl, hb31⟩
 clear cO6
 have z32 := hb31.size
 try simp at z32
 clear k2 f2 k3 f3
 have b1 : RunsIn w31 p3 P := by first | exact b1 | exact b1.below (by assumption) | exact b1.below belowAny
 have b2 : Blk w31 w15.heap.size #[.int .i64 0, .int .i64 0, .int .i64 38, .int .i64 42, .int .i64 0, .int .i64 0, .int .i64 0, .int .i64 0, .int .i64 0] 67 := blkAny2
 have b3 : Blk w31 w20.heap.size #[.int .i64 2, .int .i64 0, .int .i64 2, .int .i64 3, .int .i64 0, .int .i64 1] 75 := blkAny2
 have hW : Below w.heap.size w w31 := belowAny
 have z33 := b2.lt
 have z34 := b3.lt
 clear hb31
 have k2 := b2.cell
 have f2 := b2.frozen
 have k3 := b3.cell
 have f3 := b3.frozen
 go_wp2
 have y_2 := b2.lt
 have y_3 := b3.lt
 refine bodyPost_ret (v := .bool true) (by simp [results, Tryz.results28, go_sem, k2, f2, k3, f3, y_2, y_3]) rfl ⟨rfl, by exact belowAny⟩
theorem pieces_lit {w : World} {g : Nat} {t : TypeId} (h : Blk w g #[.int .i64 2, .int .i64 0, .int .i64 2, .int .i64 3, .int .i64 0, .int .i64 1] t) : RunsIn w (some ⟨g, 0, none⟩) [⟨2, 0, 2⟩, ⟨3, 0, 1⟩] := RunsIn.of_blk (l := [⟨2, 0, 2⟩, ⟨3, 0, 1⟩]) h _ [] rfl
theorem some_asks : checkB some0 = true /\ planL some0 0 9 = [⟨2, 0, 2⟩, ⟨3, 0, 1⟩] /\ (bucketL some0 1 0 5 3)[1]? = some (ansT some0 1 5 9) /\ (ansT some0 1 5 9).n = 2 /\ (bucketL some0 3 0 5 3)[0]? = some (ansT some0 3 0 4) /\ (ansT some0 3 0 4).x = 9 /\ (ansT some0 3 0 4).y = 11 /\ oneA some0 4 4 9 = #[.int .i64 0, .int .i64 0, .int .i64 38, .int .i64 42, .int .i64 0, .int .i64 0, .int .i64 0, .int .i64 0, .int .i64 0] /\ oneA some0 6 0 9 = #[.int .i64 2, .int .i64 0, .int .i64 0, .int .i64 0, .int .i64 0, .int .i64 0, .int .i64 0, .int .i64 0, .int .i64 0] := by
 refine ⟨?_, ?_, ?_, ?_, ?_, ?_, ?_, ?_, ?_⟩ <;> kernel_rfl
theorem c_wakes26 (w : World) : Calls Tryz.prog 28 #[] w fun e w' => e = .returned (.bool true) /\ Below w.heap.size w w' := by
 obtain ⟨x1, x2, x3, x4, x5, x6, x7, x8, x9⟩ := some_asks
 have a1 : askedB 1 0 5 3 = true := by decide
 have a3 : askedB 3 0 5 3 = true := by decide
 have a4 : askedB 4 0 0 1 = false := by decide
 refine wakes26_w ⟨#[97]⟩ (bucketL some0 1 0 5 3) (bucketL some0 3 0 5 3) [⟨2, 0, 2⟩, ⟨3, 0, 1⟩] _ _ w (Lib.hid x3) (Lib.hid x5) (Lib.hid x4) (Lib.hid x6) (Lib.hid x7) (fun W => c_plain W) (fun W ps po h => ?_) (fun W ps po h => ?_) (fun W ps po h => ?_) (fun W ps po h => ?_) (fun W ps po h => ?_) (fun W p k g h1 h2 => ?_) (fun W ps po h => ?_)
 ·have t := c_bkBuckets some0 ps po 1 2 1 0 5 3 W h
  unfold bkL bkE at t
  rw [x1, a1] at t
  exact t
 ·have t := c_bkBuckets some0 ps po 1 2 3 0 5 3 W h
  unfold bkL bkE at t
  rw [x1, a3] at t
  exact t
 ·have t := c_bkPlan some0 ps po 1 2 0 9 W h
  unfold plL at t
  rw [x1, if_pos rfl, if_pos rfl, x2] at t
  exact t
 ·have t := c_bkOne some0 ps po 1 2 4 4 9 W h (by decide)
  rw [x8] at t
  exact t
 ·have t := c_bkBuckets some0 ps po 1 2 4 0 0 1 W h
  unfold bkL bkE at t
  rw [x1, a4] at t
  refine t.mono ?_
  rintro e w' ⟨p, k, he, _, hB⟩
  exact ⟨p, k, he, hB⟩
 ·have t := c_eqPiece p k (some ⟨g, 0, none⟩) 2 [⟨2, 0, 2⟩, ⟨3, 0, 1⟩] [⟨2, 0, 2⟩, ⟨3, 0, 1⟩] W (by decide) h1 (pieces_lit h2)
  rw [show decide (([⟨2, 0, 2⟩, ⟨3, 0, 1⟩] : List RunT) = [⟨2, 0, 2⟩, ⟨3, 0, 1⟩]) = true from decide_eq_true rfl] at t
  exact t
 ·have t := c_bkOne some0 ps po 1 2 6 0 9 W h (by decide)
  rw [x9] at t
  exact t
attribute [local simp] Oper.looksAt Op.operands Call.operands envOf Det GDet
theorem Below.dN {B : Nat} {w w' : World} (h : Below B w w') (n : Nat) : Below B w (w'.drewN n) := h.trans ⟨rfl, rfl, rfl, Nat.le_refl _, fun _ _ => rfl⟩
theorem Blk.dN {w : World} {g : Nat} {cs : Array Value} {t : TypeId} (h : Blk w g cs t) (n : Nat) : Blk (w.drewN n) g cs t := h
structure Cel8 (w : World) (b o : Nat) (x : SegT) (p q : Option Addr) (cap vc : Nat) : Prop where
 all : w.cell? ⟨b, o, none⟩ = some (x.K) /\ w.cell? ⟨b, o + 1, none⟩ = some (.slice p x.runs.length cap) /\ w.cell? ⟨b, o + 2, none⟩ = some (x.A) /\ w.cell? ⟨b, o + 3, none⟩ = some (x.R) /\ w.cell? ⟨b, o + 4, none⟩ = some (x.n) /\ w.cell? ⟨b, o + 5, none⟩ = some (x.d) /\ w.cell? ⟨b, o + 6, none⟩ = some (.slice q x.raw.length vc) /\ w.cell? ⟨b, o + 7, none⟩ = some (x.E)
theorem Cel8.below {w w' : World} {b o : Nat} {x : SegT} {p q : Option Addr} {cap vc : Nat} (h : Cel8 w b o x p q cap vc) (hb : Below w.heap.size w w') : Cel8 w' b o x p q cap vc := by
 obtain ⟨h0, h1, h2, h3, h4, h5, h6, h7⟩ := h.all
 have key : ∀ z v, w.cell? ⟨b, z, none⟩ = some v -> w'.cell? ⟨b, z, none⟩ = some v := fun z v hv => (hb.cell (p := ⟨b, _, none⟩) (cell_lt hv)).trans hv
 exact ⟨key _ _ h0, key _ _ h1, key _ _ h2, key _ _ h3, key _ _ h4, key _ _ h5, key _ _ h6, key _ _ h7⟩
theorem Cel8.rex {L : List Nat} {w w' : World} {b o : Nat} {x : SegT} {p q : Option Addr} {cap vc : Nat} (h : Cel8 w b o x p q cap vc) (hr : Rex L w w') (hL : L = []) : Cel8 w' b o x p q cap vc := by subst hL; exact h.below hr.below
theorem Cel8.drew {w : World} {b o : Nat} {x : SegT} {p q : Option Addr} {cap vc : Nat} (h : Cel8 w b o x p q cap vc) : Cel8 w.drew b o x p q cap vc := ⟨h.all⟩
def bpRel (w : World) (a b : Int) (P : List RunT) (pl : Option Addr) (kl gs : Nat) (a' : Act) (W : World) : Prop :=
 Below w.heap.size w W /\ ∃ (i : Nat) (M : Int), (∃ u : Nat -> Value, a' = { tmps := #[u 0, a, b, u 3, u 4, u 5, u 6, .pointer (some ⟨gs, 0, none⟩), .slice pl P.length kl, u 9, M, u 11, u 12, u 13, u 14, u 15, u 16, u 17, u 18, u 19, u 20, u 21, u 22, u 23, u 24, u 25, u 26, u 27, u 28, u 29, u 30, u 31, u 32, u 33, u 34, u 35, .slice pl P.length kl, .int .i64 (P.length : Int), .int .i64 (i : Int), u 39, u 40, u 41, u 42, u 43, u 44, u 45, u 46, u 47, u 48, u 49, u 50, u 51, u 52, u 53, u 54, u 55, u 56, u 57, u 58, u 59, u 60, u 61, u 62, u 63, u 64, u 65, u 66, u 67, u 68, u 69, u 70, u 71, u 72, u 73, u 74, u 75, u 76, u 77, u 78, u 79, u 80, u 81, u 82, u 83, u 84, u 85, u 86, u 87, u 88, u 89, u 90, u 91, u 92, u 93, u 94, u 95, u 96, u 97, u 98, u 99, u 100, u 101, u 102, u 103, u 104, u 105, u 106, u 107, u 108, u 109, u 110, u 111, u 112, u 113, u 114, u 115, u 116, u 117, u 118, u 119, u 120, u 121, u 122, u 123, u 124, u 125, u 126, u 127, u 128, u 129, u 130, u 131, u 132, u 133, u 134, u 135, u 136, u 137, u 138, u 139, u 140, u 141, u 142, u 143, u 144, u 145, u 146, u 147, u 148, u 149, u 150, u 151, u 152, u 153, u 154, u 155, u 156, u 157, u 158], defers := [] }) /\ sumPc (P.take i) = M /\ i <= P.length
theorem bplan_w (nm : ByteArray) (ep fl la sc : Int) (ps po : Option Addr) (ns cs no co : Nat) (s : SerT) (a b : Int) (P : List RunT) (er nn tot : Int) (w : World) (hPl : P.length <= 1000) (hfew : s.segs.length <= 100) (hfo : s.opn.length <= 100) (hv : nn = 0 -> ∀ x, x ∈ s.segs -> segB x = true) (hcase : Hid ((nn = 340 /\ er = 340 /\ P = []) ∨ (nn = 0 /\ er = 0 /\ Hid (PlanOk s a b P tot))))
  (c1 : ∀ W, Below w.heap.size w W -> Calls Tryz.prog 28 #[] W fun e w' => e = .returned (.bool true) /\ Below W.heap.size W w')
  (c2 : ∀ W, Below w.heap.size w W -> Calls Tryz.prog 29 #[.agg #[.string nm, ep, fl, la, sc, .slice ps ns cs, .slice po no co]] W fun e w' => ∃ pS capS pP capP, e = .returned (.agg #[.string s.name, s.eps, s.floor, s.last, s.scale, .slice pS s.segs.length capS, .slice pP s.opn.length capP]) /\ Below W.heap.size W w' /\ SerIn w' s pS pP)
  (cP : ∀ W pS capS pP capP, SerIn W s pS pP -> Calls Tryz.prog 34 #[.agg #[.string s.name, s.eps, s.floor, s.last, s.scale, .slice pS s.segs.length capS, .slice pP s.opn.length capP], a, b] W fun e w' => ∃ p k, e = .returned (.tuple #[.slice p P.length k, er]) /\ RunsIn w' p P /\ Below W.heap.size W w')
  (cC : ∀ W pS capS pP capP, SerIn W s pS pP -> Calls Tryz.prog 14 #[.agg #[.string s.name, s.eps, s.floor, s.last, s.scale, .slice pS s.segs.length capS, .slice pP s.opn.length capP]] W fun e w' => e = .returned (nn) /\ Below W.heap.size W w')
  (cO : nn = 0 -> ∀ W pS capS pP capP, SerIn W s pS pP -> Calls Tryz.prog 33 #[.agg #[.string s.name, s.eps, s.floor, s.last, s.scale, .slice pS s.segs.length capS, .slice pP s.opn.length capP], .int .i64 1, a, b] W fun e w' => e = .returned (.agg #[.int .i64 0, tot, .int .i64 0, .int .i64 0, .int .i64 0, .int .i64 0, .int .i64 0, .int .i64 0, .int .i64 0]) /\ Below W.heap.size W w') :
  Calls Tryz.prog 9 #[.agg #[.string nm, ep, fl, la, sc, .slice ps ns cs, .slice po no co], a, b] w fun e w' => e = .returned (.bool true) /\ Below w.heap.size w w' := by
 have H_c1 := Lib.hid c1
 clear c1
 have H_c2 := Lib.hid c2
 clear c2
 have H_cP := Lib.hid cP
 clear cP
 have H_cC := Lib.hid cC
 clear cC
 have H_cO := Lib.hid cO
 clear cO
 go_enter Tryz.func9, Tryz.ntmps9
 have c1 := H_c1.out
 go_wp2_with fail
 refine (c1 _ belowAny).mono ?_
 rintro e w1 ⟨rfl, hb1⟩
 clear c1
 have z2 := hb1.size
 try simp at z2
 have b1 : Blk w1 w.heap.size #[.string nm, ep, fl, la, sc, .slice ps ns cs, .slice po no co] 25 := blkAny2
 have hW : Below w.heap.size w w1 := belowAny
 have z3 := b1.lt
 clear hb1
 have k1 := b1.cell
 have f1 := b1.frozen
 have c2 := H_c2.out
 go_wp2_with fail
 refine (c2 _ belowAny).mono ?_
 rintro e w4 ⟨pS, capS, pP, capP, rfl, hb4, hs⟩
 clear c2
 have z5 := hb4.size
 try simp at z5
 clear k1 f1
 have b1 : Blk w4 w.heap.size #[.string nm, ep, fl, la, sc, .slice ps ns cs, .slice po no co] 25 := blkAny2
 have hW : Below w.heap.size w w4 := belowAny
 have z6 := b1.lt
 have k1 := b1.cell
 have f1 := b1.frozen
 clear b1 k1 f1
 have b1 := hs
 clear hs
 have cP := H_cP.out
 go_wp2_with fail
 refine (cP _ pS capS pP capP (b1.alloc _)).mono ?_
 rintro e w7 ⟨pl, kl, rfl, hRP, hb7⟩
 clear cP
 have z8 := hb7.size
 try simp at z8
 have b1 : SerIn w7 s pS pP := by first | exact b1 | exact (SerIn.alloc b1 _).below (by assumption) | exact b1.below (by assumption) | exact b1.below belowAny
 have b2 : Blk w7 w4.heap.size #[.string s.name, s.eps, s.floor, s.last, s.scale, .slice pS s.segs.length capS, .slice pP s.opn.length capP] 25 := blkAny2
 have hW : Below w.heap.size w w7 := belowAny
 have z9 := b2.lt
 have k2 := b2.cell
 have f2 := b2.frozen
 have b3 := hRP
 clear hRP
 have cC := H_cC.out
 go_wp2_with fail
 refine (cC _ pS capS pP capP b1).mono ?_
 rintro e w10 ⟨rfl, hb10⟩
 clear cC
 have z11 := hb10.size
 try simp at z11
 clear k2 f2
 have b1 : SerIn w10 s pS pP := by first | exact b1 | exact (SerIn.alloc b1 _).below (by assumption) | exact b1.below (by assumption) | exact b1.below belowAny
 have b2 : Blk w10 w4.heap.size #[.string s.name, s.eps, s.floor, s.last, s.scale, .slice pS s.segs.length capS, .slice pP s.opn.length capP] 25 := blkAny2
 have b3 : RunsIn w10 pl P := by first | exact hRP | exact b3.below (by assumption) | exact b3.below belowAny
 have hW : Below w.heap.size w w10 := belowAny
 have z12 := b2.lt
 clear hb10
 have k2 := b2.cell
 have f2 := b2.frozen
 rcases hcase.out with ⟨rfl, rfl, rfl⟩ | ⟨rfl, rfl, hok⟩
 ·
  go_wp2
  have y_2 := b2.lt
  refine bodyPost_ret (v := .bool true) (by simp [results, Tryz.results9, go_sem, k2, f2, y_2]) rfl ⟨rfl, by exact belowAny⟩
 ·
  go_upto_region 10 with (fail)
  clear k2 f2
  refine wp_facts (fun W' => Below w.heap.size w W' /\ SerIn W' s pS pP /\ Blk W' w4.heap.size #[.string s.name, s.eps, s.floor, s.last, s.scale, .slice pS s.segs.length capS, .slice pP s.opn.length capP] 25 /\ RunsIn W' pl P) ⟨by exact belowAny, by first | exact b1 | exact (SerIn.alloc b1 _).below (by assumption) | exact b1.below (by assumption) | exact b1.below belowAny, by exact blkAny2, by first | exact hRP | exact b3.below (by assumption) | exact b3.below belowAny⟩ ?_
  clear b1 b2 b3 hW
  rintro W13 ⟨hW, b1, b2, b3⟩
  have z14 := hW.size
  have z15 := b2.lt
  have k2 := b2.cell
  have f2 := b2.frozen
  go_wp2
  refine wp_loop (bpRel W13 a b P pl kl (w4.heap.size)) (fun a' _ => P.length - (intAt (a'.tmps.getD 38 undef)).toNat) ?_ ?_
  ·unfold bpRel
   exact ⟨Below.refl _ _, 0, 0, frame_ex rfl, by simp [sumPc, lsum], Nat.zero_le _⟩
  clear k2 f2
  obtain ⟨gs, hgs⟩ : ∃ g, w4.heap.size = g := ⟨_, rfl⟩
  rw [hgs] at b2 ⊢
  clear hgs
  obtain ⟨w5, hw5⟩ : ∃ W, W13 = W := ⟨_, rfl⟩
  rw [hw5] at b1 b2 b3 hW ⊢
  clear hw5
  obtain ⟨hsum, htot, hat, hup⟩ := hok.out
  have hall := Lib.hid (show ∀ r, r ∈ P -> 1 <= r.c from fun r hr => by
   obtain ⟨k, hk⟩ := List.getElem?_of_mem hr
   exact (hat k r hk).1)
  replace hsum := Lib.hid hsum
  replace hat := Lib.hid hat
  replace hup := Lib.hid hup
  rintro a' W ⟨hW0, i, M, ⟨u, rfl⟩, hM, hi'⟩
  have hz := hW0.size
  replace b1 := b1.below hW0
  replace b3 := b3.below hW0
  replace b2 : Blk W gs #[.string s.name, s.eps, s.floor, s.last, s.scale, .slice pS s.segs.length capS, .slice pP s.opn.length capP] 25 := blkAny2
  rcases Nat.lt_or_ge i P.length with hlt | hge
  ·obtain ⟨⟨rf, rs, c⟩, hr⟩ : ∃ r, P[i]? = some r := ⟨P[i]'(by omega), List.getElem?_eq_getElem (by omega)⟩
   obtain ⟨hc1, hkind⟩ := hat.out i _ hr
   obtain ⟨bl, ol, rfl, q0, q1, q2⟩ := b3.at' i _ hr
   have hst := sumPc_step hr
   have hbt := sumPc_take hall.out i
   have hbt' := sumPc_take hall.out (i + 1)
   rw [hM] at hst hbt
   rw [hst, hsum.out] at hbt'
   simp only at hst hbt' hc1 hkind q0 q1 q2
   have zq := cell_lt q0
   try simp only at zq
   have hP : RunsP W bl ol P := ⟨b3⟩
   clear b3 hM hbt
   replace hst := Lib.hid hst
   rcases hkind with ⟨rfl, hlast, j, e, t, y, t', y', rfl, hce, he, hje, hj, hta, hjt', htb⟩ | ⟨j, x, rfl, hx, ⟨rfl, hcn⟩ | ⟨rfl, hcn⟩⟩
   ·
    obtain ⟨bo, oo, rfl, -⟩ := b1.opn.at' j _ hj
    have hO : PtsP W bo oo s.opn := ⟨b1.opn⟩
    have hjl : j < s.opn.length := by omega
    replace hj := Lib.hid hj
    replace hjt' := Lib.hid hjt'
    obtain ⟨d, hd⟩ : ∃ d : Int, (j : Int) + c = d := ⟨_, rfl⟩
    have E1 := Lib.hid (show wrap64 ((j : Int) + c) = d by rw [hd]; rw [wrap64_eq]; omega)
    have E2 := Lib.hid (show wrap64 (d - 1) = (e : Int) by rw [show d - 1 = (e : Int) by omega]; rw [wrap64_eq]; omega)
    have E3 := Lib.hid (show decide ((s.opn.length : Int) < d) = false from decide_eq_false (by omega))
    have E4 := Lib.hid (show decide (t < a) = false from decide_eq_false (by omega))
    have E5 := he
    have E6 := Lib.hid (show decide (b < t') = false from decide_eq_false (by omega))
    have E7 := Lib.hid (show wrap64 ((P.length : Int) - 1) = (i : Int) by rw [show (P.length : Int) - 1 = (i : Int) by omega]; rw [wrap64_eq]; omega)
    replace hce := Lib.hid hce
    replace hd := Lib.hid hd
    replace hlast := Lib.hid hlast
    clear b1
    rcases i with _ | m
    ·simp only [Nat.zero_mul, Nat.add_zero] at q0 q1 q2
     have k1 := b2.cell
     have f1 := b2.frozen
     have hj0 : ¬ ((j : Int) < 0) := by omega
     have g1 : decide (c < 1) = false := decide_eq_false (by omega)
     go_upto_region 14 with (fail)
     go_quiet (fail)
     clear g1 k1 f1 q0 q1 q2
     go_upto_region 16 with (fail)
     refine wp_facts (fun W' => Below W.heap.size W W' /\ Blk W' gs #[.string s.name, s.eps, s.floor, s.last, s.scale, .slice pS s.segs.length capS, .slice (some ⟨bo, oo, none⟩) s.opn.length capP] 25 /\ Blk W' W.heap.size #[.int .i64 3, .int .i64 (j : Int), c] 75 /\ PtsP W' bo oo s.opn) ⟨by exact Below.dN belowAny _, by exact Blk.dN blkAny2 _, by exact Blk.dN blkAny2 _, by exact hO.below (Below.dN belowAny _)⟩ ?_
     clear b1 b2 hO
     rintro V ⟨hW, b1, b2, b3⟩
     have zv0 := hW.size
     have zv1 := b1.lt
     have zv2 := b2.lt
     have k1 := b1.cell
     have f1 := b1.frozen
     have k2 := b2.cell
     have f2 := b2.frozen
     go_upto_region 19 with (fail)
     clear k1 f1 k2 f2
     refine wp_facts (fun W' => Below W.heap.size W W' /\ Blk W' gs #[.string s.name, s.eps, s.floor, s.last, s.scale, .slice pS s.segs.length capS, .slice (some ⟨bo, oo, none⟩) s.opn.length capP] 25 /\ Blk W' W.heap.size #[.int .i64 3, .int .i64 (j : Int), c] 75 /\ PtsP W' bo oo s.opn) ⟨by exact belowAny, by exact blkAny2, by exact blkAny2, by first | exact b3 | exact b3.below (by assumption) | exact b3.below belowAny⟩ ?_
     clear b1 b2 b3 hW
     rintro W21 ⟨hW, b1, b2, b3⟩
     have z22 := hW.size
     have z23 := b1.lt
     have z24 := b2.lt
     refine wp_region_sq 47 159 [] (fun W' => Rex [] W21 W' /\ Blk W' gs #[.string s.name, s.eps, s.floor, s.last, s.scale, .slice pS s.segs.length capS, .slice (some ⟨bo, oo, none⟩) s.opn.length capP] 25 /\ Blk W' W.heap.size #[.int .i64 3, .int .i64 (j : Int), c] 75 /\ PtsP W' bo oo s.opn) (by kernel_rfl) rfl ⟨(Rex.refl _ _), b1, b2, b3⟩ (fun w w' ⟨h0, h1, h2, h3⟩ hr => ⟨h0.trans hr, h1.rex hr (by simp <;> omega), h2.rex hr (by simp <;> omega), h3.rex hr (by simp <;> omega)⟩) ?_
     iterate 47
      first
      | (
       apply nd_det (hg := rfl) (hal := rfl)
       ·intro a W' hC hE
        obtain ⟨_, k1, k2, k3⟩ := hC
        have k1 := k1.cell
        have k2 := k2.cell
        obtain ⟨w0, -⟩ := k3.cellAt hj.out; obtain ⟨w1, -⟩ := k3.cellAt hjt'.out
        first
         | (simp at hE; simp [go_sem, Act.eval, IntWalk.i64_left, hE, k1, k2, k3, w0, w1, hj0, hjl, he, E1.out, E2.out, E3.out, E4.out, E5, E6.out, E7.out]; try rfl)
         | (clear hE; simp [go_sem, Act.eval, IntWalk.i64_left, k1, k2, k3, w0, w1, hj0, hjl, he, E1.out, E2.out, E3.out, E4.out, E5, E6.out, E7.out]; try rfl))
      | (
       apply nd_detg (p := true) (hg := rfl) (hd := rfl) (hal := rfl)
       ·intro v W' h
        simp at h
        simp
        exact h
       ·intro hp hx a W' hC hE
        obtain ⟨_, k1, k2, k3⟩ := hC
        have k1 := k1.cell
        have k2 := k2.cell
        obtain ⟨w0, -⟩ := k3.cellAt hj.out; obtain ⟨w1, -⟩ := k3.cellAt hjt'.out
        simp [hx] at hE
        simp [go_sem, Act.eval, IntWalk.i64_left, hE, k1, k2, k3, w0, w1, hj0, hjl, he, E1.out, E2.out, E3.out, E4.out, E5, E6.out, E7.out]
        try rfl)
      | (
       apply nd_pick_or (ho := rfl) (hg := rfl)
       ·intro v W' h
        simp at h
        exact h
       ·intro v W' h hx
        simp [hx] at h
        exact h)
     rintro W25 ⟨hR, d1, d2, d3⟩
     simp only [ndFinR, Det, forall_eq]
     intros
     repeat (rename GDet _ _ _ _ => hgd; clear hgd)
     simp only [Act.put, List.setIfInBounds_toArray, List.set_cons_zero, List.set_cons_succ]
     refine wpList_nil ?_
     replace hW := hW.trans (hR.of_priv hW.size)
     clear hR
     try clear b1 b2 b3
     have b1 := d1
     clear d1
     have b2 := d2
     clear d2
     have b3 := d3
     clear d3
     have k1 := b1.cell
     have f1 := b1.frozen
     have k2 := b2.cell
     have f2 := b2.frozen
     go_wp2
     refine ⟨?_, by simp [intAt]; omega⟩
     skip
     exact ⟨hW0.trans (hW.mono hz), 0 + 1, M + c, frame_ex rfl, hst.out, by omega⟩
    ·obtain ⟨⟨rf', rs', c'⟩, hr'⟩ : ∃ r, P[m]? = some r := ⟨P[m]'(by omega), List.getElem?_eq_getElem (by omega)⟩
     have k1 := b2.cell
     have f1 := b2.frozen
     have hj0 : ¬ ((j : Int) < 0) := by omega
     have g1 : decide (c < 1) = false := decide_eq_false (by omega)
     have g2 : decide ((0 : Int) < (m : Int) + 1) = true := decide_eq_true (by omega)
     have g4 : (m : Int) < (P.length : Int) := by omega
     go_upto_region 14 with (fail)
     go_quiet (fail)
     clear g1 k1 f1 q0 q1 q2 g2 g4
     go_upto_region 16 with (fail)
     refine wp_facts (fun W' => Below W.heap.size W W' /\ Blk W' gs #[.string s.name, s.eps, s.floor, s.last, s.scale, .slice pS s.segs.length capS, .slice (some ⟨bo, oo, none⟩) s.opn.length capP] 25 /\ Blk W' W.heap.size #[.int .i64 3, .int .i64 (j : Int), c] 75 /\ PtsP W' bo oo s.opn) ⟨by exact Below.dN belowAny _, by exact Blk.dN blkAny2 _, by exact Blk.dN blkAny2 _, by exact hO.below (Below.dN belowAny _)⟩ ?_
     clear b1 b2 hO
     rintro V ⟨hW, b1, b2, b3⟩
     have zv0 := hW.size
     have zv1 := b1.lt
     have zv2 := b2.lt
     have k1 := b1.cell
     have f1 := b1.frozen
     have k2 := b2.cell
     have f2 := b2.frozen
     go_upto_region 19 with (fail)
     clear k1 f1 k2 f2
     refine wp_facts (fun W' => Below W.heap.size W W' /\ Blk W' gs #[.string s.name, s.eps, s.floor, s.last, s.scale, .slice pS s.segs.length capS, .slice (some ⟨bo, oo, none⟩) s.opn.length capP] 25 /\ Blk W' W.heap.size #[.int .i64 3, .int .i64 (j : Int), c] 75 /\ PtsP W' bo oo s.opn) ⟨by exact belowAny, by exact blkAny2, by exact blkAny2, by first | exact b3 | exact b3.below (by assumption) | exact b3.below belowAny⟩ ?_
     clear b1 b2 b3 hW
     rintro W21 ⟨hW, b1, b2, b3⟩
     have z22 := hW.size
     have z23 := b1.lt
     have z24 := b2.lt
     refine wp_region_sq 47 159 [] (fun W' => Rex [] W21 W' /\ Blk W' gs #[.string s.name, s.eps, s.floor, s.last, s.scale, .slice pS s.segs.length capS, .slice (some ⟨bo, oo, none⟩) s.opn.length capP] 25 /\ Blk W' W.heap.size #[.int .i64 3, .int .i64 (j : Int), c] 75 /\ PtsP W' bo oo s.opn) (by kernel_rfl) rfl ⟨(Rex.refl _ _), b1, b2, b3⟩ (fun w w' ⟨h0, h1, h2, h3⟩ hr => ⟨h0.trans hr, h1.rex hr (by simp <;> omega), h2.rex hr (by simp <;> omega), h3.rex hr (by simp <;> omega)⟩) ?_
     iterate 47
      first
      | (
       apply nd_det (hg := rfl) (hal := rfl)
       ·intro a W' hC hE
        obtain ⟨_, k1, k2, k3⟩ := hC
        have k1 := k1.cell
        have k2 := k2.cell
        obtain ⟨w0, -⟩ := k3.cellAt hj.out; obtain ⟨w1, -⟩ := k3.cellAt hjt'.out
        first
         | (simp at hE; simp [go_sem, Act.eval, IntWalk.i64_left, hE, k1, k2, k3, w0, w1, hj0, hjl, he, E1.out, E2.out, E3.out, E4.out, E5, E6.out, E7.out]; try rfl)
         | (clear hE; simp [go_sem, Act.eval, IntWalk.i64_left, k1, k2, k3, w0, w1, hj0, hjl, he, E1.out, E2.out, E3.out, E4.out, E5, E6.out, E7.out]; try rfl))
      | (
       apply nd_detg (p := true) (hg := rfl) (hd := rfl) (hal := rfl)
       ·intro v W' h
        simp at h
        simp
        exact h
       ·intro hp hx a W' hC hE
        obtain ⟨_, k1, k2, k3⟩ := hC
        have k1 := k1.cell
        have k2 := k2.cell
        obtain ⟨w0, -⟩ := k3.cellAt hj.out; obtain ⟨w1, -⟩ := k3.cellAt hjt'.out
        simp [hx] at hE
        simp [go_sem, Act.eval, IntWalk.i64_left, hE, k1, k2, k3, w0, w1, hj0, hjl, he, E1.out, E2.out, E3.out, E4.out, E5, E6.out, E7.out]
        try rfl)
      | (
       apply nd_pick_or (ho := rfl) (hg := rfl)
       ·intro v W' h
        simp at h
        exact h
       ·intro v W' h hx
        simp [hx] at h
        exact h)
     rintro W25 ⟨hR, d1, d2, d3⟩
     simp only [ndFinR, Det, forall_eq]
     intros
     repeat (rename GDet _ _ _ _ => hgd; clear hgd)
     simp only [Act.put, List.setIfInBounds_toArray, List.set_cons_zero, List.set_cons_succ]
     refine wpList_nil ?_
     replace hW := hW.trans (hR.of_priv hW.size)
     clear hR
     try clear b1 b2 b3
     have b1 := d1
     clear d1
     have b2 := d2
     clear d2
     have b3 := d3
     clear d3
     have k1 := b1.cell
     have f1 := b1.frozen
     have k2 := b2.cell
     have f2 := b2.frozen
     go_wp2
     refine ⟨?_, by simp [intAt]; omega⟩
     skip
     exact ⟨hW0.trans (hW.mono hz), m + 1 + 1, M + c, frame_ex rfl, hst.out, by omega⟩
   ·
    replace hcn := Lib.hid hcn
    have hjl := (List.getElem?_eq_some_iff.1 hx).1
    obtain ⟨bs, os, p', q', cps, vc, rfl, hs, -, v0, v1, v2, v3, v4, v5, v6, v7⟩ := b1.segs.one hx
    have hE : Cel8 W bs (os + j * 8) x p' q' cps vc := ⟨v0, v1, v2, v3, v4, v5, v6, v7⟩
    have cN := Lib.hid (fun W' (hW' : Below W.heap.size W W') => c_segCountYes x p' q' cps vc W' (hs.below hW') (hv trivial x (List.mem_of_getElem? hx)))
    unfold segA at cN
    clear v0 v1 v2 v3 v4 v5 v6 v7 hx hs b1
    rcases i with _ | m
    ·simp only [Nat.zero_mul, Nat.add_zero] at q0 q1 q2
     have k1 := b2.cell
     have f1 := b2.frozen
     have hj0 : ¬ ((j : Int) < 0) := by omega
     have g1 : decide (c < 1) = false := decide_eq_false (by omega)
     go_upto_region 14 with (fail)
     go_quiet (fail)
     clear g1 k1 f1 q0 q1 q2
     go_upto_region 16 with (fail)
     refine wp_facts (fun W' => Below W.heap.size W W' /\ Blk W' gs #[.string s.name, s.eps, s.floor, s.last, s.scale, .slice (some ⟨bs, os, none⟩) s.segs.length capS, .slice pP s.opn.length capP] 25 /\ Blk W' W.heap.size #[.int .i64 1, .int .i64 (j : Int), c] 75 /\ Cel8 W' bs (os + j * 8) x p' q' cps vc) ⟨by exact Below.dN belowAny _, by exact Blk.dN blkAny2 _, by exact Blk.dN blkAny2 _, by exact hE.below (Below.dN belowAny _)⟩ ?_
     clear b1 b2 hE
     rintro V ⟨hW, b1, b2, b3⟩
     have zv0 := hW.size
     have zv1 := b1.lt
     have zv2 := b2.lt
     have k1 := b1.cell
     have f1 := b1.frozen
     have k2 := b2.cell
     have f2 := b2.frozen
     go_upto_region 23 with (fail)
     clear k1 f1 k2 f2
     refine wp_facts (fun W' => Below W.heap.size W W' /\ Blk W' gs #[.string s.name, s.eps, s.floor, s.last, s.scale, .slice (some ⟨bs, os, none⟩) s.segs.length capS, .slice pP s.opn.length capP] 25 /\ Blk W' W.heap.size #[.int .i64 1, .int .i64 (j : Int), c] 75 /\ Cel8 W' bs (os + j * 8) x p' q' cps vc) ⟨by exact belowAny, by exact blkAny2, by exact blkAny2, by first | exact b3 | exact b3.below (by assumption) | exact b3.below belowAny⟩ ?_
     clear b1 b2 b3 hW
     rintro W21 ⟨hW, b1, b2, b3⟩
     have z22 := hW.size
     have z23 := b1.lt
     have z24 := b2.lt
     refine wp_region_ndQ 27 159 [] (fun W' => Rex [] W21 W' /\ Blk W' gs #[.string s.name, s.eps, s.floor, s.last, s.scale, .slice (some ⟨bs, os, none⟩) s.segs.length capS, .slice pP s.opn.length capP] 25 /\ Blk W' W.heap.size #[.int .i64 1, .int .i64 (j : Int), c] 75 /\ Cel8 W' bs (os + j * 8) x p' q' cps vc) mixed (by kernel_rfl) rfl ⟨(Rex.refl _ _).drew, b1, b2, b3.drew⟩ (fun w w' ⟨h0, h1, h2, h3⟩ hr => ⟨h0.trans hr, h1.rex hr (by simp <;> omega), h2.rex hr (by simp <;> omega), h3.rex hr (by simp <;> omega)⟩) rfl ?_
     iterate 23
      first
      | (
       apply nd_det (hg := rfl) (hal := rfl)
       ·intro a W' hC hE
        obtain ⟨_, k1, k2, k3⟩ := hC
        have k1 := k1.cell
        have k2 := k2.cell
        obtain ⟨w0, w1, w2, w3, w4, w5, w6, w7⟩ := k3.all
        first
         | (simp at hE; simp [go_sem, Act.eval, IntWalk.i64_left, hE, k1, k2, k3, w0, w1, w2, w3, w4, w5, w6, w7, hj0, hjl, Nat.not_le.2 hjl, hcn.out]; try rfl)
         | (clear hE; simp [go_sem, Act.eval, IntWalk.i64_left, k1, k2, k3, w0, w1, w2, w3, w4, w5, w6, w7, hj0, hjl, Nat.not_le.2 hjl, hcn.out]; try rfl))
      | (
       apply nd_detg (p := true) (hg := rfl) (hd := rfl) (hal := rfl)
       ·intro v W' h
        simp at h
        simp
        exact h
       ·intro hp hx a W' hC hE
        obtain ⟨_, k1, k2, k3⟩ := hC
        have k1 := k1.cell
        have k2 := k2.cell
        obtain ⟨w0, w1, w2, w3, w4, w5, w6, w7⟩ := k3.all
        simp [hx] at hE
        simp [go_sem, Act.eval, IntWalk.i64_left, hE, k1, k2, k3, w0, w1, w2, w3, w4, w5, w6, w7, hj0, hjl, Nat.not_le.2 hjl, hcn.out]
        try rfl)
      | (
       apply nd_pick_or (ho := rfl) (hg := rfl)
       ·intro v W' h
        simp at h
        exact h
       ·intro v W' h hx
        simp [hx] at h
        exact h)
     apply nd_callvg2 (p := true) (hg := rfl) (hd := rfl) (hal := rfl)
     ·intro v W' h
      simp at h
      simp
      exact h
     ·intro hp hx W' hC
      exact cN.out _ (hW.trans (hC.1.of_priv hW.size))
     ·intro hp hx a W' hC hE
      obtain ⟨_, k1, k2, k3⟩ := hC
      have k1 := k1.cell
      have k2 := k2.cell
      obtain ⟨w0, w1, w2, w3, w4, w5, w6, w7⟩ := k3.all
      first
       | (simp [hx] at hE; simp [go_sem, Act.eval, IntWalk.i64_left, hE, k1, k2, k3, w0, w1, w2, w3, w4, w5, w6, w7, hj0, hjl, Nat.not_le.2 hjl, hcn.out]; try rfl)
       | (clear hE; simp [go_sem, Act.eval, IntWalk.i64_left, k1, k2, k3, w0, w1, w2, w3, w4, w5, w6, w7, hj0, hjl, Nat.not_le.2 hjl, hcn.out]; try rfl)
     iterate 2
      apply nd_detg (p := true) (hg := rfl) (hd := rfl) (hal := rfl)
      ·intro v W' h
       simp at h
       simp
       exact h
      ·intro hp hx a W' hC hE
       obtain ⟨_, k1, k2, k3⟩ := hC
       have k1 := k1.cell
       have k2 := k2.cell
       obtain ⟨w0, w1, w2, w3, w4, w5, w6, w7⟩ := k3.all
       simp [hx] at hE
       simp [go_sem, Act.eval, IntWalk.i64_left, hE, k1, k2, k3, w0, w1, w2, w3, w4, w5, w6, w7, hj0, hjl, Nat.not_le.2 hjl, hcn.out]
       try rfl
     apply nd_pick_or (ho := rfl) (hg := rfl)
     ·intro v W' h
      simp at h
      exact h
     ·intro v W' h hx
      simp [hx] at h
      exact h
     rintro W25 ⟨hR, d1, d2, d3⟩
     simp only [ndFinR, Det, forall_eq]
     intros
     repeat (rename GDet _ _ _ _ => hgd; clear hgd)
     simp only [Act.put, List.setIfInBounds_toArray, List.set_cons_zero, List.set_cons_succ]
     refine wpList_nil ?_
     replace hW := hW.trans (hR.of_priv hW.size)
     clear hR
     try clear b1 b2 b3
     have b1 := d1
     clear d1
     have b2 := d2
     clear d2
     have b3 := d3
     clear d3
     have k1 := b1.cell
     have f1 := b1.frozen
     have k2 := b2.cell
     have f2 := b2.frozen
     go_wp2
     refine ⟨?_, by simp [intAt]; omega⟩
     skip
     exact ⟨hW0.trans (hW.mono hz), 0 + 1, M + c, frame_ex rfl, hst.out, by omega⟩
    ·obtain ⟨⟨rf', rs', c'⟩, hr'⟩ : ∃ r, P[m]? = some r := ⟨P[m]'(by omega), List.getElem?_eq_getElem (by omega)⟩
     have hup1 := hup.out m _ _ hr' hr (by simp)
     obtain ⟨u0, u1, u2⟩ := hP.cellAt hr'
     simp only at hup1 u0 u1 u2
     have k1 := b2.cell
     have f1 := b2.frozen
     have hj0 : ¬ ((j : Int) < 0) := by omega
     have g1 : decide (c < 1) = false := decide_eq_false (by omega)
     have g2 : decide ((0 : Int) < (m : Int) + 1) = true := decide_eq_true (by omega)
     have g4 : (m : Int) < (P.length : Int) := by omega
     have g3 : decide ((j : Int) <= rs') = false := decide_eq_false (by omega)
     go_upto_region 14 with (fail)
     go_quiet (fail)
     clear g1 k1 f1 q0 q1 q2 g2 g4 g3 u0 u1 u2
     go_upto_region 16 with (fail)
     refine wp_facts (fun W' => Below W.heap.size W W' /\ Blk W' gs #[.string s.name, s.eps, s.floor, s.last, s.scale, .slice (some ⟨bs, os, none⟩) s.segs.length capS, .slice pP s.opn.length capP] 25 /\ Blk W' W.heap.size #[.int .i64 1, .int .i64 (j : Int), c] 75 /\ Cel8 W' bs (os + j * 8) x p' q' cps vc) ⟨by exact Below.dN belowAny _, by exact Blk.dN blkAny2 _, by exact Blk.dN blkAny2 _, by exact hE.below (Below.dN belowAny _)⟩ ?_
     clear b1 b2 hE
     rintro V ⟨hW, b1, b2, b3⟩
     have zv0 := hW.size
     have zv1 := b1.lt
     have zv2 := b2.lt
     have k1 := b1.cell
     have f1 := b1.frozen
     have k2 := b2.cell
     have f2 := b2.frozen
     go_upto_region 23 with (fail)
     clear k1 f1 k2 f2
     refine wp_facts (fun W' => Below W.heap.size W W' /\ Blk W' gs #[.string s.name, s.eps, s.floor, s.last, s.scale, .slice (some ⟨bs, os, none⟩) s.segs.length capS, .slice pP s.opn.length capP] 25 /\ Blk W' W.heap.size #[.int .i64 1, .int .i64 (j : Int), c] 75 /\ Cel8 W' bs (os + j * 8) x p' q' cps vc) ⟨by exact belowAny, by exact blkAny2, by exact blkAny2, by first | exact b3 | exact b3.below (by assumption) | exact b3.below belowAny⟩ ?_
     clear b1 b2 b3 hW
     rintro W21 ⟨hW, b1, b2, b3⟩
     have z22 := hW.size
     have z23 := b1.lt
     have z24 := b2.lt
     refine wp_region_ndQ 27 159 [] (fun W' => Rex [] W21 W' /\ Blk W' gs #[.string s.name, s.eps, s.floor, s.last, s.scale, .slice (some ⟨bs, os, none⟩) s.segs.length capS, .slice pP s.opn.length capP] 25 /\ Blk W' W.heap.size #[.int .i64 1, .int .i64 (j : Int), c] 75 /\ Cel8 W' bs (os + j * 8) x p' q' cps vc) mixed (by kernel_rfl) rfl ⟨(Rex.refl _ _).drew, b1, b2, b3.drew⟩ (fun w w' ⟨h0, h1, h2, h3⟩ hr => ⟨h0.trans hr, h1.rex hr (by simp <;> omega), h2.rex hr (by simp <;> omega), h3.rex hr (by simp <;> omega)⟩) rfl ?_
     iterate 23
      first
      | (
       apply nd_det (hg := rfl) (hal := rfl)
       ·intro a W' hC hE
        obtain ⟨_, k1, k2, k3⟩ := hC
        have k1 := k1.cell
        have k2 := k2.cell
        obtain ⟨w0, w1, w2, w3, w4, w5, w6, w7⟩ := k3.all
        first
         | (simp at hE; simp [go_sem, Act.eval, IntWalk.i64_left, hE, k1, k2, k3, w0, w1, w2, w3, w4, w5, w6, w7, hj0, hjl, Nat.not_le.2 hjl, hcn.out]; try rfl)
         | (clear hE; simp [go_sem, Act.eval, IntWalk.i64_left, k1, k2, k3, w0, w1, w2, w3, w4, w5, w6, w7, hj0, hjl, Nat.not_le.2 hjl, hcn.out]; try rfl))
      | (
       apply nd_detg (p := true) (hg := rfl) (hd := rfl) (hal := rfl)
       ·intro v W' h
        simp at h
        simp
        exact h
       ·intro hp hx a W' hC hE
        obtain ⟨_, k1, k2, k3⟩ := hC
        have k1 := k1.cell
        have k2 := k2.cell
        obtain ⟨w0, w1, w2, w3, w4, w5, w6, w7⟩ := k3.all
        simp [hx] at hE
        simp [go_sem, Act.eval, IntWalk.i64_left, hE, k1, k2, k3, w0, w1, w2, w3, w4, w5, w6, w7, hj0, hjl, Nat.not_le.2 hjl, hcn.out]
        try rfl)
      | (
       apply nd_pick_or (ho := rfl) (hg := rfl)
       ·intro v W' h
        simp at h
        exact h
       ·intro v W' h hx
        simp [hx] at h
        exact h)
     apply nd_callvg2 (p := true) (hg := rfl) (hd := rfl) (hal := rfl)
     ·intro v W' h
      simp at h
      simp
      exact h
     ·intro hp hx W' hC
      exact cN.out _ (hW.trans (hC.1.of_priv hW.size))
     ·intro hp hx a W' hC hE
      obtain ⟨_, k1, k2, k3⟩ := hC
      have k1 := k1.cell
      have k2 := k2.cell
      obtain ⟨w0, w1, w2, w3, w4, w5, w6, w7⟩ := k3.all
      first
       | (simp [hx] at hE; simp [go_sem, Act.eval, IntWalk.i64_left, hE, k1, k2, k3, w0, w1, w2, w3, w4, w5, w6, w7, hj0, hjl, Nat.not_le.2 hjl, hcn.out]; try rfl)
       | (clear hE; simp [go_sem, Act.eval, IntWalk.i64_left, k1, k2, k3, w0, w1, w2, w3, w4, w5, w6, w7, hj0, hjl, Nat.not_le.2 hjl, hcn.out]; try rfl)
     iterate 2
      apply nd_detg (p := true) (hg := rfl) (hd := rfl) (hal := rfl)
      ·intro v W' h
       simp at h
       simp
       exact h
      ·intro hp hx a W' hC hE
       obtain ⟨_, k1, k2, k3⟩ := hC
       have k1 := k1.cell
       have k2 := k2.cell
       obtain ⟨w0, w1, w2, w3, w4, w5, w6, w7⟩ := k3.all
       simp [hx] at hE
       simp [go_sem, Act.eval, IntWalk.i64_left, hE, k1, k2, k3, w0, w1, w2, w3, w4, w5, w6, w7, hj0, hjl, Nat.not_le.2 hjl, hcn.out]
       try rfl
     apply nd_pick_or (ho := rfl) (hg := rfl)
     ·intro v W' h
      simp at h
      exact h
     ·intro v W' h hx
      simp [hx] at h
      exact h
     rintro W25 ⟨hR, d1, d2, d3⟩
     simp only [ndFinR, Det, forall_eq]
     intros
     repeat (rename GDet _ _ _ _ => hgd; clear hgd)
     simp only [Act.put, List.setIfInBounds_toArray, List.set_cons_zero, List.set_cons_succ]
     refine wpList_nil ?_
     replace hW := hW.trans (hR.of_priv hW.size)
     clear hR
     try clear b1 b2 b3
     have b1 := d1
     clear d1
     have b2 := d2
     clear d2
     have b3 := d3
     clear d3
     have k1 := b1.cell
     have f1 := b1.frozen
     have k2 := b2.cell
     have f2 := b2.frozen
     go_wp2
     refine ⟨?_, by simp [intAt]; omega⟩
     skip
     exact ⟨hW0.trans (hW.mono hz), m + 1 + 1, M + c, frame_ex rfl, hst.out, by omega⟩
   ·
    replace hcn := Lib.hid hcn
    have hjl := (List.getElem?_eq_some_iff.1 hx).1
    obtain ⟨bs, os, p', q', cps, vc, rfl, hs, -, v0, v1, v2, v3, v4, v5, v6, v7⟩ := b1.segs.one hx
    have hE : Cel8 W bs (os + j * 8) x p' q' cps vc := ⟨v0, v1, v2, v3, v4, v5, v6, v7⟩
    have cN := Lib.hid (fun W' (hW' : Below W.heap.size W W') => c_segCountYes x p' q' cps vc W' (hs.below hW') (hv trivial x (List.mem_of_getElem? hx)))
    unfold segA at cN
    clear v0 v1 v2 v3 v4 v5 v6 v7 hx hs b1
    rcases i with _ | m
    ·simp only [Nat.zero_mul, Nat.add_zero] at q0 q1 q2
     have k1 := b2.cell
     have f1 := b2.frozen
     have hj0 : ¬ ((j : Int) < 0) := by omega
     have g1 : decide (c < 1) = false := decide_eq_false (by omega)
     go_upto_region 14 with (fail)
     go_quiet (fail)
     clear g1 k1 f1 q0 q1 q2
     go_upto_region 16 with (fail)
     refine wp_facts (fun W' => Below W.heap.size W W' /\ Blk W' gs #[.string s.name, s.eps, s.floor, s.last, s.scale, .slice (some ⟨bs, os, none⟩) s.segs.length capS, .slice pP s.opn.length capP] 25 /\ Blk W' W.heap.size #[.int .i64 2, .int .i64 (j : Int), c] 75 /\ Cel8 W' bs (os + j * 8) x p' q' cps vc) ⟨by exact Below.dN belowAny _, by exact Blk.dN blkAny2 _, by exact Blk.dN blkAny2 _, by exact hE.below (Below.dN belowAny _)⟩ ?_
     clear b1 b2 hE
     rintro V ⟨hW, b1, b2, b3⟩
     have zv0 := hW.size
     have zv1 := b1.lt
     have zv2 := b2.lt
     have k1 := b1.cell
     have f1 := b1.frozen
     have k2 := b2.cell
     have f2 := b2.frozen
     go_upto_region 23 with (fail)
     clear k1 f1 k2 f2
     refine wp_facts (fun W' => Below W.heap.size W W' /\ Blk W' gs #[.string s.name, s.eps, s.floor, s.last, s.scale, .slice (some ⟨bs, os, none⟩) s.segs.length capS, .slice pP s.opn.length capP] 25 /\ Blk W' W.heap.size #[.int .i64 2, .int .i64 (j : Int), c] 75 /\ Cel8 W' bs (os + j * 8) x p' q' cps vc) ⟨by exact belowAny, by exact blkAny2, by exact blkAny2, by first | exact b3 | exact b3.below (by assumption) | exact b3.below belowAny⟩ ?_
     clear b1 b2 b3 hW
     rintro W21 ⟨hW, b1, b2, b3⟩
     have z22 := hW.size
     have z23 := b1.lt
     have z24 := b2.lt
     refine wp_region_ndQ 27 159 [] (fun W' => Rex [] W21 W' /\ Blk W' gs #[.string s.name, s.eps, s.floor, s.last, s.scale, .slice (some ⟨bs, os, none⟩) s.segs.length capS, .slice pP s.opn.length capP] 25 /\ Blk W' W.heap.size #[.int .i64 2, .int .i64 (j : Int), c] 75 /\ Cel8 W' bs (os + j * 8) x p' q' cps vc) mixed (by kernel_rfl) rfl ⟨(Rex.refl _ _).drew, b1, b2, b3.drew⟩ (fun w w' ⟨h0, h1, h2, h3⟩ hr => ⟨h0.trans hr, h1.rex hr (by simp <;> omega), h2.rex hr (by simp <;> omega), h3.rex hr (by simp <;> omega)⟩) rfl ?_
     iterate 23
      first
      | (
       apply nd_det (hg := rfl) (hal := rfl)
       ·intro a W' hC hE
        obtain ⟨_, k1, k2, k3⟩ := hC
        have k1 := k1.cell
        have k2 := k2.cell
        obtain ⟨w0, w1, w2, w3, w4, w5, w6, w7⟩ := k3.all
        first
         | (simp at hE; simp [go_sem, Act.eval, IntWalk.i64_left, hE, k1, k2, k3, w0, w1, w2, w3, w4, w5, w6, w7, hj0, hjl, Nat.not_le.2 hjl, beq_eq_false_iff_ne.2 hcn.out]; try rfl)
         | (clear hE; simp [go_sem, Act.eval, IntWalk.i64_left, k1, k2, k3, w0, w1, w2, w3, w4, w5, w6, w7, hj0, hjl, Nat.not_le.2 hjl, beq_eq_false_iff_ne.2 hcn.out]; try rfl))
      | (
       apply nd_detg (p := true) (hg := rfl) (hd := rfl) (hal := rfl)
       ·intro v W' h
        simp at h
        simp
        exact h
       ·intro hp hx a W' hC hE
        obtain ⟨_, k1, k2, k3⟩ := hC
        have k1 := k1.cell
        have k2 := k2.cell
        obtain ⟨w0, w1, w2, w3, w4, w5, w6, w7⟩ := k3.all
        simp [hx] at hE
        simp [go_sem, Act.eval, IntWalk.i64_left, hE, k1, k2, k3, w0, w1, w2, w3, w4, w5, w6, w7, hj0, hjl, Nat.not_le.2 hjl, beq_eq_false_iff_ne.2 hcn.out]
        try rfl)
      | (
       apply nd_pick_or (ho := rfl) (hg := rfl)
       ·intro v W' h
        simp at h
        exact h
       ·intro v W' h hx
        simp [hx] at h
        exact h)
     apply nd_callvg2 (p := true) (hg := rfl) (hd := rfl) (hal := rfl)
     ·intro v W' h
      simp at h
      simp
      exact h
     ·intro hp hx W' hC
      exact cN.out _ (hW.trans (hC.1.of_priv hW.size))
     ·intro hp hx a W' hC hE
      obtain ⟨_, k1, k2, k3⟩ := hC
      have k1 := k1.cell
      have k2 := k2.cell
      obtain ⟨w0, w1, w2, w3, w4, w5, w6, w7⟩ := k3.all
      first
       | (simp [hx] at hE; simp [go_sem, Act.eval, IntWalk.i64_left, hE, k1, k2, k3, w0, w1, w2, w3, w4, w5, w6, w7, hj0, hjl, Nat.not_le.2 hjl, beq_eq_false_iff_ne.2 hcn.out]; try rfl)
       | (clear hE; simp [go_sem, Act.eval, IntWalk.i64_left, k1, k2, k3, w0, w1, w2, w3, w4, w5, w6, w7, hj0, hjl, Nat.not_le.2 hjl, beq_eq_false_iff_ne.2 hcn.out]; try rfl)
     iterate 2
      apply nd_detg (p := true) (hg := rfl) (hd := rfl) (hal := rfl)
      ·intro v W' h
       simp at h
       simp
       exact h
      ·intro hp hx a W' hC hE
       obtain ⟨_, k1, k2, k3⟩ := hC
       have k1 := k1.cell
       have k2 := k2.cell
       obtain ⟨w0, w1, w2, w3, w4, w5, w6, w7⟩ := k3.all
       simp [hx] at hE
       simp [go_sem, Act.eval, IntWalk.i64_left, hE, k1, k2, k3, w0, w1, w2, w3, w4, w5, w6, w7, hj0, hjl, Nat.not_le.2 hjl, beq_eq_false_iff_ne.2 hcn.out]
       try rfl
     apply nd_pick_or (ho := rfl) (hg := rfl)
     ·intro v W' h
      simp at h
      exact h
     ·intro v W' h hx
      simp [hx] at h
      exact h
     rintro W25 ⟨hR, d1, d2, d3⟩
     simp only [ndFinR, Det, forall_eq]
     intros
     repeat (rename GDet _ _ _ _ => hgd; clear hgd)
     simp only [Act.put, List.setIfInBounds_toArray, List.set_cons_zero, List.set_cons_succ]
     refine wpList_nil ?_
     replace hW := hW.trans (hR.of_priv hW.size)
     clear hR
     try clear b1 b2 b3
     have b1 := d1
     clear d1
     have b2 := d2
     clear d2
     have b3 := d3
     clear d3
     have k1 := b1.cell
     have f1 := b1.frozen
     have k2 := b2.cell
     have f2 := b2.frozen
     go_wp2
     refine ⟨?_, by simp [intAt]; omega⟩
     skip
     exact ⟨hW0.trans (hW.mono hz), 0 + 1, M + c, frame_ex rfl, hst.out, by omega⟩
    ·obtain ⟨⟨rf', rs', c'⟩, hr'⟩ : ∃ r, P[m]? = some r := ⟨P[m]'(by omega), List.getElem?_eq_getElem (by omega)⟩
     have hup1 := hup.out m _ _ hr' hr (by simp)
     obtain ⟨u0, u1, u2⟩ := hP.cellAt hr'
     simp only at hup1 u0 u1 u2
     have k1 := b2.cell
     have f1 := b2.frozen
     have hj0 : ¬ ((j : Int) < 0) := by omega
     have g1 : decide (c < 1) = false := decide_eq_false (by omega)
     have g2 : decide ((0 : Int) < (m : Int) + 1) = true := decide_eq_true (by omega)
     have g4 : (m : Int) < (P.length : Int) := by omega
     have g3 : decide ((j : Int) <= rs') = false := decide_eq_false (by omega)
     go_upto_region 14 with (fail)
     go_quiet (fail)
     clear g1 k1 f1 q0 q1 q2 g2 g4 g3 u0 u1 u2
     go_upto_region 16 with (fail)
     refine wp_facts (fun W' => Below W.heap.size W W' /\ Blk W' gs #[.string s.name, s.eps, s.floor, s.last, s.scale, .slice (some ⟨bs, os, none⟩) s.segs.length capS, .slice pP s.opn.length capP] 25 /\ Blk W' W.heap.size #[.int .i64 2, .int .i64 (j : Int), c] 75 /\ Cel8 W' bs (os + j * 8) x p' q' cps vc) ⟨by exact Below.dN belowAny _, by exact Blk.dN blkAny2 _, by exact Blk.dN blkAny2 _, by exact hE.below (Below.dN belowAny _)⟩ ?_
     clear b1 b2 hE
     rintro V ⟨hW, b1, b2, b3⟩
     have zv0 := hW.size
     have zv1 := b1.lt
     have zv2 := b2.lt
     have k1 := b1.cell
     have f1 := b1.frozen
     have k2 := b2.cell
     have f2 := b2.frozen
     go_upto_region 23 with (fail)
     clear k1 f1 k2 f2
     refine wp_facts (fun W' => Below W.heap.size W W' /\ Blk W' gs #[.string s.name, s.eps, s.floor, s.last, s.scale, .slice (some ⟨bs, os, none⟩) s.segs.length capS, .slice pP s.opn.length capP] 25 /\ Blk W' W.heap.size #[.int .i64 2, .int .i64 (j : Int), c] 75 /\ Cel8 W' bs (os + j * 8) x p' q' cps vc) ⟨by exact belowAny, by exact blkAny2, by exact blkAny2, by first | exact b3 | exact b3.below (by assumption) | exact b3.below belowAny⟩ ?_
     clear b1 b2 b3 hW
     rintro W21 ⟨hW, b1, b2, b3⟩
     have z22 := hW.size
     have z23 := b1.lt
     have z24 := b2.lt
     refine wp_region_ndQ 27 159 [] (fun W' => Rex [] W21 W' /\ Blk W' gs #[.string s.name, s.eps, s.floor, s.last, s.scale, .slice (some ⟨bs, os, none⟩) s.segs.length capS, .slice pP s.opn.length capP] 25 /\ Blk W' W.heap.size #[.int .i64 2, .int .i64 (j : Int), c] 75 /\ Cel8 W' bs (os + j * 8) x p' q' cps vc) mixed (by kernel_rfl) rfl ⟨(Rex.refl _ _).drew, b1, b2, b3.drew⟩ (fun w w' ⟨h0, h1, h2, h3⟩ hr => ⟨h0.trans hr, h1.rex hr (by simp <;> omega), h2.rex hr (by simp <;> omega), h3.rex hr (by simp <;> omega)⟩) rfl ?_
     iterate 23
      first
      | (
       apply nd_det (hg := rfl) (hal := rfl)
       ·intro a W' hC hE
        obtain ⟨_, k1, k2, k3⟩ := hC
        have k1 := k1.cell
        have k2 := k2.cell
        obtain ⟨w0, w1, w2, w3, w4, w5, w6, w7⟩ := k3.all
        first
         | (simp at hE; simp [go_sem, Act.eval, IntWalk.i64_left, hE, k1, k2, k3, w0, w1, w2, w3, w4, w5, w6, w7, hj0, hjl, Nat.not_le.2 hjl, beq_eq_false_iff_ne.2 hcn.out]; try rfl)
         | (clear hE; simp [go_sem, Act.eval, IntWalk.i64_left, k1, k2, k3, w0, w1, w2, w3, w4, w5, w6, w7, hj0, hjl, Nat.not_le.2 hjl, beq_eq_false_iff_ne.2 hcn.out]; try rfl))
      | (
       apply nd_detg (p := true) (hg := rfl) (hd := rfl) (hal := rfl)
       ·intro v W' h
        simp at h
        simp
        exact h
       ·intro hp hx a W' hC hE
        obtain ⟨_, k1, k2, k3⟩ := hC
        have k1 := k1.cell
        have k2 := k2.cell
        obtain ⟨w0, w1, w2, w3, w4, w5, w6, w7⟩ := k3.all
        simp [hx] at hE
        simp [go_sem, Act.eval, IntWalk.i64_left, hE, k1, k2, k3, w0, w1, w2, w3, w4, w5, w6, w7, hj0, hjl, Nat.not_le.2 hjl, beq_eq_false_iff_ne.2 hcn.out]
        try rfl)
      | (
       apply nd_pick_or (ho := rfl) (hg := rfl)
       ·intro v W' h
        simp at h
        exact h
       ·intro v W' h hx
        simp [hx] at h
        exact h)
     apply nd_callvg2 (p := true) (hg := rfl) (hd := rfl) (hal := rfl)
     ·intro v W' h
      simp at h
      simp
      exact h
     ·intro hp hx W' hC
      exact cN.out _ (hW.trans (hC.1.of_priv hW.size))
     ·intro hp hx a W' hC hE
      obtain ⟨_, k1, k2, k3⟩ := hC
      have k1 := k1.cell
      have k2 := k2.cell
      obtain ⟨w0, w1, w2, w3, w4, w5, w6, w7⟩ := k3.all
      first
       | (simp [hx] at hE; simp [go_sem, Act.eval, IntWalk.i64_left, hE, k1, k2, k3, w0, w1, w2, w3, w4, w5, w6, w7, hj0, hjl, Nat.not_le.2 hjl, beq_eq_false_iff_ne.2 hcn.out]; try rfl)
       | (clear hE; simp [go_sem, Act.eval, IntWalk.i64_left, k1, k2, k3, w0, w1, w2, w3, w4, w5, w6, w7, hj0, hjl, Nat.not_le.2 hjl, beq_eq_false_iff_ne.2 hcn.out]; try rfl)
     iterate 2
      apply nd_detg (p := true) (hg := rfl) (hd := rfl) (hal := rfl)
      ·intro v W' h
       simp at h
       simp
       exact h
      ·intro hp hx a W' hC hE
       obtain ⟨_, k1, k2, k3⟩ := hC
       have k1 := k1.cell
       have k2 := k2.cell
       obtain ⟨w0, w1, w2, w3, w4, w5, w6, w7⟩ := k3.all
       simp [hx] at hE
       simp [go_sem, Act.eval, IntWalk.i64_left, hE, k1, k2, k3, w0, w1, w2, w3, w4, w5, w6, w7, hj0, hjl, Nat.not_le.2 hjl, beq_eq_false_iff_ne.2 hcn.out]
       try rfl
     apply nd_pick_or (ho := rfl) (hg := rfl)
     ·intro v W' h
      simp at h
      exact h
     ·intro v W' h hx
      simp [hx] at h
      exact h
     rintro W25 ⟨hR, d1, d2, d3⟩
     simp only [ndFinR, Det, forall_eq]
     intros
     repeat (rename GDet _ _ _ _ => hgd; clear hgd)
     simp only [Act.put, List.setIfInBounds_toArray, List.set_cons_zero, List.set_cons_succ]
     refine wpList_nil ?_
     replace hW := hW.trans (hR.of_priv hW.size)
     clear hR
     try clear b1 b2 b3
     have b1 := d1
     clear d1
     have b2 := d2
     clear d2
     have b3 := d3
     clear d3
     have k1 := b1.cell
     have f1 := b1.frozen
     have k2 := b2.cell
     have f2 := b2.frozen
     go_wp2
     refine ⟨?_, by simp [intAt]; omega⟩
     skip
     exact ⟨hW0.trans (hW.mono hz), m + 1 + 1, M + c, frame_ex rfl, hst.out, by omega⟩
  ·obtain rfl : i = P.length := by omega
   rw [List.take_length] at hM
   obtain rfl : tot = M := by rw [<- hsum.out, hM]
   clear hM
   have hWo := hW
   clear hW
   have k2 := b2.cell
   have f2 := b2.frozen
   have cO := H_cO.out
   go_wp2_with fail
   refine (cO (by trivial) _ pS capS pP capP b1).mono ?_
   rintro e w21 ⟨rfl, hb21⟩
   clear cO
   have z22 := hb21.size
   try simp at z22
   clear k2 f2
   have b1 : SerIn w21 s pS pP := by first | exact b1 | exact (SerIn.alloc b1 _).below (by assumption) | exact b1.below (by assumption) | exact b1.below belowAny
   have b2 : Blk w21 gs #[.string s.name, s.eps, s.floor, s.last, s.scale, .slice pS s.segs.length capS, .slice pP s.opn.length capP] 25 := blkAny2
   have hW : Below W.heap.size W w21 := belowAny
   have z23 := b2.lt
   clear hb21
   have k2 := b2.cell
   have f2 := b2.frozen
   go_wp2
   have y_2 := b2.lt
   refine bodyPost_ret (v := .bool true) (by simp [results, Tryz.results9, go_sem, k2, f2, y_2]) rfl ⟨rfl, hWo.trans ((hW0.trans (hW.mono hz)).mono hWo.size)⟩
end Go.Proofs.YtidfcoooccblaaaGreat
