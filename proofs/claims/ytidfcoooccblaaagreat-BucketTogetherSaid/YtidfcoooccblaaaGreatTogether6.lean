/- Parts of the proof that follows: Layer seg: rawIs, kinds, is. | Layer seg: is. | Layer seg: what a segment is; is, told. | Layer seg: linePart, walked. | Layer seg: rawPart, walked. -/
import Derived.Test.YtidfcoooccblaaaGreatTogether5
set_option maxRecDepth 100000
set_option maxHeartbeats 8000000
set_option linter.unusedSimpArgs false
set_option linter.unusedVariables false
namespace Go.Proofs.YtidfcoooccblaaaGreat
open Go.RowKit
attribute [local simp] Oper.looksAt Op.operands Call.operands envOf Det GDet
def lineZ (A R n d : Int) : Bool := decide (A = 0 /\ R = 0 /\ n = 0 /\ d = 0)
theorem rawis_w (K A R n d E : Int) (p q : Option Addr) (len cap m vc : Nat) (w : World) (N : Int) (b2 : Bool)
  (c1 : ∀ W, Below w.heap.size w W -> Calls Tryz.prog 99 #[.slice p len cap] W fun e w' => e = .returned (N) /\ Below W.heap.size W w')
  (c2 : ∀ W, Below w.heap.size w W -> Calls Tryz.prog 218 #[.slice q m vc, .func (.func 219) #[] #[]] W fun e w' => e = .returned (.bool b2) /\ Below W.heap.size W w') :
  Calls Tryz.prog 202 #[.agg #[K, .slice p len cap, A, R, n, d, .slice q m vc, E]] w fun e w' => e = .returned (.bool (lineZ A R n d && (m : Int) == N && !b2)) /\ Below w.heap.size w w' := by
 have H_c1 := Lib.hid c1
 clear c1
 have H_c2 := Lib.hid c2
 clear c2
 go_enter Tryz.func202, Tryz.ntmps202
 go_upto_region 1 with (fail)
 refine wp_facts (fun W' => Below w.heap.size w W' /\ Blk W' w.heap.size #[K, .slice p len cap, A, R, n, d, .slice q m vc, E] 179) ⟨by exact belowAny, by exact blkAny⟩ ?_
 rintro W1 ⟨hW, b1⟩
 have z2 := hW.size
 have z3 := b1.lt
 have c1 := H_c1.out
 have c2 := H_c2.out
 refine wp_region_nd 24 26 [] (fun W' => Rex [] W1 W' /\ Blk W' w.heap.size #[K, .slice p len cap, A, R, n, d, .slice q m vc, E] 179) mixed (by kernel_rfl) rfl ⟨(Rex.refl _ _).drew, b1⟩ (fun w w' ⟨h0, h1⟩ hr => ⟨h0.trans hr, h1.rex hr (by simp <;> omega)⟩) (fun c a d v w h => by cases d <;> exact h) ?_
 iterate 4
  apply nd_det (hg := rfl) (hal := rfl)
  ·intro a W' hC hE
   obtain ⟨_, k1⟩ := hC
   have k1 := k1.cell
   first
    | (simp at hE; simp [go_sem, Act.eval, IntWalk.i64_left, hE, k1]; try rfl)
    | (clear hE; simp [go_sem, Act.eval, IntWalk.i64_left, k1]; try rfl)
 apply nd_det (c := .bool (lineZ A R n d)) (hg := rfl) (hal := rfl)
 ·intro a W' hC hE
  obtain ⟨_, k1⟩ := hC
  have k1 := k1.cell
  simp at hE
  simp [go_sem, Act.eval, hE, k1]
  unfold lineZ
  by_cases h1 : A = 0 <;> by_cases h2 : R = 0 <;> by_cases h3 : n = 0 <;> by_cases h4 : d = 0 <;> simp [h1, h2, h3, h4]
 iterate 1
  apply nd_det (hg := rfl) (hal := rfl)
  ·intro a W' hC hE
   obtain ⟨_, k1⟩ := hC
   have k1 := k1.cell
   first
    | (simp at hE; simp [go_sem, Act.eval, IntWalk.i64_left, hE, k1]; try rfl)
    | (clear hE; simp [go_sem, Act.eval, IntWalk.i64_left, k1]; try rfl)
 iterate 7
  apply nd_detg (p := true) (hg := rfl) (hd := rfl) (hal := rfl)
  ·intro v W' h
   simp at h
   simp
   exact h
  ·intro hp hx a W' hC hE
   obtain ⟨_, k1⟩ := hC
   have k1 := k1.cell
   simp [hx] at hE
   simp [go_sem, Act.eval, IntWalk.i64_left, hE, k1]
   try rfl
 apply nd_callvg2 (p := true) (hg := rfl) (hd := rfl) (hal := rfl)
 ·intro v W' h
  simp at h
  simp
  exact h
 ·intro hp hx W' hC
  exact c1 W' (hW.trans (hC.1.of_priv hW.size))
 ·intro hp hx a W' hC hE
  obtain ⟨_, k1⟩ := hC
  have k1 := k1.cell
  first
   | (simp [hx] at hE; simp [go_sem, Act.eval, IntWalk.i64_left, hE, k1]; try rfl)
   | (clear hE; simp [go_sem, Act.eval, IntWalk.i64_left, k1]; try rfl)
 iterate 1
  apply nd_detg (p := true) (hg := rfl) (hd := rfl) (hal := rfl)
  ·intro v W' h
   simp at h
   simp
   exact h
  ·intro hp hx a W' hC hE
   obtain ⟨_, k1⟩ := hC
   have k1 := k1.cell
   simp [hx] at hE
   simp [go_sem, Act.eval, IntWalk.i64_left, hE, k1]
   try rfl
 apply nd_pick_and (ho := rfl) (hg := rfl)
 ·intro v W' h
  simp at h
  exact h
 ·intro v W' h hx
  simp [hx] at h
  exact h
 iterate 1
  apply nd_det (hg := rfl) (hal := rfl)
  ·intro a W' hC hE
   obtain ⟨_, k1⟩ := hC
   have k1 := k1.cell
   first
    | (simp at hE; simp [go_sem, Act.eval, IntWalk.i64_left, hE, k1]; try rfl)
    | (clear hE; simp [go_sem, Act.eval, IntWalk.i64_left, k1]; try rfl)
 iterate 3
  apply nd_detg (p := true) (hg := rfl) (hd := rfl) (hal := rfl)
  ·intro v W' h
   simp at h
   simp
   exact h
  ·intro hp hx a W' hC hE
   obtain ⟨_, k1⟩ := hC
   have k1 := k1.cell
   simp [hx] at hE
   simp [go_sem, Act.eval, IntWalk.i64_left, hE, k1]
   try rfl
 apply nd_callvg2 (p := true) (hg := rfl) (hd := rfl) (hal := rfl)
 ·intro v W' h
  simp at h
  simp
  exact h
 ·intro hp hx W' hC
  exact c2 W' (hW.trans (hC.1.of_priv hW.size))
 ·intro hp hx a W' hC hE
  obtain ⟨_, k1⟩ := hC
  have k1 := k1.cell
  first
   | (simp [hx] at hE; simp [go_sem, Act.eval, IntWalk.i64_left, hE, k1]; try rfl)
   | (clear hE; simp [go_sem, Act.eval, IntWalk.i64_left, k1]; try rfl)
 iterate 1
  apply nd_detg (p := true) (hg := rfl) (hd := rfl) (hal := rfl)
  ·intro v W' h
   simp at h
   simp
   exact h
  ·intro hp hx a W' hC hE
   obtain ⟨_, k1⟩ := hC
   have k1 := k1.cell
   simp [hx] at hE
   simp [go_sem, Act.eval, IntWalk.i64_left, hE, k1]
   try rfl
 apply nd_pick_and (ho := rfl) (hg := rfl)
 ·intro v W' h
  simp at h
  exact h
 ·intro v W' h hx
  simp [hx] at h
  exact h
 iterate 1
  apply nd_det (hg := rfl) (hal := rfl)
  ·intro a W' hC hE
   obtain ⟨_, k1⟩ := hC
   have k1 := k1.cell
   first
    | (simp at hE; simp [go_sem, Act.eval, IntWalk.i64_left, hE, k1]; try rfl)
    | (clear hE; simp [go_sem, Act.eval, IntWalk.i64_left, k1]; try rfl)
 rintro W4 ⟨hR, d1⟩
 simp only [ndFinR, Det, forall_eq]
 intros
 repeat (rename GDet _ _ _ _ => hgd; clear hgd)
 simp only [Act.put, List.setIfInBounds_toArray, List.set_cons_zero, List.set_cons_succ]
 refine wpList_nil ?_
 replace hW := hW.trans (hR.of_priv hW.size)
 clear hR
 clear c1
 clear c2
 try clear b1
 have b1 := d1
 clear d1
 go_wp2
 have y_1 := b1.lt
 refine bodyPost_ret (v := .bool (lineZ A R n d && (m : Int) == N && !b2)) (by simp [results, Tryz.results202, go_sem, y_1]) rfl ⟨rfl, belowAny⟩
theorem kinds_w (w : World) : Calls Tryz.prog 179 #[] w fun e w' => e = .returned (.agg #[.nilFunc, .nilFunc, .func (.func 197) #[] #[], .func (.func 201) #[] #[], .func (.func 199) #[] #[], .func (.func 201) #[] #[], .func (.func 200) #[] #[], .func (.func 201) #[] #[], .func (.func 202) #[] #[], .func (.func 203) #[] #[]]) /\ Below w.heap.size w w' := by
 go_enter Tryz.func179, Tryz.ntmps179
 go_wp2
 exact bodyPost_ret (v := .agg #[.nilFunc, .nilFunc, .func (.func 197) #[] #[], .func (.func 201) #[] #[], .func (.func 199) #[] #[], .func (.func 201) #[] #[], .func (.func 200) #[] #[], .func (.func 201) #[] #[], .func (.func 202) #[] #[], .func (.func 203) #[] #[]]) (by simp [results, Tryz.results179, go_sem]) rfl ⟨rfl, belowAny⟩
theorem is_1 (K A R n d E : Int) (p q : Option Addr) (len cap m vc : Nat) (w : World) (b : Bool)
  (c1 : ∀ W, Below w.heap.size w W -> Calls Tryz.prog 178 #[.slice p len cap] W fun e w' => e = .returned (.int .i64 0) /\ Below W.heap.size W w')
  (c3 : ∀ W, Below w.heap.size w W -> Calls Tryz.prog 197 #[.agg #[.int .i64 1, .slice p len cap, A, R, n, d, .slice q m vc, E]] W fun e w' => e = .returned (.bool b) /\ Below W.heap.size W w') :
  Calls Tryz.prog 150 #[.agg #[.int .i64 1, .slice p len cap, A, R, n, d, .slice q m vc, E]] w fun e w' => e = .returned (.bool (decide (0 <= E) && decide (E <= 1099511627776) && b)) /\ Below w.heap.size w w' := by
 have H_c1 := Lib.hid c1
 clear c1
 have H_c3 := Lib.hid c3
 clear c3
 go_enter Tryz.func150, Tryz.ntmps150
 go_upto_region 1 with (fail)
 refine wp_facts (fun W' => Below w.heap.size w W' /\ Blk W' w.heap.size #[.int .i64 1, .slice p len cap, A, R, n, d, .slice q m vc, E] 179) ⟨by exact belowAny, by exact blkAny⟩ ?_
 rintro W1 ⟨hW, b1⟩
 have z2 := hW.size
 have z3 := b1.lt
 have c1 := H_c1.out
 have c3 := H_c3.out
 refine wp_region_nd 40 42 [] (fun W' => Rex [] W1 W' /\ Blk W' w.heap.size #[.int .i64 1, .slice p len cap, A, R, n, d, .slice q m vc, E] 179) mixed (by kernel_rfl) rfl ⟨(Rex.refl _ _).drew, b1⟩ (fun w w' ⟨h0, h1⟩ hr => ⟨h0.trans hr, h1.rex hr (by simp <;> omega)⟩) (fun c a d v w h => by cases d <;> exact h) ?_
 iterate 26
  first
  | (
   apply nd_det (hg := rfl) (hal := rfl)
   ·intro a W' hC hE
    obtain ⟨_, k1⟩ := hC
    have k1 := k1.cell
    first
     | (simp at hE; simp [go_sem, Act.eval, IntWalk.i64_left, hE, k1]; try rfl)
     | (clear hE; simp [go_sem, Act.eval, IntWalk.i64_left, k1]; try rfl))
  | (
   apply nd_detg (p := true) (hg := rfl) (hd := rfl) (hal := rfl)
   ·intro v W' h
    simp at h
    simp
    exact h
   ·intro hp hx a W' hC hE
    obtain ⟨_, k1⟩ := hC
    have k1 := k1.cell
    simp [hx] at hE
    simp [go_sem, Act.eval, IntWalk.i64_left, hE, k1]
    try rfl)
  | (
   apply nd_pick_and (ho := rfl) (hg := rfl)
   ·intro v W' h
    simp at h
    exact h
   ·intro v W' h hx
    simp [hx] at h
    exact h)
 apply nd_callvg2 (p := true) (hg := rfl) (hd := rfl) (hal := rfl)
 ·intro v W' h
  simp at h
  simp
  exact h
 ·intro hp hx W' hC
  exact c1 W' (hW.trans (hC.1.of_priv hW.size))
 ·intro hp hx a W' hC hE
  obtain ⟨_, k1⟩ := hC
  have k1 := k1.cell
  first
   | (simp [hx] at hE; simp [go_sem, Act.eval, IntWalk.i64_left, hE, k1]; try rfl)
   | (clear hE; simp [go_sem, Act.eval, IntWalk.i64_left, k1]; try rfl)
 iterate 1
  apply nd_detg (p := true) (hg := rfl) (hd := rfl) (hal := rfl)
  ·intro v W' h
   simp at h
   simp
   exact h
  ·intro hp hx a W' hC hE
   obtain ⟨_, k1⟩ := hC
   have k1 := k1.cell
   simp [hx] at hE
   simp [go_sem, Act.eval, IntWalk.i64_left, hE, k1]
   try rfl
 apply nd_pick_and (ho := rfl) (hg := rfl)
 ·intro v W' h
  simp at h
  exact h
 ·intro v W' h hx
  simp [hx] at h
  exact h
 iterate 1
  apply nd_det (hg := rfl) (hal := rfl)
  ·intro a W' hC hE
   obtain ⟨_, k1⟩ := hC
   have k1 := k1.cell
   first
    | (simp at hE; simp [go_sem, Act.eval, IntWalk.i64_left, hE, k1]; try rfl)
    | (clear hE; simp [go_sem, Act.eval, IntWalk.i64_left, k1]; try rfl)
 apply nd_callvg2 (p := true) (hg := rfl) (hd := rfl) (hal := rfl)
 ·intro v W' h
  simp at h
  simp
  exact h
 ·intro hp hx W' hC
  exact kinds_w W'
 ·intro hp hx a W' hC hE
  obtain ⟨_, k1⟩ := hC
  have k1 := k1.cell
  first
   | (simp [hx] at hE; simp [go_sem, Act.eval, IntWalk.i64_left, hE, k1]; try rfl)
   | (clear hE; simp [go_sem, Act.eval, IntWalk.i64_left, k1]; try rfl)
 iterate 3
  apply nd_detg (p := true) (hg := rfl) (hd := rfl) (hal := rfl)
  ·intro v W' h
   simp at h
   simp
   exact h
  ·intro hp hx a W' hC hE
   obtain ⟨_, k1⟩ := hC
   have k1 := k1.cell
   simp [hx] at hE
   simp [go_sem, Act.eval, IntWalk.i64_left, hE, k1]
   try rfl
 apply nd_detg (p := true) (c := .agg #[.func (.func 197) #[] #[], .func (.func 201) #[] #[]]) (hg := rfl) (hd := rfl) (hal := rfl)
 ·intro v W' h
  simp at h
  simp
  exact h
 ·intro hp hx a W' hC hE
  simp [hx] at hE
  simp [go_sem, Act.eval, hE]
  kernel_rfl
 iterate 2
  apply nd_detg (p := true) (hg := rfl) (hd := rfl) (hal := rfl)
  ·intro v W' h
   simp at h
   simp
   exact h
  ·intro hp hx a W' hC hE
   obtain ⟨_, k1⟩ := hC
   have k1 := k1.cell
   simp [hx] at hE
   simp [go_sem, Act.eval, IntWalk.i64_left, hE, k1]
   try rfl
 apply nd_callvg2 (p := true) (hg := rfl) (hd := rfl) (hal := rfl)
 ·intro v W' h
  simp at h
  simp
  exact h
 ·intro hp hx W' hC
  exact c3 W' (hW.trans (hC.1.of_priv hW.size))
 ·intro hp hx a W' hC hE
  obtain ⟨_, k1⟩ := hC
  have k1 := k1.cell
  first
   | (simp [hx] at hE; simp [go_sem, Act.eval, IntWalk.i64_left, hE, k1]; try rfl)
   | (clear hE; simp [go_sem, Act.eval, IntWalk.i64_left, k1]; try rfl)
 apply nd_pick_and (ho := rfl) (hg := rfl)
 ·intro v W' h
  simp at h
  exact h
 ·intro v W' h hx
  simp [hx] at h
  exact h
 iterate 1
  apply nd_det (hg := rfl) (hal := rfl)
  ·intro a W' hC hE
   obtain ⟨_, k1⟩ := hC
   have k1 := k1.cell
   first
    | (simp at hE; simp [go_sem, Act.eval, IntWalk.i64_left, hE, k1]; try rfl)
    | (clear hE; simp [go_sem, Act.eval, IntWalk.i64_left, k1]; try rfl)
 rintro W4 ⟨hR, d1⟩
 simp only [ndFinR, Det, forall_eq]
 intros
 repeat (rename GDet _ _ _ _ => hgd; clear hgd)
 simp only [Act.put, List.setIfInBounds_toArray, List.set_cons_zero, List.set_cons_succ]
 refine wpList_nil ?_
 replace hW := hW.trans (hR.of_priv hW.size)
 clear hR
 clear c1
 clear c3
 try clear b1
 have b1 := d1
 clear d1
 go_wp2
 have y_1 := b1.lt
 refine bodyPost_ret (v := .bool (decide (0 <= E) && decide (E <= 1099511627776) && b)) (by simp [results, Tryz.results150, go_sem, y_1]) rfl ⟨rfl, belowAny⟩
theorem is_2 (K A R n d E : Int) (p q : Option Addr) (len cap m vc : Nat) (w : World) (b : Bool)
  (c1 : ∀ W, Below w.heap.size w W -> Calls Tryz.prog 178 #[.slice p len cap] W fun e w' => e = .returned (.int .i64 0) /\ Below W.heap.size W w')
  (c3 : ∀ W, Below w.heap.size w W -> Calls Tryz.prog 199 #[.agg #[.int .i64 2, .slice p len cap, A, R, n, d, .slice q m vc, E]] W fun e w' => e = .returned (.bool b) /\ Below W.heap.size W w') :
  Calls Tryz.prog 150 #[.agg #[.int .i64 2, .slice p len cap, A, R, n, d, .slice q m vc, E]] w fun e w' => e = .returned (.bool (decide (0 <= E) && decide (E <= 1099511627776) && b)) /\ Below w.heap.size w w' := by
 have H_c1 := Lib.hid c1
 clear c1
 have H_c3 := Lib.hid c3
 clear c3
 go_enter Tryz.func150, Tryz.ntmps150
 go_upto_region 1 with (fail)
 refine wp_facts (fun W' => Below w.heap.size w W' /\ Blk W' w.heap.size #[.int .i64 2, .slice p len cap, A, R, n, d, .slice q m vc, E] 179) ⟨by exact belowAny, by exact blkAny⟩ ?_
 rintro W1 ⟨hW, b1⟩
 have z2 := hW.size
 have z3 := b1.lt
 have c1 := H_c1.out
 have c3 := H_c3.out
 refine wp_region_nd 40 42 [] (fun W' => Rex [] W1 W' /\ Blk W' w.heap.size #[.int .i64 2, .slice p len cap, A, R, n, d, .slice q m vc, E] 179) mixed (by kernel_rfl) rfl ⟨(Rex.refl _ _).drew, b1⟩ (fun w w' ⟨h0, h1⟩ hr => ⟨h0.trans hr, h1.rex hr (by simp <;> omega)⟩) (fun c a d v w h => by cases d <;> exact h) ?_
 iterate 26
  first
  | (
   apply nd_det (hg := rfl) (hal := rfl)
   ·intro a W' hC hE
    obtain ⟨_, k1⟩ := hC
    have k1 := k1.cell
    first
     | (simp at hE; simp [go_sem, Act.eval, IntWalk.i64_left, hE, k1]; try rfl)
     | (clear hE; simp [go_sem, Act.eval, IntWalk.i64_left, k1]; try rfl))
  | (
   apply nd_detg (p := true) (hg := rfl) (hd := rfl) (hal := rfl)
   ·intro v W' h
    simp at h
    simp
    exact h
   ·intro hp hx a W' hC hE
    obtain ⟨_, k1⟩ := hC
    have k1 := k1.cell
    simp [hx] at hE
    simp [go_sem, Act.eval, IntWalk.i64_left, hE, k1]
    try rfl)
  | (
   apply nd_pick_and (ho := rfl) (hg := rfl)
   ·intro v W' h
    simp at h
    exact h
   ·intro v W' h hx
    simp [hx] at h
    exact h)
 apply nd_callvg2 (p := true) (hg := rfl) (hd := rfl) (hal := rfl)
 ·intro v W' h
  simp at h
  simp
  exact h
 ·intro hp hx W' hC
  exact c1 W' (hW.trans (hC.1.of_priv hW.size))
 ·intro hp hx a W' hC hE
  obtain ⟨_, k1⟩ := hC
  have k1 := k1.cell
  first
   | (simp [hx] at hE; simp [go_sem, Act.eval, IntWalk.i64_left, hE, k1]; try rfl)
   | (clear hE; simp [go_sem, Act.eval, IntWalk.i64_left, k1]; try rfl)
 iterate 1
  apply nd_detg (p := true) (hg := rfl) (hd := rfl) (hal := rfl)
  ·intro v W' h
   simp at h
   simp
   exact h
  ·intro hp hx a W' hC hE
   obtain ⟨_, k1⟩ := hC
   have k1 := k1.cell
   simp [hx] at hE
   simp [go_sem, Act.eval, IntWalk.i64_left, hE, k1]
   try rfl
 apply nd_pick_and (ho := rfl) (hg := rfl)
 ·intro v W' h
  simp at h
  exact h
 ·intro v W' h hx
  simp [hx] at h
  exact h
 iterate 1
  apply nd_det (hg := rfl) (hal := rfl)
  ·intro a W' hC hE
   obtain ⟨_, k1⟩ := hC
   have k1 := k1.cell
   first
    | (simp at hE; simp [go_sem, Act.eval, IntWalk.i64_left, hE, k1]; try rfl)
    | (clear hE; simp [go_sem, Act.eval, IntWalk.i64_left, k1]; try rfl)
 apply nd_callvg2 (p := true) (hg := rfl) (hd := rfl) (hal := rfl)
 ·intro v W' h
  simp at h
  simp
  exact h
 ·intro hp hx W' hC
  exact kinds_w W'
 ·intro hp hx a W' hC hE
  obtain ⟨_, k1⟩ := hC
  have k1 := k1.cell
  first
   | (simp [hx] at hE; simp [go_sem, Act.eval, IntWalk.i64_left, hE, k1]; try rfl)
   | (clear hE; simp [go_sem, Act.eval, IntWalk.i64_left, k1]; try rfl)
 iterate 3
  apply nd_detg (p := true) (hg := rfl) (hd := rfl) (hal := rfl)
  ·intro v W' h
   simp at h
   simp
   exact h
  ·intro hp hx a W' hC hE
   obtain ⟨_, k1⟩ := hC
   have k1 := k1.cell
   simp [hx] at hE
   simp [go_sem, Act.eval, IntWalk.i64_left, hE, k1]
   try rfl
 apply nd_detg (p := true) (c := .agg #[.func (.func 199) #[] #[], .func (.func 201) #[] #[]]) (hg := rfl) (hd := rfl) (hal := rfl)
 ·intro v W' h
  simp at h
  simp
  exact h
 ·intro hp hx a W' hC hE
  simp [hx] at hE
  simp [go_sem, Act.eval, hE]
  kernel_rfl
 iterate 2
  apply nd_detg (p := true) (hg := rfl) (hd := rfl) (hal := rfl)
  ·intro v W' h
   simp at h
   simp
   exact h
  ·intro hp hx a W' hC hE
   obtain ⟨_, k1⟩ := hC
   have k1 := k1.cell
   simp [hx] at hE
   simp [go_sem, Act.eval, IntWalk.i64_left, hE, k1]
   try rfl
 apply nd_callvg2 (p := true) (hg := rfl) (hd := rfl) (hal := rfl)
 ·intro v W' h
  simp at h
  simp
  exact h
 ·intro hp hx W' hC
  exact c3 W' (hW.trans (hC.1.of_priv hW.size))
 ·intro hp hx a W' hC hE
  obtain ⟨_, k1⟩ := hC
  have k1 := k1.cell
  first
   | (simp [hx] at hE; simp [go_sem, Act.eval, IntWalk.i64_left, hE, k1]; try rfl)
   | (clear hE; simp [go_sem, Act.eval, IntWalk.i64_left, k1]; try rfl)
 apply nd_pick_and (ho := rfl) (hg := rfl)
 ·intro v W' h
  simp at h
  exact h
 ·intro v W' h hx
  simp [hx] at h
  exact h
 iterate 1
  apply nd_det (hg := rfl) (hal := rfl)
  ·intro a W' hC hE
   obtain ⟨_, k1⟩ := hC
   have k1 := k1.cell
   first
    | (simp at hE; simp [go_sem, Act.eval, IntWalk.i64_left, hE, k1]; try rfl)
    | (clear hE; simp [go_sem, Act.eval, IntWalk.i64_left, k1]; try rfl)
 rintro W4 ⟨hR, d1⟩
 simp only [ndFinR, Det, forall_eq]
 intros
 repeat (rename GDet _ _ _ _ => hgd; clear hgd)
 simp only [Act.put, List.setIfInBounds_toArray, List.set_cons_zero, List.set_cons_succ]
 refine wpList_nil ?_
 replace hW := hW.trans (hR.of_priv hW.size)
 clear hR
 clear c1
 clear c3
 try clear b1
 have b1 := d1
 clear d1
 go_wp2
 have y_1 := b1.lt
 refine bodyPost_ret (v := .bool (decide (0 <= E) && decide (E <= 1099511627776) && b)) (by simp [results, Tryz.results150, go_sem, y_1]) rfl ⟨rfl, belowAny⟩
theorem is_3 (K A R n d E : Int) (p q : Option Addr) (len cap m vc : Nat) (w : World) (b : Bool)
  (c1 : ∀ W, Below w.heap.size w W -> Calls Tryz.prog 178 #[.slice p len cap] W fun e w' => e = .returned (.int .i64 0) /\ Below W.heap.size W w')
  (c3 : ∀ W, Below w.heap.size w W -> Calls Tryz.prog 200 #[.agg #[.int .i64 3, .slice p len cap, A, R, n, d, .slice q m vc, E]] W fun e w' => e = .returned (.bool b) /\ Below W.heap.size W w') :
  Calls Tryz.prog 150 #[.agg #[.int .i64 3, .slice p len cap, A, R, n, d, .slice q m vc, E]] w fun e w' => e = .returned (.bool (decide (0 <= E) && decide (E <= 1099511627776) && b)) /\ Below w.heap.size w w' := by
 have H_c1 := Lib.hid c1
 clear c1
 have H_c3 := Lib.hid c3
 clear c3
 go_enter Tryz.func150, Tryz.ntmps150
 go_upto_region 1 with (fail)
 refine wp_facts (fun W' => Below w.heap.size w W' /\ Blk W' w.heap.size #[.int .i64 3, .slice p len cap, A, R, n, d, .slice q m vc, E] 179) ⟨by exact belowAny, by exact blkAny⟩ ?_
 rintro W1 ⟨hW, b1⟩
 have z2 := hW.size
 have z3 := b1.lt
 have c1 := H_c1.out
 have c3 := H_c3.out
 refine wp_region_nd 40 42 [] (fun W' => Rex [] W1 W' /\ Blk W' w.heap.size #[.int .i64 3, .slice p len cap, A, R, n, d, .slice q m vc, E] 179) mixed (by kernel_rfl) rfl ⟨(Rex.refl _ _).drew, b1⟩ (fun w w' ⟨h0, h1⟩ hr => ⟨h0.trans hr, h1.rex hr (by simp <;> omega)⟩) (fun c a d v w h => by cases d <;> exact h) ?_
 iterate 26
  first
  | (
   apply nd_det (hg := rfl) (hal := rfl)
   ·intro a W' hC hE
    obtain ⟨_, k1⟩ := hC
    have k1 := k1.cell
    first
     | (simp at hE; simp [go_sem, Act.eval, IntWalk.i64_left, hE, k1]; try rfl)
     | (clear hE; simp [go_sem, Act.eval, IntWalk.i64_left, k1]; try rfl))
  | (
   apply nd_detg (p := true) (hg := rfl) (hd := rfl) (hal := rfl)
   ·intro v W' h
    simp at h
    simp
    exact h
   ·intro hp hx a W' hC hE
    obtain ⟨_, k1⟩ := hC
    have k1 := k1.cell
    simp [hx] at hE
    simp [go_sem, Act.eval, IntWalk.i64_left, hE, k1]
    try rfl)
  | (
   apply nd_pick_and (ho := rfl) (hg := rfl)
   ·intro v W' h
    simp at h
    exact h
   ·intro v W' h hx
    simp [hx] at h
    exact h)
 apply nd_callvg2 (p := true) (hg := rfl) (hd := rfl) (hal := rfl)
 ·intro v W' h
  simp at h
  simp
  exact h
 ·intro hp hx W' hC
  exact c1 W' (hW.trans (hC.1.of_priv hW.size))
 ·intro hp hx a W' hC hE
  obtain ⟨_, k1⟩ := hC
  have k1 := k1.cell
  first
   | (simp [hx] at hE; simp [go_sem, Act.eval, IntWalk.i64_left, hE, k1]; try rfl)
   | (clear hE; simp [go_sem, Act.eval, IntWalk.i64_left, k1]; try rfl)
 iterate 1
  apply nd_detg (p := true) (hg := rfl) (hd := rfl) (hal := rfl)
  ·intro v W' h
   simp at h
   simp
   exact h
  ·intro hp hx a W' hC hE
   obtain ⟨_, k1⟩ := hC
   have k1 := k1.cell
   simp [hx] at hE
   simp [go_sem, Act.eval, IntWalk.i64_left, hE, k1]
   try rfl
 apply nd_pick_and (ho := rfl) (hg := rfl)
 ·intro v W' h
  simp at h
  exact h
 ·intro v W' h hx
  simp [hx] at h
  exact h
 iterate 1
  apply nd_det (hg := rfl) (hal := rfl)
  ·intro a W' hC hE
   obtain ⟨_, k1⟩ := hC
   have k1 := k1.cell
   first
    | (simp at hE; simp [go_sem, Act.eval, IntWalk.i64_left, hE, k1]; try rfl)
    | (clear hE; simp [go_sem, Act.eval, IntWalk.i64_left, k1]; try rfl)
 apply nd_callvg2 (p := true) (hg := rfl) (hd := rfl) (hal := rfl)
 ·intro v W' h
  simp at h
  simp
  exact h
 ·intro hp hx W' hC
  exact kinds_w W'
 ·intro hp hx a W' hC hE
  obtain ⟨_, k1⟩ := hC
  have k1 := k1.cell
  first
   | (simp [hx] at hE; simp [go_sem, Act.eval, IntWalk.i64_left, hE, k1]; try rfl)
   | (clear hE; simp [go_sem, Act.eval, IntWalk.i64_left, k1]; try rfl)
 iterate 3
  apply nd_detg (p := true) (hg := rfl) (hd := rfl) (hal := rfl)
  ·intro v W' h
   simp at h
   simp
   exact h
  ·intro hp hx a W' hC hE
   obtain ⟨_, k1⟩ := hC
   have k1 := k1.cell
   simp [hx] at hE
   simp [go_sem, Act.eval, IntWalk.i64_left, hE, k1]
   try rfl
 apply nd_detg (p := true) (c := .agg #[.func (.func 200) #[] #[], .func (.func 201) #[] #[]]) (hg := rfl) (hd := rfl) (hal := rfl)
 ·intro v W' h
  simp at h
  simp
  exact h
 ·intro hp hx a W' hC hE
  simp [hx] at hE
  simp [go_sem, Act.eval, hE]
  kernel_rfl
 iterate 2
  apply nd_detg (p := true) (hg := rfl) (hd := rfl) (hal := rfl)
  ·intro v W' h
   simp at h
   simp
   exact h
  ·intro hp hx a W' hC hE
   obtain ⟨_, k1⟩ := hC
   have k1 := k1.cell
   simp [hx] at hE
   simp [go_sem, Act.eval, IntWalk.i64_left, hE, k1]
   try rfl
 apply nd_callvg2 (p := true) (hg := rfl) (hd := rfl) (hal := rfl)
 ·intro v W' h
  simp at h
  simp
  exact h
 ·intro hp hx W' hC
  exact c3 W' (hW.trans (hC.1.of_priv hW.size))
 ·intro hp hx a W' hC hE
  obtain ⟨_, k1⟩ := hC
  have k1 := k1.cell
  first
   | (simp [hx] at hE; simp [go_sem, Act.eval, IntWalk.i64_left, hE, k1]; try rfl)
   | (clear hE; simp [go_sem, Act.eval, IntWalk.i64_left, k1]; try rfl)
 apply nd_pick_and (ho := rfl) (hg := rfl)
 ·intro v W' h
  simp at h
  exact h
 ·intro v W' h hx
  simp [hx] at h
  exact h
 iterate 1
  apply nd_det (hg := rfl) (hal := rfl)
  ·intro a W' hC hE
   obtain ⟨_, k1⟩ := hC
   have k1 := k1.cell
   first
    | (simp at hE; simp [go_sem, Act.eval, IntWalk.i64_left, hE, k1]; try rfl)
    | (clear hE; simp [go_sem, Act.eval, IntWalk.i64_left, k1]; try rfl)
 rintro W4 ⟨hR, d1⟩
 simp only [ndFinR, Det, forall_eq]
 intros
 repeat (rename GDet _ _ _ _ => hgd; clear hgd)
 simp only [Act.put, List.setIfInBounds_toArray, List.set_cons_zero, List.set_cons_succ]
 refine wpList_nil ?_
 replace hW := hW.trans (hR.of_priv hW.size)
 clear hR
 clear c1
 clear c3
 try clear b1
 have b1 := d1
 clear d1
 go_wp2
 have y_1 := b1.lt
 refine bodyPost_ret (v := .bool (decide (0 <= E) && decide (E <= 1099511627776) && b)) (by simp [results, Tryz.results150, go_sem, y_1]) rfl ⟨rfl, belowAny⟩
theorem is_4 (K A R n d E : Int) (p q : Option Addr) (len cap m vc : Nat) (w : World) (b : Bool)
  (c1 : ∀ W, Below w.heap.size w W -> Calls Tryz.prog 178 #[.slice p len cap] W fun e w' => e = .returned (.int .i64 0) /\ Below W.heap.size W w')
  (c3 : ∀ W, Below w.heap.size w W -> Calls Tryz.prog 202 #[.agg #[.int .i64 4, .slice p len cap, A, R, n, d, .slice q m vc, E]] W fun e w' => e = .returned (.bool b) /\ Below W.heap.size W w') :
  Calls Tryz.prog 150 #[.agg #[.int .i64 4, .slice p len cap, A, R, n, d, .slice q m vc, E]] w fun e w' => e = .returned (.bool (decide (0 <= E) && decide (E <= 1099511627776) && b)) /\ Below w.heap.size w w' := by
 have H_c1 := Lib.hid c1
 clear c1
 have H_c3 := Lib.hid c3
 clear c3
 go_enter Tryz.func150, Tryz.ntmps150
 go_upto_region 1 with (fail)
 refine wp_facts (fun W' => Below w.heap.size w W' /\ Blk W' w.heap.size #[.int .i64 4, .slice p len cap, A, R, n, d, .slice q m vc, E] 179) ⟨by exact belowAny, by exact blkAny⟩ ?_
 rintro W1 ⟨hW, b1⟩
 have z2 := hW.size
 have z3 := b1.lt
 have c1 := H_c1.out
 have c3 := H_c3.out
 refine wp_region_nd 40 42 [] (fun W' => Rex [] W1 W' /\ Blk W' w.heap.size #[.int .i64 4, .slice p len cap, A, R, n, d, .slice q m vc, E] 179) mixed (by kernel_rfl) rfl ⟨(Rex.refl _ _).drew, b1⟩ (fun w w' ⟨h0, h1⟩ hr => ⟨h0.trans hr, h1.rex hr (by simp <;> omega)⟩) (fun c a d v w h => by cases d <;> exact h) ?_
 iterate 26
  first
  | (
   apply nd_det (hg := rfl) (hal := rfl)
   ·intro a W' hC hE
    obtain ⟨_, k1⟩ := hC
    have k1 := k1.cell
    first
     | (simp at hE; simp [go_sem, Act.eval, IntWalk.i64_left, hE, k1]; try rfl)
     | (clear hE; simp [go_sem, Act.eval, IntWalk.i64_left, k1]; try rfl))
  | (
   apply nd_detg (p := true) (hg := rfl) (hd := rfl) (hal := rfl)
   ·intro v W' h
    simp at h
    simp
    exact h
   ·intro hp hx a W' hC hE
    obtain ⟨_, k1⟩ := hC
    have k1 := k1.cell
    simp [hx] at hE
    simp [go_sem, Act.eval, IntWalk.i64_left, hE, k1]
    try rfl)
  | (
   apply nd_pick_and (ho := rfl) (hg := rfl)
   ·intro v W' h
    simp at h
    exact h
   ·intro v W' h hx
    simp [hx] at h
    exact h)
 apply nd_callvg2 (p := true) (hg := rfl) (hd := rfl) (hal := rfl)
 ·intro v W' h
  simp at h
  simp
  exact h
 ·intro hp hx W' hC
  exact c1 W' (hW.trans (hC.1.of_priv hW.size))
 ·intro hp hx a W' hC hE
  obtain ⟨_, k1⟩ := hC
  have k1 := k1.cell
  first
   | (simp [hx] at hE; simp [go_sem, Act.eval, IntWalk.i64_left, hE, k1]; try rfl)
   | (clear hE; simp [go_sem, Act.eval, IntWalk.i64_left, k1]; try rfl)
 iterate 1
  apply nd_detg (p := true) (hg := rfl) (hd := rfl) (hal := rfl)
  ·intro v W' h
   simp at h
   simp
   exact h
  ·intro hp hx a W' hC hE
   obtain ⟨_, k1⟩ := hC
   have k1 := k1.cell
   simp [hx] at hE
   simp [go_sem, Act.eval, IntWalk.i64_left, hE, k1]
   try rfl
 apply nd_pick_and (ho := rfl) (hg := rfl)
 ·intro v W' h
  simp at h
  exact h
 ·intro v W' h hx
  simp [hx] at h
  exact h
 iterate 1
  apply nd_det (hg := rfl) (hal := rfl)
  ·intro a W' hC hE
   obtain ⟨_, k1⟩ := hC
   have k1 := k1.cell
   first
    | (simp at hE; simp [go_sem, Act.eval, IntWalk.i64_left, hE, k1]; try rfl)
    | (clear hE; simp [go_sem, Act.eval, IntWalk.i64_left, k1]; try rfl)
 apply nd_callvg2 (p := true) (hg := rfl) (hd := rfl) (hal := rfl)
 ·intro v W' h
  simp at h
  simp
  exact h
 ·intro hp hx W' hC
  exact kinds_w W'
 ·intro hp hx a W' hC hE
  obtain ⟨_, k1⟩ := hC
  have k1 := k1.cell
  first
   | (simp [hx] at hE; simp [go_sem, Act.eval, IntWalk.i64_left, hE, k1]; try rfl)
   | (clear hE; simp [go_sem, Act.eval, IntWalk.i64_left, k1]; try rfl)
 iterate 3
  apply nd_detg (p := true) (hg := rfl) (hd := rfl) (hal := rfl)
  ·intro v W' h
   simp at h
   simp
   exact h
  ·intro hp hx a W' hC hE
   obtain ⟨_, k1⟩ := hC
   have k1 := k1.cell
   simp [hx] at hE
   simp [go_sem, Act.eval, IntWalk.i64_left, hE, k1]
   try rfl
 apply nd_detg (p := true) (c := .agg #[.func (.func 202) #[] #[], .func (.func 203) #[] #[]]) (hg := rfl) (hd := rfl) (hal := rfl)
 ·intro v W' h
  simp at h
  simp
  exact h
 ·intro hp hx a W' hC hE
  simp [hx] at hE
  simp [go_sem, Act.eval, hE]
  kernel_rfl
 iterate 2
  apply nd_detg (p := true) (hg := rfl) (hd := rfl) (hal := rfl)
  ·intro v W' h
   simp at h
   simp
   exact h
  ·intro hp hx a W' hC hE
   obtain ⟨_, k1⟩ := hC
   have k1 := k1.cell
   simp [hx] at hE
   simp [go_sem, Act.eval, IntWalk.i64_left, hE, k1]
   try rfl
 apply nd_callvg2 (p := true) (hg := rfl) (hd := rfl) (hal := rfl)
 ·intro v W' h
  simp at h
  simp
  exact h
 ·intro hp hx W' hC
  exact c3 W' (hW.trans (hC.1.of_priv hW.size))
 ·intro hp hx a W' hC hE
  obtain ⟨_, k1⟩ := hC
  have k1 := k1.cell
  first
   | (simp [hx] at hE; simp [go_sem, Act.eval, IntWalk.i64_left, hE, k1]; try rfl)
   | (clear hE; simp [go_sem, Act.eval, IntWalk.i64_left, k1]; try rfl)
 apply nd_pick_and (ho := rfl) (hg := rfl)
 ·intro v W' h
  simp at h
  exact h
 ·intro v W' h hx
  simp [hx] at h
  exact h
 iterate 1
  apply nd_det (hg := rfl) (hal := rfl)
  ·intro a W' hC hE
   obtain ⟨_, k1⟩ := hC
   have k1 := k1.cell
   first
    | (simp at hE; simp [go_sem, Act.eval, IntWalk.i64_left, hE, k1]; try rfl)
    | (clear hE; simp [go_sem, Act.eval, IntWalk.i64_left, k1]; try rfl)
 rintro W4 ⟨hR, d1⟩
 simp only [ndFinR, Det, forall_eq]
 intros
 repeat (rename GDet _ _ _ _ => hgd; clear hgd)
 simp only [Act.put, List.setIfInBounds_toArray, List.set_cons_zero, List.set_cons_succ]
 refine wpList_nil ?_
 replace hW := hW.trans (hR.of_priv hW.size)
 clear hR
 clear c1
 clear c3
 try clear b1
 have b1 := d1
 clear d1
 go_wp2
 have y_1 := b1.lt
 refine bodyPost_ret (v := .bool (decide (0 <= E) && decide (E <= 1099511627776) && b)) (by simp [results, Tryz.results150, go_sem, y_1]) rfl ⟨rfl, belowAny⟩
theorem is_runs (K A R n d E : Int) (p q : Option Addr) (len cap m vc : Nat) (w : World)
  (c1 : ∀ W, Below w.heap.size w W -> Calls Tryz.prog 178 #[.slice p len cap] W fun e w' => e = .returned (.int .i64 170) /\ Below W.heap.size W w') :
  Calls Tryz.prog 150 #[.agg #[K, .slice p len cap, A, R, n, d, .slice q m vc, E]] w fun e w' => e = .returned (.bool false) /\ Below w.heap.size w w' := by
 have H_c1 := Lib.hid c1
 clear c1
 go_enter Tryz.func150, Tryz.ntmps150
 go_upto_region 1 with (fail)
 refine wp_facts (fun W' => Below w.heap.size w W' /\ Blk W' w.heap.size #[K, .slice p len cap, A, R, n, d, .slice q m vc, E] 179) ⟨by exact belowAny, by exact blkAny⟩ ?_
 rintro W1 ⟨hW, b1⟩
 have z2 := hW.size
 have z3 := b1.lt
 have c1 := H_c1.out
 refine wp_region_nd 40 42 [] (fun W' => Rex [] W1 W' /\ Blk W' w.heap.size #[K, .slice p len cap, A, R, n, d, .slice q m vc, E] 179) mixed (by kernel_rfl) rfl ⟨(Rex.refl _ _).drew, b1⟩ (fun w w' ⟨h0, h1⟩ hr => ⟨h0.trans hr, h1.rex hr (by simp <;> omega)⟩) (fun c a d v w h => by cases d <;> exact h) ?_
 iterate 26
  first
  | (
   apply nd_det (hg := rfl) (hal := rfl)
   ·intro a W' hC hE
    obtain ⟨_, k1⟩ := hC
    have k1 := k1.cell
    first
     | (simp at hE; simp [go_sem, Act.eval, IntWalk.i64_left, hE, k1]; try rfl)
     | (clear hE; simp [go_sem, Act.eval, IntWalk.i64_left, k1]; try rfl))
  | (
   apply nd_detg (p := true) (hg := rfl) (hd := rfl) (hal := rfl)
   ·intro v W' h
    simp at h
    simp
    exact h
   ·intro hp hx a W' hC hE
    obtain ⟨_, k1⟩ := hC
    have k1 := k1.cell
    simp [hx] at hE
    simp [go_sem, Act.eval, IntWalk.i64_left, hE, k1]
    try rfl)
  | (
   apply nd_pick_and (ho := rfl) (hg := rfl)
   ·intro v W' h
    simp at h
    exact h
   ·intro v W' h hx
    simp [hx] at h
    exact h)
 apply nd_callvg2 (p := true) (hg := rfl) (hd := rfl) (hal := rfl)
 ·intro v W' h
  simp at h
  simp
  exact h
 ·intro hp hx W' hC
  exact c1 W' (hW.trans (hC.1.of_priv hW.size))
 ·intro hp hx a W' hC hE
  obtain ⟨_, k1⟩ := hC
  have k1 := k1.cell
  first
   | (simp [hx] at hE; simp [go_sem, Act.eval, IntWalk.i64_left, hE, k1]; try rfl)
   | (clear hE; simp [go_sem, Act.eval, IntWalk.i64_left, k1]; try rfl)
 iterate 11
  first
  | (
   apply nd_detg (p := true) (hg := rfl) (hd := rfl) (hal := rfl)
   ·intro v W' h
    simp at h
    simp
    exact h
   ·intro hp hx a W' hC hE
    obtain ⟨_, k1⟩ := hC
    have k1 := k1.cell
    simp [hx] at hE
    simp [go_sem, Act.eval, IntWalk.i64_left, hE, k1]
    try rfl)
  | (
   apply nd_pick_and (ho := rfl) (hg := rfl)
   ·intro v W' h
    simp at h
    exact h
   ·intro v W' h hx
    simp [hx] at h
    exact h)
  | (
   apply nd_det (hg := rfl) (hal := rfl)
   ·intro a W' hC hE
    obtain ⟨_, k1⟩ := hC
    have k1 := k1.cell
    first
     | (simp at hE; simp [go_sem, Act.eval, IntWalk.i64_left, hE, k1]; try rfl)
     | (clear hE; simp [go_sem, Act.eval, IntWalk.i64_left, k1]; try rfl))
  | (
   apply nd_detg (p := true) (c := undef) (hg := rfl) (hd := rfl) (hal := rfl)
   ·intro v W' h
    simp at h
    simp
    exact h
   ·intro hp hx
    exfalso
    simp at hx)
 apply nd_det (c := .bool false) (hg := rfl) (hal := rfl)
 ·intro a W' hC hE
  have hE1 := hE 32 (by simp [Oper.looksAt, Op.operands])
  simp at hE1
  simp [go_sem, Act.eval, hE1]
 iterate 1
  apply nd_det (hg := rfl) (hal := rfl)
  ·intro a W' hC hE
   obtain ⟨_, k1⟩ := hC
   have k1 := k1.cell
   first
    | (simp at hE; simp [go_sem, Act.eval, IntWalk.i64_left, hE, k1]; try rfl)
    | (clear hE; simp [go_sem, Act.eval, IntWalk.i64_left, k1]; try rfl)
 rintro W4 ⟨hR, d1⟩
 simp only [ndFinR, Det, forall_eq]
 intros
 repeat (rename GDet _ _ _ _ => hgd; clear hgd)
 simp only [Act.put, List.setIfInBounds_toArray, List.set_cons_zero, List.set_cons_succ]
 refine wpList_nil ?_
 replace hW := hW.trans (hR.of_priv hW.size)
 clear hR
 clear c1
 try clear b1
 have b1 := d1
 clear d1
 go_wp2
 have y_1 := b1.lt
 refine bodyPost_ret (v := .bool false) (by simp [results, Tryz.results150, go_sem, y_1]) rfl ⟨rfl, belowAny⟩
theorem is_kind (K A R n d E : Int) (p q : Option Addr) (len cap m vc : Nat) (w : World) (r : Int) (hK : ¬ (1 <= K /\ K <= 4))
  (c1 : ∀ W, Below w.heap.size w W -> Calls Tryz.prog 178 #[.slice p len cap] W fun e w' => e = .returned (r) /\ Below W.heap.size W w') :
  Calls Tryz.prog 150 #[.agg #[K, .slice p len cap, A, R, n, d, .slice q m vc, E]] w fun e w' => e = .returned (.bool false) /\ Below w.heap.size w w' := by
 have hK1 : (decide (1 <= K) && decide (K <= 4)) = false := by simp; omega
 have H_c1 := Lib.hid c1
 clear c1
 go_enter Tryz.func150, Tryz.ntmps150
 go_upto_region 1 with (fail)
 refine wp_facts (fun W' => Below w.heap.size w W' /\ Blk W' w.heap.size #[K, .slice p len cap, A, R, n, d, .slice q m vc, E] 179) ⟨by exact belowAny, by exact blkAny⟩ ?_
 rintro W1 ⟨hW, b1⟩
 have z2 := hW.size
 have z3 := b1.lt
 have c1 := H_c1.out
 refine wp_region_nd 40 42 [] (fun W' => Rex [] W1 W' /\ Blk W' w.heap.size #[K, .slice p len cap, A, R, n, d, .slice q m vc, E] 179) mixed (by kernel_rfl) rfl ⟨(Rex.refl _ _).drew, b1⟩ (fun w w' ⟨h0, h1⟩ hr => ⟨h0.trans hr, h1.rex hr (by simp <;> omega)⟩) (fun c a d v w h => by cases d <;> exact h) ?_
 iterate 26
  first
  | (
   apply nd_det (hg := rfl) (hal := rfl)
   ·intro a W' hC hE
    obtain ⟨_, k1⟩ := hC
    have k1 := k1.cell
    first
     | (simp at hE; simp [go_sem, Act.eval, IntWalk.i64_left, hE, k1]; try rfl)
     | (clear hE; simp [go_sem, Act.eval, IntWalk.i64_left, k1]; try rfl))
  | (
   apply nd_detg (p := true) (hg := rfl) (hd := rfl) (hal := rfl)
   ·intro v W' h
    simp at h
    simp
    exact h
   ·intro hp hx a W' hC hE
    obtain ⟨_, k1⟩ := hC
    have k1 := k1.cell
    simp [hx] at hE
    simp [go_sem, Act.eval, IntWalk.i64_left, hE, k1]
    try rfl)
  | (
   apply nd_pick_and (ho := rfl) (hg := rfl)
   ·intro v W' h
    simp at h
    exact h
   ·intro v W' h hx
    simp [hx] at h
    exact h)
 apply nd_callvg2 (p := true) (hg := rfl) (hd := rfl) (hal := rfl)
 ·intro v W' h
  simp at h
  simp
  exact h
 ·intro hp hx W' hC
  exact c1 W' (hW.trans (hC.1.of_priv hW.size))
 ·intro hp hx a W' hC hE
  obtain ⟨_, k1⟩ := hC
  have k1 := k1.cell
  first
   | (simp [hx] at hE; simp [go_sem, Act.eval, IntWalk.i64_left, hE, k1]; try rfl)
   | (clear hE; simp [go_sem, Act.eval, IntWalk.i64_left, k1]; try rfl)
 iterate 11
  first
  | (
   apply nd_detg (p := true) (hg := rfl) (hd := rfl) (hal := rfl)
   ·intro v W' h
    simp at h
    simp
    exact h
   ·intro hp hx a W' hC hE
    obtain ⟨_, k1⟩ := hC
    have k1 := k1.cell
    simp [hx] at hE
    simp [go_sem, Act.eval, IntWalk.i64_left, hE, k1]
    try rfl)
  | (
   apply nd_pick_and (ho := rfl) (hg := rfl)
   ·intro v W' h
    simp at h
    exact h
   ·intro v W' h hx
    simp [hx] at h
    exact h)
  | (
   apply nd_det (hg := rfl) (hal := rfl)
   ·intro a W' hC hE
    obtain ⟨_, k1⟩ := hC
    have k1 := k1.cell
    first
     | (simp at hE; simp [go_sem, Act.eval, IntWalk.i64_left, hE, k1]; try rfl)
     | (clear hE; simp [go_sem, Act.eval, IntWalk.i64_left, k1]; try rfl))
  | (
   apply nd_detg (p := true) (c := undef) (hg := rfl) (hd := rfl) (hal := rfl)
   ·intro v W' h
    simp at h
    simp
    exact h
   ·intro hp hx
    exfalso
    simp at hx
    omega)
 apply nd_det (c := .bool false) (hg := rfl) (hal := rfl)
 ·intro a W' hC hE
  have hE1 := hE 32 (by simp [Oper.looksAt, Op.operands])
  simp [envOf, Det, hK1] at hE1
  simp [go_sem, Act.eval, hE1]
 iterate 1
  apply nd_det (hg := rfl) (hal := rfl)
  ·intro a W' hC hE
   obtain ⟨_, k1⟩ := hC
   have k1 := k1.cell
   first
    | (simp at hE; simp [go_sem, Act.eval, IntWalk.i64_left, hE, k1]; try rfl)
    | (clear hE; simp [go_sem, Act.eval, IntWalk.i64_left, k1]; try rfl)
 rintro W4 ⟨hR, d1⟩
 simp only [ndFinR, Det, forall_eq]
 intros
 repeat (rename GDet _ _ _ _ => hgd; clear hgd)
 simp only [Act.put, List.setIfInBounds_toArray, List.set_cons_zero, List.set_cons_succ]
 refine wpList_nil ?_
 replace hW := hW.trans (hR.of_priv hW.size)
 clear hR
 clear c1
 try clear b1
 have b1 := d1
 clear d1
 go_wp2
 have y_1 := b1.lt
 refine bodyPost_ret (v := .bool false) (by simp [results, Tryz.results150, go_sem, y_1]) rfl ⟨rfl, belowAny⟩
end Go.Proofs.YtidfcoooccblaaaGreat
namespace Go.Proofs.YtidfcoooccblaaaGreat
open Go.RowKit
structure SegT where
 K : Int
 runs : List RunT
 A : Int
 R : Int
 n : Int
 d : Int
 raw : List Int
 E : Int
def segA (s : SegT) (p q : Option Addr) (cap vc : Nat) : Array Value := #[s.K, .slice p s.runs.length cap, s.A, s.R, s.n, s.d, .slice q s.raw.length vc, s.E]
structure SegIn (w : World) (s : SegT) (p q : Option Addr) : Prop where
 runs : RunsIn w p s.runs
 raw : IntsIn w q s.raw
 fewR : s.runs.length <= 300
 fewV : s.raw.length <= 300
theorem SegIn.below {w w' : World} {s : SegT} {p q : Option Addr} (h : SegIn w s p q) (hb : Below w.heap.size w w') : SegIn w' s p q := ⟨h.runs.below hb, h.raw.below hb, h.fewR, h.fewV⟩
def firstT (l : List RunT) : Int := atV l 0
def lastT (l : List RunT) : Int := atV l (cnt l - 1)
def lineIsB (s : SegT) : Bool := isLine s.A s.R s.n s.d && endsOk s.A s.R s.n s.d 0 (lastT s.runs - firstT s.runs) && s.raw.isEmpty
def kindB (s : SegT) : Bool :=
 if s.K = 1 then s.n == 0 && lineIsB s
 else if s.K = 2 then s.n != 0 && (s.R == 0 && lineIsB s)
 else if s.K = 3 then s.R != 0 && lineIsB s
 else if s.K = 4 then lineZ s.A s.R s.n s.d && (s.raw.length : Int) == cnt s.runs && s.raw.all isBack
 else false
def segB (s : SegT) : Bool := risesB s.runs && (decide (0 <= s.E) && decide (s.E <= 1099511627776) && kindB s)
theorem cnt_pos {l : List RunT} (h : RunsOk l) : 1 <= cnt l /\ cnt l <= 256 := by
 refine ⟨?_, h.count⟩
 have := h.some'
 cases l with
 | nil => simp at this
 | cons r l =>
  have a := (h.each r (by simp)).c0
  have b := cnt_nonneg l fun r hr => h.each r (by simp [hr])
  simp only [cnt]; omega
theorem atL_some {l : List RunT} (h : RunsOk l) {i : Int} (h0 : 0 <= i) (h1 : i < cnt l) : ∃ v, atL l i = some v /\ v ∈ timesL l /\ atV l i = v /\ atE l i = 0 := by
 obtain ⟨k, rfl⟩ : ∃ k : Nat, i = (k : Int) := ⟨i.toNat, by omega⟩
 have hc : ∀ r, r ∈ l -> 0 <= r.c := fun r hr => by have := (h.each r hr).c0; omega
 have hl := length_timesL l hc
 have hk : k < (timesL l).length := by omega
 have e := atL_eq l k hc
 rw [List.getElem?_eq_getElem hk] at e
 exact ⟨_, e, List.getElem_mem hk, atV_some e, atE_some e⟩
theorem at_in {l : List RunT} (h : RunsOk l) {i : Int} (h0 : 0 <= i) (h1 : i < cnt l) : 0 <= atV l i /\ atV l i <= 281474976710656 := by
 obtain ⟨v, _, hm, e, _⟩ := atL_some h h0 h1
 rw [e]; exact times_in l h v hm
theorem c_at (p : Option Addr) (cap : Nat) (l : List RunT) (i : Int) (w : World) (hl : RunsOk l) (h : RunsIn w p l) (h0 : 0 <= i) (h1 : i < cnt l) :
  Calls Tryz.prog 112 #[.slice p l.length cap, i] w fun e w' => e = .returned (.tuple #[.int .i64 (atV l i), .int .i64 0]) /\ Below w.heap.size w w' := by
 obtain ⟨v, e, _, _, e0⟩ := atL_some hl h0 h1
 have := at_w p cap l i w hl h h0 (by have := hl.count; omega)
 rw [e0] at this
 exact this
theorem at_mono {l : List RunT} (h : RunsOk l) {i j : Int} (h0 : 0 <= i) (h1 : i <= j) (h2 : j < cnt l) : atV l i <= atV l j := by
 rcases Int.lt_or_eq_of_le h1 with hlt | rfl
 ·obtain ⟨a, rfl⟩ : ∃ k : Nat, i = (k : Int) := ⟨i.toNat, by omega⟩
  obtain ⟨b, rfl⟩ : ∃ k : Nat, j = (k : Int) := ⟨j.toNat, by omega⟩
  have hc : ∀ r, r ∈ l -> 0 <= r.c := fun r hr => by have := (h.each r hr).c0; omega
  have hl := length_timesL l hc
  have hp := times_pairwise l h.each h.chain
  have ha : a < (timesL l).length := by omega
  have hb : b < (timesL l).length := by omega
  have e1 := atL_eq l a hc
  have e2 := atL_eq l b hc
  rw [List.getElem?_eq_getElem ha] at e1
  rw [List.getElem?_eq_getElem hb] at e2
  rw [atV_some e1, atV_some e2]
  exact Int.le_of_lt (List.pairwise_iff_getElem.1 hp a b ha hb (by omega))
 ·exact Int.le_refl _
theorem c_rcount_ok (p : Option Addr) (cap : Nat) (l : List RunT) (w : World) (hl : RunsOk l) (h : RunsIn w p l) :
  Calls Tryz.prog 99 #[.slice p l.length cap] w fun e w' => e = .returned (.int .i64 (cnt l)) /\ Below w.heap.size w w' := by
 have := c_rcount p cap l w (by have := hl.few; omega) h
 rw [if_pos ((risesB_iff l).2 hl)] at this
 exact this
theorem c_span (s : SegT) (p q : Option Addr) (cap vc : Nat) (w : World) (hl : RunsOk s.runs) (h : SegIn w s p q) :
  Calls Tryz.prog 183 #[.agg (segA s p q cap vc)] w fun e w' => e = .returned (.tuple #[.int .i64 (firstT s.runs), .int .i64 (lastT s.runs - firstT s.runs)]) /\ Below w.heap.size w w' := by
 obtain ⟨n0, n1⟩ := cnt_pos hl
 exact span_w _ _ _ _ _ _ p q _ cap _ vc w (firstT s.runs) (lastT s.runs) (cnt s.runs) (at_in hl (by omega) (by omega)) (at_in hl (by omega) (by omega)) ⟨by omega, n1⟩
  (fun W hW => c_at p cap s.runs 0 W hl (h.runs.below hW) (by omega) (by omega))
  (fun W hW => c_rcount_ok p cap s.runs W hl (h.runs.below hW))
  (fun W hW => c_at p cap s.runs (cnt s.runs - 1) W hl (h.runs.below hW) (by omega) (by omega))
theorem c_lineIs (s : SegT) (p q : Option Addr) (cap vc : Nat) (w : World) (hl : RunsOk s.runs) (h : SegIn w s p q) :
  Calls Tryz.prog 198 #[.agg (segA s p q cap vc)] w fun e w' => e = .returned (.bool (lineIsB s)) /\ Below w.heap.size w w' := by
 obtain ⟨n0, n1⟩ := cnt_pos hl
 have hs := fun W (hW : Below w.heap.size w W) => c_span s p q cap vc W hl (h.below hW)
 have hf := at_in hl (show (0 : Int) <= 0 by omega) (by omega)
 have hla := at_in hl (show 0 <= cnt s.runs - 1 by omega) (by omega)
 have hm := at_mono hl (show (0 : Int) <= 0 by omega) (show 0 <= cnt s.runs - 1 by omega) (by omega)
 unfold lineIsB
 cases hL : isLine s.A s.R s.n s.d with
 | false =>
  exact lineis_no _ _ _ _ _ _ p q _ cap _ vc w _ _ 0 0 hs (fun W _ => c_Ends_no s.A s.R s.n s.d 0 _ W hL)
 | true =>
  have hE := fun W (_ : Below w.heap.size w W) => c_Ends s.A s.R s.n s.d 0 (lastT s.runs - firstT s.runs) W (isLine_ok.1 hL) (by omega) (by unfold lastT firstT; omega) (by unfold lastT firstT; omega)
  cases hO : endsOk s.A s.R s.n s.d 0 (lastT s.runs - firstT s.runs) with
  | false =>
   rw [hO] at hE
   exact lineis_over _ _ _ _ _ _ p q _ cap _ vc w _ _ _ _ hs hE
  | true =>
   rw [hO] at hE
   cases hr : s.raw with
   | nil =>
    have hz : s.raw.length = 0 := by rw [hr]; rfl
    unfold segA at hs ⊢
    rw [hz] at hs ⊢
    exact lineis_yes _ _ _ _ _ _ p q _ cap 0 vc w _ _ _ _ hs hE
   | cons x l => exact lineis_raw _ _ _ _ _ _ p q _ cap _ vc w _ _ _ _ (by rw [hr]; simp) hs hE
theorem c_segIs (s : SegT) (p q : Option Addr) (cap vc : Nat) (w : World) (h : SegIn w s p q) :
  Calls Tryz.prog 150 #[.agg (segA s p q cap vc)] w fun e w' => e = .returned (.bool (segB s)) /\ Below w.heap.size w w' := by
 have c1 := fun W (hW : Below w.heap.size w W) => c_rcheck p cap s.runs W (by have := h.fewR; omega) (h.runs.below hW)
 unfold segB
 by_cases hK : 1 <= s.K /\ s.K <= 4
 ·cases hr : risesB s.runs with
  | false =>
   rw [hr] at c1
   exact is_runs _ _ _ _ _ _ p q _ cap _ vc w c1
  | true =>
   rw [hr] at c1
   have hl := (risesB_iff s.runs).1 hr
   have hli := fun W (hW : Below w.heap.size w W) => c_lineIs s p q cap vc W hl (h.below hW)
   rw [Bool.true_and]
   have hk : s.K = 1 ∨ s.K = 2 ∨ s.K = 3 ∨ s.K = 4 := by omega
   unfold kindB
   rcases hk with e | e | e | e
   ·rw [if_pos e]
    unfold segA at hli ⊢
    rw [e] at hli ⊢
    refine is_1 0 _ _ _ _ _ p q _ cap _ vc w _ c1 ?_
    intro W hW
    by_cases hn : s.n = 0
    ·have hli' := fun W' (hW' : Below W.heap.size W W') => hli W' (hW.trans (hW'.mono hW.size))
     rw [hn] at hli' ⊢
     simpa using kind1_flat _ _ _ 0 _ _ p q _ cap _ vc W _ hli'
    ·have : (s.n == 0) = false := by simpa using hn
     rw [this]
     exact kind1_no _ _ _ _ _ _ p q _ cap _ vc W true this
   ·rw [if_neg (by omega), if_pos e]
    unfold segA at hli ⊢
    rw [e] at hli ⊢
    refine is_2 0 _ _ _ _ _ p q _ cap _ vc w _ c1 ?_
    intro W hW
    have hli' := fun W' (hW' : Below W.heap.size W W') => hli W' (hW.trans (hW'.mono hW.size))
    by_cases hn : s.n = 0
    ·rw [hn]
     exact kind2_flat _ _ _ 0 _ _ p q _ cap _ vc W true
    ·have hn' : (s.n != 0) = true := by simpa using hn
     rw [hn', Bool.true_and]
     by_cases hR : s.R = 0
     ·rw [hR] at hli' ⊢
      simpa using kind2_tilt _ _ 0 _ _ _ p q _ cap _ vc W _ hn' hli'
     ·have hR' : (s.R == 0) = false := by simpa using hR
      rw [hR']
      exact kind2_free _ _ _ _ _ _ p q _ cap _ vc W true hn' hR'
   ·rw [if_neg (by omega), if_neg (by omega), if_pos e]
    unfold segA at hli ⊢
    rw [e] at hli ⊢
    refine is_3 0 _ _ _ _ _ p q _ cap _ vc w _ c1 ?_
    intro W hW
    have hli' := fun W' (hW' : Below W.heap.size W W') => hli W' (hW.trans (hW'.mono hW.size))
    by_cases hR : s.R = 0
    ·rw [hR]
     exact kind3_no _ _ 0 _ _ _ p q _ cap _ vc W true
    ·have hR' : (s.R != 0) = true := by simpa using hR
     rw [hR', Bool.true_and]
     exact kind3_free _ _ _ _ _ _ p q _ cap _ vc W _ hR' hli'
   ·rw [if_neg (by omega), if_neg (by omega), if_neg (by omega), if_pos e]
    unfold segA
    rw [e]
    refine is_4 0 _ _ _ _ _ p q _ cap _ vc w _ c1 ?_
    intro W hW
    have := rawis_w 4 s.A s.R s.n s.d s.E p q s.runs.length cap s.raw.length vc W (cnt s.runs) (!(s.raw.all isBack))
     (fun W' hW' => c_rcount_ok p cap s.runs W' hl (h.runs.below (hW.trans (hW'.mono hW.size))))
     (fun W' hW' => c_contains q vc s.raw W' (by have := h.fewV; omega) (h.raw.below (hW.trans (hW'.mono hW.size))))
    rw [Bool.not_not] at this
    exact this
 ·have hk : kindB s = false := by
   unfold kindB
   rw [if_neg (by omega), if_neg (by omega), if_neg (by omega), if_neg (by omega)]
  rw [hk]
  simp only [Bool.and_false]
  exact is_kind _ _ _ _ _ _ p q _ cap _ vc w _ hK c1
theorem RunsIn.alloc {w : World} {p : Option Addr} {l : List RunT} (h : RunsIn w p l) (o : Obj) : RunsIn (w.alloc o) p l := h.below ((Below.refl _ _).alloc (Nat.le_refl _) o)
theorem RunsIn.calls {w w' : World} {p : Option Addr} {l : List RunT} (h : RunsIn w p l) (hb : Below w.heap.size w w') : RunsIn w' p l := h.below hb
theorem RunsIn.set {w : World} {g x o i : Nat} {v : Value} {l : List RunT} (h : RunsIn w (some ⟨g, x, none⟩) l) (hne : g ≠ o) : RunsIn (w.setCell ⟨o, i, none⟩ v) (some ⟨g, x, none⟩) l := ⟨fun k r hr => by
 obtain ⟨b, y, e, h1, h2, h3⟩ := h.at' k r hr
 cases e
 have hc : ∀ z, (w.setCell ⟨o, i, none⟩ v).cell? ⟨g, z, none⟩ = w.cell? ⟨g, z, none⟩ := by
  intro z
  have := heap_setCell_other w ⟨o, i, none⟩ g v hne
  simp only [World.cell?, this]
 exact ⟨g, x, rfl, (hc _).trans h1, (hc _).trans h2, (hc _).trans h3⟩⟩
theorem runsAny {w : World} {p : Option Addr} {l : List RunT} (h : RunsIn w p l := by repeat (first | with_reducible assumption | with_reducible (refine RunsIn.alloc ?_ _) | with_reducible (refine RunsIn.set ?_ (by first | omega | (simp; done) | (simp; omega))) | with_reducible (refine RunsIn.calls ?_ (by assumption)))) : RunsIn w p l := h
def lpRel (K A R n d E : Int) (p q : Option Addr) (len cap m vc : Nat) (w : World) (i j x lo hi : Int) (P : List RunT) (SS : Nat -> Int) (g o : Nat) (a' : Act) (W : World) : Prop :=
 Below w.heap.size w W /\ Blk W w.heap.size #[.int .i64 K, .slice p len cap, .int .i64 A, .int .i64 R, .int .i64 n, .int .i64 d, .slice q m vc, .int .i64 E] 179 /\ Blk W (w.heap.size + 1) #[.int .i64 0, .int .i64 0, .int .i64 0, .int .i64 0, .int .u64 0] 196 /\ RunsIn W (some ⟨g, 0, none⟩) P /\ ∃ k : Nat, (∃ u : Nat -> Value, a' = { tmps := #[u 0, u 1, u 2, .pointer (some ⟨w.heap.size, 0, none⟩), u 4, u 5, .pointer (some ⟨w.heap.size + 1, 0, none⟩), .int .i64 x, u 8, u 9, u 10, u 11, u 12, u 13, u 14, .pointer (some ⟨o, 0, none⟩), u 16, u 17, u 18, u 19, u 20, u 21, u 22, u 23, u 24, u 25, u 26, u 27, u 28, u 29, u 30, u 31, u 32, u 33, u 34, u 35, u 36, u 37, u 38, u 39, u 40, u 41, u 42, u 43, u 44, u 45, u 46, u 47, u 48, u 49, u 50, u 51, u 52, u 53, u 54, u 55, u 56, u 57, u 58, u 59, u 60, u 61, u 62, u 63, u 64, u 65, u 66, u 67, u 68, u 69, u 70, u 71, u 72, u 73, .slice (some ⟨g, 0, none⟩) P.length P.length, .int .i64 (P.length : Int), .int .i64 (k : Int), u 77, u 78, u 79, u 80, u 81, u 82, u 83, u 84, u 85, u 86, u 87, u 88, u 89, u 90, u 91, u 92, u 93, u 94, u 95, u 96, u 97, u 98, u 99, u 100, u 101, u 102, u 103, u 104], defers := [] }) /\ k <= P.length /\ Blk W o #[.int .i64 (j - i), .int .i64 lo, .int .i64 hi, .int .i64 (hiW (SS k)), .int .u64 (loW (SS k))] 196
theorem linepart_w (K A R n d E : Int) (p q : Option Addr) (len cap m vc : Nat) (w : World) (i j x L a b lo hi S : Int) (P : List RunT) (SS : Nat -> Int) (T : RunT -> Int) (hi0 : 0 <= i /\ i < j /\ j <= 256) (hx : 0 <= x /\ x <= 281474976710656) (ha : 0 <= a /\ a <= 281474976710656) (hb : 0 <= b /\ b <= 281474976710656)
  (hP0 : P.length <= 256) (hPf : ∀ r, r ∈ P -> 0 <= r.f /\ r.f <= 281474976710656) (h0 : SS 0 = 0) (hS : SS P.length = S)
  (c1 : ∀ W, Below w.heap.size w W -> Calls Tryz.prog 183 #[.agg #[.int .i64 K, .slice p len cap, .int .i64 A, .int .i64 R, .int .i64 n, .int .i64 d, .slice q m vc, .int .i64 E]] W fun e w' => e = .returned (.tuple #[.int .i64 x, .int .i64 L]) /\ Below W.heap.size W w')
  (c2 : ∀ W, Below w.heap.size w W -> Calls Tryz.prog 112 #[.slice p len cap, .int .i64 i] W fun e w' => e = .returned (.tuple #[.int .i64 a, .int .i64 0]) /\ Below W.heap.size W w')
  (c3 : ∀ W, Below w.heap.size w W -> Calls Tryz.prog 112 #[.slice p len cap, .int .i64 (j - 1)] W fun e w' => e = .returned (.tuple #[.int .i64 b, .int .i64 0]) /\ Below W.heap.size W w')
  (c4 : ∀ W, Below w.heap.size w W -> Calls Tryz.prog 215 #[.agg #[.int .i64 A, .int .i64 R, .int .i64 n, .int .i64 d], .int .i64 (a - x), .int .i64 (b - x)] W fun e w' => e = .returned (.tuple #[.agg #[.int .i64 lo, .int .i64 hi], .int .i64 0]) /\ Below W.heap.size W w')
  (c5 : ∀ W, Below w.heap.size w W -> Calls Tryz.prog 216 #[.slice p len cap, .int .i64 i, .int .i64 j] W fun e w' => ∃ g, W.heap.size <= g /\ e = .returned (.tuple #[.slice (some ⟨g, 0, none⟩) P.length P.length, .int .i64 0]) /\ Below W.heap.size W w' /\ RunsIn w' (some ⟨g, 0, none⟩) P)
  (c6 : ∀ r, r ∈ P -> ∀ W, Below w.heap.size w W -> Calls Tryz.prog 217 #[.agg #[.int .i64 A, .int .i64 R, .int .i64 n, .int .i64 d], .int .i64 (r.f - x), .int .i64 r.s, .int .i64 r.c] W fun e w' => e = .returned (.tuple #[.agg #[.int .i64 (hiW (T r)), .int .u64 (loW (T r))], .int .i64 0]) /\ Below W.heap.size W w')
  (c7 : ∀ (k : Nat) (r : RunT), P[k]? = some r -> ∀ W, Below w.heap.size w W -> Calls Tryz.prog 16 #[.agg #[.int .i64 (hiW (SS k)), .int .u64 (loW (SS k))], .agg #[.int .i64 (hiW (T r)), .int .u64 (loW (T r))]] W fun e w' => e = .returned (.tuple #[.agg #[.int .i64 (hiW (SS (k + 1))), .int .u64 (loW (SS (k + 1)))], .int .i64 0]) /\ Below W.heap.size W w') :
  Calls Tryz.prog 201 #[.agg #[.int .i64 K, .slice p len cap, .int .i64 A, .int .i64 R, .int .i64 n, .int .i64 d, .slice q m vc, .int .i64 E], .int .i64 i, .int .i64 j] w fun e w' => e = .returned (.agg #[.int .i64 (j - i), .int .i64 lo, .int .i64 hi, .int .i64 (hiW (S)), .int .u64 (loW (S))]) /\ Below w.heap.size w w' := by
 have hW0 : hiW (SS 0) = 0 := by rw [h0]; rfl
 have hW1 : loW (SS 0) = 0 := by rw [h0]; rfl
 replace hW0 := Lib.hid hW0
 replace hW1 := Lib.hid hW1
 replace h0 := Lib.hid h0
 replace hS := Lib.hid hS
 replace hPf := Lib.hid hPf
 replace c6 := Lib.hid c6
 replace c7 := Lib.hid c7
 have H_c1 := Lib.hid c1
 clear c1
 have H_c2 := Lib.hid c2
 clear c2
 have H_c3 := Lib.hid c3
 clear c3
 have H_c4 := Lib.hid c4
 clear c4
 have H_c5 := Lib.hid c5
 clear c5
 go_enter Tryz.func201, Tryz.ntmps201
 go_upto_region 1 with (fail)
 refine wp_facts (fun W' => Below w.heap.size w W' /\ Blk W' w.heap.size #[.int .i64 K, .slice p len cap, .int .i64 A, .int .i64 R, .int .i64 n, .int .i64 d, .slice q m vc, .int .i64 E] 179 /\ Blk W' (w.heap.size + 1) #[.int .i64 0, .int .i64 0, .int .i64 0, .int .i64 0, .int .u64 0] 196) ⟨by exact belowAny, by exact blkAny, by exact blkAny⟩ ?_
 rintro W1 ⟨hW, b1, b2⟩
 have z2 := hW.size
 have z3 := b1.lt
 have z4 := b2.lt
 have k1 := b1.cell
 have f1 := b1.frozen
 have k2 := b2.cell
 have f2 := b2.frozen
 have c1 := H_c1.out
 go_wp2_with fail
 refine (c1 _ (belowAny)).mono ?_
 rintro e w5 ⟨rfl, hb5⟩
 clear c1
 have z6 := hb5.size
 try simp at z6
 clear k1 f1 k2 f2
 have b1 : Blk w5 w.heap.size #[.int .i64 K, .slice p len cap, .int .i64 A, .int .i64 R, .int .i64 n, .int .i64 d, .slice q m vc, .int .i64 E] 179 := blkAny
 have b2 : Blk w5 (w.heap.size + 1) #[.int .i64 0, .int .i64 0, .int .i64 0, .int .i64 0, .int .u64 0] 196 := blkAny
 have hW : Below w.heap.size w w5 := belowAny
 have z7 := b1.lt
 have z8 := b2.lt
 clear hb5
 have k1 := b1.cell
 have f1 := b1.frozen
 have k2 := b2.cell
 have f2 := b2.frozen
 have c2 := H_c2.out
 go_wp2_with fail
 refine (c2 _ (belowAny)).mono ?_
 rintro e w9 ⟨rfl, hb9⟩
 clear c2
 have z10 := hb9.size
 try simp at z10
 clear k1 f1 k2 f2
 have b1 : Blk w9 w.heap.size #[.int .i64 K, .slice p len cap, .int .i64 A, .int .i64 R, .int .i64 n, .int .i64 d, .slice q m vc, .int .i64 E] 179 := blkAny
 have b2 : Blk w9 (w.heap.size + 1) #[.int .i64 0, .int .i64 0, .int .i64 0, .int .i64 0, .int .u64 0] 196 := blkAny
 have hW : Below w.heap.size w w9 := belowAny
 have z11 := b1.lt
 have z12 := b2.lt
 clear hb9
 have k1 := b1.cell
 have f1 := b1.frozen
 have k2 := b2.cell
 have f2 := b2.frozen
 have c3 := H_c3.out
 go_wp2_with fail
 refine (c3 _ (belowAny)).mono ?_
 rintro e w13 ⟨rfl, hb13⟩
 clear c3
 have z14 := hb13.size
 try simp at z14
 clear k1 f1 k2 f2
 have b1 : Blk w13 w.heap.size #[.int .i64 K, .slice p len cap, .int .i64 A, .int .i64 R, .int .i64 n, .int .i64 d, .slice q m vc, .int .i64 E] 179 := blkAny
 have b2 : Blk w13 (w.heap.size + 1) #[.int .i64 0, .int .i64 0, .int .i64 0, .int .i64 0, .int .u64 0] 196 := blkAny
 have hW : Below w.heap.size w w13 := belowAny
 have z15 := b1.lt
 have z16 := b2.lt
 clear hb13
 have k1 := b1.cell
 have f1 := b1.frozen
 have k2 := b2.cell
 have f2 := b2.frozen
 have c4 := H_c4.out
 go_wp2_with fail
 refine (c4 _ (belowAny)).mono ?_
 rintro e w17 ⟨rfl, hb17⟩
 clear c4
 have z18 := hb17.size
 try simp at z18
 clear k1 f1 k2 f2
 have b1 : Blk w17 w.heap.size #[.int .i64 K, .slice p len cap, .int .i64 A, .int .i64 R, .int .i64 n, .int .i64 d, .slice q m vc, .int .i64 E] 179 := blkAny
 have b2 : Blk w17 (w.heap.size + 1) #[.int .i64 0, .int .i64 0, .int .i64 0, .int .i64 0, .int .u64 0] 196 := blkAny
 have hW : Below w.heap.size w w17 := belowAny
 have z19 := b1.lt
 have z20 := b2.lt
 clear hb17
 have k1 := b1.cell
 have f1 := b1.frozen
 have k2 := b2.cell
 have f2 := b2.frozen
 have c5 := H_c5.out
 go_wp2_with fail
 refine (c5 _ (belowAny)).mono ?_
 rintro e w21 ⟨g, hg, rfl, hb21, hP⟩
 clear c5
 have z22 := hb21.size
 try simp at z22
 clear k1 f1 k2 f2
 have b1 : Blk w21 w.heap.size #[.int .i64 K, .slice p len cap, .int .i64 A, .int .i64 R, .int .i64 n, .int .i64 d, .slice q m vc, .int .i64 E] 179 := blkAny
 have b2 : Blk w21 (w.heap.size + 1) #[.int .i64 0, .int .i64 0, .int .i64 0, .int .i64 0, .int .u64 0] 196 := blkAny
 have b3 : Blk w21 w17.heap.size #[.int .i64 lo, .int .i64 hi] 33 := blkAny
 have b4 : Blk w21 (w17.heap.size + 1) #[.int .i64 (j - i), .int .i64 lo, .int .i64 hi, .int .i64 0, .int .u64 0] 196 := blkAny
 have hW : Below w.heap.size w w21 := belowAny
 have z23 := b1.lt
 have z24 := b2.lt
 have z25 := b3.lt
 have z26 := b4.lt
 have k1 := b1.cell
 have f1 := b1.frozen
 have k2 := b2.cell
 have f2 := b2.frozen
 have k3 := b3.cell
 have f3 := b3.frozen
 have k4 := b4.cell
 have f4 := b4.frozen
 clear H_c1 H_c2 H_c3 H_c4 H_c5 b3 k3 f3
 try simp at hg
 obtain ⟨o, ho⟩ : ∃ o, o = w17.heap.size + 1 := ⟨_, rfl⟩
 rw [<- ho] at b4 k4 f4
 have ho1 : w.heap.size + 2 <= o := by omega
 have ho2 : o < g := by omega
 replace ho := Lib.hid ho
 have ho3 := Lib.hid (show w17.heap.size + 1 = o from ho.out.symm)
 go_wp2
 rw [ho3.out]
 refine wp_loop (lpRel K A R n d E p q len cap m vc w i j x lo hi P SS g o) (fun a' _ => P.length - (intAt (a'.tmps.getD 76 undef)).toNat) ?_ ?_
 ·unfold lpRel
  exact ⟨hW, b1, b2, hP, 0, frame_ex rfl, by omega, by rw [hW0.out, hW1.out]; exact b4⟩
 ·clear hW b1 b2 b4 hP k1 f1 k2 f2 k4 f4
  rintro a' W ⟨hW, b1, b2, b4, k, ⟨u, rfl⟩, hk, b3⟩
  have hz := hW.size
  have hz1 := b1.lt
  have hz2 := b2.lt
  have hz3 := b3.lt
  rcases Nat.lt_or_ge k P.length with hlt | hge
  ·obtain ⟨r, hri⟩ : ∃ r, P[k]? = some r := ⟨P[k], List.getElem?_eq_getElem hlt⟩
   have hm : r ∈ P := List.mem_of_getElem? hri
   obtain ⟨rf0, rf1⟩ := hPf.out r hm
   obtain ⟨g', o', e', q0, q1, q2⟩ := b4.at' k r hri
   cases e'
   simp only [Nat.zero_add] at q0 q1 q2
   replace hri := Lib.hid hri
   have H_c61 := Lib.hid (c6 r hm)
   have H_c71 := Lib.hid (c7 k r hri.out)
   have k1 := b1.cell
   have f1 := b1.frozen
   have k2 := b2.cell
   have f2 := b2.frozen
   have k3 := b3.cell
   have f3 := b3.frozen
   have c61 := H_c61.out
   go_wp2_with fail
   refine (c61 _ (belowAny)).mono ?_
   rintro e w1 ⟨rfl, hb1⟩
   clear c61
   have z2 := hb1.size
   try simp at z2
   clear k1 f1 k2 f2 k3 f3
   have b1 : Blk w1 w.heap.size #[.int .i64 K, .slice p len cap, .int .i64 A, .int .i64 R, .int .i64 n, .int .i64 d, .slice q m vc, .int .i64 E] 179 := blkAny
   have b2 : Blk w1 (w.heap.size + 1) #[.int .i64 0, .int .i64 0, .int .i64 0, .int .i64 0, .int .u64 0] 196 := blkAny
   have b3 : Blk w1 o #[.int .i64 (j - i), .int .i64 lo, .int .i64 hi, .int .i64 (hiW (SS k)), .int .u64 (loW (SS k))] 196 := blkAny
   have b4 : RunsIn w1 (some ⟨g, 0, none⟩) P := by exact runsAny
   have b5 : Blk w1 W.heap.size #[.int .i64 r.f, .int .i64 r.s, .int .i64 r.c] 144 := blkAny
   have hW : Below w.heap.size w w1 := belowAny
   have z3 := b1.lt
   have z4 := b2.lt
   have z5 := b3.lt
   have z6 := b5.lt
   clear hb1
   have k1 := b1.cell
   have f1 := b1.frozen
   have k2 := b2.cell
   have f2 := b2.frozen
   have k3 := b3.cell
   have f3 := b3.frozen
   have k5 := b5.cell
   have f5 := b5.frozen
   have c71 := H_c71.out
   go_wp2_with fail
   refine (c71 _ (belowAny)).mono ?_
   rintro e w7 ⟨rfl, hb7⟩
   clear c71
   have z8 := hb7.size
   try simp at z8
   clear k1 f1 k2 f2 k3 f3 k5 f5
   have b1 : Blk w7 w.heap.size #[.int .i64 K, .slice p len cap, .int .i64 A, .int .i64 R, .int .i64 n, .int .i64 d, .slice q m vc, .int .i64 E] 179 := blkAny
   have b2 : Blk w7 (w.heap.size + 1) #[.int .i64 0, .int .i64 0, .int .i64 0, .int .i64 0, .int .u64 0] 196 := blkAny
   have b3 : Blk w7 o #[.int .i64 (j - i), .int .i64 lo, .int .i64 hi, .int .i64 (hiW (SS k)), .int .u64 (loW (SS k))] 196 := blkAny
   have b4 : RunsIn w7 (some ⟨g, 0, none⟩) P := by exact runsAny
   have b5 : Blk w7 W.heap.size #[.int .i64 r.f, .int .i64 r.s, .int .i64 r.c] 144 := blkAny
   have b6 : Blk w7 w1.heap.size #[.int .i64 (hiW (T r)), .int .u64 (loW (T r))] 36 := blkAny
   have hW : Below w.heap.size w w7 := belowAny
   have z9 := b1.lt
   have z10 := b2.lt
   have z11 := b3.lt
   have z12 := b5.lt
   have z13 := b6.lt
   clear hb7
   have k1 := b1.cell
   have f1 := b1.frozen
   have k2 := b2.cell
   have f2 := b2.frozen
   have k3 := b3.cell
   have f3 := b3.frozen
   have k5 := b5.cell
   have f5 := b5.frozen
   have k6 := b6.cell
   have f6 := b6.frozen
   go_wp2
   rw [show (k : Int) + 1 = ((k + 1 : Nat) : Int) by omega]
   refine ⟨?_, by simp [intAt]; omega⟩
   unfold lpRel
   exact ⟨belowAny, blkAny, blkAny, runsAny, k + 1, frame_ex rfl, by omega, blkAny⟩
  ·have e : k = P.length := by omega
   subst e
   have k1 := b1.cell
   have f1 := b1.frozen
   have k2 := b2.cell
   have f2 := b2.frozen
   have k3 := b3.cell
   have f3 := b3.frozen
   go_wp2
   have y_1 := b1.lt
   have y_2 := b2.lt
   have y_3 := b3.lt
   refine bodyPost_ret (v := .agg #[.int .i64 (j - i), .int .i64 lo, .int .i64 hi, .int .i64 (hiW (SS P.length)), .int .u64 (loW (SS P.length))]) (by simp [results, Tryz.results201, go_sem, k1, f1, k2, f2, k3, f3, y_1, y_2, y_3]) rfl ⟨by rw [hS.out], belowAny⟩
attribute [local simp] Oper.looksAt Op.operands Call.operands envOf Det GDet
theorem Tryz.infoInt : (Tryz.prog.info? 2).map (fun i => (i.zero, i.size, i.bytes)) = some (some (.int .i64 0), 1, 8) := by kernel_rfl
theorem make_ints (c : Int) (n : Nat) (hc : c = (n : Int)) (hn : n <= 1000000) : ∃ C : Array Value, C.size = n /\ ∀ W, (Instr.makeSlice 96 (c) (c)).run Tryz.prog W = .ok (.slice (some ⟨W.heap.size, 0, none⟩) n n) (W.alloc (.cells C 2)) := by
 obtain ⟨i, hi, hz0, hz1, hz2⟩ := info_parts Tryz.infoInt
 refine ⟨madeCells #[.int .i64 0] n, ?_, fun W => ?_⟩
 rotate_left
 ·have := run_make (P := Tryz.prog) W 96 2 i _ rfl hi hz0 .i64 .i64 c c (by omega) (by omega) (by rw [hz2]; omega) (by omega)
  rw [hc] at this ⊢
  simpa [hz1, Value.cells] using this
 ·simp [size_madeCells]
theorem IntsIn.of_blk {w : World} {g : Nat} {V : List Int} {t : TypeId} (h : Blk w g (V.map (Value.int .i64)).toArray t) : IntsIn w (some ⟨g, 0, none⟩) V := ⟨fun i x hx => by
 refine ⟨g, 0, rfl, ?_⟩
 rw [h.cell]
 simp [hx]⟩
theorem IntsIn.part {w : World} {vb vo i n : Nat} {raw : List Int} (h : IntsIn w (some ⟨vb, vo, none⟩) raw) (k : Nat) (v : Value) (hv : (((raw.drop i).take n).map (Value.int .i64))[k]? = some v) : w.cell? ((⟨vb, vo + i, none⟩ : Addr).add k) = some v := by
 have hadd : (⟨vb, vo + i, none⟩ : Addr).add k = ⟨vb, vo + i + k, none⟩ := by unfold Addr.add; split <;> simp_all
 rw [hadd]
 simp only [List.getElem?_map, Option.map_eq_some_iff] at hv
 obtain ⟨x, hx, rfl⟩ := hv
 have hx' : raw[i + k]? = some x := by
  rw [List.getElem?_take] at hx
  split at hx
  ·rwa [List.getElem?_drop] at hx
  ·cases hx
 obtain ⟨b, y, e, hc⟩ := h.at' _ x hx'
 cases e
 rw [Nat.add_assoc]; exact hc
def rpRel (w : World) (i j : Nat) (lo hi : Int) (V : List Int) (SS : Nat -> Int) (o : Nat) (a' : Act) (W : World) : Prop :=
 Below w.heap.size w W /\ Blk W (w.heap.size + 1) #[.int .i64 0, .int .i64 0, .int .i64 0, .int .i64 0, .int .u64 0] 196 /\ Blk W (w.heap.size + 1 + 1) (V.map (Value.int .i64)).toArray 2 /\ ∃ k : Nat, (∃ u : Nat -> Value, a' = { tmps := #[u 0, u 1, u 2, u 3, u 4, u 5, .pointer (some ⟨w.heap.size + 1, 0, none⟩), u 7, .pointer (some ⟨o, 0, none⟩), u 9, u 10, u 11, u 12, u 13, u 14, u 15, u 16, u 17, u 18, u 19, u 20, u 21, u 22, u 23, u 24, u 25, u 26, u 27, u 28, u 29, u 30, .slice (some ⟨w.heap.size + 1 + 1, 0, none⟩) V.length V.length, .int .i64 (V.length : Int), .int .i64 (k : Int), u 34, u 35, u 36, u 37, u 38, u 39, u 40, u 41, u 42, u 43, u 44, u 45, u 46, u 47], defers := [] }) /\ k <= V.length /\ Blk W o #[.int .i64 ((j : Int) - (i : Int)), lo, hi, .int .i64 (hiW (SS k)), .int .u64 (loW (SS k))] 196
theorem rawpart_w (K A R n d E : Int) (p : Option Addr) (vb vo len cap m vc : Nat) (w : World) (i j : Nat) (lo hi S : Int) (raw V : List Int) (SS : Nat -> Int) (hm : raw.length = m) (hij : i < j /\ j <= m /\ m <= vc /\ m <= 300) (hV : V = (raw.drop i).take (j - i)) (hr : IntsIn w (some ⟨vb, vo, none⟩) raw) (h0 : SS 0 = 0) (hS : SS V.length = S)
  (c1 : ∀ W, Below w.heap.size w W -> Blk W (w.heap.size + 1 + 1) (V.map (Value.int .i64)).toArray 2 -> Calls Tryz.prog 221 #[.slice (some ⟨w.heap.size + 1 + 1, 0, none⟩) V.length V.length] W fun e w' => e = .returned (lo) /\ Below W.heap.size W w')
  (c2 : ∀ W, Below w.heap.size w W -> Blk W (w.heap.size + 1 + 1) (V.map (Value.int .i64)).toArray 2 -> Calls Tryz.prog 222 #[.slice (some ⟨w.heap.size + 1 + 1, 0, none⟩) V.length V.length] W fun e w' => e = .returned (hi) /\ Below W.heap.size W w')
  (c3 : ∀ v, v ∈ V -> ∀ W, Below w.heap.size w W -> Calls Tryz.prog 117 #[v] W fun e w' => e = .returned (.agg #[.int .i64 (hiW (v)), .int .u64 (loW (v))]) /\ Below W.heap.size W w')
  (c4 : ∀ (k : Nat) (v : Int), V[k]? = some v -> ∀ W, Below w.heap.size w W -> Calls Tryz.prog 16 #[.agg #[.int .i64 (hiW (SS k)), .int .u64 (loW (SS k))], .agg #[.int .i64 (hiW (v)), .int .u64 (loW (v))]] W fun e w' => e = .returned (.tuple #[.agg #[.int .i64 (hiW (SS (k + 1))), .int .u64 (loW (SS (k + 1)))], .int .i64 0]) /\ Below W.heap.size W w') :
  Calls Tryz.prog 203 #[.agg #[K, .slice p len cap, A, R, n, d, .slice (some ⟨vb, vo, none⟩) m vc, E], .int .i64 (i : Int), .int .i64 (j : Int)] w fun e w' => e = .returned (.agg #[.int .i64 ((j : Int) - (i : Int)), lo, hi, .int .i64 (hiW (S)), .int .u64 (loW (S))]) /\ Below w.heap.size w w' := by
 have hl : V.length = j - i := by rw [hV]; simp; omega
 have hlc : (j : Int) - (i : Int) = (V.length : Int) := by omega
 obtain ⟨C, hC, hmk⟩ := make_ints _ V.length hlc (by omega)
 have hW0 : hiW (SS 0) = 0 := by rw [h0]; rfl
 have hW1 : loW (SS 0) = 0 := by rw [h0]; rfl
 have hcs : (V.map (Value.int .i64)).length = C.size := by rw [hC]; simp
 have hpart := fun (W : World) (hW : Below w.heap.size w W) (k : Nat) (v : Value) (hv : (V.map (Value.int .i64))[k]? = some v) => IntsIn.part (hr.below hW) k v (hV ▸ hv)
 replace hpart := Lib.hid hpart
 replace hV := Lib.hid hV
 replace hW0 := Lib.hid hW0
 replace hW1 := Lib.hid hW1
 replace h0 := Lib.hid h0
 replace hS := Lib.hid hS
 replace c3 := Lib.hid c3
 replace c4 := Lib.hid c4
 replace hlc := Lib.hid hlc
 replace hl := Lib.hid hl
 replace hm := Lib.hid hm
 replace hC := Lib.hid hC
 replace hcs := Lib.hid hcs
 have H_c1 := Lib.hid c1
 clear c1
 have H_c2 := Lib.hid c2
 clear c2
 go_enter Tryz.func203, Tryz.ntmps203
 go_upto_region 2 with (fail)
 refine wp_facts (fun W' => Below w.heap.size w W' /\ Blk W' w.heap.size #[K, .slice p len cap, A, R, n, d, .slice (some ⟨vb, vo, none⟩) m vc, E] 179 /\ Blk W' (w.heap.size + 1) #[.int .i64 0, .int .i64 0, .int .i64 0, .int .i64 0, .int .u64 0] 196 /\ Blk W' (w.heap.size + 1 + 1) C 2) ⟨by exact belowAny, by exact blkAny, by exact blkAny, by exact blkAny⟩ ?_
 rintro W1 ⟨hW, b1, b2, b3⟩
 have z2 := hW.size
 have z3 := b1.lt
 have z4 := b2.lt
 have z5 := b3.lt
 have k1 := b1.cell
 have f1 := b1.frozen
 have k2 := b2.cell
 have f2 := b2.frozen
 have k3 := b3.cell
 have f3 := b3.frozen
 have hcp := run_copyK Tryz.prog W1 96 96 3 2 1 (w.heap.size + 1 + 1) V.length V.length ⟨vb, vo + i, none⟩ (j - i) (vc - i) C 2 (V.map (Value.int .i64)) (by kernel_rfl) (by kernel_rfl) b3 (by rw [List.length_map, <- hl.out, Nat.mul_one]; exact (Nat.min_self _).symm) (hpart.out _ hW) hcs.out (fun v hv => by simp only [List.mem_map] at hv; obtain ⟨x, _, rfl⟩ := hv; rfl)
 go_upto_region 3 with (fail)
 clear hcp k1 f1 k2 f2 k3 f3 hmk
 refine wp_facts (fun W' => Below w.heap.size w W' /\ Blk W' w.heap.size #[K, .slice p len cap, A, R, n, d, .slice (some ⟨vb, vo, none⟩) m vc, E] 179 /\ Blk W' (w.heap.size + 1) #[.int .i64 0, .int .i64 0, .int .i64 0, .int .i64 0, .int .u64 0] 196 /\ Blk W' (w.heap.size + 1 + 1) (V.map (Value.int .i64)).toArray 2) ⟨below_setRow hW (by omega) _, ?_, ?_, setRow_heap _ _ _ _ _ (0, 0) b3⟩ ?_
 ·exact (setRow_other _ _ _ _ (by omega)).trans b1
 ·exact (setRow_other _ _ _ _ (by omega)).trans b2
 clear hW b1 b2 b3
 rintro W3 ⟨hW, b1, b2, b3⟩
 have hz0 := hW.size
 have hz1 := b1.lt
 have hz2 := b2.lt
 have hz3 := b3.lt
 have k1 := b1.cell
 have f1 := b1.frozen
 have k2 := b2.cell
 have f2 := b2.frozen
 have k3 := b3.cell
 have f3 := b3.frozen
 have c1 := H_c1.out
 go_wp2_with fail
 refine (c1 _ (belowAny) (blkAny)).mono ?_
 rintro e w11 ⟨rfl, hb11⟩
 clear c1
 have z12 := hb11.size
 try simp at z12
 clear k1 f1 k2 f2 k3 f3
 have b1 : Blk w11 w.heap.size #[K, .slice p len cap, A, R, n, d, .slice (some ⟨vb, vo, none⟩) m vc, E] 179 := blkAny
 have b2 : Blk w11 (w.heap.size + 1) #[.int .i64 0, .int .i64 0, .int .i64 0, .int .i64 0, .int .u64 0] 196 := blkAny
 have b3 : Blk w11 (w.heap.size + 1 + 1) (V.map (Value.int .i64)).toArray 2 := blkAny
 have hW : Below w.heap.size w w11 := belowAny
 have z13 := b1.lt
 have z14 := b2.lt
 have z15 := b3.lt
 clear hb11
 have k1 := b1.cell
 have f1 := b1.frozen
 have k2 := b2.cell
 have f2 := b2.frozen
 have k3 := b3.cell
 have f3 := b3.frozen
 have c2 := H_c2.out
 go_wp2_with fail
 refine (c2 _ (belowAny) (blkAny)).mono ?_
 rintro e w16 ⟨rfl, hb16⟩
 clear c2
 have z17 := hb16.size
 try simp at z17
 clear k1 f1 k2 f2 k3 f3
 have b1 : Blk w16 w.heap.size #[K, .slice p len cap, A, R, n, d, .slice (some ⟨vb, vo, none⟩) m vc, E] 179 := blkAny
 have b2 : Blk w16 (w.heap.size + 1) #[.int .i64 0, .int .i64 0, .int .i64 0, .int .i64 0, .int .u64 0] 196 := blkAny
 have b3 : Blk w16 (w.heap.size + 1 + 1) (V.map (Value.int .i64)).toArray 2 := blkAny
 have hW : Below w.heap.size w w16 := belowAny
 have z18 := b1.lt
 have z19 := b2.lt
 have z20 := b3.lt
 clear hb16
 have k1 := b1.cell
 have f1 := b1.frozen
 have k2 := b2.cell
 have f2 := b2.frozen
 have k3 := b3.cell
 have f3 := b3.frozen
 go_upto_region 4 with (fail)
 clear k1 f1 k2 f2 k3 f3
 refine wp_facts (fun W' => Below w.heap.size w W' /\ Blk W' w.heap.size #[K, .slice p len cap, A, R, n, d, .slice (some ⟨vb, vo, none⟩) m vc, E] 179 /\ Blk W' (w.heap.size + 1) #[.int .i64 0, .int .i64 0, .int .i64 0, .int .i64 0, .int .u64 0] 196 /\ Blk W' (w.heap.size + 1 + 1) (V.map (Value.int .i64)).toArray 2 /\ Blk W' w16.heap.size #[.int .i64 ((j : Int) - (i : Int)), lo, hi, .int .i64 0, .int .u64 0] 196) ⟨by exact belowAny, by exact blkAny, by exact blkAny, by exact blkAny, by exact blkAny⟩ ?_
 clear b1 b2 b3 hW
 rintro W21 ⟨hW, b1, b2, b3, b4⟩
 have z22 := hW.size
 have z23 := b1.lt
 have z24 := b2.lt
 have z25 := b3.lt
 have z26 := b4.lt
 clear H_c1 H_c2 b1
 go_wp2
 obtain ⟨o, ho⟩ : ∃ o, o = w16.heap.size := ⟨_, rfl⟩
 rw [<- ho] at b4
 have ho1 : w.heap.size + 1 + 1 < o := by omega
 replace ho := Lib.hid ho
 rw [show w16.heap.size = o from ho.out.symm]
 refine wp_loop (rpRel w i j lo hi V SS o) (fun a' _ => V.length - (intAt (a'.tmps.getD 33 undef)).toNat) ?_ ?_
 ·unfold rpRel
  exact ⟨hW, b2, b3, 0, frame_ex rfl, by omega, by rw [hW0.out, hW1.out]; exact b4⟩
 ·clear hW b2 b3 b4
  rintro a' W ⟨hW, b1, b2, k, ⟨u, rfl⟩, hk, b3⟩
  have hz := hW.size
  have hz4 := b1.lt
  have hz5 := b2.lt
  have hz6 := b3.lt
  have hlen : V.length <= 300 := by have := hl.out; omega
  rcases Nat.lt_or_ge k V.length with hlt | hge
  ·obtain ⟨v, hri⟩ : ∃ v, V[k]? = some v := ⟨V[k], List.getElem?_eq_getElem hlt⟩
   have hm : v ∈ V := List.mem_of_getElem? hri
   have q0 : W.cell? ⟨w.heap.size + 1 + 1, k, none⟩ = some (v) := by rw [b2.cell]; simp [hri]
   replace c3 := c3.out
   replace c4 := c4.out
   replace hri := Lib.hid hri
   have H_c31 := Lib.hid (c3 v hm)
   have H_c41 := Lib.hid (c4 k v hri.out)
   clear c3 c4
   have k3 := b3.cell
   have f3 := b3.frozen
   go_upto_region 7 with (fail)
   clear k3 f3 q0
   refine wp_facts (fun W' => Below w.heap.size w W' /\ Blk W' (w.heap.size + 1) #[.int .i64 0, .int .i64 0, .int .i64 0, .int .i64 0, .int .u64 0] 196 /\ Blk W' (w.heap.size + 1 + 1) (V.map (Value.int .i64)).toArray 2 /\ Blk W' o #[.int .i64 ((j : Int) - (i : Int)), lo, hi, .int .i64 (hiW (SS k)), .int .u64 (loW (SS k))] 196) ⟨by exact belowAny, by exact blkAny, by exact blkAny, by exact blkAny⟩ ?_
   clear b1 b2 b3 hW
   rintro W1 ⟨hW, b1, b2, b3⟩
   have z2 := hW.size
   have z3 := b1.lt
   have z4 := b2.lt
   have z5 := b3.lt
   have c31 := H_c31.out
   have c41 := H_c41.out
   refine wp_region_nd 8 48 [] (fun W' => Rex [] W1 W' /\ Blk W' (w.heap.size + 1) #[.int .i64 0, .int .i64 0, .int .i64 0, .int .i64 0, .int .u64 0] 196 /\ Blk W' (w.heap.size + 1 + 1) (V.map (Value.int .i64)).toArray 2 /\ Blk W' o #[.int .i64 ((j : Int) - (i : Int)), lo, hi, .int .i64 (hiW (SS k)), .int .u64 (loW (SS k))] 196) mixed (by kernel_rfl) rfl ⟨(Rex.refl _ _).drew, b1, b2, b3⟩ (fun w w' ⟨h0, h1, h2, h3⟩ hr => ⟨h0.trans hr, h1.rex hr (by simp <;> omega), h2.rex hr (by simp <;> omega), h3.rex hr (by simp <;> omega)⟩) (fun c a d v w h => by cases d <;> exact h) ?_
   iterate 3
    apply nd_det (hg := rfl) (hal := rfl)
    ·intro a W' hC hE
     obtain ⟨_, k1, k2, k3⟩ := hC
     have k3 := k3.cell
     first
      | (simp at hE; simp [go_sem, Act.eval, IntWalk.i64_left, hE, k1, k2, k3]; try rfl)
      | (clear hE; simp [go_sem, Act.eval, IntWalk.i64_left, k1, k2, k3]; try rfl)
   refine nd_callv2 rfl rfl (fun W' hC => c31 W' (hW.trans (hC.1.of_priv hW.size))) (fun a W' hC hE => ?_) ?_
   ·obtain ⟨_, k1, k2, k3⟩ := hC
    have k3 := k3.cell
    first
     | (simp at hE; simp [go_sem, Act.eval, IntWalk.i64_left, hE, k1, k2, k3]; try rfl)
     | (clear hE; simp [go_sem, Act.eval, IntWalk.i64_left, k1, k2, k3]; try rfl)
   refine nd_callv2 rfl rfl (fun W' hC => c41 W' (hW.trans (hC.1.of_priv hW.size))) (fun a W' hC hE => ?_) ?_
   ·obtain ⟨_, k1, k2, k3⟩ := hC
    have k3 := k3.cell
    first
     | (simp at hE; simp [go_sem, Act.eval, IntWalk.i64_left, hE, k1, k2, k3]; try rfl)
     | (clear hE; simp [go_sem, Act.eval, IntWalk.i64_left, k1, k2, k3]; try rfl)
   iterate 3
    apply nd_det (hg := rfl) (hal := rfl)
    ·intro a W' hC hE
     obtain ⟨_, k1, k2, k3⟩ := hC
     have k3 := k3.cell
     first
      | (simp at hE; simp [go_sem, Act.eval, IntWalk.i64_left, hE, k1, k2, k3]; try rfl)
      | (clear hE; simp [go_sem, Act.eval, IntWalk.i64_left, k1, k2, k3]; try rfl)
   rintro W6 ⟨hR, d1, d2, d3⟩
   simp only [ndFinR, Det, forall_eq]
   intros
   repeat (rename GDet _ _ _ _ => hgd; clear hgd)
   simp only [Act.put, List.setIfInBounds_toArray, List.set_cons_zero, List.set_cons_succ, List.drop_succ_cons, List.drop_zero]
   replace hW := hW.trans (hR.of_priv hW.size)
   clear hR
   clear c31
   clear c41
   try clear b1 b2 b3
   have b1 := d1
   clear d1
   have b2 := d2
   clear d2
   have b3 := d3
   clear d3
   have k1 := b1.cell
   have f1 := b1.frozen
   have k2 := b2.cell
   have f2 := b2.frozen
   have k3 := b3.cell
   have f3 := b3.frozen
   go_wp2
   rw [show (k : Int) + 1 = ((k + 1 : Nat) : Int) by omega]
   refine ⟨?_, by simp [intAt]; omega⟩
   unfold rpRel
   exact ⟨belowAny, blkAny, blkAny, k + 1, frame_ex rfl, by omega, blkAny⟩
  ·have e : k = V.length := by omega
   subst e
   have k1 := b1.cell
   have f1 := b1.frozen
   have k2 := b2.cell
   have f2 := b2.frozen
   have k3 := b3.cell
   have f3 := b3.frozen
   go_wp2
   have y_1 := b1.lt
   have y_2 := b2.lt
   have y_3 := b3.lt
   refine bodyPost_ret (v := .agg #[.int .i64 ((j : Int) - (i : Int)), lo, hi, .int .i64 (hiW (SS V.length)), .int .u64 (loW (SS V.length))]) (by simp [results, Tryz.results203, go_sem, k1, f1, k2, f2, k3, f3, y_1, y_2, y_3]) rfl ⟨by rw [hS.out], belowAny⟩
end Go.Proofs.YtidfcoooccblaaaGreat
