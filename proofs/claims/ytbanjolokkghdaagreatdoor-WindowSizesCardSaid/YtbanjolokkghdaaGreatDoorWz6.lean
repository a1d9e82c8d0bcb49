/- Parts of the proof that follows: Layer line: both, Ends. | Layer line: Ends, told of lines. | Plain law: sums of fractions that are each rounded down. No program in sight. | Layer fsum: pairs, term. | Layer fsum: small. | Layer fsum: the walk of small. | Layer fsum: add. -/
import Derived.Laws.EntriesVeiled
import Derived.Test.YtbanjolokkghdaaGreatDoorWz5
set_option linter.unusedSimpArgs false
set_option linter.unusedVariables false
namespace Go.Proofs.YtbanjolokkghdaaGreatDoor
open Go.RowKit
set_option maxRecDepth 100000 in
set_option maxHeartbeats 1000000 in
theorem c_ends1 (A R n d t v e : Int) (g : Nat) (w : World) (hg : Blk w g #[.func (.func 229) #[.agg #[.int .i64 A, .int .i64 R, .int .i64 n, .int .i64 d]] #[]] 316)
    (c1 : ∀ w, Calls Tryz.prog 229 #[.agg #[.int .i64 A, .int .i64 R, .int .i64 n, .int .i64 d], .int .i64 t] w fun e' w' => e' = .returned (.tuple #[.int .i64 v, .int .i64 e]) ∧ Below w.heap.size w w') :
    Calls Tryz.prog 231 #[.int .i64 t, .pointer (some ⟨g, 0, none⟩)] w fun e' w' => e' = .returned (.tuple #[.int .i64 v, .int .i64 e]) ∧ Below w.heap.size w w' := by
  have H_c1 := Lib.hid c1
  clear c1
  have b1 := hg
  go_enter Tryz.func231, Tryz.ntmps231
  go_upto_region 1 with (fail)
  refine wp_cutB w (Bc g #[.func (.func 229) #[.agg #[.int .i64 A, .int .i64 R, .int .i64 n, .int .i64 d]] #[]] 316 <| Bz) ?_
  clear b1
  rintro W1 hW z2 ⟨⟨b1, yb1, k1, f1⟩, -⟩
  go_wp2_with fail
  refine (H_c1.out _).mono ?_
  rintro e w3 ⟨rfl, hb3⟩
  have z4 := hb3.size
  try simp at z4
  clear k1 f1
  refine haveB w w3 (Bc g #[.func (.func 229) #[.agg #[.int .i64 A, .int .i64 R, .int .i64 n, .int .i64 d]] #[]] 316 <| Bz) ?_
  clear b1 hW
  rintro hW z5 ⟨⟨b1, yb1, k1, f1⟩, -⟩
  clear hb3
  go_wp2
  refine bodyPost_ret (by simp [results, Tryz.results231, go_sem, k1, f1, yb1]) rfl ⟨rfl, by exact belowAny⟩

set_option maxRecDepth 100000 in
set_option maxHeartbeats 1000000 in
theorem both_ok (A R n d a b va vb : Int) (g : Nat) (w : World) (hg : Blk w g #[.func (.func 229) #[.agg #[.int .i64 A, .int .i64 R, .int .i64 n, .int .i64 d]] #[]] 316)
    (c1 : ∀ w, Blk w g #[.func (.func 229) #[.agg #[.int .i64 A, .int .i64 R, .int .i64 n, .int .i64 d]] #[]] 316 → Calls Tryz.prog 231 #[.int .i64 a, .pointer (some ⟨g, 0, none⟩)] w fun e' w' => e' = .returned (.tuple #[.int .i64 va, .int .i64 0]) ∧ Below w.heap.size w w')
    (c2 : ∀ w, Blk w g #[.func (.func 229) #[.agg #[.int .i64 A, .int .i64 R, .int .i64 n, .int .i64 d]] #[]] 316 → Calls Tryz.prog 231 #[.int .i64 b, .pointer (some ⟨g, 0, none⟩)] w fun e' w' => e' = .returned (.tuple #[.int .i64 vb, .int .i64 0]) ∧ Below w.heap.size w w') :
    Calls Tryz.prog 230 #[.agg #[.int .i64 a, .int .i64 b], .func (.func 231) #[] #[.pointer (some ⟨g, 0, none⟩)]] w fun e' w' => e' = .returned (.tuple #[.agg #[.int .i64 va, .int .i64 vb], .int .i64 0]) ∧ Below w.heap.size w w' := by
  have y0 := hg.lt
  have hix0 : ∀ (x y : Int) (w : World), (Instr.index 317 (.agg #[.int .i64 x, .int .i64 y]) (.int .i64 0)).run Tryz.prog w = .ok (.int .i64 x) w := by intros; kernel_rfl
  have hix1 : ∀ (x y : Int) (w : World), (Instr.index 317 (.agg #[.int .i64 x, .int .i64 y]) (.int .i64 1)).run Tryz.prog w = .ok (.int .i64 y) w := by intros; kernel_rfl
  have H_c1 := Lib.hid c1
  clear c1
  have H_c2 := Lib.hid c2
  clear c2
  go_enter Tryz.func230, Tryz.ntmps230
  go_wp2
  go_step3
  go_upto_region 2 with (fail)
  refine wp_cutB w (Bc w.heap.size #[.int .i64 a, .int .i64 b] 317 <| Bc (w.heap.size + 1) #[.int .i64 0, .int .i64 0] 317 <| Bc (w.heap.size + 2) #[.int .i64 0, .int .i64 0] 317 <| Bc g #[.func (.func 229) #[.agg #[.int .i64 A, .int .i64 R, .int .i64 n, .int .i64 d]] #[]] 316 <| Bz) ?_
  rintro W1 hW z2 ⟨⟨b1, yb1, k1, f1⟩, ⟨b2, yb2, k2, f2⟩, ⟨b3, yb3, k3, f3⟩, ⟨b4, yb4, k4, f4⟩, -⟩
  go_wp2
  go_step3
  go_wp2
  refine wp_loop_rounds 3 ?_
  rw [rounds_succ]
  go_wp2_with fail
  refine (H_c1.out _ (blkAny)).mono ?_
  rintro e w3 ⟨rfl, hb3⟩
  have z4 := hb3.size
  try simp at z4
  clear k1 f1 k2 f2 k3 f3 k4 f4
  refine haveB w w3 (Bc w.heap.size #[.int .i64 a, .int .i64 b] 317 <| Bc (w.heap.size + 1) #[.int .i64 0, .int .i64 0] 317 <| Bc (w.heap.size + 2) #[.int .i64 0, .int .i64 0] 317 <| Bc g #[.func (.func 229) #[.agg #[.int .i64 A, .int .i64 R, .int .i64 n, .int .i64 d]] #[]] 316 <| Bz) ?_
  clear b1 b2 b3 b4 hW
  rintro hW z5 ⟨⟨b1, yb1, k1, f1⟩, ⟨b2, yb2, k2, f2⟩, ⟨b3, yb3, k3, f3⟩, ⟨b4, yb4, k4, f4⟩, -⟩
  clear hb3
  go_upto_region 6 with (fail)
  clear k1 f1 k2 f2 k3 f3 k4 f4
  refine wp_cutB w (Bc w.heap.size #[.int .i64 a, .int .i64 b] 317 <| Bc (w.heap.size + 1) #[.int .i64 0, .int .i64 0] 317 <| Bc (w.heap.size + 2) #[.int .i64 0, .int .i64 0] 317 <| Bc g #[.func (.func 229) #[.agg #[.int .i64 A, .int .i64 R, .int .i64 n, .int .i64 d]] #[]] 316 <| Bz) ?_
  clear b1 b2 b3 b4 hW
  rintro W6 hW z7 ⟨⟨b1, yb1, k1, f1⟩, ⟨b2, yb2, k2, f2⟩, ⟨b3, yb3, k3, f3⟩, ⟨b4, yb4, k4, f4⟩, -⟩
  go_wp2
  rw [rounds_succ]
  go_wp2_with fail
  refine (H_c2.out _ (blkAny)).mono ?_
  rintro e w8 ⟨rfl, hb8⟩
  have z9 := hb8.size
  try simp at z9
  clear k1 f1 k2 f2 k3 f3 k4 f4
  refine haveB w w8 (Bc w.heap.size #[.int .i64 a, .int .i64 b] 317 <| Bc (w.heap.size + 1) #[.int .i64 0, .int .i64 0] 317 <| Bc (w.heap.size + 2) #[.int .i64 va, .int .i64 0] 317 <| Bc g #[.func (.func 229) #[.agg #[.int .i64 A, .int .i64 R, .int .i64 n, .int .i64 d]] #[]] 316 <| Bz) ?_
  clear b1 b2 b3 b4 hW
  rintro hW z10 ⟨⟨b1, yb1, k1, f1⟩, ⟨b2, yb2, k2, f2⟩, ⟨b3, yb3, k3, f3⟩, ⟨b4, yb4, k4, f4⟩, -⟩
  clear hb8
  go_wp2
  rw [rounds_succ]
  go_wp2
  rw [Exit.noGoto_ret]
  refine bodyPost_ret (by simp [results, Tryz.results230, go_sem, k1, f1, k2, f2, k3, f3, k4, f4, yb1, yb2, yb3, yb4]) rfl ⟨rfl, by exact belowAny⟩

set_option maxRecDepth 100000 in
set_option maxHeartbeats 1000000 in
theorem both_first (A R n d a b va vb : Int) (g : Nat) (w : World) (hg : Blk w g #[.func (.func 229) #[.agg #[.int .i64 A, .int .i64 R, .int .i64 n, .int .i64 d]] #[]] 316)
    (c1 : ∀ w, Blk w g #[.func (.func 229) #[.agg #[.int .i64 A, .int .i64 R, .int .i64 n, .int .i64 d]] #[]] 316 → Calls Tryz.prog 231 #[.int .i64 a, .pointer (some ⟨g, 0, none⟩)] w fun e' w' => e' = .returned (.tuple #[.int .i64 0, .int .i64 5]) ∧ Below w.heap.size w w')
     :
    Calls Tryz.prog 230 #[.agg #[.int .i64 a, .int .i64 b], .func (.func 231) #[] #[.pointer (some ⟨g, 0, none⟩)]] w fun e' w' => e' = .returned (.tuple #[.agg #[.int .i64 0, .int .i64 0], .int .i64 5]) ∧ Below w.heap.size w w' := by
  have y0 := hg.lt
  have hix0 : ∀ (x y : Int) (w : World), (Instr.index 317 (.agg #[.int .i64 x, .int .i64 y]) (.int .i64 0)).run Tryz.prog w = .ok (.int .i64 x) w := by intros; kernel_rfl
  have hix1 : ∀ (x y : Int) (w : World), (Instr.index 317 (.agg #[.int .i64 x, .int .i64 y]) (.int .i64 1)).run Tryz.prog w = .ok (.int .i64 y) w := by intros; kernel_rfl
  have H_c1 := Lib.hid c1
  clear c1
  go_enter Tryz.func230, Tryz.ntmps230
  go_wp2
  go_step3
  go_upto_region 2 with (fail)
  refine wp_cutB w (Bc w.heap.size #[.int .i64 a, .int .i64 b] 317 <| Bc (w.heap.size + 1) #[.int .i64 0, .int .i64 0] 317 <| Bc (w.heap.size + 2) #[.int .i64 0, .int .i64 0] 317 <| Bc g #[.func (.func 229) #[.agg #[.int .i64 A, .int .i64 R, .int .i64 n, .int .i64 d]] #[]] 316 <| Bz) ?_
  rintro W1 hW z2 ⟨⟨b1, yb1, k1, f1⟩, ⟨b2, yb2, k2, f2⟩, ⟨b3, yb3, k3, f3⟩, ⟨b4, yb4, k4, f4⟩, -⟩
  go_wp2
  go_step3
  go_wp2
  refine wp_loop_rounds 3 ?_
  rw [rounds_succ]
  go_wp2_with fail
  refine (H_c1.out _ (blkAny)).mono ?_
  rintro e w3 ⟨rfl, hb3⟩
  have z4 := hb3.size
  try simp at z4
  clear k1 f1 k2 f2 k3 f3 k4 f4
  refine haveB w w3 (Bc w.heap.size #[.int .i64 a, .int .i64 b] 317 <| Bc (w.heap.size + 1) #[.int .i64 0, .int .i64 0] 317 <| Bc (w.heap.size + 2) #[.int .i64 0, .int .i64 0] 317 <| Bc g #[.func (.func 229) #[.agg #[.int .i64 A, .int .i64 R, .int .i64 n, .int .i64 d]] #[]] 316 <| Bz) ?_
  clear b1 b2 b3 b4 hW
  rintro hW z5 ⟨⟨b1, yb1, k1, f1⟩, ⟨b2, yb2, k2, f2⟩, ⟨b3, yb3, k3, f3⟩, ⟨b4, yb4, k4, f4⟩, -⟩
  clear hb3
  go_wp2
  rw [Exit.noGoto_ret]
  refine bodyPost_ret (by simp [results, Tryz.results230, go_sem, k1, f1, k2, f2, k3, f3, k4, f4, yb1, yb2, yb3, yb4]) rfl ⟨rfl, by exact belowAny⟩

set_option maxRecDepth 100000 in
set_option maxHeartbeats 1000000 in
theorem both_second (A R n d a b va vb : Int) (g : Nat) (w : World) (hg : Blk w g #[.func (.func 229) #[.agg #[.int .i64 A, .int .i64 R, .int .i64 n, .int .i64 d]] #[]] 316)
    (c1 : ∀ w, Blk w g #[.func (.func 229) #[.agg #[.int .i64 A, .int .i64 R, .int .i64 n, .int .i64 d]] #[]] 316 → Calls Tryz.prog 231 #[.int .i64 a, .pointer (some ⟨g, 0, none⟩)] w fun e' w' => e' = .returned (.tuple #[.int .i64 va, .int .i64 0]) ∧ Below w.heap.size w w')
    (c2 : ∀ w, Blk w g #[.func (.func 229) #[.agg #[.int .i64 A, .int .i64 R, .int .i64 n, .int .i64 d]] #[]] 316 → Calls Tryz.prog 231 #[.int .i64 b, .pointer (some ⟨g, 0, none⟩)] w fun e' w' => e' = .returned (.tuple #[.int .i64 0, .int .i64 5]) ∧ Below w.heap.size w w') :
    Calls Tryz.prog 230 #[.agg #[.int .i64 a, .int .i64 b], .func (.func 231) #[] #[.pointer (some ⟨g, 0, none⟩)]] w fun e' w' => e' = .returned (.tuple #[.agg #[.int .i64 0, .int .i64 0], .int .i64 5]) ∧ Below w.heap.size w w' := by
  have y0 := hg.lt
  have hix0 : ∀ (x y : Int) (w : World), (Instr.index 317 (.agg #[.int .i64 x, .int .i64 y]) (.int .i64 0)).run Tryz.prog w = .ok (.int .i64 x) w := by intros; kernel_rfl
  have hix1 : ∀ (x y : Int) (w : World), (Instr.index 317 (.agg #[.int .i64 x, .int .i64 y]) (.int .i64 1)).run Tryz.prog w = .ok (.int .i64 y) w := by intros; kernel_rfl
  have H_c1 := Lib.hid c1
  clear c1
  have H_c2 := Lib.hid c2
  clear c2
  go_enter Tryz.func230, Tryz.ntmps230
  go_wp2
  go_step3
  go_upto_region 2 with (fail)
  refine wp_cutB w (Bc w.heap.size #[.int .i64 a, .int .i64 b] 317 <| Bc (w.heap.size + 1) #[.int .i64 0, .int .i64 0] 317 <| Bc (w.heap.size + 2) #[.int .i64 0, .int .i64 0] 317 <| Bc g #[.func (.func 229) #[.agg #[.int .i64 A, .int .i64 R, .int .i64 n, .int .i64 d]] #[]] 316 <| Bz) ?_
  rintro W1 hW z2 ⟨⟨b1, yb1, k1, f1⟩, ⟨b2, yb2, k2, f2⟩, ⟨b3, yb3, k3, f3⟩, ⟨b4, yb4, k4, f4⟩, -⟩
  go_wp2
  go_step3
  go_wp2
  refine wp_loop_rounds 3 ?_
  rw [rounds_succ]
  go_wp2_with fail
  refine (H_c1.out _ (blkAny)).mono ?_
  rintro e w3 ⟨rfl, hb3⟩
  have z4 := hb3.size
  try simp at z4
  clear k1 f1 k2 f2 k3 f3 k4 f4
  refine haveB w w3 (Bc w.heap.size #[.int .i64 a, .int .i64 b] 317 <| Bc (w.heap.size + 1) #[.int .i64 0, .int .i64 0] 317 <| Bc (w.heap.size + 2) #[.int .i64 0, .int .i64 0] 317 <| Bc g #[.func (.func 229) #[.agg #[.int .i64 A, .int .i64 R, .int .i64 n, .int .i64 d]] #[]] 316 <| Bz) ?_
  clear b1 b2 b3 b4 hW
  rintro hW z5 ⟨⟨b1, yb1, k1, f1⟩, ⟨b2, yb2, k2, f2⟩, ⟨b3, yb3, k3, f3⟩, ⟨b4, yb4, k4, f4⟩, -⟩
  clear hb3
  go_upto_region 6 with (fail)
  clear k1 f1 k2 f2 k3 f3 k4 f4
  refine wp_cutB w (Bc w.heap.size #[.int .i64 a, .int .i64 b] 317 <| Bc (w.heap.size + 1) #[.int .i64 0, .int .i64 0] 317 <| Bc (w.heap.size + 2) #[.int .i64 0, .int .i64 0] 317 <| Bc g #[.func (.func 229) #[.agg #[.int .i64 A, .int .i64 R, .int .i64 n, .int .i64 d]] #[]] 316 <| Bz) ?_
  clear b1 b2 b3 b4 hW
  rintro W6 hW z7 ⟨⟨b1, yb1, k1, f1⟩, ⟨b2, yb2, k2, f2⟩, ⟨b3, yb3, k3, f3⟩, ⟨b4, yb4, k4, f4⟩, -⟩
  go_wp2
  rw [rounds_succ]
  go_wp2_with fail
  refine (H_c2.out _ (blkAny)).mono ?_
  rintro e w8 ⟨rfl, hb8⟩
  have z9 := hb8.size
  try simp at z9
  clear k1 f1 k2 f2 k3 f3 k4 f4
  refine haveB w w8 (Bc w.heap.size #[.int .i64 a, .int .i64 b] 317 <| Bc (w.heap.size + 1) #[.int .i64 0, .int .i64 0] 317 <| Bc (w.heap.size + 2) #[.int .i64 va, .int .i64 0] 317 <| Bc g #[.func (.func 229) #[.agg #[.int .i64 A, .int .i64 R, .int .i64 n, .int .i64 d]] #[]] 316 <| Bz) ?_
  clear b1 b2 b3 b4 hW
  rintro hW z10 ⟨⟨b1, yb1, k1, f1⟩, ⟨b2, yb2, k2, f2⟩, ⟨b3, yb3, k3, f3⟩, ⟨b4, yb4, k4, f4⟩, -⟩
  clear hb8
  go_wp2
  rw [Exit.noGoto_ret]
  refine bodyPost_ret (by simp [results, Tryz.results230, go_sem, k1, f1, k2, f2, k3, f3, k4, f4, yb1, yb2, yb3, yb4]) rfl ⟨rfl, by exact belowAny⟩

set_option maxRecDepth 100000 in
set_option maxHeartbeats 1000000 in
theorem ends_no (A R n d a b va vb e : Int) (w : World) 
    (c1 : ∀ w, Calls Tryz.prog 227 #[.agg #[.int .i64 A, .int .i64 R, .int .i64 n, .int .i64 d]] w fun e' w' => e' = .returned (.bool false) ∧ Below w.heap.size w w')
    
    
     :
    Calls Tryz.prog 190 #[.agg #[.int .i64 A, .int .i64 R, .int .i64 n, .int .i64 d], .int .i64 a, .int .i64 b] w fun e' w' => e' = .returned (.tuple #[.agg #[.int .i64 0, .int .i64 0], .int .i64 150]) ∧ Below w.heap.size w w' := by
  have hmf : ∀ (fn : Fn) (first cap : Array Value) (w : World), (Instr.makeFunc fn first cap).run Tryz.prog w = .ok (.func fn first cap) w := fun _ _ _ _ => rfl
  have H_c1 := Lib.hid c1
  clear c1
  go_enter Tryz.func190, Tryz.ntmps190
  go_upto_region 1 with (fail)
  refine wp_cutB w (Bc w.heap.size #[.int .i64 A, .int .i64 R, .int .i64 n, .int .i64 d] 26 <| Bc (w.heap.size + 1) #[.int .i64 0, .int .i64 0] 267 <| Bz) ?_
  rintro W1 hW z2 ⟨⟨b1, yb1, k1, f1⟩, ⟨b2, yb2, k2, f2⟩, -⟩
  go_wp2_with fail
  refine (H_c1.out _).mono ?_
  rintro e w3 ⟨rfl, hb3⟩
  have z4 := hb3.size
  try simp at z4
  clear k1 f1 k2 f2
  refine haveB w w3 (Bc w.heap.size #[.int .i64 A, .int .i64 R, .int .i64 n, .int .i64 d] 26 <| Bc (w.heap.size + 1) #[.int .i64 0, .int .i64 0] 267 <| Bc W1.heap.size #[.int .i64 A, .int .i64 R, .int .i64 n, .int .i64 d] 315 <| Bz) ?_
  clear b1 b2 hW
  rintro hW z5 ⟨⟨b1, yb1, k1, f1⟩, ⟨b2, yb2, k2, f2⟩, ⟨b3, yb3, k3, f3⟩, -⟩
  clear hb3
  go_wp2
  refine bodyPost_ret (by simp [results, Tryz.results190, go_sem, k1, f1, k2, f2, k3, f3, yb1, yb2, yb3]) rfl ⟨rfl, by exact belowAny⟩

set_option maxRecDepth 100000 in
set_option maxHeartbeats 1000000 in
theorem ends_lt (A R n d a b va vb e : Int) (w : World) (hle : decide (b < a) = false) (h : va < vb)
    (c1 : ∀ w, Calls Tryz.prog 227 #[.agg #[.int .i64 A, .int .i64 R, .int .i64 n, .int .i64 d]] w fun e' w' => e' = .returned (.bool true) ∧ Below w.heap.size w w')
    (c2 : ∀ w, Calls Tryz.prog 228 #[.int .i64 a] w fun e w' => e = .returned (.bool true) ∧ Below w.heap.size w w')
    (c3 : ∀ w, Calls Tryz.prog 228 #[.int .i64 b] w fun e w' => e = .returned (.bool true) ∧ Below w.heap.size w w')
    (c4 : ∀ w g, Blk w g #[.func (.func 229) #[.agg #[.int .i64 A, .int .i64 R, .int .i64 n, .int .i64 d]] #[]] 316 → Calls Tryz.prog 230 #[.agg #[.int .i64 a, .int .i64 b], .func (.func 231) #[] #[.pointer (some ⟨g, 0, none⟩)]] w fun e' w' => e' = .returned (.tuple #[.agg #[.int .i64 va, .int .i64 vb], .int .i64 e]) ∧ Below w.heap.size w w') :
    Calls Tryz.prog 190 #[.agg #[.int .i64 A, .int .i64 R, .int .i64 n, .int .i64 d], .int .i64 a, .int .i64 b] w fun e' w' => e' = .returned (.tuple #[.agg #[.int .i64 va, .int .i64 vb], .int .i64 e]) ∧ Below w.heap.size w w' := by
  have hmf : ∀ (fn : Fn) (first cap : Array Value) (w : World), (Instr.makeFunc fn first cap).run Tryz.prog w = .ok (.func fn first cap) w := fun _ _ _ _ => rfl
  have H_c1 := Lib.hid c1
  clear c1
  have H_c2 := Lib.hid c2
  clear c2
  have H_c3 := Lib.hid c3
  clear c3
  have H_c4 := Lib.hid c4
  clear c4
  go_enter Tryz.func190, Tryz.ntmps190
  go_upto_region 1 with (fail)
  refine wp_cutB w (Bc w.heap.size #[.int .i64 A, .int .i64 R, .int .i64 n, .int .i64 d] 26 <| Bc (w.heap.size + 1) #[.int .i64 0, .int .i64 0] 267 <| Bz) ?_
  rintro W1 hW z2 ⟨⟨b1, yb1, k1, f1⟩, ⟨b2, yb2, k2, f2⟩, -⟩
  go_wp2_with fail
  refine (H_c1.out _).mono ?_
  rintro e w3 ⟨rfl, hb3⟩
  have z4 := hb3.size
  try simp at z4
  clear k1 f1 k2 f2
  refine haveB w w3 (Bc w.heap.size #[.int .i64 A, .int .i64 R, .int .i64 n, .int .i64 d] 26 <| Bc (w.heap.size + 1) #[.int .i64 0, .int .i64 0] 267 <| Bc W1.heap.size #[.int .i64 A, .int .i64 R, .int .i64 n, .int .i64 d] 315 <| Bz) ?_
  clear b1 b2 hW
  rintro hW z5 ⟨⟨b1, yb1, k1, f1⟩, ⟨b2, yb2, k2, f2⟩, ⟨b3, yb3, k3, f3⟩, -⟩
  clear hb3
  go_wp2_with fail
  refine (H_c2.out _).mono ?_
  rintro e w6 ⟨rfl, hb6⟩
  have z7 := hb6.size
  try simp at z7
  clear k1 f1 k2 f2 k3 f3
  refine haveB w w6 (Bc w.heap.size #[.int .i64 A, .int .i64 R, .int .i64 n, .int .i64 d] 26 <| Bc (w.heap.size + 1) #[.int .i64 0, .int .i64 0] 267 <| Bc W1.heap.size #[.int .i64 A, .int .i64 R, .int .i64 n, .int .i64 d] 315 <| Bz) ?_
  clear b1 b2 b3 hW
  rintro hW z8 ⟨⟨b1, yb1, k1, f1⟩, ⟨b2, yb2, k2, f2⟩, ⟨b3, yb3, k3, f3⟩, -⟩
  clear hb6
  go_wp2_with fail
  refine (H_c3.out _).mono ?_
  rintro e w9 ⟨rfl, hb9⟩
  have z10 := hb9.size
  try simp at z10
  clear k1 f1 k2 f2 k3 f3
  refine haveB w w9 (Bc w.heap.size #[.int .i64 A, .int .i64 R, .int .i64 n, .int .i64 d] 26 <| Bc (w.heap.size + 1) #[.int .i64 0, .int .i64 0] 267 <| Bc W1.heap.size #[.int .i64 A, .int .i64 R, .int .i64 n, .int .i64 d] 315 <| Bz) ?_
  clear b1 b2 b3 hW
  rintro hW z11 ⟨⟨b1, yb1, k1, f1⟩, ⟨b2, yb2, k2, f2⟩, ⟨b3, yb3, k3, f3⟩, -⟩
  clear hb9
  go_upto_region 6 with (fail)
  clear k1 f1 k2 f2 k3 f3
  refine wp_cutB w (Bc w.heap.size #[.int .i64 A, .int .i64 R, .int .i64 n, .int .i64 d] 26 <| Bc (w.heap.size + 1) #[.int .i64 0, .int .i64 0] 267 <| Bc W1.heap.size #[.int .i64 A, .int .i64 R, .int .i64 n, .int .i64 d] 315 <| Bz) ?_
  clear b1 b2 b3 hW
  rintro W12 hW z13 ⟨⟨b1, yb1, k1, f1⟩, ⟨b2, yb2, k2, f2⟩, ⟨b3, yb3, k3, f3⟩, -⟩
  go_upto_region 7 with (fail)
  clear k1 f1 k2 f2 k3 f3
  refine wp_cutB w (Bc w.heap.size #[.int .i64 A, .int .i64 R, .int .i64 n, .int .i64 d] 26 <| Bc (w.heap.size + 1) #[.int .i64 0, .int .i64 0] 267 <| Bc W1.heap.size #[.int .i64 A, .int .i64 R, .int .i64 n, .int .i64 d] 315 <| Bc W12.heap.size #[.func (.func 229) #[.agg #[.int .i64 A, .int .i64 R, .int .i64 n, .int .i64 d]] #[]] 316 <| Bz) ?_
  clear b1 b2 b3 hW
  rintro W14 hW z15 ⟨⟨b1, yb1, k1, f1⟩, ⟨b2, yb2, k2, f2⟩, ⟨b3, yb3, k3, f3⟩, ⟨b4, yb4, k4, f4⟩, -⟩
  go_wp2_with fail
  refine (H_c4.out _ _ (blkAny)).mono ?_
  rintro e w16 ⟨rfl, hb16⟩
  have z17 := hb16.size
  try simp at z17
  clear k1 f1 k2 f2 k3 f3 k4 f4
  refine haveB w w16 (Bc w.heap.size #[.int .i64 A, .int .i64 R, .int .i64 n, .int .i64 d] 26 <| Bc (w.heap.size + 1) #[.int .i64 0, .int .i64 0] 267 <| Bc W1.heap.size #[.int .i64 A, .int .i64 R, .int .i64 n, .int .i64 d] 315 <| Bc W12.heap.size #[.func (.func 229) #[.agg #[.int .i64 A, .int .i64 R, .int .i64 n, .int .i64 d]] #[]] 316 <| Bz) ?_
  clear b1 b2 b3 b4 hW
  rintro hW z18 ⟨⟨b1, yb1, k1, f1⟩, ⟨b2, yb2, k2, f2⟩, ⟨b3, yb3, k3, f3⟩, ⟨b4, yb4, k4, f4⟩, -⟩
  clear hb16
  go_wp2
  refine bodyPost_ret (by simp [results, Tryz.results190, go_sem, k1, f1, k2, f2, k3, f3, k4, f4, yb1, yb2, yb3, yb4]) rfl ⟨rfl, by exact belowAny⟩

set_option maxRecDepth 100000 in
set_option maxHeartbeats 1000000 in
theorem ends_gt (A R n d a b va vb e : Int) (w : World) (hle : decide (b < a) = false) (h : vb < va)
    (c1 : ∀ w, Calls Tryz.prog 227 #[.agg #[.int .i64 A, .int .i64 R, .int .i64 n, .int .i64 d]] w fun e' w' => e' = .returned (.bool true) ∧ Below w.heap.size w w')
    (c2 : ∀ w, Calls Tryz.prog 228 #[.int .i64 a] w fun e w' => e = .returned (.bool true) ∧ Below w.heap.size w w')
    (c3 : ∀ w, Calls Tryz.prog 228 #[.int .i64 b] w fun e w' => e = .returned (.bool true) ∧ Below w.heap.size w w')
    (c4 : ∀ w g, Blk w g #[.func (.func 229) #[.agg #[.int .i64 A, .int .i64 R, .int .i64 n, .int .i64 d]] #[]] 316 → Calls Tryz.prog 230 #[.agg #[.int .i64 a, .int .i64 b], .func (.func 231) #[] #[.pointer (some ⟨g, 0, none⟩)]] w fun e' w' => e' = .returned (.tuple #[.agg #[.int .i64 va, .int .i64 vb], .int .i64 e]) ∧ Below w.heap.size w w') :
    Calls Tryz.prog 190 #[.agg #[.int .i64 A, .int .i64 R, .int .i64 n, .int .i64 d], .int .i64 a, .int .i64 b] w fun e' w' => e' = .returned (.tuple #[.agg #[.int .i64 vb, .int .i64 va], .int .i64 e]) ∧ Below w.heap.size w w' := by
  have hmf : ∀ (fn : Fn) (first cap : Array Value) (w : World), (Instr.makeFunc fn first cap).run Tryz.prog w = .ok (.func fn first cap) w := fun _ _ _ _ => rfl
  have H_c1 := Lib.hid c1
  clear c1
  have H_c2 := Lib.hid c2
  clear c2
  have H_c3 := Lib.hid c3
  clear c3
  have H_c4 := Lib.hid c4
  clear c4
  go_enter Tryz.func190, Tryz.ntmps190
  go_upto_region 1 with (fail)
  refine wp_cutB w (Bc w.heap.size #[.int .i64 A, .int .i64 R, .int .i64 n, .int .i64 d] 26 <| Bc (w.heap.size + 1) #[.int .i64 0, .int .i64 0] 267 <| Bz) ?_
  rintro W1 hW z2 ⟨⟨b1, yb1, k1, f1⟩, ⟨b2, yb2, k2, f2⟩, -⟩
  go_wp2_with fail
  refine (H_c1.out _).mono ?_
  rintro e w3 ⟨rfl, hb3⟩
  have z4 := hb3.size
  try simp at z4
  clear k1 f1 k2 f2
  refine haveB w w3 (Bc w.heap.size #[.int .i64 A, .int .i64 R, .int .i64 n, .int .i64 d] 26 <| Bc (w.heap.size + 1) #[.int .i64 0, .int .i64 0] 267 <| Bc W1.heap.size #[.int .i64 A, .int .i64 R, .int .i64 n, .int .i64 d] 315 <| Bz) ?_
  clear b1 b2 hW
  rintro hW z5 ⟨⟨b1, yb1, k1, f1⟩, ⟨b2, yb2, k2, f2⟩, ⟨b3, yb3, k3, f3⟩, -⟩
  clear hb3
  go_wp2_with fail
  refine (H_c2.out _).mono ?_
  rintro e w6 ⟨rfl, hb6⟩
  have z7 := hb6.size
  try simp at z7
  clear k1 f1 k2 f2 k3 f3
  refine haveB w w6 (Bc w.heap.size #[.int .i64 A, .int .i64 R, .int .i64 n, .int .i64 d] 26 <| Bc (w.heap.size + 1) #[.int .i64 0, .int .i64 0] 267 <| Bc W1.heap.size #[.int .i64 A, .int .i64 R, .int .i64 n, .int .i64 d] 315 <| Bz) ?_
  clear b1 b2 b3 hW
  rintro hW z8 ⟨⟨b1, yb1, k1, f1⟩, ⟨b2, yb2, k2, f2⟩, ⟨b3, yb3, k3, f3⟩, -⟩
  clear hb6
  go_wp2_with fail
  refine (H_c3.out _).mono ?_
  rintro e w9 ⟨rfl, hb9⟩
  have z10 := hb9.size
  try simp at z10
  clear k1 f1 k2 f2 k3 f3
  refine haveB w w9 (Bc w.heap.size #[.int .i64 A, .int .i64 R, .int .i64 n, .int .i64 d] 26 <| Bc (w.heap.size + 1) #[.int .i64 0, .int .i64 0] 267 <| Bc W1.heap.size #[.int .i64 A, .int .i64 R, .int .i64 n, .int .i64 d] 315 <| Bz) ?_
  clear b1 b2 b3 hW
  rintro hW z11 ⟨⟨b1, yb1, k1, f1⟩, ⟨b2, yb2, k2, f2⟩, ⟨b3, yb3, k3, f3⟩, -⟩
  clear hb9
  go_upto_region 6 with (fail)
  clear k1 f1 k2 f2 k3 f3
  refine wp_cutB w (Bc w.heap.size #[.int .i64 A, .int .i64 R, .int .i64 n, .int .i64 d] 26 <| Bc (w.heap.size + 1) #[.int .i64 0, .int .i64 0] 267 <| Bc W1.heap.size #[.int .i64 A, .int .i64 R, .int .i64 n, .int .i64 d] 315 <| Bz) ?_
  clear b1 b2 b3 hW
  rintro W12 hW z13 ⟨⟨b1, yb1, k1, f1⟩, ⟨b2, yb2, k2, f2⟩, ⟨b3, yb3, k3, f3⟩, -⟩
  go_upto_region 7 with (fail)
  clear k1 f1 k2 f2 k3 f3
  refine wp_cutB w (Bc w.heap.size #[.int .i64 A, .int .i64 R, .int .i64 n, .int .i64 d] 26 <| Bc (w.heap.size + 1) #[.int .i64 0, .int .i64 0] 267 <| Bc W1.heap.size #[.int .i64 A, .int .i64 R, .int .i64 n, .int .i64 d] 315 <| Bc W12.heap.size #[.func (.func 229) #[.agg #[.int .i64 A, .int .i64 R, .int .i64 n, .int .i64 d]] #[]] 316 <| Bz) ?_
  clear b1 b2 b3 hW
  rintro W14 hW z15 ⟨⟨b1, yb1, k1, f1⟩, ⟨b2, yb2, k2, f2⟩, ⟨b3, yb3, k3, f3⟩, ⟨b4, yb4, k4, f4⟩, -⟩
  go_wp2_with fail
  refine (H_c4.out _ _ (blkAny)).mono ?_
  rintro e w16 ⟨rfl, hb16⟩
  have z17 := hb16.size
  try simp at z17
  clear k1 f1 k2 f2 k3 f3 k4 f4
  refine haveB w w16 (Bc w.heap.size #[.int .i64 A, .int .i64 R, .int .i64 n, .int .i64 d] 26 <| Bc (w.heap.size + 1) #[.int .i64 0, .int .i64 0] 267 <| Bc W1.heap.size #[.int .i64 A, .int .i64 R, .int .i64 n, .int .i64 d] 315 <| Bc W12.heap.size #[.func (.func 229) #[.agg #[.int .i64 A, .int .i64 R, .int .i64 n, .int .i64 d]] #[]] 316 <| Bz) ?_
  clear b1 b2 b3 b4 hW
  rintro hW z18 ⟨⟨b1, yb1, k1, f1⟩, ⟨b2, yb2, k2, f2⟩, ⟨b3, yb3, k3, f3⟩, ⟨b4, yb4, k4, f4⟩, -⟩
  clear hb16
  go_wp2
  refine bodyPost_ret (by simp [results, Tryz.results190, go_sem, k1, f1, k2, f2, k3, f3, k4, f4, yb1, yb2, yb3, yb4]) rfl ⟨rfl, by exact belowAny⟩

set_option maxRecDepth 100000 in
set_option maxHeartbeats 1000000 in
theorem ends_eq (A R n d a b va vb e : Int) (w : World) (hle : decide (b < a) = false)
    (c1 : ∀ w, Calls Tryz.prog 227 #[.agg #[.int .i64 A, .int .i64 R, .int .i64 n, .int .i64 d]] w fun e' w' => e' = .returned (.bool true) ∧ Below w.heap.size w w')
    (c2 : ∀ w, Calls Tryz.prog 228 #[.int .i64 a] w fun e w' => e = .returned (.bool true) ∧ Below w.heap.size w w')
    (c3 : ∀ w, Calls Tryz.prog 228 #[.int .i64 b] w fun e w' => e = .returned (.bool true) ∧ Below w.heap.size w w')
    (c4 : ∀ w g, Blk w g #[.func (.func 229) #[.agg #[.int .i64 A, .int .i64 R, .int .i64 n, .int .i64 d]] #[]] 316 → Calls Tryz.prog 230 #[.agg #[.int .i64 a, .int .i64 b], .func (.func 231) #[] #[.pointer (some ⟨g, 0, none⟩)]] w fun e' w' => e' = .returned (.tuple #[.agg #[.int .i64 va, .int .i64 va], .int .i64 e]) ∧ Below w.heap.size w w') :
    Calls Tryz.prog 190 #[.agg #[.int .i64 A, .int .i64 R, .int .i64 n, .int .i64 d], .int .i64 a, .int .i64 b] w fun e' w' => e' = .returned (.tuple #[.agg #[.int .i64 va, .int .i64 va], .int .i64 e]) ∧ Below w.heap.size w w' := by
  have hmf : ∀ (fn : Fn) (first cap : Array Value) (w : World), (Instr.makeFunc fn first cap).run Tryz.prog w = .ok (.func fn first cap) w := fun _ _ _ _ => rfl
  have H_c1 := Lib.hid c1
  clear c1
  have H_c2 := Lib.hid c2
  clear c2
  have H_c3 := Lib.hid c3
  clear c3
  have H_c4 := Lib.hid c4
  clear c4
  go_enter Tryz.func190, Tryz.ntmps190
  go_upto_region 1 with (fail)
  refine wp_cutB w (Bc w.heap.size #[.int .i64 A, .int .i64 R, .int .i64 n, .int .i64 d] 26 <| Bc (w.heap.size + 1) #[.int .i64 0, .int .i64 0] 267 <| Bz) ?_
  rintro W1 hW z2 ⟨⟨b1, yb1, k1, f1⟩, ⟨b2, yb2, k2, f2⟩, -⟩
  go_wp2_with fail
  refine (H_c1.out _).mono ?_
  rintro e w3 ⟨rfl, hb3⟩
  have z4 := hb3.size
  try simp at z4
  clear k1 f1 k2 f2
  refine haveB w w3 (Bc w.heap.size #[.int .i64 A, .int .i64 R, .int .i64 n, .int .i64 d] 26 <| Bc (w.heap.size + 1) #[.int .i64 0, .int .i64 0] 267 <| Bc W1.heap.size #[.int .i64 A, .int .i64 R, .int .i64 n, .int .i64 d] 315 <| Bz) ?_
  clear b1 b2 hW
  rintro hW z5 ⟨⟨b1, yb1, k1, f1⟩, ⟨b2, yb2, k2, f2⟩, ⟨b3, yb3, k3, f3⟩, -⟩
  clear hb3
  go_wp2_with fail
  refine (H_c2.out _).mono ?_
  rintro e w6 ⟨rfl, hb6⟩
  have z7 := hb6.size
  try simp at z7
  clear k1 f1 k2 f2 k3 f3
  refine haveB w w6 (Bc w.heap.size #[.int .i64 A, .int .i64 R, .int .i64 n, .int .i64 d] 26 <| Bc (w.heap.size + 1) #[.int .i64 0, .int .i64 0] 267 <| Bc W1.heap.size #[.int .i64 A, .int .i64 R, .int .i64 n, .int .i64 d] 315 <| Bz) ?_
  clear b1 b2 b3 hW
  rintro hW z8 ⟨⟨b1, yb1, k1, f1⟩, ⟨b2, yb2, k2, f2⟩, ⟨b3, yb3, k3, f3⟩, -⟩
  clear hb6
  go_wp2_with fail
  refine (H_c3.out _).mono ?_
  rintro e w9 ⟨rfl, hb9⟩
  have z10 := hb9.size
  try simp at z10
  clear k1 f1 k2 f2 k3 f3
  refine haveB w w9 (Bc w.heap.size #[.int .i64 A, .int .i64 R, .int .i64 n, .int .i64 d] 26 <| Bc (w.heap.size + 1) #[.int .i64 0, .int .i64 0] 267 <| Bc W1.heap.size #[.int .i64 A, .int .i64 R, .int .i64 n, .int .i64 d] 315 <| Bz) ?_
  clear b1 b2 b3 hW
  rintro hW z11 ⟨⟨b1, yb1, k1, f1⟩, ⟨b2, yb2, k2, f2⟩, ⟨b3, yb3, k3, f3⟩, -⟩
  clear hb9
  go_upto_region 6 with (fail)
  clear k1 f1 k2 f2 k3 f3
  refine wp_cutB w (Bc w.heap.size #[.int .i64 A, .int .i64 R, .int .i64 n, .int .i64 d] 26 <| Bc (w.heap.size + 1) #[.int .i64 0, .int .i64 0] 267 <| Bc W1.heap.size #[.int .i64 A, .int .i64 R, .int .i64 n, .int .i64 d] 315 <| Bz) ?_
  clear b1 b2 b3 hW
  rintro W12 hW z13 ⟨⟨b1, yb1, k1, f1⟩, ⟨b2, yb2, k2, f2⟩, ⟨b3, yb3, k3, f3⟩, -⟩
  go_upto_region 7 with (fail)
  clear k1 f1 k2 f2 k3 f3
  refine wp_cutB w (Bc w.heap.size #[.int .i64 A, .int .i64 R, .int .i64 n, .int .i64 d] 26 <| Bc (w.heap.size + 1) #[.int .i64 0, .int .i64 0] 267 <| Bc W1.heap.size #[.int .i64 A, .int .i64 R, .int .i64 n, .int .i64 d] 315 <| Bc W12.heap.size #[.func (.func 229) #[.agg #[.int .i64 A, .int .i64 R, .int .i64 n, .int .i64 d]] #[]] 316 <| Bz) ?_
  clear b1 b2 b3 hW
  rintro W14 hW z15 ⟨⟨b1, yb1, k1, f1⟩, ⟨b2, yb2, k2, f2⟩, ⟨b3, yb3, k3, f3⟩, ⟨b4, yb4, k4, f4⟩, -⟩
  go_wp2_with fail
  refine (H_c4.out _ _ (blkAny)).mono ?_
  rintro e w16 ⟨rfl, hb16⟩
  have z17 := hb16.size
  try simp at z17
  clear k1 f1 k2 f2 k3 f3 k4 f4
  refine haveB w w16 (Bc w.heap.size #[.int .i64 A, .int .i64 R, .int .i64 n, .int .i64 d] 26 <| Bc (w.heap.size + 1) #[.int .i64 0, .int .i64 0] 267 <| Bc W1.heap.size #[.int .i64 A, .int .i64 R, .int .i64 n, .int .i64 d] 315 <| Bc W12.heap.size #[.func (.func 229) #[.agg #[.int .i64 A, .int .i64 R, .int .i64 n, .int .i64 d]] #[]] 316 <| Bz) ?_
  clear b1 b2 b3 b4 hW
  rintro hW z18 ⟨⟨b1, yb1, k1, f1⟩, ⟨b2, yb2, k2, f2⟩, ⟨b3, yb3, k3, f3⟩, ⟨b4, yb4, k4, f4⟩, -⟩
  clear hb16
  go_wp2
  refine bodyPost_ret (by simp [results, Tryz.results190, go_sem, k1, f1, k2, f2, k3, f3, k4, f4, yb1, yb2, yb3, yb4]) rfl ⟨rfl, by exact belowAny⟩

end Go.Proofs.YtbanjolokkghdaaGreatDoor
namespace Go.Proofs.YtbanjolokkghdaaGreatDoor
open Go.RowKit
/-- Both of a line's values may be told. -/
def endsOk (A R n d a b : Int) : Bool := isBack (lineVal A R n d a) && isBack (lineVal A R n d b)
theorem c_Ends_no (A R n d a b : Int) (w : World) (h : isLine A R n d = false) :
    Calls Tryz.prog 190 #[.agg #[.int .i64 A, .int .i64 R, .int .i64 n, .int .i64 d], .int .i64 a, .int .i64 b] w fun e' w' => e' = .returned (.tuple #[.agg #[.int .i64 0, .int .i64 0], .int .i64 150]) ∧ Below w.heap.size w w' := by
  have c1 := fun w => c_is A R n d w
  rw [h] at c1
  exact ends_no A R n d a b 0 0 0 w c1
theorem c_Ends (A R n d a b : Int) (w : World) (h : LineOk A R n d) (ha : 0 ≤ a) (hab : a ≤ b) (hb : b ≤ 281474976710656) :
    Calls Tryz.prog 190 #[.agg #[.int .i64 A, .int .i64 R, .int .i64 n, .int .i64 d], .int .i64 a, .int .i64 b] w fun e' w' => e' = .returned (.tuple #[.agg #[.int .i64 (wv (endsOk A R n d a b) (min (lineVal A R n d a) (lineVal A R n d b))), .int .i64 (wv (endsOk A R n d a b) (max (lineVal A R n d a) (lineVal A R n d b)))], .int .i64 (we (endsOk A R n d a b))]) ∧ Below w.heap.size w w' := by
  have c1 := fun w => c_is A R n d w
  rw [isLine_ok.2 h] at c1
  have c2 := fun w => c_timeIs a w
  rw [isTime_iff.2 ⟨ha, by omega⟩] at c2
  have c3 := fun w => c_timeIs b w
  rw [isTime_iff.2 ⟨by omega, hb⟩] at c3
  have va := fun w => c_value A R n d a w h ha (by omega)
  have vb := fun w => c_value A R n d b w h (by omega) hb
  have hle : decide (b < a) = false := by simp; omega
  unfold endsOk
  generalize lineVal A R n d a = x at *
  generalize lineVal A R n d b = y at *
  cases hx : isBack x with
  | false =>
    rw [hx] at va
    exact ends_eq A R n d a b 0 0 5 w hle c1 c2 c3 (fun w g hg => both_first A R n d a b 0 0 g w hg (fun w hg => c_ends1 A R n d a 0 5 g w hg va))
  | true =>
    rw [hx] at va
    cases hy : isBack y with
    | false =>
      rw [hy] at vb
      exact ends_eq A R n d a b 0 0 5 w hle c1 c2 c3 (fun w g hg => both_second A R n d a b x 0 g w hg (fun w hg => c_ends1 A R n d a x 0 g w hg va) (fun w hg => c_ends1 A R n d b 0 5 g w hg vb))
    | true =>
      rw [hy] at vb
      have c4 := fun w g hg => both_ok A R n d a b x y g w hg (fun w hg => c_ends1 A R n d a x 0 g w hg va) (fun w hg => c_ends1 A R n d b y 0 g w hg vb)
      show Calls _ _ _ _ fun e' w' => e' = .returned (.tuple #[.agg #[.int .i64 (min x y), .int .i64 (max x y)], .int .i64 0]) ∧ Below w.heap.size w w'
      rcases Int.lt_trichotomy x y with k | k | k
      · rw [show min x y = x by omega, show max x y = y by omega]
        exact ends_lt A R n d a b x y 0 w hle k c1 c2 c3 c4
      · subst k
        rw [show min x x = x by omega, show max x x = x by omega]
        exact ends_eq A R n d a b x 0 0 w hle c1 c2 c3 c4
      · rw [show min x y = y by omega, show max x y = x by omega]
        exact ends_gt A R n d a b x y 0 w hle k c1 c2 c3 c4
end Go.Proofs.YtbanjolokkghdaaGreatDoor
namespace Go.Proofs.YtbanjolokkghdaaGreatDoor

/-- The sum of f i over i below n. -/
def sumTo (f : Nat → Nat) : Nat → Nat
  | 0 => 0
  | n + 1 => sumTo f n + f n
theorem sumTo_congr {f g : Nat → Nat} : ∀ n, (∀ i, i < n → f i = g i) → sumTo f n = sumTo g n
  | 0, _ => rfl
  | n + 1, h => by simp only [sumTo]; rw [sumTo_congr n fun i hi => h i (by omega), h n (by omega)]
theorem sumTo_zero : ∀ n, sumTo (fun _ => 0) n = 0
  | 0 => rfl
  | n + 1 => by simp only [sumTo]; rw [sumTo_zero n]
theorem sumTo_add (f g : Nat → Nat) : ∀ n, sumTo (fun i => f i + g i) n = sumTo f n + sumTo g n
  | 0 => rfl
  | n + 1 => by simp only [sumTo]; rw [sumTo_add f g n]; omega
theorem sumTo_swap (f : Nat → Nat → Nat) (m : Nat) : ∀ n, sumTo (fun i => sumTo (f i) m) n = sumTo (fun j => sumTo (fun i => f i j) n) m
  | 0 => by simp only [sumTo]; rw [sumTo_zero]
  | n + 1 => by simp only [sumTo]; rw [sumTo_swap f m n, sumTo_add]
theorem sumTo_first (f : Nat → Nat) : ∀ n, sumTo f (n + 1) = f 0 + sumTo (fun i => f (i + 1)) n
  | 0 => by simp [sumTo]
  | n + 1 => by rw [sumTo, sumTo_first f n, sumTo]; omega
theorem sumTo_back (f : Nat → Nat) : ∀ n, sumTo f n = sumTo (fun i => f (n - 1 - i)) n
  | 0 => rfl
  | n + 1 => by
    rw [sumTo_first (fun i => f (n + 1 - 1 - i)) n, sumTo, sumTo_back f n]
    rw [sumTo_congr (g := fun i => f (n + 1 - 1 - (i + 1))) n (fun i hi => by congr 1; omega)]
    have : f (n + 1 - 1 - 0) = f n := by congr 1
    omega
theorem sumTo_le {f g : Nat → Nat} : ∀ n, (∀ i, i < n → f i ≤ g i) → sumTo f n ≤ sumTo g n
  | 0, _ => Nat.le_refl _
  | n + 1, h => by simp only [sumTo]; have := sumTo_le n fun i hi => h i (by omega); have := h n (by omega); omega
theorem sumTo_id : ∀ n, sumTo (fun i => i) n = n * (n - 1) / 2
  | 0 => rfl
  | n + 1 => by
    simp only [sumTo]
    rw [sumTo_id n]
    cases n with
    | zero => rfl
    | succ n =>
      have e : (n + 1 + 1) * (n + 1 + 1 - 1) = (n + 1) * (n + 1 - 1) + 2 * (n + 1) := by
        simp only [Nat.add_sub_cancel]; rw [Nat.mul_comm (n + 1 + 1)]; exact (Nat.mul_add (n + 1) n 2).trans (by rw [Nat.mul_comm (n + 1) 2])
      rw [e]; omega
theorem sumTo_mul (c : Nat) (f : Nat → Nat) : ∀ n, sumTo (fun i => c * f i) n = c * sumTo f n
  | 0 => rfl
  | n + 1 => by simp only [sumTo]; rw [sumTo_mul c f n, Nat.mul_add]
theorem sumTo_const (c : Nat) : ∀ n, sumTo (fun _ => c) n = c * n
  | 0 => rfl
  | n + 1 => by simp only [sumTo]; rw [sumTo_const c n, Nat.mul_add_one]

/-- x / m counts the multiples of m up to x. -/
theorem count_div (x m : Nat) (hm : 0 < m) : ∀ Y, sumTo (fun j => if m * (j + 1) ≤ x then 1 else 0) Y = min Y (x / m)
  | 0 => by simp [sumTo]
  | Y + 1 => by
    simp only [sumTo]
    rw [count_div x m hm Y]
    have : m * (Y + 1) ≤ x ↔ Y + 1 ≤ x / m := by rw [Nat.le_div_iff_mul_le hm, Nat.mul_comm]
    split <;> omega
/-- How many steps of a reach c. -/
theorem count_steps (a b c : Nat) (ha : 0 < a) (hb : b < c) : ∀ n, sumTo (fun i => if c ≤ a * i + b then 1 else 0) n = (a * n + b - c) / a
  | 0 => by simp [sumTo]; rw [Nat.div_eq_of_lt]; omega
  | n + 1 => by
    simp only [sumTo]
    rw [count_steps a b c ha hb n, Nat.mul_add_one]
    by_cases h : c ≤ a * n + b
    · rw [if_pos h, show a * n + a + b - c = (a * n + b - c) + a by omega, Nat.add_div_right _ ha]
    · rw [if_neg h, show a * n + b - c = 0 by omega, Nat.zero_div, Nat.div_eq_of_lt (by omega)]

/-- The sum of (a i + b) / m, rounded down each, over i below n. -/
def floSum (n a b m : Nat) : Nat := sumTo (fun i => (a * i + b) / m) n

theorem floSum_split (n a b m : Nat) (hm : 0 < m) : floSum n a b m = a / m * (n * (n - 1) / 2) + b / m * n + floSum n (a % m) (b % m) m := by
  unfold floSum
  rw [← sumTo_id, ← sumTo_mul, ← sumTo_const, ← sumTo_add, ← sumTo_add]
  refine sumTo_congr n fun i _ => ?_
  have e : a * i + b = m * (a / m * i + b / m) + (a % m * i + b % m) := by
    have e1 := Nat.div_add_mod a m
    have e2 := Nat.div_add_mod b m
    have e3 : a * i = m * (a / m * i) + a % m * i := by
      rw [← Nat.mul_assoc, ← Nat.add_mul, e1]
    rw [Nat.mul_add]; omega
  rw [e, Nat.mul_add_div hm]

theorem floSum_small (n a b m : Nat) (hm : 0 < m) (h : a * n + b < m) : floSum n a b m = 0 := by
  unfold floSum
  rw [← sumTo_zero n]
  refine sumTo_congr n fun i hi => Nat.div_eq_of_lt ?_
  have := Nat.mul_le_mul_left a (Nat.le_of_lt hi)
  omega

theorem floSum_turn (n a b m : Nat) (ha : 0 < a) (hm : 0 < m) (hb : b < m) : floSum n a b m = floSum ((a * n + b) / m) m ((a * n + b) % m) a := by
  have hY : ∀ i, i < n → (a * i + b) / m ≤ (a * n + b) / m := fun i hi => Nat.div_le_div_right (by have := Nat.mul_le_mul_left a (Nat.le_of_lt hi); omega)
  unfold floSum
  rw [sumTo_congr (g := fun i => sumTo (fun j => if m * (j + 1) ≤ a * i + b then 1 else 0) ((a * n + b) / m)) n fun i hi => by rw [count_div _ m hm]; have := hY i hi; omega]
  rw [sumTo_swap, sumTo_back]
  refine sumTo_congr _ fun j hj => ?_
  generalize hq : (a * n + b) / m = Y at *
  have e0 := Nat.div_add_mod (a * n + b) m
  rw [hq] at e0
  rw [count_steps a b _ ha (by rw [Nat.mul_add_one]; omega)]
  congr 1
  have e1 : m * (Y - 1 - j + 1) + m * j = m * Y := by rw [← Nat.mul_add]; congr 1; omega
  omega

theorem floSum_le (n a b m : Nat) (hm : 0 < m) (ha : a < m) (hb : b < m) : floSum n a b m ≤ (n + 1) * n := by
  unfold floSum
  rw [← sumTo_const]
  refine sumTo_le n fun i hi => ?_
  rw [Nat.div_le_iff_le_mul_add_pred hm]
  have h1 : a * i ≤ m * i := Nat.mul_le_mul_right i (by omega)
  have h2 : m * i ≤ m * n := Nat.mul_le_mul_left m (by omega)
  rw [Nat.mul_add_one]; omega
end Go.Proofs.YtbanjolokkghdaaGreatDoor
namespace Go.Proofs.YtbanjolokkghdaaGreatDoor
open Go.RowKit
end Go.Proofs.YtbanjolokkghdaaGreatDoor
namespace Go.Proofs.YtbanjolokkghdaaGreatDoor
open Go.RowKit

/-- floSum of whole numbers from 0 on. -/
def floI (n a b m : Int) : Int := (floSum n.toNat a.toNat b.toNat m.toNat : Int)

structure SmallAt (F n a b m t : Int) : Prop where
  n0 : 0 ≤ n
  n1 : n ≤ 256
  a0 : 0 ≤ a
  a1 : a ≤ 281474976710656
  b0 : 0 ≤ b
  b1 : b ≤ 281474976710656
  m0 : 1 ≤ m
  m1 : m ≤ 281474976710656
  t0 : 0 ≤ t
  eq : t + floI n a b m = F
  F1 : F ≤ 100000

structure SmallStep (F n a b m t : Int) : Prop where
  p0 : 0 ≤ n * (n - 1) / 2
  e1 : wrap64 (a.tdiv m) = a / m
  e2 : wrap64 (b.tdiv m) = b / m
  e3 : wrap64 (a / m * (n * (n - 1) / 2)) = a / m * (n * (n - 1) / 2)
  e4 : wrap64 (b / m * n) = b / m * n
  e5 : wrap64 (a / m * (n * (n - 1) / 2) + b / m * n) = a / m * (n * (n - 1) / 2) + b / m * n
  e6 : wrap64 (t + (a / m * (n * (n - 1) / 2) + b / m * n)) = t + (a / m * (n * (n - 1) / 2) + b / m * n)
  e7 : a.tmod m = a % m
  e8 : b.tmod m = b % m
  e9 : wrap64 (a % m * n) = a % m * n
  e10 : wrap64 (a % m * n + b % m) = a % m * n + b % m
  e11 : wrap64 ((a % m * n + b % m).tdiv m) = (a % m * n + b % m) / m
  e12 : (a % m * n + b % m).tmod m = (a % m * n + b % m) % m
  done : a % m * n + b % m < m → t + (a / m * (n * (n - 1) / 2) + b / m * n) = F
  next : m ≤ a % m * n + b % m → SmallAt F ((a % m * n + b % m) / m) m ((a % m * n + b % m) % m) (a % m) (t + (a / m * (n * (n - 1) / 2) + b / m * n)) ∧ (a % m).toNat < m.toNat

theorem SmallAt.step {F n a b m t : Int} (h : SmallAt F n a b m t) : SmallStep F n a b m t := by
  obtain ⟨n0, n1, a0, a1, b0, b1, m0, m1, t0, eq, F1⟩ := h
  obtain ⟨n, rfl⟩ := Int.eq_ofNat_of_zero_le n0
  obtain ⟨a, rfl⟩ := Int.eq_ofNat_of_zero_le a0
  obtain ⟨b, rfl⟩ := Int.eq_ofNat_of_zero_le b0
  obtain ⟨m, rfl⟩ := Int.eq_ofNat_of_zero_le (show 0 ≤ m by omega)
  have hm : 0 < m := by omega
  have hp : (n : Int) * ((n : Int) - 1) / 2 = ((n * (n - 1) / 2 : Nat) : Int) := by
    cases n with
    | zero => rfl
    | succ n => simp
  have hs := floSum_split n a b m hm
  have q1 : (a : Int) / m = ((a / m : Nat) : Int) := rfl
  have q2 : (b : Int) / m = ((b / m : Nat) : Int) := rfl
  have r1 : (a : Int) % m = ((a % m : Nat) : Int) := rfl
  have r2 : (b : Int) % m = ((b % m : Nat) : Int) := rfl
  have g1 := Nat.mod_lt a hm
  have g2 := Nat.mod_lt b hm
  have ef : floI n a b m = (floSum n a b m : Int) := rfl
  rw [ef, hs] at eq
  have k1 : a % m * n ≤ m * n := Nat.mul_le_mul_right n (by omega)
  have k2 : m * n ≤ 281474976710656 * 256 := Nat.mul_le_mul (by omega) (by omega)
  have l1 : ((a % m * n + b % m : Nat) : Int) / m = (((a % m * n + b % m) / m : Nat) : Int) := rfl
  have l2 : ((a % m * n + b % m : Nat) : Int) % m = (((a % m * n + b % m) % m : Nat) : Int) := rfl
  have l3 : (a % m * n + b % m) / m ≤ n := by
    rw [Nat.div_le_iff_le_mul_add_pred hm]; omega
  have l4 := Nat.mod_lt (a % m * n + b % m) hm
  have d1 : a / m ≤ a := Nat.div_le_self _ _
  have d2 : b / m ≤ b := Nat.div_le_self _ _
  have c1 : (((a % m : Nat) : Int) * (n : Int) + ((b % m : Nat) : Int)) = ((a % m * n + b % m : Nat) : Int) := by simp
  have c2 : ((a / m : Nat) : Int) * ((n * (n - 1) / 2 : Nat) : Int) = ((a / m * (n * (n - 1) / 2) : Nat) : Int) := by simp
  have c3 : ((b / m : Nat) : Int) * (n : Int) = ((b / m * n : Nat) : Int) := by simp
  have c4 : ((a % m : Nat) : Int) * (n : Int) = ((a % m * n : Nat) : Int) := by simp
  have w64 : ∀ x : Nat, x ≤ 100000000000000000 → wrap64 (x : Int) = x := fun x h => by rw [wrap64_eq]; omega
  have c5 : floSum n (a % m) (b % m) m = floSum ((a % m * n + b % m) / m) m ((a % m * n + b % m) % m) (a % m) ∨ a % m * n + b % m < m := by
    rcases Nat.lt_or_ge (a % m * n + b % m) m with h | h
    · exact .inr h
    · refine .inl (floSum_turn n (a % m) (b % m) m ?_ hm g2)
      rcases Nat.eq_zero_or_pos (a % m) with h0 | h0
      · rw [h0] at h; omega
      · exact h0
  have c6 : a % m * n + b % m < m → floSum n (a % m) (b % m) m = 0 := floSum_small n (a % m) (b % m) m hm
  constructor
  · rw [hp]; exact Int.natCast_nonneg _
  · rw [Int.tdiv_eq_ediv_of_nonneg (by omega), q1]; exact w64 _ (by omega)
  · rw [Int.tdiv_eq_ediv_of_nonneg (by omega), q2]; exact w64 _ (by omega)
  · rw [hp, q1, c2]; exact w64 _ (by omega)
  · rw [q2, c3]; exact w64 _ (by omega)
  · rw [hp, q1, c2, q2, c3]; rw [wrap64_eq]; omega
  · rw [hp, q1, c2, q2, c3]; rw [wrap64_eq]; omega
  · exact Int.tmod_eq_emod_of_nonneg (by omega)
  · exact Int.tmod_eq_emod_of_nonneg (by omega)
  · rw [r1, c4]; exact w64 _ (by omega)
  · rw [r1, r2, c1]; exact w64 _ (by omega)
  · rw [r1, r2, c1, Int.tdiv_eq_ediv_of_nonneg (by omega), l1]; exact w64 _ (by omega)
  · rw [r1, r2, c1]; exact Int.tmod_eq_emod_of_nonneg (by omega)
  · intro h
    rw [r1, r2, c1] at h
    have := c6 (by omega)
    rw [hp, q1, c2, q2, c3]; omega
  · intro h
    rw [r1, r2, c1] at h
    rw [hp, q1, c2, q2, c3, r1, r2, c1, l1, l2]
    refine ⟨⟨Int.natCast_nonneg _, Int.ofNat_le.2 (show _ ≤ 256 by omega), Int.natCast_nonneg _, m1, Int.natCast_nonneg _, Int.ofNat_le.2 (show _ ≤ 281474976710656 by omega), ?_, Int.ofNat_le.2 (show _ ≤ 281474976710656 by omega), ?_, ?_, F1⟩, ?_⟩
    · rcases Nat.eq_zero_or_pos (a % m) with h0 | h0
      · rw [h0] at h; omega
      · exact Int.ofNat_le.2 (show 1 ≤ _ from h0)
    · have := Int.natCast_nonneg (a / m * (n * (n - 1) / 2)); have := Int.natCast_nonneg (b / m * n); omega
    · have e : floI (((a % m * n + b % m) / m : Nat) : Int) (m : Int) (((a % m * n + b % m) % m : Nat) : Int) ((a % m : Nat) : Int) = (floSum ((a % m * n + b % m) / m) m ((a % m * n + b % m) % m) (a % m) : Int) := rfl
      rw [e]
      rcases c5 with h5 | h5
      · rw [← h5]; omega
      · omega
    · show a % m < m; exact g1
end Go.Proofs.YtbanjolokkghdaaGreatDoor
namespace Go.Proofs.YtbanjolokkghdaaGreatDoor
open Go.RowKit

end Go.Proofs.YtbanjolokkghdaaGreatDoor
namespace Go.Proofs.YtbanjolokkghdaaGreatDoor
open Go.RowKit
/-- What a row is laid as: the sum so far, how many, the two numbers, the divisor. -/
def rowCells (s n a b m : Int) : Array Value := #[.int .i64 (hiW s), .int .u64 (loW s), .int .i64 n, .int .i64 (hiW a), .int .u64 (loW a), .int .i64 (hiW b), .int .u64 (loW b), .int .i64 m]
end Go.Proofs.YtbanjolokkghdaaGreatDoor
