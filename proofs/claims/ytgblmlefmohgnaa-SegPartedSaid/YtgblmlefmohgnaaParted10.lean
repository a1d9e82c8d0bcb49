/- For every segment that comes in, whatever is in it, and all a, mid, b: SegParted returns true; the arguments read as before. No condition. -/
import Derived.Test.YtgblmlefmohgnaaRows
import Derived.ProofKit
import Derived.Deep.Slices
import Derived.OpenShut
import Derived.Test.YtgblmlefmohgnaaParted9
set_option linter.unusedSimpArgs false
set_option linter.unusedVariables false
namespace Go.Proofs.Ytgblmlefmohgnaa
open Go.RowKit
theorem SegIn.alloc {w : World} {s : SegT} {p q : Option Addr} (h : SegIn w s p q) (o : Obj) : SegIn (w.alloc o) s p q := h.below ((Below.refl _ _).alloc (Nat.le_refl _) o)
theorem SegIn.rex {L : List Nat} {w w' : World} {s : SegT} {p q : Option Addr} (h : SegIn w s p q) (hr : Rex L w w') (hL : L = []) : SegIn w' s p q := by subst hL; exact h.below hr.below
theorem segAny {w : World} {s : SegT} {p q : Option Addr} (h : SegIn w s p q := by repeat (first | with_reducible assumption | with_reducible (refine SegIn.alloc ?_ _) | with_reducible (refine SegIn.below ?_ (by assumption)))) : SegIn w s p q := h
set_option maxRecDepth 100000 in
set_option maxHeartbeats 2000000 in
theorem parted_seg (K A R n d E : Int) (p q : Option Addr) (len cap m vc : Nat) (w : World) (len2 m2 : Nat) (s' : SegT) (a mid b x0 x1 x2 x3 x4 y0 y1 y2 y3 y4 t0 t1 t2 t3 t4 : Int) (h1 : a ≤ mid) (h2 : mid < b) (hb : -9223372036854775808 ≤ mid ∧ b ≤ 9223372036854775807)
    (c1 : ∀ W, Below w.heap.size w W → Calls Try.prog 4 #[] W fun e w' => e = .returned (.bool true) ∧ Below W.heap.size W w')
    (c2 : ∀ W, Below w.heap.size w W → Calls Try.prog 5 #[.agg #[.int .i64 K, .slice p len cap, .int .i64 A, .int .i64 R, .int .i64 n, .int .i64 d, .slice q m vc, .int .i64 E]] W fun e w' => ∃ p' cap' q' vc', e = .returned (.agg #[.int .i64 K, .slice p' len2 cap', .int .i64 A, .int .i64 R, .int .i64 n, .int .i64 d, .slice q' m2 vc', .int .i64 E]) ∧ Below W.heap.size W w' ∧ SegIn w' s' p' q' ∧ m2 ≤ vc')
    (c3 : ∀ W p' q' cap' vc', SegIn W s' p' q' → m2 ≤ vc' → Calls Try.prog 6 #[.agg #[.int .i64 K, .slice p' len2 cap', .int .i64 A, .int .i64 R, .int .i64 n, .int .i64 d, .slice q' m2 vc', .int .i64 E], .int .i64 a, .int .i64 mid] W fun e w' => e = .returned (.tuple #[.agg #[.int .i64 x0, .int .i64 x1, .int .i64 x2, .int .i64 x3, .int .u64 x4], .int .i64 210]) ∧ Below W.heap.size W w')
    (c4 : ∀ W p' q' cap' vc', SegIn W s' p' q' → m2 ≤ vc' → Calls Try.prog 6 #[.agg #[.int .i64 K, .slice p' len2 cap', .int .i64 A, .int .i64 R, .int .i64 n, .int .i64 d, .slice q' m2 vc', .int .i64 E], .int .i64 (mid + 1), .int .i64 b] W fun e w' => e = .returned (.tuple #[.agg #[.int .i64 y0, .int .i64 y1, .int .i64 y2, .int .i64 y3, .int .u64 y4], .int .i64 210]) ∧ Below W.heap.size W w')
    (c5 : ∀ W p' q' cap' vc', SegIn W s' p' q' → m2 ≤ vc' → Calls Try.prog 6 #[.agg #[.int .i64 K, .slice p' len2 cap', .int .i64 A, .int .i64 R, .int .i64 n, .int .i64 d, .slice q' m2 vc', .int .i64 E], .int .i64 a, .int .i64 b] W fun e w' => e = .returned (.tuple #[.agg #[.int .i64 t0, .int .i64 t1, .int .i64 t2, .int .i64 t3, .int .u64 t4], .int .i64 210]) ∧ Below W.heap.size W w')
     :
    Calls Try.prog 3 #[.agg #[.int .i64 K, .slice p len cap, .int .i64 A, .int .i64 R, .int .i64 n, .int .i64 d, .slice q m vc, .int .i64 E], .int .i64 a, .int .i64 mid, .int .i64 b] w fun e w' => e = .returned (.bool true) ∧ Below w.heap.size w w' := by
  have H_c1 := Lib.hid c1
  clear c1
  have H_c2 := Lib.hid c2
  clear c2
  have H_c3 := Lib.hid c3
  clear c3
  have H_c4 := Lib.hid c4
  clear c4
  have H_c5 := Lib.hid c5
  clear c5
  go_enter Try.func3, Try.ntmps3
  go_upto_region 1 with (fail)
  refine wp_facts (fun W' => Below w.heap.size w W' ∧ Blk W' w.heap.size #[.int .i64 K, .slice p len cap, .int .i64 A, .int .i64 R, .int .i64 n, .int .i64 d, .slice q m vc, .int .i64 E] 27) ⟨by exact belowAny, by exact blkAny⟩ ?_
  rintro W1 ⟨hW, b1⟩
  have z2 := hW.size
  have z3 := b1.lt
  have k1 := b1.cell
  have f1 := b1.frozen
  have c1 := H_c1.out
  go_wp2_with fail
  refine (c1 _ (belowAny)).mono ?_
  rintro e w4 ⟨rfl, hb4⟩
  clear c1
  have z5 := hb4.size
  try simp at z5
  clear k1 f1
  have b1 : Blk w4 w.heap.size #[.int .i64 K, .slice p len cap, .int .i64 A, .int .i64 R, .int .i64 n, .int .i64 d, .slice q m vc, .int .i64 E] 27 := by exact blkAny
  have hW : Below w.heap.size w w4 := by exact belowAny
  have z6 := b1.lt
  clear hb4
  have k1 := b1.cell
  have f1 := b1.frozen
  have c2 := H_c2.out
  go_wp2_with fail
  refine (c2 _ (belowAny)).mono ?_
  rintro e w7 ⟨p', cap', q', vc', rfl, hb7, hS, hvc⟩
  clear c2
  have z8 := hb7.size
  try simp at z8
  clear k1 f1
  have b1 : Blk w7 w.heap.size #[.int .i64 K, .slice p len cap, .int .i64 A, .int .i64 R, .int .i64 n, .int .i64 d, .slice q m vc, .int .i64 E] 27 := by exact blkAny
  have hW : Below w.heap.size w w7 := by exact belowAny
  have z9 := b1.lt
  have k1 := b1.cell
  have f1 := b1.frozen
  have b2 := hS
  clear hS
  have c3 := H_c3.out
  go_wp2_with fail
  refine (c3 _ p' q' cap' vc' segAny hvc).mono ?_
  rintro e w10 ⟨rfl, hb10⟩
  clear c3
  have z11 := hb10.size
  try simp at z11
  clear k1 f1
  have b1 : Blk w10 w.heap.size #[.int .i64 K, .slice p len cap, .int .i64 A, .int .i64 R, .int .i64 n, .int .i64 d, .slice q m vc, .int .i64 E] 27 := by exact blkAny
  have b2 : SegIn w10 s' p' q' := by exact segAny
  have b3 : Blk w10 w7.heap.size #[.int .i64 K, .slice p' len2 cap', .int .i64 A, .int .i64 R, .int .i64 n, .int .i64 d, .slice q' m2 vc', .int .i64 E] 27 := by exact blkAny
  have hW : Below w.heap.size w w10 := by exact belowAny
  have z12 := b1.lt
  have z13 := b3.lt
  clear hb10
  have k1 := b1.cell
  have f1 := b1.frozen
  have k3 := b3.cell
  have f3 := b3.frozen
  have c4 := H_c4.out
  go_wp2_with fail
  refine (c4 _ p' q' cap' vc' segAny hvc).mono ?_
  rintro e w14 ⟨rfl, hb14⟩
  clear c4
  have z15 := hb14.size
  try simp at z15
  clear k1 f1 k3 f3
  have b1 : Blk w14 w.heap.size #[.int .i64 K, .slice p len cap, .int .i64 A, .int .i64 R, .int .i64 n, .int .i64 d, .slice q m vc, .int .i64 E] 27 := by exact blkAny
  have b2 : SegIn w14 s' p' q' := by exact segAny
  have b3 : Blk w14 w7.heap.size #[.int .i64 K, .slice p' len2 cap', .int .i64 A, .int .i64 R, .int .i64 n, .int .i64 d, .slice q' m2 vc', .int .i64 E] 27 := by exact blkAny
  have b4 : Blk w14 w10.heap.size #[.int .i64 x0, .int .i64 x1, .int .i64 x2, .int .i64 x3, .int .u64 x4] 34 := by exact blkAny
  have hW : Below w.heap.size w w14 := by exact belowAny
  have z16 := b1.lt
  have z17 := b3.lt
  have z18 := b4.lt
  clear hb14
  have k1 := b1.cell
  have f1 := b1.frozen
  have k3 := b3.cell
  have f3 := b3.frozen
  have k4 := b4.cell
  have f4 := b4.frozen
  have c5 := H_c5.out
  go_wp2_with fail
  refine (c5 _ p' q' cap' vc' segAny hvc).mono ?_
  rintro e w19 ⟨rfl, hb19⟩
  clear c5
  have z20 := hb19.size
  try simp at z20
  clear k1 f1 k3 f3 k4 f4
  have b1 : Blk w19 w.heap.size #[.int .i64 K, .slice p len cap, .int .i64 A, .int .i64 R, .int .i64 n, .int .i64 d, .slice q m vc, .int .i64 E] 27 := by exact blkAny
  have b2 : SegIn w19 s' p' q' := by exact segAny
  have b3 : Blk w19 w7.heap.size #[.int .i64 K, .slice p' len2 cap', .int .i64 A, .int .i64 R, .int .i64 n, .int .i64 d, .slice q' m2 vc', .int .i64 E] 27 := by exact blkAny
  have b4 : Blk w19 w10.heap.size #[.int .i64 x0, .int .i64 x1, .int .i64 x2, .int .i64 x3, .int .u64 x4] 34 := by exact blkAny
  have b5 : Blk w19 w14.heap.size #[.int .i64 y0, .int .i64 y1, .int .i64 y2, .int .i64 y3, .int .u64 y4] 34 := by exact blkAny
  have hW : Below w.heap.size w w19 := by exact belowAny
  have z21 := b1.lt
  have z22 := b3.lt
  have z23 := b4.lt
  have z24 := b5.lt
  clear hb19
  have k1 := b1.cell
  have f1 := b1.frozen
  have k3 := b3.cell
  have f3 := b3.frozen
  have k4 := b4.cell
  have f4 := b4.frozen
  have k5 := b5.cell
  have f5 := b5.frozen
  go_wp2
  have y_1 := b1.lt
  have y_3 := b3.lt
  have y_4 := b4.lt
  have y_5 := b5.lt
  refine bodyPost_ret (v := .bool true) (by simp [results, Try.results3, go_sem, k1, f1, k3, f3, k4, f4, k5, f5, y_1, y_3, y_4, y_5]) rfl ⟨rfl, by exact belowAny⟩

set_option maxRecDepth 100000 in
set_option maxHeartbeats 2000000 in
theorem parted_none (K A R n d E : Int) (p q : Option Addr) (len cap m vc : Nat) (w : World) (len2 m2 : Nat) (s' : SegT) (a mid b x0 x1 x2 x3 x4 y0 y1 y2 y3 y4 t0 t1 t2 t3 t4 : Int) (h1 : a ≤ mid) (h2 : mid < b) (hb : -9223372036854775808 ≤ mid ∧ b ≤ 9223372036854775807)
    (c1 : ∀ W, Below w.heap.size w W → Calls Try.prog 4 #[] W fun e w' => e = .returned (.bool true) ∧ Below W.heap.size W w')
    (c2 : ∀ W, Below w.heap.size w W → Calls Try.prog 5 #[.agg #[.int .i64 K, .slice p len cap, .int .i64 A, .int .i64 R, .int .i64 n, .int .i64 d, .slice q m vc, .int .i64 E]] W fun e w' => ∃ p' cap' q' vc', e = .returned (.agg #[.int .i64 K, .slice p' len2 cap', .int .i64 A, .int .i64 R, .int .i64 n, .int .i64 d, .slice q' m2 vc', .int .i64 E]) ∧ Below W.heap.size W w' ∧ SegIn w' s' p' q' ∧ m2 ≤ vc')
    (c3 : ∀ W p' q' cap' vc', SegIn W s' p' q' → m2 ≤ vc' → Calls Try.prog 6 #[.agg #[.int .i64 K, .slice p' len2 cap', .int .i64 A, .int .i64 R, .int .i64 n, .int .i64 d, .slice q' m2 vc', .int .i64 E], .int .i64 a, .int .i64 mid] W fun e w' => e = .returned (.tuple #[.agg #[.int .i64 x0, .int .i64 x1, .int .i64 x2, .int .i64 x3, .int .u64 x4], .int .i64 9]) ∧ Below W.heap.size W w')
    (c4 : ∀ W p' q' cap' vc', SegIn W s' p' q' → m2 ≤ vc' → Calls Try.prog 6 #[.agg #[.int .i64 K, .slice p' len2 cap', .int .i64 A, .int .i64 R, .int .i64 n, .int .i64 d, .slice q' m2 vc', .int .i64 E], .int .i64 (mid + 1), .int .i64 b] W fun e w' => e = .returned (.tuple #[.agg #[.int .i64 y0, .int .i64 y1, .int .i64 y2, .int .i64 y3, .int .u64 y4], .int .i64 9]) ∧ Below W.heap.size W w')
    (c5 : ∀ W p' q' cap' vc', SegIn W s' p' q' → m2 ≤ vc' → Calls Try.prog 6 #[.agg #[.int .i64 K, .slice p' len2 cap', .int .i64 A, .int .i64 R, .int .i64 n, .int .i64 d, .slice q' m2 vc', .int .i64 E], .int .i64 a, .int .i64 b] W fun e w' => e = .returned (.tuple #[.agg #[.int .i64 y0, .int .i64 y1, .int .i64 y2, .int .i64 y3, .int .u64 y4], .int .i64 9]) ∧ Below W.heap.size W w')
     :
    Calls Try.prog 3 #[.agg #[.int .i64 K, .slice p len cap, .int .i64 A, .int .i64 R, .int .i64 n, .int .i64 d, .slice q m vc, .int .i64 E], .int .i64 a, .int .i64 mid, .int .i64 b] w fun e w' => e = .returned (.bool true) ∧ Below w.heap.size w w' := by
  have H_c1 := Lib.hid c1
  clear c1
  have H_c2 := Lib.hid c2
  clear c2
  have H_c3 := Lib.hid c3
  clear c3
  have H_c4 := Lib.hid c4
  clear c4
  have H_c5 := Lib.hid c5
  clear c5
  go_enter Try.func3, Try.ntmps3
  go_upto_region 1 with (fail)
  refine wp_facts (fun W' => Below w.heap.size w W' ∧ Blk W' w.heap.size #[.int .i64 K, .slice p len cap, .int .i64 A, .int .i64 R, .int .i64 n, .int .i64 d, .slice q m vc, .int .i64 E] 27) ⟨by exact belowAny, by exact blkAny⟩ ?_
  rintro W1 ⟨hW, b1⟩
  have z2 := hW.size
  have z3 := b1.lt
  have k1 := b1.cell
  have f1 := b1.frozen
  have c1 := H_c1.out
  go_wp2_with fail
  refine (c1 _ (belowAny)).mono ?_
  rintro e w4 ⟨rfl, hb4⟩
  clear c1
  have z5 := hb4.size
  try simp at z5
  clear k1 f1
  have b1 : Blk w4 w.heap.size #[.int .i64 K, .slice p len cap, .int .i64 A, .int .i64 R, .int .i64 n, .int .i64 d, .slice q m vc, .int .i64 E] 27 := by exact blkAny
  have hW : Below w.heap.size w w4 := by exact belowAny
  have z6 := b1.lt
  clear hb4
  have k1 := b1.cell
  have f1 := b1.frozen
  have c2 := H_c2.out
  go_wp2_with fail
  refine (c2 _ (belowAny)).mono ?_
  rintro e w7 ⟨p', cap', q', vc', rfl, hb7, hS, hvc⟩
  clear c2
  have z8 := hb7.size
  try simp at z8
  clear k1 f1
  have b1 : Blk w7 w.heap.size #[.int .i64 K, .slice p len cap, .int .i64 A, .int .i64 R, .int .i64 n, .int .i64 d, .slice q m vc, .int .i64 E] 27 := by exact blkAny
  have hW : Below w.heap.size w w7 := by exact belowAny
  have z9 := b1.lt
  have k1 := b1.cell
  have f1 := b1.frozen
  have b2 := hS
  clear hS
  have c3 := H_c3.out
  go_wp2_with fail
  refine (c3 _ p' q' cap' vc' segAny hvc).mono ?_
  rintro e w10 ⟨rfl, hb10⟩
  clear c3
  have z11 := hb10.size
  try simp at z11
  clear k1 f1
  have b1 : Blk w10 w.heap.size #[.int .i64 K, .slice p len cap, .int .i64 A, .int .i64 R, .int .i64 n, .int .i64 d, .slice q m vc, .int .i64 E] 27 := by exact blkAny
  have b2 : SegIn w10 s' p' q' := by exact segAny
  have b3 : Blk w10 w7.heap.size #[.int .i64 K, .slice p' len2 cap', .int .i64 A, .int .i64 R, .int .i64 n, .int .i64 d, .slice q' m2 vc', .int .i64 E] 27 := by exact blkAny
  have hW : Below w.heap.size w w10 := by exact belowAny
  have z12 := b1.lt
  have z13 := b3.lt
  clear hb10
  have k1 := b1.cell
  have f1 := b1.frozen
  have k3 := b3.cell
  have f3 := b3.frozen
  have c4 := H_c4.out
  go_wp2_with fail
  refine (c4 _ p' q' cap' vc' segAny hvc).mono ?_
  rintro e w14 ⟨rfl, hb14⟩
  clear c4
  have z15 := hb14.size
  try simp at z15
  clear k1 f1 k3 f3
  have b1 : Blk w14 w.heap.size #[.int .i64 K, .slice p len cap, .int .i64 A, .int .i64 R, .int .i64 n, .int .i64 d, .slice q m vc, .int .i64 E] 27 := by exact blkAny
  have b2 : SegIn w14 s' p' q' := by exact segAny
  have b3 : Blk w14 w7.heap.size #[.int .i64 K, .slice p' len2 cap', .int .i64 A, .int .i64 R, .int .i64 n, .int .i64 d, .slice q' m2 vc', .int .i64 E] 27 := by exact blkAny
  have b4 : Blk w14 w10.heap.size #[.int .i64 x0, .int .i64 x1, .int .i64 x2, .int .i64 x3, .int .u64 x4] 34 := by exact blkAny
  have hW : Below w.heap.size w w14 := by exact belowAny
  have z16 := b1.lt
  have z17 := b3.lt
  have z18 := b4.lt
  clear hb14
  have k1 := b1.cell
  have f1 := b1.frozen
  have k3 := b3.cell
  have f3 := b3.frozen
  have k4 := b4.cell
  have f4 := b4.frozen
  have c5 := H_c5.out
  go_wp2_with fail
  refine (c5 _ p' q' cap' vc' segAny hvc).mono ?_
  rintro e w19 ⟨rfl, hb19⟩
  clear c5
  have z20 := hb19.size
  try simp at z20
  clear k1 f1 k3 f3 k4 f4
  have b1 : Blk w19 w.heap.size #[.int .i64 K, .slice p len cap, .int .i64 A, .int .i64 R, .int .i64 n, .int .i64 d, .slice q m vc, .int .i64 E] 27 := by exact blkAny
  have b2 : SegIn w19 s' p' q' := by exact segAny
  have b3 : Blk w19 w7.heap.size #[.int .i64 K, .slice p' len2 cap', .int .i64 A, .int .i64 R, .int .i64 n, .int .i64 d, .slice q' m2 vc', .int .i64 E] 27 := by exact blkAny
  have b4 : Blk w19 w10.heap.size #[.int .i64 x0, .int .i64 x1, .int .i64 x2, .int .i64 x3, .int .u64 x4] 34 := by exact blkAny
  have b5 : Blk w19 w14.heap.size #[.int .i64 y0, .int .i64 y1, .int .i64 y2, .int .i64 y3, .int .u64 y4] 34 := by exact blkAny
  have hW : Below w.heap.size w w19 := by exact belowAny
  have z21 := b1.lt
  have z22 := b3.lt
  have z23 := b4.lt
  have z24 := b5.lt
  clear hb19
  have k1 := b1.cell
  have f1 := b1.frozen
  have k3 := b3.cell
  have f3 := b3.frozen
  have k4 := b4.cell
  have f4 := b4.frozen
  have k5 := b5.cell
  have f5 := b5.frozen
  go_wp2
  have y_1 := b1.lt
  have y_3 := b3.lt
  have y_4 := b4.lt
  have y_5 := b5.lt
  refine bodyPost_ret (v := .bool true) (by simp [results, Try.results3, go_sem, k1, f1, k3, f3, k4, f4, k5, f5, y_1, y_3, y_4, y_5]) rfl ⟨rfl, by exact belowAny⟩

set_option maxRecDepth 100000 in
set_option maxHeartbeats 2000000 in
theorem parted_left (K A R n d E : Int) (p q : Option Addr) (len cap m vc : Nat) (w : World) (len2 m2 : Nat) (s' : SegT) (a mid b x0 x1 x2 x3 x4 y0 y1 y2 y3 y4 t0 t1 t2 t3 t4 : Int) (h1 : a ≤ mid) (h2 : mid < b) (hb : -9223372036854775808 ≤ mid ∧ b ≤ 9223372036854775807)
    (c1 : ∀ W, Below w.heap.size w W → Calls Try.prog 4 #[] W fun e w' => e = .returned (.bool true) ∧ Below W.heap.size W w')
    (c2 : ∀ W, Below w.heap.size w W → Calls Try.prog 5 #[.agg #[.int .i64 K, .slice p len cap, .int .i64 A, .int .i64 R, .int .i64 n, .int .i64 d, .slice q m vc, .int .i64 E]] W fun e w' => ∃ p' cap' q' vc', e = .returned (.agg #[.int .i64 K, .slice p' len2 cap', .int .i64 A, .int .i64 R, .int .i64 n, .int .i64 d, .slice q' m2 vc', .int .i64 E]) ∧ Below W.heap.size W w' ∧ SegIn w' s' p' q' ∧ m2 ≤ vc')
    (c3 : ∀ W p' q' cap' vc', SegIn W s' p' q' → m2 ≤ vc' → Calls Try.prog 6 #[.agg #[.int .i64 K, .slice p' len2 cap', .int .i64 A, .int .i64 R, .int .i64 n, .int .i64 d, .slice q' m2 vc', .int .i64 E], .int .i64 a, .int .i64 mid] W fun e w' => e = .returned (.tuple #[.agg #[.int .i64 x0, .int .i64 x1, .int .i64 x2, .int .i64 x3, .int .u64 x4], .int .i64 9]) ∧ Below W.heap.size W w')
    (c4 : ∀ W p' q' cap' vc', SegIn W s' p' q' → m2 ≤ vc' → Calls Try.prog 6 #[.agg #[.int .i64 K, .slice p' len2 cap', .int .i64 A, .int .i64 R, .int .i64 n, .int .i64 d, .slice q' m2 vc', .int .i64 E], .int .i64 (mid + 1), .int .i64 b] W fun e w' => e = .returned (.tuple #[.agg #[.int .i64 y0, .int .i64 y1, .int .i64 y2, .int .i64 y3, .int .u64 y4], .int .i64 0]) ∧ Below W.heap.size W w')
    (c5 : ∀ W p' q' cap' vc', SegIn W s' p' q' → m2 ≤ vc' → Calls Try.prog 6 #[.agg #[.int .i64 K, .slice p' len2 cap', .int .i64 A, .int .i64 R, .int .i64 n, .int .i64 d, .slice q' m2 vc', .int .i64 E], .int .i64 a, .int .i64 b] W fun e w' => e = .returned (.tuple #[.agg #[.int .i64 y0, .int .i64 y1, .int .i64 y2, .int .i64 y3, .int .u64 y4], .int .i64 0]) ∧ Below W.heap.size W w')
     :
    Calls Try.prog 3 #[.agg #[.int .i64 K, .slice p len cap, .int .i64 A, .int .i64 R, .int .i64 n, .int .i64 d, .slice q m vc, .int .i64 E], .int .i64 a, .int .i64 mid, .int .i64 b] w fun e w' => e = .returned (.bool true) ∧ Below w.heap.size w w' := by
  have H_c1 := Lib.hid c1
  clear c1
  have H_c2 := Lib.hid c2
  clear c2
  have H_c3 := Lib.hid c3
  clear c3
  have H_c4 := Lib.hid c4
  clear c4
  have H_c5 := Lib.hid c5
  clear c5
  go_enter Try.func3, Try.ntmps3
  go_upto_region 1 with (fail)
  refine wp_facts (fun W' => Below w.heap.size w W' ∧ Blk W' w.heap.size #[.int .i64 K, .slice p len cap, .int .i64 A, .int .i64 R, .int .i64 n, .int .i64 d, .slice q m vc, .int .i64 E] 27) ⟨by exact belowAny, by exact blkAny⟩ ?_
  rintro W1 ⟨hW, b1⟩
  have z2 := hW.size
  have z3 := b1.lt
  have k1 := b1.cell
  have f1 := b1.frozen
  have c1 := H_c1.out
  go_wp2_with fail
  refine (c1 _ (belowAny)).mono ?_
  rintro e w4 ⟨rfl, hb4⟩
  clear c1
  have z5 := hb4.size
  try simp at z5
  clear k1 f1
  have b1 : Blk w4 w.heap.size #[.int .i64 K, .slice p len cap, .int .i64 A, .int .i64 R, .int .i64 n, .int .i64 d, .slice q m vc, .int .i64 E] 27 := by exact blkAny
  have hW : Below w.heap.size w w4 := by exact belowAny
  have z6 := b1.lt
  clear hb4
  have k1 := b1.cell
  have f1 := b1.frozen
  have c2 := H_c2.out
  go_wp2_with fail
  refine (c2 _ (belowAny)).mono ?_
  rintro e w7 ⟨p', cap', q', vc', rfl, hb7, hS, hvc⟩
  clear c2
  have z8 := hb7.size
  try simp at z8
  clear k1 f1
  have b1 : Blk w7 w.heap.size #[.int .i64 K, .slice p len cap, .int .i64 A, .int .i64 R, .int .i64 n, .int .i64 d, .slice q m vc, .int .i64 E] 27 := by exact blkAny
  have hW : Below w.heap.size w w7 := by exact belowAny
  have z9 := b1.lt
  have k1 := b1.cell
  have f1 := b1.frozen
  have b2 := hS
  clear hS
  have c3 := H_c3.out
  go_wp2_with fail
  refine (c3 _ p' q' cap' vc' segAny hvc).mono ?_
  rintro e w10 ⟨rfl, hb10⟩
  clear c3
  have z11 := hb10.size
  try simp at z11
  clear k1 f1
  have b1 : Blk w10 w.heap.size #[.int .i64 K, .slice p len cap, .int .i64 A, .int .i64 R, .int .i64 n, .int .i64 d, .slice q m vc, .int .i64 E] 27 := by exact blkAny
  have b2 : SegIn w10 s' p' q' := by exact segAny
  have b3 : Blk w10 w7.heap.size #[.int .i64 K, .slice p' len2 cap', .int .i64 A, .int .i64 R, .int .i64 n, .int .i64 d, .slice q' m2 vc', .int .i64 E] 27 := by exact blkAny
  have hW : Below w.heap.size w w10 := by exact belowAny
  have z12 := b1.lt
  have z13 := b3.lt
  clear hb10
  have k1 := b1.cell
  have f1 := b1.frozen
  have k3 := b3.cell
  have f3 := b3.frozen
  have c4 := H_c4.out
  go_wp2_with fail
  refine (c4 _ p' q' cap' vc' segAny hvc).mono ?_
  rintro e w14 ⟨rfl, hb14⟩
  clear c4
  have z15 := hb14.size
  try simp at z15
  clear k1 f1 k3 f3
  have b1 : Blk w14 w.heap.size #[.int .i64 K, .slice p len cap, .int .i64 A, .int .i64 R, .int .i64 n, .int .i64 d, .slice q m vc, .int .i64 E] 27 := by exact blkAny
  have b2 : SegIn w14 s' p' q' := by exact segAny
  have b3 : Blk w14 w7.heap.size #[.int .i64 K, .slice p' len2 cap', .int .i64 A, .int .i64 R, .int .i64 n, .int .i64 d, .slice q' m2 vc', .int .i64 E] 27 := by exact blkAny
  have b4 : Blk w14 w10.heap.size #[.int .i64 x0, .int .i64 x1, .int .i64 x2, .int .i64 x3, .int .u64 x4] 34 := by exact blkAny
  have hW : Below w.heap.size w w14 := by exact belowAny
  have z16 := b1.lt
  have z17 := b3.lt
  have z18 := b4.lt
  clear hb14
  have k1 := b1.cell
  have f1 := b1.frozen
  have k3 := b3.cell
  have f3 := b3.frozen
  have k4 := b4.cell
  have f4 := b4.frozen
  have c5 := H_c5.out
  go_wp2_with fail
  refine (c5 _ p' q' cap' vc' segAny hvc).mono ?_
  rintro e w19 ⟨rfl, hb19⟩
  clear c5
  have z20 := hb19.size
  try simp at z20
  clear k1 f1 k3 f3 k4 f4
  have b1 : Blk w19 w.heap.size #[.int .i64 K, .slice p len cap, .int .i64 A, .int .i64 R, .int .i64 n, .int .i64 d, .slice q m vc, .int .i64 E] 27 := by exact blkAny
  have b2 : SegIn w19 s' p' q' := by exact segAny
  have b3 : Blk w19 w7.heap.size #[.int .i64 K, .slice p' len2 cap', .int .i64 A, .int .i64 R, .int .i64 n, .int .i64 d, .slice q' m2 vc', .int .i64 E] 27 := by exact blkAny
  have b4 : Blk w19 w10.heap.size #[.int .i64 x0, .int .i64 x1, .int .i64 x2, .int .i64 x3, .int .u64 x4] 34 := by exact blkAny
  have b5 : Blk w19 w14.heap.size #[.int .i64 y0, .int .i64 y1, .int .i64 y2, .int .i64 y3, .int .u64 y4] 34 := by exact blkAny
  have hW : Below w.heap.size w w19 := by exact belowAny
  have z21 := b1.lt
  have z22 := b3.lt
  have z23 := b4.lt
  have z24 := b5.lt
  clear hb19
  have k1 := b1.cell
  have f1 := b1.frozen
  have k3 := b3.cell
  have f3 := b3.frozen
  have k4 := b4.cell
  have f4 := b4.frozen
  have k5 := b5.cell
  have f5 := b5.frozen
  go_wp2
  have y_1 := b1.lt
  have y_3 := b3.lt
  have y_4 := b4.lt
  have y_5 := b5.lt
  refine bodyPost_ret (v := .bool true) (by simp [results, Try.results3, go_sem, k1, f1, k3, f3, k4, f4, k5, f5, y_1, y_3, y_4, y_5]) rfl ⟨rfl, by exact belowAny⟩

set_option maxRecDepth 100000 in
set_option maxHeartbeats 2000000 in
theorem parted_right (K A R n d E : Int) (p q : Option Addr) (len cap m vc : Nat) (w : World) (len2 m2 : Nat) (s' : SegT) (a mid b x0 x1 x2 x3 x4 y0 y1 y2 y3 y4 t0 t1 t2 t3 t4 : Int) (h1 : a ≤ mid) (h2 : mid < b) (hb : -9223372036854775808 ≤ mid ∧ b ≤ 9223372036854775807)
    (c1 : ∀ W, Below w.heap.size w W → Calls Try.prog 4 #[] W fun e w' => e = .returned (.bool true) ∧ Below W.heap.size W w')
    (c2 : ∀ W, Below w.heap.size w W → Calls Try.prog 5 #[.agg #[.int .i64 K, .slice p len cap, .int .i64 A, .int .i64 R, .int .i64 n, .int .i64 d, .slice q m vc, .int .i64 E]] W fun e w' => ∃ p' cap' q' vc', e = .returned (.agg #[.int .i64 K, .slice p' len2 cap', .int .i64 A, .int .i64 R, .int .i64 n, .int .i64 d, .slice q' m2 vc', .int .i64 E]) ∧ Below W.heap.size W w' ∧ SegIn w' s' p' q' ∧ m2 ≤ vc')
    (c3 : ∀ W p' q' cap' vc', SegIn W s' p' q' → m2 ≤ vc' → Calls Try.prog 6 #[.agg #[.int .i64 K, .slice p' len2 cap', .int .i64 A, .int .i64 R, .int .i64 n, .int .i64 d, .slice q' m2 vc', .int .i64 E], .int .i64 a, .int .i64 mid] W fun e w' => e = .returned (.tuple #[.agg #[.int .i64 x0, .int .i64 x1, .int .i64 x2, .int .i64 x3, .int .u64 x4], .int .i64 0]) ∧ Below W.heap.size W w')
    (c4 : ∀ W p' q' cap' vc', SegIn W s' p' q' → m2 ≤ vc' → Calls Try.prog 6 #[.agg #[.int .i64 K, .slice p' len2 cap', .int .i64 A, .int .i64 R, .int .i64 n, .int .i64 d, .slice q' m2 vc', .int .i64 E], .int .i64 (mid + 1), .int .i64 b] W fun e w' => e = .returned (.tuple #[.agg #[.int .i64 y0, .int .i64 y1, .int .i64 y2, .int .i64 y3, .int .u64 y4], .int .i64 9]) ∧ Below W.heap.size W w')
    (c5 : ∀ W p' q' cap' vc', SegIn W s' p' q' → m2 ≤ vc' → Calls Try.prog 6 #[.agg #[.int .i64 K, .slice p' len2 cap', .int .i64 A, .int .i64 R, .int .i64 n, .int .i64 d, .slice q' m2 vc', .int .i64 E], .int .i64 a, .int .i64 b] W fun e w' => e = .returned (.tuple #[.agg #[.int .i64 x0, .int .i64 x1, .int .i64 x2, .int .i64 x3, .int .u64 x4], .int .i64 0]) ∧ Below W.heap.size W w')
     :
    Calls Try.prog 3 #[.agg #[.int .i64 K, .slice p len cap, .int .i64 A, .int .i64 R, .int .i64 n, .int .i64 d, .slice q m vc, .int .i64 E], .int .i64 a, .int .i64 mid, .int .i64 b] w fun e w' => e = .returned (.bool true) ∧ Below w.heap.size w w' := by
  have H_c1 := Lib.hid c1
  clear c1
  have H_c2 := Lib.hid c2
  clear c2
  have H_c3 := Lib.hid c3
  clear c3
  have H_c4 := Lib.hid c4
  clear c4
  have H_c5 := Lib.hid c5
  clear c5
  go_enter Try.func3, Try.ntmps3
  go_upto_region 1 with (fail)
  refine wp_facts (fun W' => Below w.heap.size w W' ∧ Blk W' w.heap.size #[.int .i64 K, .slice p len cap, .int .i64 A, .int .i64 R, .int .i64 n, .int .i64 d, .slice q m vc, .int .i64 E] 27) ⟨by exact belowAny, by exact blkAny⟩ ?_
  rintro W1 ⟨hW, b1⟩
  have z2 := hW.size
  have z3 := b1.lt
  have k1 := b1.cell
  have f1 := b1.frozen
  have c1 := H_c1.out
  go_wp2_with fail
  refine (c1 _ (belowAny)).mono ?_
  rintro e w4 ⟨rfl, hb4⟩
  clear c1
  have z5 := hb4.size
  try simp at z5
  clear k1 f1
  have b1 : Blk w4 w.heap.size #[.int .i64 K, .slice p len cap, .int .i64 A, .int .i64 R, .int .i64 n, .int .i64 d, .slice q m vc, .int .i64 E] 27 := by exact blkAny
  have hW : Below w.heap.size w w4 := by exact belowAny
  have z6 := b1.lt
  clear hb4
  have k1 := b1.cell
  have f1 := b1.frozen
  have c2 := H_c2.out
  go_wp2_with fail
  refine (c2 _ (belowAny)).mono ?_
  rintro e w7 ⟨p', cap', q', vc', rfl, hb7, hS, hvc⟩
  clear c2
  have z8 := hb7.size
  try simp at z8
  clear k1 f1
  have b1 : Blk w7 w.heap.size #[.int .i64 K, .slice p len cap, .int .i64 A, .int .i64 R, .int .i64 n, .int .i64 d, .slice q m vc, .int .i64 E] 27 := by exact blkAny
  have hW : Below w.heap.size w w7 := by exact belowAny
  have z9 := b1.lt
  have k1 := b1.cell
  have f1 := b1.frozen
  have b2 := hS
  clear hS
  have c3 := H_c3.out
  go_wp2_with fail
  refine (c3 _ p' q' cap' vc' segAny hvc).mono ?_
  rintro e w10 ⟨rfl, hb10⟩
  clear c3
  have z11 := hb10.size
  try simp at z11
  clear k1 f1
  have b1 : Blk w10 w.heap.size #[.int .i64 K, .slice p len cap, .int .i64 A, .int .i64 R, .int .i64 n, .int .i64 d, .slice q m vc, .int .i64 E] 27 := by exact blkAny
  have b2 : SegIn w10 s' p' q' := by exact segAny
  have b3 : Blk w10 w7.heap.size #[.int .i64 K, .slice p' len2 cap', .int .i64 A, .int .i64 R, .int .i64 n, .int .i64 d, .slice q' m2 vc', .int .i64 E] 27 := by exact blkAny
  have hW : Below w.heap.size w w10 := by exact belowAny
  have z12 := b1.lt
  have z13 := b3.lt
  clear hb10
  have k1 := b1.cell
  have f1 := b1.frozen
  have k3 := b3.cell
  have f3 := b3.frozen
  have c4 := H_c4.out
  go_wp2_with fail
  refine (c4 _ p' q' cap' vc' segAny hvc).mono ?_
  rintro e w14 ⟨rfl, hb14⟩
  clear c4
  have z15 := hb14.size
  try simp at z15
  clear k1 f1 k3 f3
  have b1 : Blk w14 w.heap.size #[.int .i64 K, .slice p len cap, .int .i64 A, .int .i64 R, .int .i64 n, .int .i64 d, .slice q m vc, .int .i64 E] 27 := by exact blkAny
  have b2 : SegIn w14 s' p' q' := by exact segAny
  have b3 : Blk w14 w7.heap.size #[.int .i64 K, .slice p' len2 cap', .int .i64 A, .int .i64 R, .int .i64 n, .int .i64 d, .slice q' m2 vc', .int .i64 E] 27 := by exact blkAny
  have b4 : Blk w14 w10.heap.size #[.int .i64 x0, .int .i64 x1, .int .i64 x2, .int .i64 x3, .int .u64 x4] 34 := by exact blkAny
  have hW : Below w.heap.size w w14 := by exact belowAny
  have z16 := b1.lt
  have z17 := b3.lt
  have z18 := b4.lt
  clear hb14
  have k1 := b1.cell
  have f1 := b1.frozen
  have k3 := b3.cell
  have f3 := b3.frozen
  have k4 := b4.cell
  have f4 := b4.frozen
  have c5 := H_c5.out
  go_wp2_with fail
  refine (c5 _ p' q' cap' vc' segAny hvc).mono ?_
  rintro e w19 ⟨rfl, hb19⟩
  clear c5
  have z20 := hb19.size
  try simp at z20
  clear k1 f1 k3 f3 k4 f4
  have b1 : Blk w19 w.heap.size #[.int .i64 K, .slice p len cap, .int .i64 A, .int .i64 R, .int .i64 n, .int .i64 d, .slice q m vc, .int .i64 E] 27 := by exact blkAny
  have b2 : SegIn w19 s' p' q' := by exact segAny
  have b3 : Blk w19 w7.heap.size #[.int .i64 K, .slice p' len2 cap', .int .i64 A, .int .i64 R, .int .i64 n, .int .i64 d, .slice q' m2 vc', .int .i64 E] 27 := by exact blkAny
  have b4 : Blk w19 w10.heap.size #[.int .i64 x0, .int .i64 x1, .int .i64 x2, .int .i64 x3, .int .u64 x4] 34 := by exact blkAny
  have b5 : Blk w19 w14.heap.size #[.int .i64 y0, .int .i64 y1, .int .i64 y2, .int .i64 y3, .int .u64 y4] 34 := by exact blkAny
  have hW : Below w.heap.size w w19 := by exact belowAny
  have z21 := b1.lt
  have z22 := b3.lt
  have z23 := b4.lt
  have z24 := b5.lt
  clear hb19
  have k1 := b1.cell
  have f1 := b1.frozen
  have k3 := b3.cell
  have f3 := b3.frozen
  have k4 := b4.cell
  have f4 := b4.frozen
  have k5 := b5.cell
  have f5 := b5.frozen
  go_wp2
  have y_1 := b1.lt
  have y_3 := b3.lt
  have y_4 := b4.lt
  have y_5 := b5.lt
  refine bodyPost_ret (v := .bool true) (by simp [results, Try.results3, go_sem, k1, f1, k3, f3, k4, f4, k5, f5, y_1, y_3, y_4, y_5]) rfl ⟨rfl, by exact belowAny⟩

set_option maxRecDepth 100000 in
set_option maxHeartbeats 2000000 in
theorem parted_both (K A R n d E : Int) (p q : Option Addr) (len cap m vc : Nat) (w : World) (len2 m2 : Nat) (s' : SegT) (a mid b x0 x1 x2 x3 x4 y0 y1 y2 y3 y4 t0 t1 t2 t3 t4 : Int) (h1 : a ≤ mid) (h2 : mid < b) (hb : -9223372036854775808 ≤ mid ∧ b ≤ 9223372036854775807)
    (c1 : ∀ W, Below w.heap.size w W → Calls Try.prog 4 #[] W fun e w' => e = .returned (.bool true) ∧ Below W.heap.size W w')
    (c2 : ∀ W, Below w.heap.size w W → Calls Try.prog 5 #[.agg #[.int .i64 K, .slice p len cap, .int .i64 A, .int .i64 R, .int .i64 n, .int .i64 d, .slice q m vc, .int .i64 E]] W fun e w' => ∃ p' cap' q' vc', e = .returned (.agg #[.int .i64 K, .slice p' len2 cap', .int .i64 A, .int .i64 R, .int .i64 n, .int .i64 d, .slice q' m2 vc', .int .i64 E]) ∧ Below W.heap.size W w' ∧ SegIn w' s' p' q' ∧ m2 ≤ vc')
    (c3 : ∀ W p' q' cap' vc', SegIn W s' p' q' → m2 ≤ vc' → Calls Try.prog 6 #[.agg #[.int .i64 K, .slice p' len2 cap', .int .i64 A, .int .i64 R, .int .i64 n, .int .i64 d, .slice q' m2 vc', .int .i64 E], .int .i64 a, .int .i64 mid] W fun e w' => e = .returned (.tuple #[.agg #[.int .i64 x0, .int .i64 x1, .int .i64 x2, .int .i64 x3, .int .u64 x4], .int .i64 0]) ∧ Below W.heap.size W w')
    (c4 : ∀ W p' q' cap' vc', SegIn W s' p' q' → m2 ≤ vc' → Calls Try.prog 6 #[.agg #[.int .i64 K, .slice p' len2 cap', .int .i64 A, .int .i64 R, .int .i64 n, .int .i64 d, .slice q' m2 vc', .int .i64 E], .int .i64 (mid + 1), .int .i64 b] W fun e w' => e = .returned (.tuple #[.agg #[.int .i64 y0, .int .i64 y1, .int .i64 y2, .int .i64 y3, .int .u64 y4], .int .i64 0]) ∧ Below W.heap.size W w')
    (c5 : ∀ W p' q' cap' vc', SegIn W s' p' q' → m2 ≤ vc' → Calls Try.prog 6 #[.agg #[.int .i64 K, .slice p' len2 cap', .int .i64 A, .int .i64 R, .int .i64 n, .int .i64 d, .slice q' m2 vc', .int .i64 E], .int .i64 a, .int .i64 b] W fun e w' => e = .returned (.tuple #[.agg #[.int .i64 t0, .int .i64 t1, .int .i64 t2, .int .i64 t3, .int .u64 t4], .int .i64 0]) ∧ Below W.heap.size W w')
    (c6 : ∀ W, Below w.heap.size w W → Calls Try.prog 7 #[.agg #[.int .i64 x0, .int .i64 x1, .int .i64 x2, .int .i64 x3, .int .u64 x4], .agg #[.int .i64 y0, .int .i64 y1, .int .i64 y2, .int .i64 y3, .int .u64 y4]] W fun e w' => e = .returned (.tuple #[.agg #[.int .i64 t0, .int .i64 t1, .int .i64 t2, .int .i64 t3, .int .u64 t4], .bool true]) ∧ Below W.heap.size W w') :
    Calls Try.prog 3 #[.agg #[.int .i64 K, .slice p len cap, .int .i64 A, .int .i64 R, .int .i64 n, .int .i64 d, .slice q m vc, .int .i64 E], .int .i64 a, .int .i64 mid, .int .i64 b] w fun e w' => e = .returned (.bool true) ∧ Below w.heap.size w w' := by
  have H_c1 := Lib.hid c1
  clear c1
  have H_c2 := Lib.hid c2
  clear c2
  have H_c3 := Lib.hid c3
  clear c3
  have H_c4 := Lib.hid c4
  clear c4
  have H_c5 := Lib.hid c5
  clear c5
  have H_c6 := Lib.hid c6
  clear c6
  go_enter Try.func3, Try.ntmps3
  go_upto_region 1 with (fail)
  refine wp_facts (fun W' => Below w.heap.size w W' ∧ Blk W' w.heap.size #[.int .i64 K, .slice p len cap, .int .i64 A, .int .i64 R, .int .i64 n, .int .i64 d, .slice q m vc, .int .i64 E] 27) ⟨by exact belowAny, by exact blkAny⟩ ?_
  rintro W1 ⟨hW, b1⟩
  have z2 := hW.size
  have z3 := b1.lt
  have k1 := b1.cell
  have f1 := b1.frozen
  have c1 := H_c1.out
  go_wp2_with fail
  refine (c1 _ (belowAny)).mono ?_
  rintro e w4 ⟨rfl, hb4⟩
  clear c1
  have z5 := hb4.size
  try simp at z5
  clear k1 f1
  have b1 : Blk w4 w.heap.size #[.int .i64 K, .slice p len cap, .int .i64 A, .int .i64 R, .int .i64 n, .int .i64 d, .slice q m vc, .int .i64 E] 27 := by exact blkAny
  have hW : Below w.heap.size w w4 := by exact belowAny
  have z6 := b1.lt
  clear hb4
  have k1 := b1.cell
  have f1 := b1.frozen
  have c2 := H_c2.out
  go_wp2_with fail
  refine (c2 _ (belowAny)).mono ?_
  rintro e w7 ⟨p', cap', q', vc', rfl, hb7, hS, hvc⟩
  clear c2
  have z8 := hb7.size
  try simp at z8
  clear k1 f1
  have b1 : Blk w7 w.heap.size #[.int .i64 K, .slice p len cap, .int .i64 A, .int .i64 R, .int .i64 n, .int .i64 d, .slice q m vc, .int .i64 E] 27 := by exact blkAny
  have hW : Below w.heap.size w w7 := by exact belowAny
  have z9 := b1.lt
  have k1 := b1.cell
  have f1 := b1.frozen
  have b2 := hS
  clear hS
  have c3 := H_c3.out
  go_wp2_with fail
  refine (c3 _ p' q' cap' vc' segAny hvc).mono ?_
  rintro e w10 ⟨rfl, hb10⟩
  clear c3
  have z11 := hb10.size
  try simp at z11
  clear k1 f1
  have b1 : Blk w10 w.heap.size #[.int .i64 K, .slice p len cap, .int .i64 A, .int .i64 R, .int .i64 n, .int .i64 d, .slice q m vc, .int .i64 E] 27 := by exact blkAny
  have b2 : SegIn w10 s' p' q' := by exact segAny
  have b3 : Blk w10 w7.heap.size #[.int .i64 K, .slice p' len2 cap', .int .i64 A, .int .i64 R, .int .i64 n, .int .i64 d, .slice q' m2 vc', .int .i64 E] 27 := by exact blkAny
  have hW : Below w.heap.size w w10 := by exact belowAny
  have z12 := b1.lt
  have z13 := b3.lt
  clear hb10
  have k1 := b1.cell
  have f1 := b1.frozen
  have k3 := b3.cell
  have f3 := b3.frozen
  have c4 := H_c4.out
  go_wp2_with fail
  refine (c4 _ p' q' cap' vc' segAny hvc).mono ?_
  rintro e w14 ⟨rfl, hb14⟩
  clear c4
  have z15 := hb14.size
  try simp at z15
  clear k1 f1 k3 f3
  have b1 : Blk w14 w.heap.size #[.int .i64 K, .slice p len cap, .int .i64 A, .int .i64 R, .int .i64 n, .int .i64 d, .slice q m vc, .int .i64 E] 27 := by exact blkAny
  have b2 : SegIn w14 s' p' q' := by exact segAny
  have b3 : Blk w14 w7.heap.size #[.int .i64 K, .slice p' len2 cap', .int .i64 A, .int .i64 R, .int .i64 n, .int .i64 d, .slice q' m2 vc', .int .i64 E] 27 := by exact blkAny
  have b4 : Blk w14 w10.heap.size #[.int .i64 x0, .int .i64 x1, .int .i64 x2, .int .i64 x3, .int .u64 x4] 34 := by exact blkAny
  have hW : Below w.heap.size w w14 := by exact belowAny
  have z16 := b1.lt
  have z17 := b3.lt
  have z18 := b4.lt
  clear hb14
  have k1 := b1.cell
  have f1 := b1.frozen
  have k3 := b3.cell
  have f3 := b3.frozen
  have k4 := b4.cell
  have f4 := b4.frozen
  have c5 := H_c5.out
  go_wp2_with fail
  refine (c5 _ p' q' cap' vc' segAny hvc).mono ?_
  rintro e w19 ⟨rfl, hb19⟩
  clear c5
  have z20 := hb19.size
  try simp at z20
  clear k1 f1 k3 f3 k4 f4
  have b1 : Blk w19 w.heap.size #[.int .i64 K, .slice p len cap, .int .i64 A, .int .i64 R, .int .i64 n, .int .i64 d, .slice q m vc, .int .i64 E] 27 := by exact blkAny
  have b2 : SegIn w19 s' p' q' := by exact segAny
  have b3 : Blk w19 w7.heap.size #[.int .i64 K, .slice p' len2 cap', .int .i64 A, .int .i64 R, .int .i64 n, .int .i64 d, .slice q' m2 vc', .int .i64 E] 27 := by exact blkAny
  have b4 : Blk w19 w10.heap.size #[.int .i64 x0, .int .i64 x1, .int .i64 x2, .int .i64 x3, .int .u64 x4] 34 := by exact blkAny
  have b5 : Blk w19 w14.heap.size #[.int .i64 y0, .int .i64 y1, .int .i64 y2, .int .i64 y3, .int .u64 y4] 34 := by exact blkAny
  have hW : Below w.heap.size w w19 := by exact belowAny
  have z21 := b1.lt
  have z22 := b3.lt
  have z23 := b4.lt
  have z24 := b5.lt
  clear hb19
  have k1 := b1.cell
  have f1 := b1.frozen
  have k3 := b3.cell
  have f3 := b3.frozen
  have k4 := b4.cell
  have f4 := b4.frozen
  have k5 := b5.cell
  have f5 := b5.frozen
  have c6 := H_c6.out
  go_wp2_with fail
  refine (c6 _ (belowAny)).mono ?_
  rintro e w25 ⟨rfl, hb25⟩
  clear c6
  have z26 := hb25.size
  try simp at z26
  clear k1 f1 k3 f3 k4 f4 k5 f5
  have b1 : Blk w25 w.heap.size #[.int .i64 K, .slice p len cap, .int .i64 A, .int .i64 R, .int .i64 n, .int .i64 d, .slice q m vc, .int .i64 E] 27 := by exact blkAny
  have b2 : SegIn w25 s' p' q' := by exact segAny
  have b3 : Blk w25 w7.heap.size #[.int .i64 K, .slice p' len2 cap', .int .i64 A, .int .i64 R, .int .i64 n, .int .i64 d, .slice q' m2 vc', .int .i64 E] 27 := by exact blkAny
  have b4 : Blk w25 w10.heap.size #[.int .i64 x0, .int .i64 x1, .int .i64 x2, .int .i64 x3, .int .u64 x4] 34 := by exact blkAny
  have b5 : Blk w25 w14.heap.size #[.int .i64 y0, .int .i64 y1, .int .i64 y2, .int .i64 y3, .int .u64 y4] 34 := by exact blkAny
  have b6 : Blk w25 w19.heap.size #[.int .i64 t0, .int .i64 t1, .int .i64 t2, .int .i64 t3, .int .u64 t4] 34 := by exact blkAny
  have hW : Below w.heap.size w w25 := by exact belowAny
  have z27 := b1.lt
  have z28 := b3.lt
  have z29 := b4.lt
  have z30 := b5.lt
  have z31 := b6.lt
  clear hb25
  have k1 := b1.cell
  have f1 := b1.frozen
  have k3 := b3.cell
  have f3 := b3.frozen
  have k4 := b4.cell
  have f4 := b4.frozen
  have k5 := b5.cell
  have f5 := b5.frozen
  have k6 := b6.cell
  have f6 := b6.frozen
  go_wp2
  have y_1 := b1.lt
  have y_3 := b3.lt
  have y_4 := b4.lt
  have y_5 := b5.lt
  have y_6 := b6.lt
  refine bodyPost_ret (v := .bool true) (by simp [results, Try.results3, go_sem, k1, f1, k3, f3, k4, f4, k5, f5, k6, f6, y_1, y_3, y_4, y_5, y_6]) rfl ⟨rfl, by exact belowAny⟩

set_option maxRecDepth 100000 in
set_option maxHeartbeats 2000000 in
theorem parted_off (K A R n d E : Int) (p q : Option Addr) (len cap m vc : Nat) (w : World) (len2 m2 : Nat) (s' : SegT) (a mid b x0 x1 x2 x3 x4 er : Int)
    (hX : (decide (mid < a) || decide (b ≤ mid)) = true) (hv : (((decide (a ≤ b) || er == 0) || er == 9) || er == 210) = true)
    (c1 : ∀ W, Below w.heap.size w W → Calls Try.prog 4 #[] W fun e w' => e = .returned (.bool true) ∧ Below W.heap.size W w')
    (c2 : ∀ W, Below w.heap.size w W → Calls Try.prog 5 #[.agg #[.int .i64 K, .slice p len cap, .int .i64 A, .int .i64 R, .int .i64 n, .int .i64 d, .slice q m vc, .int .i64 E]] W fun e w' => ∃ p' cap' q' vc', e = .returned (.agg #[.int .i64 K, .slice p' len2 cap', .int .i64 A, .int .i64 R, .int .i64 n, .int .i64 d, .slice q' m2 vc', .int .i64 E]) ∧ Below W.heap.size W w' ∧ SegIn w' s' p' q' ∧ m2 ≤ vc')
    (c3 : ∀ W p' q' cap' vc', SegIn W s' p' q' → m2 ≤ vc' → Calls Try.prog 6 #[.agg #[.int .i64 K, .slice p' len2 cap', .int .i64 A, .int .i64 R, .int .i64 n, .int .i64 d, .slice q' m2 vc', .int .i64 E], .int .i64 b, .int .i64 a] W fun e w' => e = .returned (.tuple #[.agg #[.int .i64 x0, .int .i64 x1, .int .i64 x2, .int .i64 x3, .int .u64 x4], .int .i64 er]) ∧ Below W.heap.size W w') :
    Calls Try.prog 3 #[.agg #[.int .i64 K, .slice p len cap, .int .i64 A, .int .i64 R, .int .i64 n, .int .i64 d, .slice q m vc, .int .i64 E], .int .i64 a, .int .i64 mid, .int .i64 b] w fun e w' => e = .returned (.bool true) ∧ Below w.heap.size w w' := by
  have H_c1 := Lib.hid c1
  clear c1
  have H_c2 := Lib.hid c2
  clear c2
  have H_c3 := Lib.hid c3
  clear c3
  have H_hX := Lib.hid hX
  clear hX
  have H_hv := Lib.hid hv
  clear hv
  go_enter Try.func3, Try.ntmps3
  go_upto_region 1 with (fail)
  refine wp_facts (fun W' => Below w.heap.size w W' ∧ Blk W' w.heap.size #[.int .i64 K, .slice p len cap, .int .i64 A, .int .i64 R, .int .i64 n, .int .i64 d, .slice q m vc, .int .i64 E] 27) ⟨by exact belowAny, by exact blkAny⟩ ?_
  rintro W1 ⟨hW, b1⟩
  have z2 := hW.size
  have z3 := b1.lt
  have k1 := b1.cell
  have f1 := b1.frozen
  have c1 := H_c1.out
  go_wp2_with fail
  refine (c1 _ (belowAny)).mono ?_
  rintro e w4 ⟨rfl, hb4⟩
  clear c1
  have z5 := hb4.size
  try simp at z5
  clear k1 f1
  have b1 : Blk w4 w.heap.size #[.int .i64 K, .slice p len cap, .int .i64 A, .int .i64 R, .int .i64 n, .int .i64 d, .slice q m vc, .int .i64 E] 27 := by exact blkAny
  have hW : Below w.heap.size w w4 := by exact belowAny
  have z6 := b1.lt
  clear hb4
  have k1 := b1.cell
  have f1 := b1.frozen
  have c2 := H_c2.out
  go_wp2_with fail
  refine (c2 _ (belowAny)).mono ?_
  rintro e w7 ⟨p', cap', q', vc', rfl, hb7, hS, hvc⟩
  clear c2
  have z8 := hb7.size
  try simp at z8
  clear k1 f1
  have b1 : Blk w7 w.heap.size #[.int .i64 K, .slice p len cap, .int .i64 A, .int .i64 R, .int .i64 n, .int .i64 d, .slice q m vc, .int .i64 E] 27 := by exact blkAny
  have hW : Below w.heap.size w w7 := by exact belowAny
  have z9 := b1.lt
  have k1 := b1.cell
  have f1 := b1.frozen
  have b2 := hS
  clear hS
  go_upto_region 4 with (fail)
  clear k1 f1
  refine wp_facts (fun W' => Below w.heap.size w W' ∧ Blk W' w.heap.size #[.int .i64 K, .slice p len cap, .int .i64 A, .int .i64 R, .int .i64 n, .int .i64 d, .slice q m vc, .int .i64 E] 27 ∧ SegIn W' s' p' q' ∧ Blk W' (w7.heap.size) #[.int .i64 K, .slice p' len2 cap', .int .i64 A, .int .i64 R, .int .i64 n, .int .i64 d, .slice q' m2 vc', .int .i64 E] 27) ⟨by exact belowAny, by exact blkAny, by exact segAny, by exact blkAny⟩ ?_
  clear b1 b2 hW
  rintro W10 ⟨hW, b1, b2, b3⟩
  have z11 := hW.size
  have z12 := b1.lt
  have z13 := b3.lt
  refine wp_region_sq 8 133 [] (fun W' => Rex [] W10 W' ∧ Blk W' w.heap.size #[.int .i64 K, .slice p len cap, .int .i64 A, .int .i64 R, .int .i64 n, .int .i64 d, .slice q m vc, .int .i64 E] 27 ∧ SegIn W' s' p' q' ∧ Blk W' (w7.heap.size) #[.int .i64 K, .slice p' len2 cap', .int .i64 A, .int .i64 R, .int .i64 n, .int .i64 d, .slice q' m2 vc', .int .i64 E] 27) (by kernel_rfl) rfl ⟨(Rex.refl _ _), b1, b2, b3⟩ (fun w w' ⟨h0, h1, h2, h3⟩ hr => ⟨h0.trans hr, h1.rex hr (by simp <;> omega), h2.rex hr (by simp <;> omega), h3.rex hr (by simp <;> omega)⟩) ?_
  iterate 4
    apply nd_det (hg := rfl) (hal := rfl)
    · intro a W' hC hE
      obtain ⟨_, k1, k2, k3⟩ := hC
      have k1 := k1.cell
      have k3 := k3.cell
      first
        | (simp [Oper.looksAt, Op.operands, Call.operands, envOf, Det] at hE; simp [go_sem, Act.eval, IntWalk.i64_left, hE, k1, k2, k3]; try rfl)
        | (clear hE; simp [go_sem, Act.eval, IntWalk.i64_left, k1, k2, k3]; try rfl)
  iterate 3
    apply nd_detg (p := true) (hg := rfl) (hd := rfl) (hal := rfl)
    · intro v W' h
      simp [envOf, Det] at h
      simp
      exact h
    · intro hp hx a W' hC hE
      obtain ⟨_, k1, k2, k3⟩ := hC
      have k1 := k1.cell
      have k3 := k3.cell
      simp [Oper.looksAt, Op.operands, Call.operands, envOf, Det, GDet, hx] at hE
      simp [go_sem, Act.eval, IntWalk.i64_left, hE, k1, k2, k3]
      try rfl
  apply nd_pick_or (ho := rfl) (hg := rfl)
  · intro v W' h
    simp [envOf, Det] at h
    exact h
  · intro v W' h hx
    simp [envOf, GDet, hx] at h
    exact h
  rintro W14 ⟨hR, d1, d2, d3⟩
  simp only [ndFinR, Det, forall_eq]
  intros
  repeat (rename GDet _ _ _ _ => hgd; clear hgd)
  simp only [Act.put, List.setIfInBounds_toArray, List.set_cons_zero, List.set_cons_succ]
  refine wpList_nil ?_
  replace hW := hW.trans (hR.of_priv hW.size)
  clear hR
  try clear b1 b2 b3
  have b1 := d1
  clear d1
  have b2 := d2
  clear d2
  have b3 := d3
  clear d3
  have zz := hW.size
  have k1 := b1.cell
  have f1 := b1.frozen
  have k3 := b3.cell
  have f3 := b3.frozen
  rw [H_hX.out]
  have c3 := H_c3.out
  go_wp2_with fail
  refine (c3 _ p' q' cap' vc' segAny hvc).mono ?_
  rintro e w15 ⟨rfl, hb15⟩
  clear c3
  have z16 := hb15.size
  try simp at z16
  clear k1 f1 k3 f3
  have b1 : Blk w15 w.heap.size #[.int .i64 K, .slice p len cap, .int .i64 A, .int .i64 R, .int .i64 n, .int .i64 d, .slice q m vc, .int .i64 E] 27 := by exact blkAny
  have b2 : SegIn w15 s' p' q' := by exact segAny
  have b3 : Blk w15 (w7.heap.size) #[.int .i64 K, .slice p' len2 cap', .int .i64 A, .int .i64 R, .int .i64 n, .int .i64 d, .slice q' m2 vc', .int .i64 E] 27 := by exact blkAny
  have hW : Below w.heap.size w w15 := by exact belowAny
  have z17 := b1.lt
  have z18 := b3.lt
  clear hb15
  have k1 := b1.cell
  have f1 := b1.frozen
  have k3 := b3.cell
  have f3 := b3.frozen
  go_upto_region 6 with (fail)
  clear k1 f1 k3 f3
  refine wp_facts (fun W' => Below w.heap.size w W' ∧ Blk W' w.heap.size #[.int .i64 K, .slice p len cap, .int .i64 A, .int .i64 R, .int .i64 n, .int .i64 d, .slice q m vc, .int .i64 E] 27 ∧ SegIn W' s' p' q' ∧ Blk W' (w7.heap.size) #[.int .i64 K, .slice p' len2 cap', .int .i64 A, .int .i64 R, .int .i64 n, .int .i64 d, .slice q' m2 vc', .int .i64 E] 27) ⟨by exact belowAny, by exact blkAny, by exact segAny, by exact blkAny⟩ ?_
  clear b1 b2 b3 hW
  rintro W19 ⟨hW, b1, b2, b3⟩
  have z20 := hW.size
  have z21 := b1.lt
  have z22 := b3.lt
  refine wp_region_sq 16 133 [] (fun W' => Rex [] W19 W' ∧ Blk W' w.heap.size #[.int .i64 K, .slice p len cap, .int .i64 A, .int .i64 R, .int .i64 n, .int .i64 d, .slice q m vc, .int .i64 E] 27 ∧ SegIn W' s' p' q' ∧ Blk W' (w7.heap.size) #[.int .i64 K, .slice p' len2 cap', .int .i64 A, .int .i64 R, .int .i64 n, .int .i64 d, .slice q' m2 vc', .int .i64 E] 27) (by kernel_rfl) rfl ⟨(Rex.refl _ _), b1, b2, b3⟩ (fun w w' ⟨h0, h1, h2, h3⟩ hr => ⟨h0.trans hr, h1.rex hr (by simp <;> omega), h2.rex hr (by simp <;> omega), h3.rex hr (by simp <;> omega)⟩) ?_
  iterate 4
    apply nd_det (hg := rfl) (hal := rfl)
    · intro a W' hC hE
      obtain ⟨_, k1, k2, k3⟩ := hC
      have k1 := k1.cell
      have k3 := k3.cell
      first
        | (simp [Oper.looksAt, Op.operands, Call.operands, envOf, Det] at hE; simp [go_sem, Act.eval, IntWalk.i64_left, hE, k1, k2, k3]; try rfl)
        | (clear hE; simp [go_sem, Act.eval, IntWalk.i64_left, k1, k2, k3]; try rfl)
  iterate 2
    apply nd_detg (p := true) (hg := rfl) (hd := rfl) (hal := rfl)
    · intro v W' h
      simp [envOf, Det] at h
      simp
      exact h
    · intro hp hx a W' hC hE
      obtain ⟨_, k1, k2, k3⟩ := hC
      have k1 := k1.cell
      have k3 := k3.cell
      simp [Oper.looksAt, Op.operands, Call.operands, envOf, Det, GDet, hx] at hE
      simp [go_sem, Act.eval, IntWalk.i64_left, hE, k1, k2, k3]
      try rfl
  apply nd_pick_or (ho := rfl) (hg := rfl)
  · intro v W' h
    simp [envOf, Det] at h
    exact h
  · intro v W' h hx
    simp [envOf, GDet, hx] at h
    exact h
  iterate 1
    apply nd_det (hg := rfl) (hal := rfl)
    · intro a W' hC hE
      obtain ⟨_, k1, k2, k3⟩ := hC
      have k1 := k1.cell
      have k3 := k3.cell
      first
        | (simp [Oper.looksAt, Op.operands, Call.operands, envOf, Det] at hE; simp [go_sem, Act.eval, IntWalk.i64_left, hE, k1, k2, k3]; try rfl)
        | (clear hE; simp [go_sem, Act.eval, IntWalk.i64_left, k1, k2, k3]; try rfl)
  iterate 2
    apply nd_detg (p := true) (hg := rfl) (hd := rfl) (hal := rfl)
    · intro v W' h
      simp [envOf, Det] at h
      simp
      exact h
    · intro hp hx a W' hC hE
      obtain ⟨_, k1, k2, k3⟩ := hC
      have k1 := k1.cell
      have k3 := k3.cell
      simp [Oper.looksAt, Op.operands, Call.operands, envOf, Det, GDet, hx] at hE
      simp [go_sem, Act.eval, IntWalk.i64_left, hE, k1, k2, k3]
      try rfl
  apply nd_pick_or (ho := rfl) (hg := rfl)
  · intro v W' h
    simp [envOf, Det] at h
    exact h
  · intro v W' h hx
    simp [envOf, GDet, hx] at h
    exact h
  iterate 1
    apply nd_det (hg := rfl) (hal := rfl)
    · intro a W' hC hE
      obtain ⟨_, k1, k2, k3⟩ := hC
      have k1 := k1.cell
      have k3 := k3.cell
      first
        | (simp [Oper.looksAt, Op.operands, Call.operands, envOf, Det] at hE; simp [go_sem, Act.eval, IntWalk.i64_left, hE, k1, k2, k3]; try rfl)
        | (clear hE; simp [go_sem, Act.eval, IntWalk.i64_left, k1, k2, k3]; try rfl)
  iterate 2
    apply nd_detg (p := true) (hg := rfl) (hd := rfl) (hal := rfl)
    · intro v W' h
      simp [envOf, Det] at h
      simp
      exact h
    · intro hp hx a W' hC hE
      obtain ⟨_, k1, k2, k3⟩ := hC
      have k1 := k1.cell
      have k3 := k3.cell
      simp [Oper.looksAt, Op.operands, Call.operands, envOf, Det, GDet, hx] at hE
      simp [go_sem, Act.eval, IntWalk.i64_left, hE, k1, k2, k3]
      try rfl
  apply nd_pick_or (ho := rfl) (hg := rfl)
  · intro v W' h
    simp [envOf, Det] at h
    exact h
  · intro v W' h hx
    simp [envOf, GDet, hx] at h
    exact h
  iterate 1
    apply nd_det (hg := rfl) (hal := rfl)
    · intro a W' hC hE
      obtain ⟨_, k1, k2, k3⟩ := hC
      have k1 := k1.cell
      have k3 := k3.cell
      first
        | (simp [Oper.looksAt, Op.operands, Call.operands, envOf, Det] at hE; simp [go_sem, Act.eval, IntWalk.i64_left, hE, k1, k2, k3]; try rfl)
        | (clear hE; simp [go_sem, Act.eval, IntWalk.i64_left, k1, k2, k3]; try rfl)
  rintro W23 ⟨hR, d1, d2, d3⟩
  simp only [ndFinR, Det, forall_eq]
  intros
  repeat (rename GDet _ _ _ _ => hgd; clear hgd)
  simp only [Act.put, List.setIfInBounds_toArray, List.set_cons_zero, List.set_cons_succ]
  refine wpList_nil ?_
  replace hW := hW.trans (hR.of_priv hW.size)
  clear hR
  try clear b1 b2 b3
  have b1 := d1
  clear d1
  have b2 := d2
  clear d2
  have b3 := d3
  clear d3
  have k1 := b1.cell
  have f1 := b1.frozen
  have k3 := b3.cell
  have f3 := b3.frozen
  rw [H_hv.out]
  go_wp2
  have y_1 := b1.lt
  have y_3 := b3.lt
  refine bodyPost_ret (v := .bool true) (by simp [results, Try.results3, go_sem, k1, f1, k3, f3, y_1, y_3]) rfl ⟨rfl, by exact belowAny⟩
end Go.Proofs.Ytgblmlefmohgnaa
namespace Go.Proofs.Ytgblmlefmohgnaa
open Go.RowKit
theorem Came.below {w w' : World} {s : SegT} {p q : Option Addr} {cap vc : Nat} (h : Came w s p q cap vc) (hb : Below w.heap.size w w') : Came w' s p q cap vc := ⟨h.runs.below hb, h.raw.below hb, h.nilR, h.nilV, h.capR, h.capV, h.maxR, h.maxV⟩
theorem partOut_no {s : SegT} (h : segB s = false) (a b : Int) : partOut s a b = (#[.int .i64 0, .int .i64 0, .int .i64 0, .int .i64 0, .int .u64 0], 210) := by unfold partOut; rw [h]; rfl
theorem partOut_er (s : SegT) (a b : Int) : (partOut s a b).2 = 0 ∨ (partOut s a b).2 = 9 ∨ (partOut s a b).2 = 210 := by
  unfold partOut
  split
  · split
    · exact .inl rfl
    · exact .inr (.inl rfl)
  · exact .inr (.inr rfl)
theorem partOut_five (s : SegT) (a b : Int) : ∃ c0 c1 c2 c3 c4 : Int, (partOut s a b).1 = #[.int .i64 c0, .int .i64 c1, .int .i64 c2, .int .i64 c3, .int .u64 c4] := by
  unfold partOut partA
  split
  · split
    · exact ⟨_, _, _, _, _, rfl⟩
    · exact ⟨_, _, _, _, _, rfl⟩
  · exact ⟨_, _, _, _, _, rfl⟩
theorem c_together {P Q R : List Int} (w : World) (hP : P.length ≤ 1000) (hQ : Q.length ≤ 1000) (h1 : (R.length : Int) = P.length + Q.length) (h2 : minL R = min (minL P) (minL Q)) (h3 : maxL R = max (maxL P) (maxL Q)) (h4 : lsum R = lsum P + lsum Q)
    (hp : W128 (lsum P)) (hq : W128 (lsum Q)) (hr : W128 (lsum P + lsum Q)) :
    Calls Try.prog 7 #[.agg (partA P), .agg (partA Q)] w fun e w' => e = .returned (.tuple #[.agg (partA R), .bool true]) ∧ Below w.heap.size w w' := by
  have := together_w P.length (minL P) (maxL P) Q.length (minL Q) (maxL Q) (lsum P) (lsum Q) w (by omega) (fun W _ => c_add_in _ _ W hp hq hr)
  rw [← h1, ← h2, ← h3, ← h4] at this
  exact this
theorem c_parted (s : SegT) (p q : Option Addr) (cap vc : Nat) (a mid b : Int) (w : World) (h : Came w s p q cap vc) (ha : I64 a) (hm : I64 mid) (hb : I64 b) :
    Calls Try.prog 3 #[.agg (segA s p q cap vc), .int .i64 a, .int .i64 mid, .int .i64 b] w fun e w' => e = .returned (.bool true) ∧ Below w.heap.size w w' := by
  have c1 := fun W (_ : Below w.heap.size w W) => c_wakes W
  have c2 := fun W (hW : Below w.heap.size w W) => c_own s p q cap vc W (h.below hW)
  have key : ∀ (x y : Int) (R : Array Value) (er : Int), partOut (ownS s) x y = (R, er) → I64 y → ∀ W p' q' cap' vc', SegIn W (ownS s) p' q' → (ownS s).raw.length ≤ vc' → Calls Try.prog 6 #[.agg (segA (ownS s) p' q' cap' vc'), .int .i64 x, .int .i64 y] W fun e w' => e = .returned (.tuple #[.agg R, .int .i64 er]) ∧ Below W.heap.size W w' := by
    intro x y R er he hy W p' q' cap' vc' h1 h2
    have := c_Part (ownS s) p' q' cap' vc' x y W h1 h2 hy.1
    rw [he] at this
    exact this
  have I1 : mid < b → I64 (mid + 1) := fun h => ⟨by have := hm.1; omega, by have := hb.2; omega⟩
  by_cases hoff : mid < a ∨ b ≤ mid
  · have hX : (decide (mid < a) || decide (b ≤ mid)) = true := by simpa using hoff
    obtain ⟨x0, x1, x2, x3, x4, e5⟩ := partOut_five (ownS s) b a
    have c3 := key b a _ _ (Prod.ext e5 rfl) ha
    have hv : (((decide (a ≤ b) || (partOut (ownS s) b a).2 == 0) || (partOut (ownS s) b a).2 == 9) || (partOut (ownS s) b a).2 == 210) = true := by
      rcases partOut_er (ownS s) b a with e | e | e <;> rw [e] <;> simp
    exact parted_off _ _ _ _ _ _ p q _ cap _ vc w _ _ (ownS s) a mid b x0 x1 x2 x3 x4 _ hX hv c1 c2 c3
  · have h1 : a ≤ mid := by omega
    have h2 : mid < b := by omega
    have hbd : -9223372036854775808 ≤ mid ∧ b ≤ 9223372036854775807 := ⟨hm.1, hb.2⟩
    cases hs : segB (ownS s) with
    | false => exact parted_seg _ _ _ _ _ _ p q _ cap _ vc w _ _ (ownS s) a mid b _ _ _ _ _ _ _ _ _ _ _ _ _ _ _ h1 h2 hbd c1 c2 (key _ _ _ _ (partOut_no hs _ _) hm) (key _ _ _ _ (partOut_no hs _ _) hb) (key _ _ _ _ (partOut_no hs _ _) hb)
    | true =>
      have hl := segB_runs hs
      have e1 := partOut_ok hs (a := a) (b := mid) (by omega)
      have e2 := partOut_ok hs (a := mid + 1) (b := b) (by omega)
      have e3 := partOut_ok hs (a := a) (b := b) (by omega)
      have b1 := below_bd hl a
      have b3 := below_bd hl (b + 1)
      have m1 := below_mono hl (show a ≤ mid + 1 by omega)
      have m2 := below_mono hl (show mid + 1 ≤ b + 1 by omega)
      obtain ⟨i, hi⟩ : ∃ i, i = belowL (ownS s).runs a := ⟨_, rfl⟩
      obtain ⟨k, hk⟩ : ∃ i, i = belowL (ownS s).runs (mid + 1) := ⟨_, rfl⟩
      obtain ⟨j, hj⟩ : ∃ i, i = belowL (ownS s).runs (b + 1) := ⟨_, rfl⟩
      rw [← hi, ← hk] at e1
      rw [← hk, ← hj] at e2
      rw [← hi, ← hj] at e3
      rw [← hi] at b1
      rw [← hj] at b3
      rw [← hi, ← hk] at m1
      rw [← hk, ← hj] at m2
      clear hi hk hj
      unfold outOf at e1 e2 e3
      have hcnt := cnt_pos hl
      have hlv := length_vals hs
      by_cases h12 : i < k
      · rw [if_pos h12] at e1
        rw [if_pos (show i < j by omega)] at e3
        by_cases h23 : k < j
        · rw [if_pos h23] at e2
          obtain ⟨t1, t2, t3, t4⟩ := parts_together hs b1.1 h12 h23 b3.2
          have s1 := slice_sum hs i.toNat k.toNat
          have s2 := slice_sum hs k.toNat j.toNat
          have n1 : (slice (vals (ownS s)) i.toNat k.toNat).length ≤ 1000 := by rw [length_slice (by omega)]; omega
          have n2 : (slice (vals (ownS s)) k.toNat j.toNat).length ≤ 1000 := by rw [length_slice (by omega)]; omega
          exact parted_both _ _ _ _ _ _ p q _ cap _ vc w _ _ (ownS s) a mid b _ _ _ _ _ _ _ _ _ _ _ _ _ _ _ h1 h2 hbd c1 c2 (key _ _ _ _ e1 hm) (key _ _ _ _ e2 hb) (key _ _ _ _ e3 hb)
            (fun W _ => c_together W n1 n2 t1 t2 t3 t4 (by unfold W128; omega) (by unfold W128; omega) (by unfold W128; omega))
        · obtain rfl : j = k := by omega
          rw [if_neg h23] at e2
          exact parted_right _ _ _ _ _ _ p q _ cap _ vc w _ _ (ownS s) a mid b _ _ _ _ _ _ _ _ _ _ 0 0 0 0 0 h1 h2 hbd c1 c2 (key _ _ _ _ e1 hm) (key _ _ _ _ e2 hb) (key _ _ _ _ e3 hb)
      · obtain rfl : i = k := by omega
        rw [if_neg h12] at e1
        by_cases h23 : i < j
        · rw [if_pos h23] at e2 e3
          exact parted_left _ _ _ _ _ _ p q _ cap _ vc w _ _ (ownS s) a mid b _ _ _ _ _ _ _ _ _ _ 0 0 0 0 0 h1 h2 hbd c1 c2 (key _ _ _ _ e1 hm) (key _ _ _ _ e2 hb) (key _ _ _ _ e3 hb)
        · rw [if_neg h23] at e2 e3
          exact parted_none _ _ _ _ _ _ p q _ cap _ vc w _ _ (ownS s) a mid b _ _ _ _ _ _ _ _ _ _ 0 0 0 0 0 h1 h2 hbd c1 c2 (key _ _ _ _ e1 hm) (key _ _ _ _ e2 hb) (key _ _ _ _ e3 hb)
end Go.Proofs.Ytgblmlefmohgnaa
namespace Go.Proofs.Ytgblmlefmohgnaa
open Go.ChangeShapes Go.WideShapes Go.ChangeAt Go.RowKit Go.Deep

section
variable {H : Type} {enc : TypeId × Value → H} {P : Program}
theorem trodAll_stays (hl : laidOutB P = true) {W W' : World} (hb : Below W.heap.size W W') {sp : Nat → Bool} : ∀ (ts : List TypeId) (vs : List Value) (ds : List (DataW H)) (ps : List MemPlace), (∀ t, t ∈ ts → P.readableRec t = true ∧ t < P.types.size) →
    DataW.TrodAll enc P W 0 (fun _ => true) true ts vs ds ps → (∀ p ∈ ps, p.block < W.heap.size) → (∀ p ∈ ps, sp p.block = true) → DataW.TrodAll enc P W' 0 sp true ts vs ds ps
  | [], vs, ds, ps, _, h, _, _ => by
    obtain ⟨rfl, rfl, rfl⟩ := trodAll_nil h
    rfl
  | t :: ts, vs, ds, ps, hr, h, hlt, hs => by
    obtain ⟨v, vs', d, ds', p, q, rfl, rfl, rfl, h1, h2⟩ := trodAll_cons h
    exact ⟨p, q, WideElems.Trod_stays hl (hr t (by simp)).1 (hr t (by simp)).2 h1 (fun x hx => hb.same (hlt x (by simp [hx]))) (fun x hx => hs x (by simp [hx])),
      trodAll_stays hl hb ts vs' ds' q (fun u hu => hr u (by simp [hu])) h2 (fun x hx => hlt x (by simp [hx])) (fun x hx => hs x (by simp [hx])), rfl⟩
theorem law_post {f : Func} {s : ChangeSpec} {apart fresh handsOn again : Bool} {W W' : World} {args : Array Value} {ds : List (DataW H)} {before : List MemPlace} {tb : TypeId} (hl : laidOutB P = true)
    (hpar : ∀ t, t ∈ f.params.toList → P.readableRec t = true ∧ t < P.types.size) (hres : f.resultTypes = #[tb]) (htb : P.underlying tb = some .bool) (hv : s.vars = [])
    (hW : DataW.Whole enc P f.params.toList s.vars apart W args.toList ds [] before) (hb : Below W.heap.size W W') (hfn : s.fn H ds = { results := [.lit (.bool true)], args := ds }) :
    s.post enc P f apart fresh handsOn again W args (.bool true) W' := by
  have hlt : ∀ p ∈ before, p.block < W.heap.size := fun p hp => hW.lt p hp
  have hold : ∀ p ∈ before, (fun b => decide (b < W.heap.size)) p.block = true := fun p hp => by simpa using hlt p hp
  have hW' := hW
  obtain ⟨p, q, hA, hV, rfl, hz, hn⟩ := hW
  rw [hv] at hV
  obtain ⟨_, rfl⟩ := trodVars_none hV
  have hR : ∀ (b : Nat) (sp : Nat → Bool) (hd : Bool), DataW.TrodAll enc P W' b sp hd f.resultTypes.toList ((Value.bool true).resultList f.resultTypes.size) (s.fn H (ds ++ [])).results [] := fun b sp hd => by
    rw [hres, List.append_nil, hfn]
    exact trodAll_mk1 (shut_bool htb _)
  have hargs : ∀ sp : Nat → Bool, (∀ x ∈ p ++ [], sp x.block = true) → DataW.TrodAll enc P W' 0 sp true f.params.toList args.toList (s.fn H (ds ++ [])).args p := fun sp hsp => by
    rw [List.append_nil, hfn]
    exact trodAll_stays hl hb _ _ _ _ hpar hA (fun x hx => hlt x (by simp [hx])) (fun x hx => hsp x (by simp [hx]))
  have hvars : ∀ sp : Nat → Bool, (∀ x ∈ p ++ [], sp x.block = true) → DataW.TrodVars enc P W' sp s.vars (s.fn H (ds ++ [])).vars [] := fun sp _ => by
    rw [hv, List.append_nil, hfn]
    rfl
  refine ⟨ds, [], p ++ [], [], p, [], hW', hR _ _ _, hargs _ hold, hvars _ hold, World.keptBut_mono (fun x hx => ⟨hx, ?_⟩) (hb.frame (· ∈ p ++ [])), fun _ => ?_⟩
  · exact Or.inr (by simpa using hx)
  · refine ⟨?_, _, _, ([] ++ p) ++ [], ⟨[] ++ p, [], trodAll_append (hargs _ (fun _ _ => rfl)) (hR _ _ _), hvars _ (fun _ _ => rfl), rfl, ?_, ?_⟩, ?_⟩
    · exact ok_one hres rfl (okWide_bool_mk htb _)
    · intro b off hx
      have hin : MemPlace.cell b off ∈ p ++ [] := by simpa using hx
      rw [hb.frozen (hlt _ hin)]
      exact hz b off hin
    · intro ha
      simpa using hn ha
    · intro x hx _
      simpa using hx
end

/-- The fields of a struct: type and place. -/
def fieldsOf (P : Program) (t : TypeId) : Array (TypeId × Nat) := match P.underlying t with | some (.struct fs) => fs.map fun f => (f.type, f.offset) | _ => #[]
section
variable {H : Type} {enc : TypeId × Value → H} {P : Program} {w : World} {base : Nat} {spare : Nat → Bool} {held : Bool}
theorem open_struct {t : TypeId} {fl : Array (TypeId × Nat)} {fuel : Nat} {cs : List Value} {x : DataW H × List MemPlace} (hf : fieldsOf P t = fl) (hne : fl.size ≠ 0) (h : DataW.trod enc P w base spare held fuel t cs = some x) :
    cs.length = P.cellsOf t ∧ ∀ (i : Nat) (ty : TypeId) (off : Nat), fl[i]? = some (ty, off) → ∃ n y, DataW.trod enc P w base spare held n ty ((cs.drop off).take (P.cellsOf ty)) = some y := by
  unfold fieldsOf at hf
  split at hf
  · rename_i fs hu
    obtain ⟨xs, n, _, _, hl, hxl, hat⟩ := DataW.trod_struct hu h
    refine ⟨hl, fun i ty off hi => ?_⟩
    subst hf
    simp only [Array.getElem?_map, Option.map_eq_some_iff, Prod.mk.injEq] at hi
    obtain ⟨f, h1, h2, h3⟩ := hi
    have hh := hat i f h1
    have hlt : i < xs.length := by have := (Array.getElem?_eq_some_iff.1 h1).1; omega
    rw [List.getElem?_eq_getElem hlt] at hh
    subst h2; subst h3
    exact ⟨n, _, hh⟩
  · subst hf; simp at hne
theorem struct_of {t : TypeId} {fl : Array (TypeId × Nat)} (hf : fieldsOf P t = fl) (hne : fl.size ≠ 0) : ∃ fs, P.underlying t = some (.struct fs) := by
  unfold fieldsOf at hf
  split at hf
  · rename_i fs hu
    exact ⟨fs, hu⟩
  · subst hf; simp at hne
/-- A struct whose fields are all numbers of 64 bits. -/
theorem open_ints_struct {t : TypeId} {fl : Array (TypeId × Nat)} {fuel : Nat} {cs : List Value} {x : DataW H × List MemPlace} (hf : fieldsOf P t = fl) (hne : fl.size ≠ 0) (hn : P.cellsOf t = fl.size)
    (ha : ∀ i, i < fl.size → ∃ ty, fl[i]? = some (ty, i) ∧ P.underlying ty = some (.int .i64) ∧ P.cellsOf ty = 1) (h : DataW.trod enc P w base spare held fuel t cs = some x) :
    cs.length = fl.size ∧ ∀ i, i < fl.size → ∃ z : Int, cs[i]? = some (.int .i64 z) ∧ I64 z := by
  obtain ⟨hl, hat⟩ := open_struct hf hne h
  refine ⟨by omega, fun i hi => ?_⟩
  obtain ⟨ty, h1, h2, h3⟩ := ha i hi
  obtain ⟨n, y, hy⟩ := hat i ty i h1
  obtain ⟨z, hz, _, hw⟩ := DataW.trod_int h2 hy
  refine ⟨z, ?_, ?_⟩
  · rw [h3] at hz
    have : ((cs.drop i).take 1)[0]? = some (.int .i64 z) := by rw [hz]; rfl
    simpa using this
  · simp [Lit.wf, IntKind.min, IntKind.max, IntKind.signed, IntKind.bits] at hw
    exact ⟨by omega, by omega⟩
theorem list_of {α : Type} {Q : Nat → α → Prop} : ∀ n, (∀ i, i < n → ∃ x, Q i x) → ∃ l : List α, l.length = n ∧ ∀ i x, l[i]? = some x → Q i x
  | 0, _ => ⟨[], rfl, fun i x h => by simp at h⟩
  | n + 1, h => by
    obtain ⟨l, hl, hq⟩ := list_of n fun i hi => h i (by omega)
    obtain ⟨x, hx⟩ := h n (by omega)
    refine ⟨l ++ [x], by simp [hl], fun i y hy => ?_⟩
    rcases Nat.lt_or_ge i l.length with hlt | hge
    · rw [List.getElem?_append_left hlt] at hy
      exact hq i y hy
    · rw [List.getElem?_append_right hge] at hy
      have : i = l.length := by
        rcases Nat.eq_or_lt_of_le hge with e | e
        · exact e.symm
        · rw [List.getElem?_eq_none (by simp; omega)] at hy; cases hy
      subst this
      simp at hy
      rw [hl, ← hy]
      exact hx
theorem spot_none {a : Addr} {v : Value} (h : w.cell? a = some v) : a = ⟨a.block, a.off, none⟩ := by
  obtain ⟨b, o, s⟩ := a
  cases s with
  | none => rfl
  | some k =>
    unfold World.cell? at h
    simp at h
    split at h <;> cases h
theorem add_at {b o n : Nat} : (⟨b, o, none⟩ : Addr).add n = ⟨b, o + n, none⟩ := by unfold Addr.add; split <;> simp_all
/-- A slice of structs of n numbers each. -/
theorem open_rows {t e : TypeId} {n fuel : Nat} {fl : Array (TypeId × Nat)} {cs : List Value} {x : DataW H × List MemPlace} (ht : P.underlying t = some (.slice e)) (hf : fieldsOf P e = fl) (hfl : fl.size = n) (hn0 : n ≠ 0) (hn : P.cellsOf e = n)
    (ha : ∀ i, i < fl.size → ∃ ty, fl[i]? = some (ty, i) ∧ P.underlying ty = some (.int .i64) ∧ P.cellsOf ty = 1) (h : DataW.trod enc P w base spare held fuel t cs = some x) :
    ∃ (p : Option Addr) (len cap : Nat), cs = [.slice p len cap] ∧ (p = none → len = 0 ∧ cap = 0) ∧ len ≤ cap ∧ cap ≤ maxLen ∧
      ∀ i, i < len → ∃ b o, p = some ⟨b, o, none⟩ ∧ ∀ j, j < n → ∃ z : Int, w.cell? ⟨b, o + i * n + j, none⟩ = some (.int .i64 z) ∧ I64 z := by
  rcases open_slice ht h with ⟨rfl, rfl⟩ | ⟨a, len, cap, m, k, D, Pl, rfl, hb, hl, hm, hmm, hx, hi⟩
  · exact ⟨none, 0, 0, rfl, fun _ => ⟨rfl, rfl⟩, Nat.le_refl _, Nat.zero_le _, fun i hi => by omega⟩
  · refine ⟨some a, len, cap, rfl, (fun e => by cases e), hl, hm, fun i hilt => ?_⟩
    have hlm : len ≤ m := by rw [hmm]; split <;> omega
    have key : ∀ i, i < len → ∀ j, j < n → ∃ z : Int, w.cell? (a.add (i * n + j)) = some (.int .i64 z) ∧ I64 z := by
      intro i hilt j hj
      obtain ⟨cs', hc, ht'⟩ := hi i (by omega)
      obtain ⟨_, hcl, hat⟩ := World.cells?_some hc
      obtain ⟨hl', hz⟩ := open_ints_struct hf (by omega) (by omega) ha ht'
      obtain ⟨z, hz1, hz2⟩ := hz j (by omega)
      have := hat j (by omega)
      rw [add_add, hn, hz1] at this
      exact ⟨z, this, hz2⟩
    obtain ⟨z0, hz0, _⟩ := key 0 (by omega) 0 (by omega)
    simp [Addr.add] at hz0
    have hs := spot_none hz0
    refine ⟨a.block, a.off, by rw [← hs], fun j hj => ?_⟩
    obtain ⟨z, h1, h2⟩ := key i hilt j hj
    rw [hs, add_at] at h1
    exact ⟨z, by rw [Nat.add_assoc]; exact h1, h2⟩
/-- A slice of numbers. -/
theorem open_nums {t e : TypeId} {fuel : Nat} {cs : List Value} {x : DataW H × List MemPlace} (ht : P.underlying t = some (.slice e)) (he : P.underlying e = some (.int .i64)) (hc : P.cellsOf e = 1) (h : DataW.trod enc P w base spare held fuel t cs = some x) :
    ∃ (p : Option Addr) (l : List Int) (cap : Nat), cs = [.slice p l.length cap] ∧ (p = none → l = [] ∧ cap = 0) ∧ l.length ≤ cap ∧ cap ≤ maxLen ∧ IntsIn w p l ∧ ∀ z, z ∈ l → I64 z := by
  rcases open_ints ht he hc h with ⟨rfl, _⟩ | ⟨a, len, cap, zs, rfl, hb, hl, hm, hzl, _, hz, hw⟩
  · exact ⟨none, [], 0, rfl, fun _ => ⟨rfl, rfl⟩, Nat.le_refl _, Nat.zero_le _, ⟨fun i x h => by simp at h⟩, fun z h => by simp at h⟩
  · have hle : len ≤ zs.length := by rw [hzl]; split <;> omega
    refine ⟨some a, zs.take len, cap, by simp [hle], (fun e => by cases e), by simp; omega, hm, ⟨fun i x hx => ?_⟩, fun z hz' => ?_⟩
    · rw [List.getElem?_take] at hx
      split at hx
      · rename_i hil
        have h0 := hz 0 (by omega)
        simp [Addr.add] at h0
        have hs := spot_none h0
        have hi := hz i (by omega)
        rw [hs, add_at] at hi
        refine ⟨a.block, a.off, by rw [← hs], ?_⟩
        rw [hi, List.getD_eq_getElem?_getD, hx]
        rfl
      · cases hx
    · have := hw z (List.mem_of_mem_take hz')
      simp [Lit.wf, IntKind.min, IntKind.max, IntKind.signed, IntKind.bits] at this
      exact ⟨by omega, by omega⟩
theorem wf_I64 {z : Int} (hw : (Lit.int .i64 z).wf = true) : I64 z := by
  simp [Lit.wf, IntKind.min, IntKind.max, IntKind.signed, IntKind.bits] at hw
  exact ⟨by omega, by omega⟩
end
section
variable {H : Type} {enc : TypeId × Value → H} {w : World} {base : Nat} {spare : Nat → Bool} {held : Bool}
theorem Try.fieldsRun : fieldsOf Try.prog 44 = #[(2, 0), (2, 1), (3, 2)] := by kernel_rfl
theorem Try.fieldsLine : fieldsOf Try.prog 24 = #[(2, 0), (2, 1), (2, 2), (2, 3)] := by kernel_rfl
theorem Try.fieldsSeg : fieldsOf Try.prog 27 = #[(3, 0), (22, 1), (24, 2), (25, 6), (2, 7)] := by kernel_rfl
theorem Try.isInt : Try.prog.underlying 3 = some (.int .i64) ∧ Try.prog.cellsOf 3 = 1 := ⟨by kernel_rfl, by kernel_rfl⟩
theorem Try.isInt64 : Try.prog.underlying 2 = some (.int .i64) ∧ Try.prog.cellsOf 2 = 1 := ⟨by kernel_rfl, by kernel_rfl⟩
set_option maxRecDepth 100000 in
theorem open_run_list {fuel : Nat} {cs : List Value} {x : DataW H × List MemPlace} (h : DataW.trod enc Try.prog w base spare held fuel 22 cs = some x) :
    ∃ (p : Option Addr) (l : List RunT) (cap : Nat), cs = [.slice p l.length cap] ∧ (p = none → l = [] ∧ cap = 0) ∧ l.length ≤ cap ∧ cap ≤ maxLen ∧ RunsIn w p l ∧ ∀ r, r ∈ l → I64 r.f ∧ I64 r.s ∧ I64 r.c := by
  obtain ⟨p, len, cap, rfl, hn, hl, hm, hi⟩ := open_rows (n := 3) (by kernel_rfl) Try.fieldsRun rfl (by omega) (by kernel_rfl) (fun i hi => by
    match i, hi with
    | 0, _ => exact ⟨_, rfl, Try.isInt64⟩
    | 1, _ => exact ⟨_, rfl, Try.isInt64⟩
    | 2, _ => exact ⟨_, rfl, Try.isInt⟩) h
  obtain ⟨l, rfl, hq⟩ := list_of (Q := fun i (r : RunT) => (∃ b o, p = some ⟨b, o, none⟩ ∧ w.cell? ⟨b, o + i * 3, none⟩ = some (.int .i64 r.f) ∧ w.cell? ⟨b, o + i * 3 + 1, none⟩ = some (.int .i64 r.s) ∧ w.cell? ⟨b, o + i * 3 + 2, none⟩ = some (.int .i64 r.c)) ∧ I64 r.f ∧ I64 r.s ∧ I64 r.c) len (fun i hilt => by
    obtain ⟨b, o, e, hj⟩ := hi i hilt
    obtain ⟨f, f1, f2⟩ := hj 0 (by omega)
    obtain ⟨s, s1, s2⟩ := hj 1 (by omega)
    obtain ⟨c, c1, c2⟩ := hj 2 (by omega)
    exact ⟨⟨f, s, c⟩, ⟨b, o, e, by simpa using f1, s1, c1⟩, f2, s2, c2⟩)
  refine ⟨p, l, cap, rfl, fun e => ⟨List.length_eq_zero_iff.1 (hn e).1, (hn e).2⟩, hl, hm, ⟨fun i r hr => (hq i r hr).1⟩, fun r hr => ?_⟩
  obtain ⟨i, hi⟩ := List.getElem?_of_mem hr
  exact (hq i r hi).2
set_option maxRecDepth 100000 in
/-- A segment that came in. -/
theorem open_seg {r : Reach} {b0 : Nat} {v : Value} {d : DataW H} {ps : List MemPlace} (hv : Value.okWide Try.prog w r b0 27 v) (h : DataW.Trod enc Try.prog w base spare held 27 v d ps) :
    ∃ s p q cap vc, v = .agg (segA s p q cap vc) ∧ Came w s p q cap vc ∧ (I64 s.K ∧ I64 s.A ∧ I64 s.R ∧ I64 s.n ∧ I64 s.d ∧ I64 s.E) ∧ (∀ r, r ∈ s.runs → I64 r.f ∧ I64 r.s ∧ I64 r.c) ∧ ∀ z, z ∈ s.raw → I64 z := by
  obtain ⟨fs, hfs⟩ : ∃ fs, Try.prog.underlying 27 = some (.struct fs) := struct_of Try.fieldsSeg (by simp)
  obtain ⟨cs, rfl, hsz⟩ := okWide_struct hfs hv
  have hC : Try.prog.cellsOf 27 = 8 := by kernel_rfl
  have hR : Try.prog.cellsOf 22 = 1 := by kernel_rfl
  have hV : Try.prog.cellsOf 25 = 1 := by kernel_rfl
  have hL : Try.prog.cellsOf 24 = 4 := by kernel_rfl
  obtain ⟨fuel, hf⟩ := h
  obtain ⟨l⟩ := cs
  obtain ⟨_, hat⟩ := open_struct Try.fieldsSeg (by simp) hf
  rw [hC] at hsz
  match l, hsz with
  | [c0, c1, c2, c3, c4, c5, c6, c7], _ =>
    obtain ⟨n0, y0, h0⟩ := hat 0 _ _ rfl
    obtain ⟨n1, y1, h1⟩ := hat 1 _ _ rfl
    obtain ⟨n2, y2, h2⟩ := hat 2 _ _ rfl
    obtain ⟨n3, y3, h3⟩ := hat 3 _ _ rfl
    obtain ⟨n4, y4, h4⟩ := hat 4 _ _ rfl
    rw [Try.isInt.2] at h0
    rw [hR] at h1
    rw [hL] at h2
    rw [hV] at h3
    rw [Try.isInt64.2] at h4
    obtain ⟨K, eK, _, wK⟩ := DataW.trod_int Try.isInt.1 h0
    obtain ⟨p, l, cap, e1, r1, r2, r3, r4, r5⟩ := open_run_list h1
    obtain ⟨_, hln⟩ := open_ints_struct Try.fieldsLine (by simp) (by rw [hL]; rfl) (fun i hi => by
      match i, hi with
      | 0, _ => exact ⟨_, rfl, Try.isInt64⟩
      | 1, _ => exact ⟨_, rfl, Try.isInt64⟩
      | 2, _ => exact ⟨_, rfl, Try.isInt64⟩
      | 3, _ => exact ⟨_, rfl, Try.isInt64⟩) h2
    obtain ⟨A, a1, a2⟩ := hln 0 (by simp)
    obtain ⟨R, b1, b2⟩ := hln 1 (by simp)
    obtain ⟨N, g1, g2⟩ := hln 2 (by simp)
    obtain ⟨D, d1, d2⟩ := hln 3 (by simp)
    obtain ⟨q, v, vc, e3, q1, q2, q3, q4, q5⟩ := open_nums (by kernel_rfl) Try.isInt64.1 Try.isInt64.2 h3
    obtain ⟨E, eE, _, wE⟩ := DataW.trod_int Try.isInt64.1 h4
    simp [Value.cells] at eK e1 a1 b1 g1 d1 e3 eE
    subst eK; subst e1; subst a1; subst b1; subst g1; subst d1; subst e3; subst eE
    unfold maxLen at r3 q3
    exact ⟨⟨K, l, A, R, N, D, v, E⟩, p, q, cap, vc, rfl, ⟨r4, q4, r1, q1, r2, q2, by show l.length ≤ _; omega, by show v.length ≤ _; omega⟩, ⟨wf_I64 wK, a2, b2, g2, d2, wf_I64 wE⟩, r5, q5⟩
end
theorem pars_ok {P : Program} {ts : List TypeId} (h : (ts.all fun t => P.readableRec t && decide (t < P.types.size)) = true) : ∀ t, t ∈ ts → P.readableRec t = true ∧ t < P.types.size := fun t ht => by
  have := List.all_eq_true.1 h t ht
  simpa using this
theorem Try.ownKnob : ownKnob Try.prog.godebug = none := by kernel_rfl
theorem Try.laidOut : laidOutB Try.prog = true := by kernel_rfl
end Go.Proofs.Ytgblmlefmohgnaa
namespace Go.Proofs.Ytgblmlefmohgnaa
open Go.ChangeShapes Go.WideShapes Go.ChangeAt Go.RowKit
set_option maxRecDepth 100000 in
theorem parted_lifted (os : Os) (started : os.Started) (H : Type) (enc : TypeId × Value → H) :
    ReturnsInHanded {} Try.checked os 3 .any (Rows.segPartedSpec.pre6 enc Try.prog Try.f3 Rows.segPartedRow.domain false) (Rows.segPartedSpec.post enc Try.prog Try.f3 false true false false) := by
  refine returnsInHanded_of_change (C := Try.checked) Try.ownKnob started (by kernel_rfl) Try.func3
    (ChangeSpec.witness6 (enc := enc) (C := Try.checked) false ⟨#[], #[.agg #[.int .i64 0, .slice none 0 0, .int .i64 0, .int .i64 0, .int .i64 0, .int .i64 0, .slice none 0 0, .int .i64 0], .int .i64 0, .int .i64 0, .int .i64 0], []⟩ 8 (by kernel_rfl) (by kernel_rfl) (by kernel_rfl) (by kernel_rfl)) ?_
  intro W base args ds gs before hval0 hW hcnd _
  have hval : ∀ (j : Nat) t v, Try.f3.params[j]? = some t → args[j]? = some v → Value.okWide Try.prog W .any base t v := hval0
  have hW' := hW
  obtain ⟨p, q, hA0, hV, rfl, hfz, hnd⟩ := hW
  have hA : DataW.TrodAll enc Try.prog W 0 (fun _ => true) true Try.f3.params.toList args.toList ds p := hA0
  rw [Try.params3] at hA hval
  obtain ⟨v0, v1, v2, v3, d0, d1, d2, d3, p0, p1, p2, p3, rfl, rfl, rfl, h0, h1, h2, h3⟩ := trodAll_four hA
  obtain ⟨rfl, rfl⟩ := trodVars_none hV
  obtain ⟨s, p', q', cap, vc, rfl, hs, _⟩ := open_seg (hval 0 _ v0 rfl rfl) h0
  obtain ⟨a, rfl, rfl, rfl, wa⟩ := open_int Try.isInt64.1 (hval 1 _ v1 rfl rfl) h1
  obtain ⟨mid, rfl, rfl, rfl, wm⟩ := open_int Try.isInt64.1 (hval 2 _ v2 rfl rfl) h2
  obtain ⟨b, rfl, rfl, rfl, wb⟩ := open_int Try.isInt64.1 (hval 3 _ v3 rfl rfl) h3
  clear hA0 hval0
  refine (c_parted s p' q' cap vc a mid b W hs (wf_I64 wa) (wf_I64 wm) (wf_I64 wb)).mono fun e W' ⟨he, hb⟩ => ?_
  subst he
  exact ⟨_, rfl, law_post Try.laidOut (pars_ok (by kernel_rfl)) rfl (by kernel_rfl) rfl hW' hb rfl⟩
theorem segParted_holds : Rows.SegPartedSaid :=
  OpenClaim.holds_of_wide 3 Try.f3 rfl rfl rfl rfl rfl rfl rfl ⟨rfl, rfl, rfl, rfl, rfl⟩ rfl rfl rfl rfl rfl (by kernel_rfl) Try.func3 (by kernel_rfl)
    (of_decide_eq_true (by kernel_rfl)) (by unfold Func.isWrapper; first | (rw [if_pos (by decide +kernel)]; kernel_rfl) | (rw [if_neg (by decide +kernel)]; exact ⟨rfl, rfl⟩))
    (fun os started H enc _ => parted_lifted os started H enc)
end Go.Proofs.Ytgblmlefmohgnaa
