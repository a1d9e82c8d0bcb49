/- For every segment that comes in, whatever is in it, and all a, b: SegFolds returns true; the arguments read as before. No condition. -/
import Derived.Test.YtgblmlefmohgnaaGreatBk10
set_option linter.unusedSimpArgs false
set_option linter.unusedVariables false
namespace Go.Proofs.YtgblmlefmohgnaaGreat
open Go.RowKit
theorem SegIn.alloc {w : World} {s : SegT} {p q : Option Addr} (h : SegIn w s p q) (o : Obj) : SegIn (w.alloc o) s p q := h.below ((Below.refl _ _).alloc (Nat.le_refl _) o)
theorem segAny {w : World} {s : SegT} {p q : Option Addr} (h : SegIn w s p q := by repeat (first | with_reducible assumption | with_reducible (refine SegIn.alloc ?_ _) | with_reducible (refine SegIn.below ?_ (by assumption)))) : SegIn w s p q := h
theorem SegIn.rex {L : List Nat} {w w' : World} {s : SegT} {p q : Option Addr} (h : SegIn w s p q) (hr : Rex L w w') (hL : L = []) : SegIn w' s p q := by subst hL; exact h.below hr.below
set_option maxRecDepth 100000 in
set_option maxHeartbeats 2000000 in
theorem folds_seg (K A R n d E : Int) (p q : Option Addr) (len cap m vc : Nat) (w : World) (len2 m2 : Nat) (s' : SegT) (a b : Int)
    (c1 : ∀ W, Below w.heap.size w W → Calls Tryz.prog 10 #[] W fun e w' => e = .returned (.bool true) ∧ Below W.heap.size W w')
    (c2 : ∀ W, Below w.heap.size w W → Calls Tryz.prog 11 #[.agg #[.int .i64 K, .slice p len cap, .int .i64 A, .int .i64 R, .int .i64 n, .int .i64 d, .slice q m vc, .int .i64 E]] W fun e w' => ∃ p' cap' q' vc', e = .returned (.agg #[.int .i64 K, .slice p' len2 cap', .int .i64 A, .int .i64 R, .int .i64 n, .int .i64 d, .slice q' m2 vc', .int .i64 E]) ∧ Below W.heap.size W w' ∧ SegIn w' s' p' q' ∧ m2 ≤ vc')
    (c3 : ∀ W p' q' cap' vc', SegIn W s' p' q' → m2 ≤ vc' → Calls Tryz.prog 25 #[.agg #[.int .i64 K, .slice p' len2 cap', .int .i64 A, .int .i64 R, .int .i64 n, .int .i64 d, .slice q' m2 vc', .int .i64 E]] W fun e w' => e = .returned (.tuple #[.slice none 0 0, .int .i64 210]) ∧ Below W.heap.size W w')
    (c4 : ∀ W p' q' cap' vc', SegIn W s' p' q' → m2 ≤ vc' → Calls Tryz.prog 12 #[.agg #[.int .i64 K, .slice p' len2 cap', .int .i64 A, .int .i64 R, .int .i64 n, .int .i64 d, .slice q' m2 vc', .int .i64 E], .int .i64 a, .int .i64 b] W fun e w' => e = .returned (.tuple #[.agg #[.int .i64 0, .int .i64 0, .int .i64 0, .int .i64 0, .int .u64 0], .int .i64 210]) ∧ Below W.heap.size W w') :
    Calls Tryz.prog 6 #[.agg #[.int .i64 K, .slice p len cap, .int .i64 A, .int .i64 R, .int .i64 n, .int .i64 d, .slice q m vc, .int .i64 E], .int .i64 a, .int .i64 b] w fun e w' => e = .returned (.bool true) ∧ Below w.heap.size w w' := by
  have H_c1 := Lib.hid c1
  clear c1
  have H_c2 := Lib.hid c2
  clear c2
  have H_c3 := Lib.hid c3
  clear c3
  have H_c4 := Lib.hid c4
  clear c4
  go_enter Tryz.func6, Tryz.ntmps6
  go_upto_region 1 with (fail)
  refine wp_facts (fun W' => Below w.heap.size w W' ∧ Blk W' w.heap.size #[.int .i64 K, .slice p len cap, .int .i64 A, .int .i64 R, .int .i64 n, .int .i64 d, .slice q m vc, .int .i64 E] 27) ⟨by exact belowAny, by exact blkAny2⟩ ?_
  rintro W1 ⟨hW, b1⟩
  have z2 := hW.size
  have z3 := b1.lt
  have k1 := b1.cell
  have f1 := b1.frozen
  have c1 := H_c1.out
  go_wp2_with fail
  refine (c1 _ (belowAny)).mono ?_
  rintro e w4 ⟨rfl, hb4⟩
  clear c1
  have z5 := hb4.size
  try simp at z5
  clear k1 f1
  have b1 : Blk w4 w.heap.size #[.int .i64 K, .slice p len cap, .int .i64 A, .int .i64 R, .int .i64 n, .int .i64 d, .slice q m vc, .int .i64 E] 27 := by exact blkAny2
  have hW : Below w.heap.size w w4 := by exact belowAny
  have z6 := b1.lt
  clear hb4
  have k1 := b1.cell
  have f1 := b1.frozen
  have c2 := H_c2.out
  go_wp2_with fail
  refine (c2 _ (belowAny)).mono ?_
  rintro e w7 ⟨p', cap', q', vc', rfl, hb7, hS, hvc⟩
  clear c2
  have z8 := hb7.size
  try simp at z8
  clear k1 f1
  have b1 : Blk w7 w.heap.size #[.int .i64 K, .slice p len cap, .int .i64 A, .int .i64 R, .int .i64 n, .int .i64 d, .slice q m vc, .int .i64 E] 27 := by exact blkAny2
  have hW : Below w.heap.size w w7 := by exact belowAny
  have z9 := b1.lt
  have k1 := b1.cell
  have f1 := b1.frozen
  have b2 := hS
  clear hS
  have c3 := H_c3.out
  go_wp2_with fail
  refine (c3 _ p' q' cap' vc' segAny hvc).mono ?_
  rintro e w10 ⟨rfl, hb10⟩
  clear c3
  have z11 := hb10.size
  try simp at z11
  clear k1 f1
  have b1 : Blk w10 w.heap.size #[.int .i64 K, .slice p len cap, .int .i64 A, .int .i64 R, .int .i64 n, .int .i64 d, .slice q m vc, .int .i64 E] 27 := by exact blkAny2
  have b2 : SegIn w10 s' p' q' := by exact segAny
  have b3 : Blk w10 w7.heap.size #[.int .i64 K, .slice p' len2 cap', .int .i64 A, .int .i64 R, .int .i64 n, .int .i64 d, .slice q' m2 vc', .int .i64 E] 27 := by exact blkAny2
  have hW : Below w.heap.size w w10 := by exact belowAny
  have z12 := b1.lt
  have z13 := b3.lt
  clear hb10
  have k1 := b1.cell
  have f1 := b1.frozen
  have k3 := b3.cell
  have f3 := b3.frozen
  have c4 := H_c4.out
  go_wp2_with fail
  refine (c4 _ p' q' cap' vc' segAny hvc).mono ?_
  rintro e w14 ⟨rfl, hb14⟩
  clear c4
  have z15 := hb14.size
  try simp at z15
  clear k1 f1 k3 f3
  have b1 : Blk w14 w.heap.size #[.int .i64 K, .slice p len cap, .int .i64 A, .int .i64 R, .int .i64 n, .int .i64 d, .slice q m vc, .int .i64 E] 27 := by exact blkAny2
  have b2 : SegIn w14 s' p' q' := by exact segAny
  have b3 : Blk w14 w7.heap.size #[.int .i64 K, .slice p' len2 cap', .int .i64 A, .int .i64 R, .int .i64 n, .int .i64 d, .slice q' m2 vc', .int .i64 E] 27 := by exact blkAny2
  have hW : Below w.heap.size w w14 := by exact belowAny
  have z16 := b1.lt
  have z17 := b3.lt
  clear hb14
  have k1 := b1.cell
  have f1 := b1.frozen
  have k3 := b3.cell
  have f3 := b3.frozen
  go_wp2
  have y_1 := b1.lt
  have y_3 := b3.lt
  refine bodyPost_ret (v := .bool true) (by simp [results, Tryz.results6, go_sem, k1, f1, k3, f3, y_1, y_3]) rfl ⟨rfl, by exact belowAny⟩
/-- What has come of some points. -/
def foldA (a b : Int) (l : List (Int × Int)) : Array Value := if selL a b l = [] then #[.int .i64 0, .int .i64 0, .int .i64 0, .int .i64 0, .int .u64 0] else partA (selL a b l)
def someB (a b : Int) (l : List (Int × Int)) : Bool := !(selL a b l).isEmpty
theorem someB_out {a b : Int} {l : List (Int × Int)} {x : Int × Int} (h : x.1 < a ∨ b < x.1) : someB a b (l ++ [x]) = someB a b l := by unfold someB; rw [selL_out l h]
theorem foldA_out {a b : Int} {l : List (Int × Int)} {x : Int × Int} (h : x.1 < a ∨ b < x.1) : foldA a b (l ++ [x]) = foldA a b l := by unfold foldA; rw [selL_out l h]
theorem someB_in {a b t v : Int} {l : List (Int × Int)} (h1 : a ≤ t) (h2 : t ≤ b) : someB a b (l ++ [(t, v)]) = true := by unfold someB; rw [selL_in l (x := (t, v)) h1 h2]; simp
theorem foldA_in {a b t v : Int} {l : List (Int × Int)} (h1 : a ≤ t) (h2 : t ≤ b) : foldA a b (l ++ [(t, v)]) = partA (selL a b l ++ [v]) := by unfold foldA; rw [selL_in l (x := (t, v)) h1 h2, if_neg (by simp)]
theorem partA_one (v : Int) : partA [v] = #[.int .i64 1, .int .i64 v, .int .i64 v, .int .i64 (hiW v), .int .u64 (loW v)] := by simp [partA, minL, maxL, lsum]
theorem length_selL (a b : Int) (l : List (Int × Int)) : (selL a b l).length ≤ l.length := by unfold selL; rw [List.length_map]; exact List.length_filter_le _ _
def foldRel (w : World) (a b er x0 x1 x2 x3 x4 : Int) (P : List (Int × Int)) (g cp o1 : Nat) (a' : Act) (W : World) : Prop :=
  Below w.heap.size w W ∧ Blk W o1 #[.int .i64 x0, .int .i64 x1, .int .i64 x2, .int .i64 x3, .int .u64 x4] 34 ∧ PtsIn W (some ⟨g, 0, none⟩) P ∧ ∃ (k : Nat) (sb : Bool), (∃ u : Nat → Value, a' = { tmps := #[u 0, .int .i64 a, .int .i64 b, u 3, u 4, u 5, u 6, u 7, u 8, u 9, .pointer (some ⟨o1, 0, none⟩), .int .i64 er, .pointer (some ⟨o1 + 1, 0, none⟩), .bool sb, u 14, u 15, u 16, u 17, u 18, u 19, u 20, u 21, u 22, u 23, u 24, u 25, u 26, u 27, u 28, u 29, u 30, u 31, u 32, u 33, u 34, u 35, u 36, u 37, u 38, u 39, u 40, u 41, u 42, u 43, u 44, .slice (some ⟨g, 0, none⟩) P.length cp, .int .i64 (P.length : Int), .int .i64 (k : Int), u 48, u 49, u 50, u 51, u 52, u 53, u 54, u 55, u 56, u 57, u 58, u 59, u 60, u 61, u 62, u 63, u 64, u 65, u 66, u 67, u 68, u 69, u 70, u 71, u 72, u 73, u 74, u 75, u 76, u 77, u 78, u 79, u 80, u 81, u 82, u 83, u 84, u 85, u 86, u 87, u 88, u 89, u 90, u 91, u 92], defers := [] }) ∧ k ≤ P.length ∧ sb = someB a b (P.take k) ∧ Blk W (o1 + 1) (foldA a b (P.take k)) 34 ∧ w.heap.size ≤ o1 ∧ g < o1
set_option maxRecDepth 100000 in
set_option maxHeartbeats 20000000 in
theorem folds_w (K A R n d E : Int) (p q : Option Addr) (len cap m vc : Nat) (w : World) (len2 m2 : Nat) (s' : SegT) (a b x0 x1 x2 x3 x4 er : Int) (P : List (Int × Int)) (hP0 : P.length ≤ 1000) (hPv : ∀ x, x ∈ P → I64 x.2)
    (hfin : if selL a b P = [] then er = 9 else er = 0 ∧ #[.int .i64 x0, .int .i64 x1, .int .i64 x2, .int .i64 x3, .int .u64 x4] = partA (selL a b P))
    (c1 : ∀ W, Below w.heap.size w W → Calls Tryz.prog 10 #[] W fun e w' => e = .returned (.bool true) ∧ Below W.heap.size W w')
    (c2 : ∀ W, Below w.heap.size w W → Calls Tryz.prog 11 #[.agg #[.int .i64 K, .slice p len cap, .int .i64 A, .int .i64 R, .int .i64 n, .int .i64 d, .slice q m vc, .int .i64 E]] W fun e w' => ∃ p' cap' q' vc', e = .returned (.agg #[.int .i64 K, .slice p' len2 cap', .int .i64 A, .int .i64 R, .int .i64 n, .int .i64 d, .slice q' m2 vc', .int .i64 E]) ∧ Below W.heap.size W w' ∧ SegIn w' s' p' q' ∧ m2 ≤ vc')
    (c3 : ∀ W p' q' cap' vc', SegIn W s' p' q' → m2 ≤ vc' → Calls Tryz.prog 25 #[.agg #[.int .i64 K, .slice p' len2 cap', .int .i64 A, .int .i64 R, .int .i64 n, .int .i64 d, .slice q' m2 vc', .int .i64 E]] W fun e w' => ∃ g cp, e = .returned (.tuple #[.slice (some ⟨g, 0, none⟩) P.length cp, .int .i64 0]) ∧ Below W.heap.size W w' ∧ PtsIn w' (some ⟨g, 0, none⟩) P ∧ g < w'.heap.size ∧ P.length ≤ cp)
    (c4 : ∀ W p' q' cap' vc', SegIn W s' p' q' → m2 ≤ vc' → Calls Tryz.prog 12 #[.agg #[.int .i64 K, .slice p' len2 cap', .int .i64 A, .int .i64 R, .int .i64 n, .int .i64 d, .slice q' m2 vc', .int .i64 E], .int .i64 a, .int .i64 b] W fun e w' => e = .returned (.tuple #[.agg #[.int .i64 x0, .int .i64 x1, .int .i64 x2, .int .i64 x3, .int .u64 x4], .int .i64 er]) ∧ Below W.heap.size W w')
    (c5 : ∀ v, I64 v → ∀ W, Calls Tryz.prog 26 #[.int .i64 v] W fun e w' => e = .returned (.agg #[.int .i64 (hiW v), .int .u64 (loW v)]) ∧ Below W.heap.size W w')
    (c6 : ∀ (Q : List Int) v, (∃ k, Q = selL a b (P.take k)) → Q ≠ [] → I64 v → ∀ W, Calls Tryz.prog 27 #[.agg #[.int .i64 ((Q).length : Int), .int .i64 (minL (Q)), .int .i64 (maxL (Q)), .int .i64 (hiW (lsum (Q))), .int .u64 (loW (lsum (Q)))], .agg #[.int .i64 1, .int .i64 v, .int .i64 v, .int .i64 (hiW v), .int .u64 (loW v)]] W fun e w' => e = .returned (.tuple #[.agg #[.int .i64 ((Q.length : Int) + 1), .int .i64 (minL (Q ++ [v])), .int .i64 (maxL (Q ++ [v])), .int .i64 (hiW (lsum (Q ++ [v]))), .int .u64 (loW (lsum (Q ++ [v])))], .bool true]) ∧ Below W.heap.size W w') :
    Calls Tryz.prog 6 #[.agg #[.int .i64 K, .slice p len cap, .int .i64 A, .int .i64 R, .int .i64 n, .int .i64 d, .slice q m vc, .int .i64 E], .int .i64 a, .int .i64 b] w fun e w' => e = .returned (.bool true) ∧ Below w.heap.size w w' := by
  replace hPv := Lib.hid hPv
  replace hfin := Lib.hid hfin
  replace c5 := Lib.hid c5
  replace c6 := Lib.hid c6
  have H_c1 := Lib.hid c1
  clear c1
  have H_c2 := Lib.hid c2
  clear c2
  have H_c3 := Lib.hid c3
  clear c3
  have H_c4 := Lib.hid c4
  clear c4
  go_enter Tryz.func6, Tryz.ntmps6
  go_upto_region 1 with (fail)
  refine wp_facts (fun W' => Below w.heap.size w W' ∧ Blk W' w.heap.size #[.int .i64 K, .slice p len cap, .int .i64 A, .int .i64 R, .int .i64 n, .int .i64 d, .slice q m vc, .int .i64 E] 27) ⟨by exact belowAny, by exact blkAny2⟩ ?_
  rintro W1 ⟨hW, b1⟩
  have z2 := hW.size
  have z3 := b1.lt
  have k1 := b1.cell
  have f1 := b1.frozen
  have c1 := H_c1.out
  go_wp2_with fail
  refine (c1 _ (belowAny)).mono ?_
  rintro e w4 ⟨rfl, hb4⟩
  clear c1
  have z5 := hb4.size
  try simp at z5
  clear k1 f1
  have b1 : Blk w4 w.heap.size #[.int .i64 K, .slice p len cap, .int .i64 A, .int .i64 R, .int .i64 n, .int .i64 d, .slice q m vc, .int .i64 E] 27 := by exact blkAny2
  have hW : Below w.heap.size w w4 := by exact belowAny
  have z6 := b1.lt
  clear hb4
  have k1 := b1.cell
  have f1 := b1.frozen
  have c2 := H_c2.out
  go_wp2_with fail
  refine (c2 _ (belowAny)).mono ?_
  rintro e w7 ⟨p', cap', q', vc', rfl, hb7, hS, hvc⟩
  clear c2
  have z8 := hb7.size
  try simp at z8
  clear k1 f1
  have b1 : Blk w7 w.heap.size #[.int .i64 K, .slice p len cap, .int .i64 A, .int .i64 R, .int .i64 n, .int .i64 d, .slice q m vc, .int .i64 E] 27 := by exact blkAny2
  have hW : Below w.heap.size w w7 := by exact belowAny
  have z9 := b1.lt
  have k1 := b1.cell
  have f1 := b1.frozen
  have b2 := hS
  clear hS
  have c3 := H_c3.out
  go_wp2_with fail
  refine (c3 _ p' q' cap' vc' segAny hvc).mono ?_
  rintro e w10 ⟨g, cp, rfl, hb10, hP, hg, hcp⟩
  clear c3
  have z11 := hb10.size
  try simp at z11
  clear k1 f1
  have b1 : Blk w10 w.heap.size #[.int .i64 K, .slice p len cap, .int .i64 A, .int .i64 R, .int .i64 n, .int .i64 d, .slice q m vc, .int .i64 E] 27 := by exact blkAny2
  have b2 : SegIn w10 s' p' q' := by exact segAny
  have b3 : Blk w10 w7.heap.size #[.int .i64 K, .slice p' len2 cap', .int .i64 A, .int .i64 R, .int .i64 n, .int .i64 d, .slice q' m2 vc', .int .i64 E] 27 := by exact blkAny2
  have hW : Below w.heap.size w w10 := by exact belowAny
  have z12 := b1.lt
  have z13 := b3.lt
  have k1 := b1.cell
  have f1 := b1.frozen
  have k3 := b3.cell
  have f3 := b3.frozen
  have b4 := hP
  clear hP
  have c4 := H_c4.out
  go_wp2_with fail
  refine (c4 _ p' q' cap' vc' segAny hvc).mono ?_
  rintro e w14 ⟨rfl, hb14⟩
  clear c4
  have z15 := hb14.size
  try simp at z15
  clear k1 f1 k3 f3
  have b1 : Blk w14 w.heap.size #[.int .i64 K, .slice p len cap, .int .i64 A, .int .i64 R, .int .i64 n, .int .i64 d, .slice q m vc, .int .i64 E] 27 := by exact blkAny2
  have b2 : SegIn w14 s' p' q' := by exact segAny
  have b3 : Blk w14 w7.heap.size #[.int .i64 K, .slice p' len2 cap', .int .i64 A, .int .i64 R, .int .i64 n, .int .i64 d, .slice q' m2 vc', .int .i64 E] 27 := by exact blkAny2
  have b4 : PtsIn w14 (some ⟨g, 0, none⟩) P := by exact ptsAny
  have hW : Below w.heap.size w w14 := by exact belowAny
  have z16 := b1.lt
  have z17 := b3.lt
  clear hb14
  have k1 := b1.cell
  have f1 := b1.frozen
  have k3 := b3.cell
  have f3 := b3.frozen
  clear H_c1 H_c2 H_c3 H_c4
  go_wp2
  obtain ⟨o1, ho⟩ : ∃ o1, o1 = w14.heap.size := ⟨_, rfl⟩
  rw [← ho]
  have hoo := Lib.hid ho
  have ho1 : w.heap.size ≤ o1 := by omega
  have hg1 : g < o1 := by omega
  clear ho
  refine wp_loop (foldRel w a b er x0 x1 x2 x3 x4 P g cp o1) (fun a' _ => P.length - (intAt (a'.tmps.getD 47 undef)).toNat) ?_ ?_
  · unfold foldRel
    have ho := hoo.out
    exact ⟨belowAny, blkAny2, ptsAny, 0, false, frame_ex rfl, by omega, by simp [someB, selL], by simp only [foldA, selL, List.take_zero, List.filter_nil, List.map_nil, if_true]; exact blkAny2, by omega, by omega⟩
  · clear b1 b2 b3 b4 hW k1 f1 k3 f3 hoo ho1 hg1
    rintro a' W ⟨hW, b1, b4, k, sb, ⟨u, rfl⟩, hk, hsb, b3, ho1, hg1⟩
    have hz := hW.size
    have hz1 := b1.lt
    have hz3 := b3.lt
    replace hsb := Lib.hid hsb
    rcases Nat.lt_or_ge k P.length with hlt | hge
    · obtain ⟨⟨t, v⟩, hri⟩ : ∃ x, P[k]? = some x := ⟨P[k], List.getElem?_eq_getElem hlt⟩
      have hm : (t, v) ∈ P := List.mem_of_getElem? hri
      have hv2 : I64 v := hPv.out _ hm
      obtain ⟨g', o', e', q0, q1⟩ := b4.at' k _ hri
      cases e'
      simp only [Nat.zero_add] at q0 q1
      have Hst := Lib.hid (show P.take (k + 1) = P.take k ++ [(t, v)] by rw [List.take_add_one, hri]; rfl)
      clear hri hm
      by_cases ht1 : a ≤ t
      · by_cases ht2 : t ≤ b
        · rcases hse : selL a b (P.take k) with _ | ⟨y, Q'⟩
          · have hb0 : sb = false := by rw [hsb.out]; unfold someB; rw [hse]; rfl
            subst hb0
            have hf0 : foldA a b (P.take k) = #[.int .i64 0, .int .i64 0, .int .i64 0, .int .i64 0, .int .u64 0] := by unfold foldA; rw [if_pos hse]
            rw [hf0] at b3
            have hsel := Lib.hid (show partA (selL a b (P.take k) ++ [v]) = #[.int .i64 1, .int .i64 v, .int .i64 v, .int .i64 (hiW v), .int .u64 (loW v)] by rw [hse]; exact partA_one v)
            clear hse hf0
            have b2 := b4
            have k1 := b1.cell
            have f1 := b1.frozen
            have k3 := b3.cell
            have f3 := b3.frozen
            have H_c51 := Lib.hid (fun W' (_ : Below w.heap.size w W') => c5.out v hv2 W')
            go_upto_region 13 with (fail)
            clear k1 f1 k3 f3
            refine wp_facts (fun W' => Below w.heap.size w W' ∧ Blk W' o1 #[.int .i64 x0, .int .i64 x1, .int .i64 x2, .int .i64 x3, .int .u64 x4] 34 ∧ PtsIn W' (some ⟨g, 0, none⟩) P ∧ Blk W' (o1 + 1) #[.int .i64 0, .int .i64 0, .int .i64 0, .int .i64 0, .int .u64 0] 34 ∧ Blk W' W.heap.size #[.int .i64 t, .int .i64 v] 58) ⟨by exact belowAny, by exact blkAny2, by exact ptsAny, by exact blkAny2, by exact blkAny2⟩ ?_
            clear b1 b2 b3 hW
            rintro W1 ⟨hW, b1, b2, b3, b4⟩
            have z2 := hW.size
            have z3 := b1.lt
            have z4 := b3.lt
            have z5 := b4.lt
            have c51 := H_c51.out
            refine wp_region_nd 9 93 [] (fun W' => Rex [] W1 W' ∧ Blk W' o1 #[.int .i64 x0, .int .i64 x1, .int .i64 x2, .int .i64 x3, .int .u64 x4] 34 ∧ PtsIn W' (some ⟨g, 0, none⟩) P ∧ Blk W' (o1 + 1) #[.int .i64 0, .int .i64 0, .int .i64 0, .int .i64 0, .int .u64 0] 34 ∧ Blk W' W.heap.size #[.int .i64 t, .int .i64 v] 58) mixed (by kernel_rfl) rfl ⟨(Rex.refl _ _).drew, b1, b2.drew, b3, b4⟩ (fun w w' ⟨h0, h1, h2, h3, h4⟩ hr => ⟨h0.trans hr, h1.rex hr (by simp <;> omega), h2.rex hr (by simp <;> omega), h3.rex hr (by simp <;> omega), h4.rex hr (by simp <;> omega)⟩) (fun c a d v w h => by cases d <;> exact h) ?_
            iterate 6
              apply nd_det (hg := rfl) (hal := rfl)
              · intro a W' hC hE
                obtain ⟨_, k1, k2, k3, k4⟩ := hC
                have k1 := k1.cell
                have k3 := k3.cell
                have k4 := k4.cell
                first
                  | (simp [Oper.looksAt, Op.operands, Call.operands, envOf, Det] at hE; simp [go_sem, Act.eval, IntWalk.i64_left, hE, k1, k2, k3, k4]; try rfl)
                  | (clear hE; simp [go_sem, Act.eval, IntWalk.i64_left, k1, k2, k3, k4]; try rfl)
            refine nd_callv2 rfl rfl (fun W' hC => c51 W' (hW.trans (hC.1.of_priv hW.size))) (fun a W' hC hE => ?_) ?_
            · obtain ⟨_, k1, k2, k3, k4⟩ := hC
              have k1 := k1.cell
              have k3 := k3.cell
              have k4 := k4.cell
              first
                | (simp [Oper.looksAt, Op.operands, Call.operands, envOf, Det] at hE; simp [go_sem, Act.eval, IntWalk.i64_left, hE, k1, k2, k3, k4]; try rfl)
                | (clear hE; simp [go_sem, Act.eval, IntWalk.i64_left, k1, k2, k3, k4]; try rfl)
            iterate 1
              apply nd_det (hg := rfl) (hal := rfl)
              · intro a W' hC hE
                obtain ⟨_, k1, k2, k3, k4⟩ := hC
                have k1 := k1.cell
                have k3 := k3.cell
                have k4 := k4.cell
                first
                  | (simp [Oper.looksAt, Op.operands, Call.operands, envOf, Det] at hE; simp [go_sem, Act.eval, IntWalk.i64_left, hE, k1, k2, k3, k4]; try rfl)
                  | (clear hE; simp [go_sem, Act.eval, IntWalk.i64_left, k1, k2, k3, k4]; try rfl)
            apply nd_alloc W1.heap.size #[.int .i64 0, .int .i64 0, .int .i64 0, .int .i64 0, .int .u64 0] 34 rfl rfl
            · exact fun W' hC => hC.1.size
            · simp [others] <;> omega
            · intro w; kernel_rfl
            rintro W6 ⟨hR, d1, d2, d3, d4⟩
            simp only [ndFinR, Det, forall_eq]
            intros
            repeat (rename GDet _ _ _ _ => hgd; clear hgd)
            simp only [Act.put, List.setIfInBounds_toArray, List.set_cons_zero, List.set_cons_succ, List.drop_succ_cons, List.drop_zero]
            replace hW := hW.trans (hR.of_priv hW.size)
            clear hR
            clear c51
            try clear b1 b2 b3 b4
            have b1 := d1
            clear d1
            have b2 := d2
            clear d2
            have b3 := d3
            clear d3
            have b4 := d4
            clear d4
            obtain ⟨o6, rfl, hg_o6, b5⟩ := ‹NewVar _ _ _ _ _›
            have z7 := b5.lt
            have k1 := b1.cell
            have f1 := b1.frozen
            have k3 := b3.cell
            have f3 := b3.frozen
            have k4 := b4.cell
            have f4 := b4.frozen
            have k5 := b5.cell
            have f5 := b5.frozen
            go_wp2
            rw [show (k : Int) + 1 = ((k + 1 : Nat) : Int) by omega]
            refine ⟨?_, by simp [intAt]; omega⟩
            unfold foldRel
            exact ⟨belowAny, blkAny2, ptsAny, k + 1, true, frame_ex rfl, by omega, (by rw [Hst.out]; exact (someB_in ht1 ht2).symm), by rw [Hst.out, foldA_in ht1 ht2, hsel.out]; exact blkAny2, ho1, hg1⟩
          · have hb0 : sb = true := by rw [hsb.out]; unfold someB; rw [hse]; rfl
            subst hb0
            obtain ⟨Q, hQe⟩ : ∃ Q, Q = selL a b (P.take k) := ⟨_, rfl⟩
            have hQn : Q ≠ [] := by rw [hQe, hse]; simp
            have hf0 : foldA a b (P.take k) = #[.int .i64 ((Q).length : Int), .int .i64 (minL (Q)), .int .i64 (maxL (Q)), .int .i64 (hiW (lsum (Q))), .int .u64 (loW (lsum (Q)))] := by unfold foldA; rw [if_neg (by rw [hse]; simp), ← hQe]; rfl
            rw [hf0] at b3
            have hsel := Lib.hid (show partA (selL a b (P.take k) ++ [v]) = #[.int .i64 ((Q.length : Int) + 1), .int .i64 (minL (Q ++ [v])), .int .i64 (maxL (Q ++ [v])), .int .i64 (hiW (lsum (Q ++ [v]))), .int .u64 (loW (lsum (Q ++ [v])))] by rw [← hQe]; unfold partA; rw [List.length_append]; rfl)
            have hQ := Lib.hid (show ∃ k, Q = selL a b (P.take k) from ⟨k, hQe⟩)
            clear hse hf0 hQe
            have b2 := b4
            have k1 := b1.cell
            have f1 := b1.frozen
            have k3 := b3.cell
            have f3 := b3.frozen
            have H_c51 := Lib.hid (fun W' (_ : Below w.heap.size w W') => c5.out v hv2 W')
            have H_c61 := Lib.hid (c6.out Q v hQ.out hQn hv2)
            go_upto_region 13 with (fail)
            clear k1 f1 k3 f3
            refine wp_facts (fun W' => Below w.heap.size w W' ∧ Blk W' o1 #[.int .i64 x0, .int .i64 x1, .int .i64 x2, .int .i64 x3, .int .u64 x4] 34 ∧ PtsIn W' (some ⟨g, 0, none⟩) P ∧ Blk W' (o1 + 1) #[.int .i64 ((Q).length : Int), .int .i64 (minL (Q)), .int .i64 (maxL (Q)), .int .i64 (hiW (lsum (Q))), .int .u64 (loW (lsum (Q)))] 34 ∧ Blk W' W.heap.size #[.int .i64 t, .int .i64 v] 58) ⟨by exact belowAny, by exact blkAny2, by exact ptsAny, by exact blkAny2, by exact blkAny2⟩ ?_
            clear b1 b2 b3 hW
            rintro W1 ⟨hW, b1, b2, b3, b4⟩
            have z2 := hW.size
            have z3 := b1.lt
            have z4 := b3.lt
            have z5 := b4.lt
            have c51 := H_c51.out
            refine wp_region_nd 9 93 [] (fun W' => Rex [] W1 W' ∧ Blk W' o1 #[.int .i64 x0, .int .i64 x1, .int .i64 x2, .int .i64 x3, .int .u64 x4] 34 ∧ PtsIn W' (some ⟨g, 0, none⟩) P ∧ Blk W' (o1 + 1) #[.int .i64 ((Q).length : Int), .int .i64 (minL (Q)), .int .i64 (maxL (Q)), .int .i64 (hiW (lsum (Q))), .int .u64 (loW (lsum (Q)))] 34 ∧ Blk W' W.heap.size #[.int .i64 t, .int .i64 v] 58) mixed (by kernel_rfl) rfl ⟨(Rex.refl _ _).drew, b1, b2.drew, b3, b4⟩ (fun w w' ⟨h0, h1, h2, h3, h4⟩ hr => ⟨h0.trans hr, h1.rex hr (by simp <;> omega), h2.rex hr (by simp <;> omega), h3.rex hr (by simp <;> omega), h4.rex hr (by simp <;> omega)⟩) (fun c a d v w h => by cases d <;> exact h) ?_
            iterate 6
              apply nd_det (hg := rfl) (hal := rfl)
              · intro a W' hC hE
                obtain ⟨_, k1, k2, k3, k4⟩ := hC
                have k1 := k1.cell
                have k3 := k3.cell
                have k4 := k4.cell
                first
                  | (simp [Oper.looksAt, Op.operands, Call.operands, envOf, Det] at hE; simp [go_sem, Act.eval, IntWalk.i64_left, hE, k1, k2, k3, k4]; try rfl)
                  | (clear hE; simp [go_sem, Act.eval, IntWalk.i64_left, k1, k2, k3, k4]; try rfl)
            refine nd_callv2 rfl rfl (fun W' hC => c51 W' (hW.trans (hC.1.of_priv hW.size))) (fun a W' hC hE => ?_) ?_
            · obtain ⟨_, k1, k2, k3, k4⟩ := hC
              have k1 := k1.cell
              have k3 := k3.cell
              have k4 := k4.cell
              first
                | (simp [Oper.looksAt, Op.operands, Call.operands, envOf, Det] at hE; simp [go_sem, Act.eval, IntWalk.i64_left, hE, k1, k2, k3, k4]; try rfl)
                | (clear hE; simp [go_sem, Act.eval, IntWalk.i64_left, k1, k2, k3, k4]; try rfl)
            iterate 1
              apply nd_det (hg := rfl) (hal := rfl)
              · intro a W' hC hE
                obtain ⟨_, k1, k2, k3, k4⟩ := hC
                have k1 := k1.cell
                have k3 := k3.cell
                have k4 := k4.cell
                first
                  | (simp [Oper.looksAt, Op.operands, Call.operands, envOf, Det] at hE; simp [go_sem, Act.eval, IntWalk.i64_left, hE, k1, k2, k3, k4]; try rfl)
                  | (clear hE; simp [go_sem, Act.eval, IntWalk.i64_left, k1, k2, k3, k4]; try rfl)
            apply nd_alloc W1.heap.size #[.int .i64 0, .int .i64 0, .int .i64 0, .int .i64 0, .int .u64 0] 34 rfl rfl
            · exact fun W' hC => hC.1.size
            · simp [others] <;> omega
            · intro w; kernel_rfl
            rintro W6 ⟨hR, d1, d2, d3, d4⟩
            simp only [ndFinR, Det, forall_eq]
            intros
            repeat (rename GDet _ _ _ _ => hgd; clear hgd)
            simp only [Act.put, List.setIfInBounds_toArray, List.set_cons_zero, List.set_cons_succ, List.drop_succ_cons, List.drop_zero]
            replace hW := hW.trans (hR.of_priv hW.size)
            clear hR
            clear c51
            try clear b1 b2 b3 b4
            have b1 := d1
            clear d1
            have b2 := d2
            clear d2
            have b3 := d3
            clear d3
            have b4 := d4
            clear d4
            obtain ⟨o6, rfl, hg_o6, b5⟩ := ‹NewVar _ _ _ _ _›
            have z7 := b5.lt
            have k1 := b1.cell
            have f1 := b1.frozen
            have k3 := b3.cell
            have f3 := b3.frozen
            have k4 := b4.cell
            have f4 := b4.frozen
            have k5 := b5.cell
            have f5 := b5.frozen
            have c61 := H_c61.out
            go_wp2_with fail
            refine (c61 _).mono ?_
            rintro e w8 ⟨rfl, hb8⟩
            clear c61
            have z9 := hb8.size
            try simp at z9
            clear k1 f1 k3 f3 k4 f4 k5 f5
            have b1 : Blk w8 o1 #[.int .i64 x0, .int .i64 x1, .int .i64 x2, .int .i64 x3, .int .u64 x4] 34 := by exact blkAny2
            have b2 : PtsIn w8 (some ⟨g, 0, none⟩) P := by exact ptsAny
            have b3 : Blk w8 (o1 + 1) #[.int .i64 ((Q).length : Int), .int .i64 (minL (Q)), .int .i64 (maxL (Q)), .int .i64 (hiW (lsum (Q))), .int .u64 (loW (lsum (Q)))] 34 := by exact blkAny2
            have b4 : Blk w8 W.heap.size #[.int .i64 t, .int .i64 v] 58 := by exact blkAny2
            have b5 : Blk w8 o6 #[.int .i64 1, .int .i64 v, .int .i64 v, .int .i64 (hiW v), .int .u64 (loW v)] 34 := by exact blkAny2
            have hW : Below w.heap.size w w8 := by exact belowAny
            have z10 := b1.lt
            have z11 := b3.lt
            have z12 := b4.lt
            have z13 := b5.lt
            clear hb8
            have k1 := b1.cell
            have f1 := b1.frozen
            have k3 := b3.cell
            have f3 := b3.frozen
            have k4 := b4.cell
            have f4 := b4.frozen
            have k5 := b5.cell
            have f5 := b5.frozen
            go_wp2
            rw [show (k : Int) + 1 = ((k + 1 : Nat) : Int) by omega]
            refine ⟨?_, by simp [intAt]; omega⟩
            unfold foldRel
            exact ⟨belowAny, blkAny2, ptsAny, k + 1, true, frame_ex rfl, by omega, (by rw [Hst.out]; exact (someB_in ht1 ht2).symm), by rw [Hst.out, foldA_in ht1 ht2, hsel.out]; exact blkAny2, ho1, hg1⟩
        · have hout := Lib.hid (show (t, v).1 < a ∨ b < (t, v).1 from .inr (by simp; omega))
          have b2 := b4
          have k1 := b1.cell
          have f1 := b1.frozen
          go_wp2
          rw [show (k : Int) + 1 = ((k + 1 : Nat) : Int) by omega]
          refine ⟨?_, by simp [intAt]; omega⟩
          unfold foldRel
          exact ⟨belowAny, blkAny2, ptsAny, k + 1, sb, frame_ex rfl, by omega, hsb.out.trans (by rw [Hst.out]; exact (someB_out hout.out).symm), by rw [Hst.out, foldA_out hout.out]; exact blkAny2, ho1, hg1⟩
      · have hout := Lib.hid (show (t, v).1 < a ∨ b < (t, v).1 from .inl (by simp; omega))
        have b2 := b4
        have k1 := b1.cell
        have f1 := b1.frozen
        go_wp2
        rw [show (k : Int) + 1 = ((k + 1 : Nat) : Int) by omega]
        refine ⟨?_, by simp [intAt]; omega⟩
        unfold foldRel
        exact ⟨belowAny, blkAny2, ptsAny, k + 1, sb, frame_ex rfl, by omega, hsb.out.trans (by rw [Hst.out]; exact (someB_out hout.out).symm), by rw [Hst.out, foldA_out hout.out]; exact blkAny2, ho1, hg1⟩
    · have e : k = P.length := by omega
      subst e
      have hf := hfin.out
      have hsb' := hsb.out
      rw [List.take_length] at b3 hsb'
      by_cases hse : selL a b P = []
      · rw [if_pos hse] at hf
        have hb0 : sb = false := by rw [hsb']; unfold someB; rw [hse]; rfl
        have hf0 : foldA a b P = #[.int .i64 0, .int .i64 0, .int .i64 0, .int .i64 0, .int .u64 0] := by unfold foldA; rw [if_pos hse]
        rw [hf0] at b3
        subst hf
        subst hb0
        clear hse hf0 hsb hsb'
        have b2 := b4
        have k1 := b1.cell
        have f1 := b1.frozen
        have k3 := b3.cell
        have f3 := b3.frozen
        go_wp2
        have y_1 := b1.lt
        have y_3 := b3.lt
        refine bodyPost_ret (v := .bool true) (by simp [results, Tryz.results6, go_sem, k1, f1, k3, f3, y_1, y_3]) rfl ⟨rfl, belowAny⟩
      · rw [if_neg hse] at hf
        obtain ⟨rfl, hx⟩ := hf
        have hb0 : sb = true := by rw [hsb']; unfold someB; cases h : selL a b P with | nil => exact absurd h hse | cons y l => rfl
        have hf0 : foldA a b P = #[.int .i64 x0, .int .i64 x1, .int .i64 x2, .int .i64 x3, .int .u64 x4] := by unfold foldA; rw [if_neg hse, hx]
        rw [hf0] at b3
        subst hb0
        clear hse hf0 hsb hsb' hx
        have b2 := b4
        have k1 := b1.cell
        have f1 := b1.frozen
        have k3 := b3.cell
        have f3 := b3.frozen
        go_wp2
        have y_1 := b1.lt
        have y_3 := b3.lt
        refine bodyPost_ret (v := .bool true) (by simp [results, Tryz.results6, go_sem, k1, f1, k3, f3, y_1, y_3]) rfl ⟨rfl, belowAny⟩
end Go.Proofs.YtgblmlefmohgnaaGreat
namespace Go.Proofs.YtgblmlefmohgnaaGreat
open Go.RowKit
theorem Came.below {w w' : World} {s : SegT} {p q : Option Addr} {cap vc : Nat} (h : Came w s p q cap vc) (hb : Below w.heap.size w w') : Came w' s p q cap vc := ⟨h.runs.below hb, h.raw.below hb, h.nilR, h.nilV, h.capR, h.capV, h.maxR, h.maxV⟩
theorem partOut_no {s : SegT} (h : segB s = false) (a b : Int) : partOut s a b = (#[.int .i64 0, .int .i64 0, .int .i64 0, .int .i64 0, .int .u64 0], 210) := by unfold partOut; rw [h]; rfl
theorem partOut_five (s : SegT) (a b : Int) : ∃ c0 c1 c2 c3 c4 : Int, (partOut s a b).1 = #[.int .i64 c0, .int .i64 c1, .int .i64 c2, .int .i64 c3, .int .u64 c4] := by
  unfold partOut partA
  split
  · split
    · exact ⟨_, _, _, _, _, rfl⟩
    · exact ⟨_, _, _, _, _, rfl⟩
  · exact ⟨_, _, _, _, _, rfl⟩
theorem c_together {P Q R : List Int} (w : World) (hP : P.length ≤ 1000) (hQ : Q.length ≤ 1000) (h1 : (R.length : Int) = P.length + Q.length) (h2 : minL R = min (minL P) (minL Q)) (h3 : maxL R = max (maxL P) (maxL Q)) (h4 : lsum R = lsum P + lsum Q)
    (hp : W128 (lsum P)) (hq : W128 (lsum Q)) (hr : W128 (lsum P + lsum Q)) :
    Calls Tryz.prog 27 #[.agg (partA P), .agg (partA Q)] w fun e w' => e = .returned (.tuple #[.agg (partA R), .bool true]) ∧ Below w.heap.size w w' := by
  have := together_w P.length (minL P) (maxL P) Q.length (minL Q) (maxL Q) (lsum P) (lsum Q) w (by omega) (fun W _ => c_add_in _ _ W hp hq hr)
  rw [← h1, ← h2, ← h3, ← h4] at this
  exact this
theorem c_togetherOne (Q : List Int) (v : Int) (w : World) (hQ : Q ≠ []) (hn : Q.length ≤ 900) (hb : ∀ x, x ∈ Q → -2305844108725321728 * 2 ≤ x ∧ x ≤ 2305844108725321728 * 2) (hv : I64 v) :
    Calls Tryz.prog 27 #[.agg #[.int .i64 ((Q).length : Int), .int .i64 (minL (Q)), .int .i64 (maxL (Q)), .int .i64 (hiW (lsum (Q))), .int .u64 (loW (lsum (Q)))], .agg #[.int .i64 1, .int .i64 v, .int .i64 v, .int .i64 (hiW v), .int .u64 (loW v)]] w fun e w' => e = .returned (.tuple #[.agg #[.int .i64 ((Q.length : Int) + 1), .int .i64 (minL (Q ++ [v])), .int .i64 (maxL (Q ++ [v])), .int .i64 (hiW (lsum (Q ++ [v]))), .int .u64 (loW (lsum (Q ++ [v])))], .bool true]) ∧ Below w.heap.size w w' := by
  have h := lsum_bd (l := Q) (B := 4611688217450643456) (fun x hx => by have := hb x hx; omega)
  have := c_together (P := Q) (Q := [v]) (R := Q ++ [v]) w (by omega) (by simp) (by simp) (minL_append hQ (by simp)) (maxL_append hQ (by simp)) (lsum_append _ _)
    (by unfold W128; omega) (by obtain ⟨_, _⟩ := hv; simp [lsum]; unfold W128; omega) (by obtain ⟨_, _⟩ := hv; simp [lsum]; unfold W128; omega)
  rw [partA_one] at this
  have e : partA (Q ++ [v]) = #[.int .i64 ((Q.length : Int) + 1), .int .i64 (minL (Q ++ [v])), .int .i64 (maxL (Q ++ [v])), .int .i64 (hiW (lsum (Q ++ [v]))), .int .u64 (loW (lsum (Q ++ [v])))] := by unfold partA; rw [List.length_append]; rfl
  rw [e] at this
  exact this
theorem pts_back {s : SegT} (hs : segB s = true) {x : Int × Int} (hx : x ∈ ptsL s) : -2305844108725321728 ≤ x.2 ∧ x.2 ≤ 2305844108725321728 := vals_back hs (by rw [← map_pts hs]; exact List.mem_map_of_mem hx)
theorem c_PointsIn (s : SegT) (p q : Option Addr) (cap vc : Nat) (w : World) (h : SegIn w s p q) (hs : segB s = true) :
    Calls Tryz.prog 25 #[.agg (segA s p q cap vc)] w fun e w' => ∃ g cp, e = .returned (.tuple #[.slice (some ⟨g, 0, none⟩) (ptsL s).length cp, .int .i64 0]) ∧ Below w.heap.size w w' ∧ PtsIn w' (some ⟨g, 0, none⟩) (ptsL s) ∧ g < w'.heap.size ∧ (ptsL s).length ≤ cp := by
  refine (c_Points s p q cap vc w h hs).mono ?_
  rintro e w' ⟨v, rfl, hv, hB⟩
  have hn := length_pts hs
  have hc := cnt_pos (segB_runs hs)
  obtain ⟨g, cp, cur, rfl, _, hcp, _, hb, _, htk⟩ := pts_is hv (by omega)
  exact ⟨g, cp, rfl, hB, pts_in hb htk, hb.lt, hcp⟩
theorem c_folds (s : SegT) (p q : Option Addr) (cap vc : Nat) (a b : Int) (w : World) (h : Came w s p q cap vc) (hb : I64 b) :
    Calls Tryz.prog 6 #[.agg (segA s p q cap vc), .int .i64 a, .int .i64 b] w fun e w' => e = .returned (.bool true) ∧ Below w.heap.size w w' := by
  have c1 := fun W (_ : Below w.heap.size w W) => c_wakes W
  have c2 := fun W (hW : Below w.heap.size w W) => c_own s p q cap vc W (h.below hW)
  have key : ∀ (R : Array Value) (er : Int), partOut (ownS s) a b = (R, er) → ∀ W p' q' cap' vc', SegIn W (ownS s) p' q' → (ownS s).raw.length ≤ vc' → Calls Tryz.prog 12 #[.agg (segA (ownS s) p' q' cap' vc'), .int .i64 a, .int .i64 b] W fun e w' => e = .returned (.tuple #[.agg R, .int .i64 er]) ∧ Below W.heap.size W w' := by
    intro R er he W p' q' cap' vc' h1 h2
    have := c_Part (ownS s) p' q' cap' vc' a b W h1 h2 hb.1
    rw [he] at this
    exact this
  cases hs : segB (ownS s) with
  | false => exact folds_seg _ _ _ _ _ _ p q _ cap _ vc w _ _ (ownS s) a b c1 c2 (fun W p' q' cap' vc' h1 _ => c_Points_no (ownS s) p' q' cap' vc' W h1 hs) (key _ _ (partOut_no hs _ _))
  | true =>
    obtain ⟨x0, x1, x2, x3, x4, e5⟩ := partOut_five (ownS s) a b
    have hn := length_pts hs
    have hc := cnt_pos (segB_runs hs)
    have hsel := partOut_sel hs a b
    refine folds_w _ _ _ _ _ _ p q _ cap _ vc w _ _ (ownS s) a b x0 x1 x2 x3 x4 (partOut (ownS s) a b).2 (ptsL (ownS s)) (by omega) (fun x hx => ?_) ?_ c1 c2 (fun W p' q' cap' vc' h1 _ => c_PointsIn (ownS s) p' q' cap' vc' W h1 hs) (key _ _ (Prod.ext e5 rfl)) (fun v hv W => c_Of v W hv) (fun Q v hQ hne hv W => ?_)
    · have := pts_back hs hx
      exact ⟨by omega, by omega⟩
    · rw [← e5, hsel]
      split
      · rfl
      · exact ⟨rfl, rfl⟩
    · obtain ⟨k, rfl⟩ := hQ
      have hl := length_selL a b ((ptsL (ownS s)).take k)
      refine c_togetherOne _ v W hne (by simp at hl; omega) (fun x hx => ?_) hv
      unfold selL at hx
      simp only [List.mem_map, List.mem_filter] at hx
      obtain ⟨y, ⟨hy, _⟩, rfl⟩ := hx
      have := pts_back hs (List.mem_of_mem_take hy)
      omega
end Go.Proofs.YtgblmlefmohgnaaGreat
namespace Go.Proofs.YtgblmlefmohgnaaGreat
open Go.ChangeShapes Go.WideShapes Go.ChangeAt Go.RowKit
set_option maxRecDepth 100000 in
theorem folds_lifted (os : Os) (started : os.Started) (H : Type) (enc : TypeId × Value → H) :
    ReturnsInHanded {} Tryz.checked os 6 .any (Rows.segFoldsSpec.pre6 enc Tryz.prog Tryz.f6 Rows.segFoldsRow.domain false) (Rows.segFoldsSpec.post enc Tryz.prog Tryz.f6 false true false false) := by
  refine returnsInHanded_of_change (C := Tryz.checked) Tryz.ownKnob started (by kernel_rfl) Tryz.func6
    (ChangeSpec.witness6 (enc := enc) (C := Tryz.checked) false ⟨#[], #[.agg #[.int .i64 0, .slice none 0 0, .int .i64 0, .int .i64 0, .int .i64 0, .int .i64 0, .slice none 0 0, .int .i64 0], .int .i64 0, .int .i64 0], []⟩ 8 (by kernel_rfl) (by kernel_rfl) (by kernel_rfl) (by kernel_rfl)) ?_
  intro W base args ds gs before hval0 hW hcnd _
  have hval : ∀ (j : Nat) t v, Tryz.f6.params[j]? = some t → args[j]? = some v → Value.okWide Tryz.prog W .any base t v := hval0
  have hW' := hW
  obtain ⟨p, q, hA0, hV, rfl, hfz, hnd⟩ := hW
  have hA : DataW.TrodAll enc Tryz.prog W 0 (fun _ => true) true Tryz.f6.params.toList args.toList ds p := hA0
  rw [Tryz.params6] at hA hval
  obtain ⟨v0, v1, v2, d0, d1, d2, p0, p1, p2, rfl, rfl, rfl, h0, h1, h2⟩ := trodAll_three hA
  obtain ⟨rfl, rfl⟩ := trodVars_none hV
  obtain ⟨s, p', q', cap, vc, rfl, hs, _⟩ := open_seg (hval 0 _ v0 rfl rfl) h0
  obtain ⟨a, rfl, rfl, rfl, wa⟩ := open_int Tryz.isInt64.1 (hval 1 _ v1 rfl rfl) h1
  obtain ⟨b, rfl, rfl, rfl, wb⟩ := open_int Tryz.isInt64.1 (hval 2 _ v2 rfl rfl) h2
  clear hA0 hval0
  refine (c_folds s p' q' cap vc a b W hs (wf_I64 wb)).mono fun e W' ⟨he, hb⟩ => ?_
  subst he
  exact ⟨_, rfl, law_post Tryz.laidOut (pars_ok (by kernel_rfl)) rfl (by kernel_rfl) rfl hW' hb rfl⟩
theorem segFolds_holds : Rows.SegFoldsSaid :=
  OpenClaim.holds_of_wide 6 Tryz.f6 rfl rfl rfl rfl rfl rfl rfl ⟨rfl, rfl, rfl, rfl, rfl⟩ rfl rfl rfl rfl rfl (by kernel_rfl) Tryz.func6 (by kernel_rfl)
    (of_decide_eq_true (by kernel_rfl)) (by unfold Func.isWrapper; first | (rw [if_pos (by decide +kernel)]; kernel_rfl) | (rw [if_neg (by decide +kernel)]; exact ⟨rfl, rfl⟩))
    (fun os started H enc _ => folds_lifted os started H enc)
end Go.Proofs.YtgblmlefmohgnaaGreat
