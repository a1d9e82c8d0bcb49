/- Parts of the proof that follows: SegFolds, walked. | seg.Far$1, walked: how far a segment is from points. No condition. | seg.Far, Holds, told. No condition. -/
import Derived.Test.YtgblmlefmohgnaaGreatBk10
set_option linter.unusedSimpArgs false
set_option linter.unusedVariables false
namespace Go.Proofs.YtgblmlefmohgnaaGreat
open Go.RowKit
theorem SegIn.alloc {w : World} {s : SegT} {p q : Option Addr} (h : SegIn w s p q) (o : Obj) : SegIn (w.alloc o) s p q := h.below ((Below.refl _ _).alloc (Nat.le_refl _) o)
theorem segAny {w : World} {s : SegT} {p q : Option Addr} (h : SegIn w s p q := by repeat (first | with_reducible assumption | with_reducible (refine SegIn.alloc ?_ _) | with_reducible (refine SegIn.below ?_ (by assumption)))) : SegIn w s p q := h
theorem SegIn.rex {L : List Nat} {w w' : World} {s : SegT} {p q : Option Addr} (h : SegIn w s p q) (hr : Rex L w w') (hL : L = []) : SegIn w' s p q := by subst hL; exact h.below hr.below
set_option maxRecDepth 100000 in
set_option maxHeartbeats 2000000 in
theorem folds_seg (K A R n d E : Int) (p q : Option Addr) (len cap m vc : Nat) (w : World) (len2 m2 : Nat) (s' : SegT) (a b : Int)
    (c1 : ∀ W, Below w.heap.size w W → Calls Tryz.prog 10 #[] W fun e w' => e = .returned (.bool true) ∧ Below W.heap.size W w')
    (c2 : ∀ W, Below w.heap.size w W → Calls Tryz.prog 11 #[.agg #[.int .i64 K, .slice p len cap, .int .i64 A, .int .i64 R, .int .i64 n, .int .i64 d, .slice q m vc, .int .i64 E]] W fun e w' => ∃ p' cap' q' vc', e = .returned (.agg #[.int .i64 K, .slice p' len2 cap', .int .i64 A, .int .i64 R, .int .i64 n, .int .i64 d, .slice q' m2 vc', .int .i64 E]) ∧ Below W.heap.size W w' ∧ SegIn w' s' p' q' ∧ m2 ≤ vc')
    (c3 : ∀ W p' q' cap' vc', SegIn W s' p' q' → m2 ≤ vc' → Calls Tryz.prog 25 #[.agg #[.int .i64 K, .slice p' len2 cap', .int .i64 A, .int .i64 R, .int .i64 n, .int .i64 d, .slice q' m2 vc', .int .i64 E]] W fun e w' => e = .returned (.tuple #[.slice none 0 0, .int .i64 210]) ∧ Below W.heap.size W w')
    (c4 : ∀ W p' q' cap' vc', SegIn W s' p' q' → m2 ≤ vc' → Calls Tryz.prog 12 #[.agg #[.int .i64 K, .slice p' len2 cap', .int .i64 A, .int .i64 R, .int .i64 n, .int .i64 d, .slice q' m2 vc', .int .i64 E], .int .i64 a, .int .i64 b] W fun e w' => e = .returned (.tuple #[.agg #[.int .i64 0, .int .i64 0, .int .i64 0, .int .i64 0, .int .u64 0], .int .i64 210]) ∧ Below W.heap.size W w') :
    Calls Tryz.prog 6 #[.agg #[.int .i64 K, .slice p len cap, .int .i64 A, .int .i64 R, .int .i64 n, .int .i64 d, .slice q m vc, .int .i64 E], .int .i64 a, .int .i64 b] w fun e w' => e = .returned (.bool true) ∧ Below w.heap.size w w' := by
  have H_c1 := Lib.hid c1
  clear c1
  have H_c2 := Lib.hid c2
  clear c2
  have H_c3 := Lib.hid c3
  clear c3
  have H_c4 := Lib.hid c4
  clear c4
  go_enter Tryz.func6, Tryz.ntmps6
  go_upto_region 1 with (fail)
  refine wp_facts (fun W' => Below w.heap.size w W' ∧ Blk W' w.heap.size #[.int .i64 K, .slice p len cap, .int .i64 A, .int .i64 R, .int .i64 n, .int .i64 d, .slice q m vc, .int .i64 E] 27) ⟨by exact belowAny, by exact blkAny2⟩ ?_
  rintro W1 ⟨hW, b1⟩
  have z2 := hW.size
  have z3 := b1.lt
  have k1 := b1.cell
  have f1 := b1.frozen
  have c1 := H_c1.out
  go_wp2_with fail
  refine (c1 _ (belowAny)).mono ?_
  rintro e w4 ⟨rfl, hb4⟩
  clear c1
  have z5 := hb4.size
  try simp at z5
  clear k1 f1
  have b1 : Blk w4 w.heap.size #[.int .i64 K, .slice p len cap, .int .i64 A, .int .i64 R, .int .i64 n, .int .i64 d, .slice q m vc, .int .i64 E] 27 := by exact blkAny2
  have hW : Below w.heap.size w w4 := by exact belowAny
  have z6 := b1.lt
  clear hb4
  have k1 := b1.cell
  have f1 := b1.frozen
  have c2 := H_c2.out
  go_wp2_with fail
  refine (c2 _ (belowAny)).mono ?_
  rintro e w7 ⟨p', cap', q', vc', rfl, hb7, hS, hvc⟩
  clear c2
  have z8 := hb7.size
  try simp at z8
  clear k1 f1
  have b1 : Blk w7 w.heap.size #[.int .i64 K, .slice p len cap, .int .i64 A, .int .i64 R, .int .i64 n, .int .i64 d, .slice q m vc, .int .i64 E] 27 := by exact blkAny2
  have hW : Below w.heap.size w w7 := by exact belowAny
  have z9 := b1.lt
  have k1 := b1.cell
  have f1 := b1.frozen
  have b2 := hS
  clear hS
  have c3 := H_c3.out
  go_wp2_with fail
  refine (c3 _ p' q' cap' vc' segAny hvc).mono ?_
  rintro e w10 ⟨rfl, hb10⟩
  clear c3
  have z11 := hb10.size
  try simp at z11
  clear k1 f1
  have b1 : Blk w10 w.heap.size #[.int .i64 K, .slice p len cap, .int .i64 A, .int .i64 R, .int .i64 n, .int .i64 d, .slice q m vc, .int .i64 E] 27 := by exact blkAny2
  have b2 : SegIn w10 s' p' q' := by exact segAny
  have b3 : Blk w10 w7.heap.size #[.int .i64 K, .slice p' len2 cap', .int .i64 A, .int .i64 R, .int .i64 n, .int .i64 d, .slice q' m2 vc', .int .i64 E] 27 := by exact blkAny2
  have hW : Below w.heap.size w w10 := by exact belowAny
  have z12 := b1.lt
  have z13 := b3.lt
  clear hb10
  have k1 := b1.cell
  have f1 := b1.frozen
  have k3 := b3.cell
  have f3 := b3.frozen
  have c4 := H_c4.out
  go_wp2_with fail
  refine (c4 _ p' q' cap' vc' segAny hvc).mono ?_
  rintro e w14 ⟨rfl, hb14⟩
  clear c4
  have z15 := hb14.size
  try simp at z15
  clear k1 f1 k3 f3
  have b1 : Blk w14 w.heap.size #[.int .i64 K, .slice p len cap, .int .i64 A, .int .i64 R, .int .i64 n, .int .i64 d, .slice q m vc, .int .i64 E] 27 := by exact blkAny2
  have b2 : SegIn w14 s' p' q' := by exact segAny
  have b3 : Blk w14 w7.heap.size #[.int .i64 K, .slice p' len2 cap', .int .i64 A, .int .i64 R, .int .i64 n, .int .i64 d, .slice q' m2 vc', .int .i64 E] 27 := by exact blkAny2
  have hW : Below w.heap.size w w14 := by exact belowAny
  have z16 := b1.lt
  have z17 := b3.lt
  clear hb14
  have k1 := b1.cell
  have f1 := b1.frozen
  have k3 := b3.cell
  have f3 := b3.frozen
  go_wp2
  have y_1 := b1.lt
  have y_3 := b3.lt
  refine bodyPost_ret (v := .bool true) (by simp [results, Tryz.results6, go_sem, k1, f1, k3, f3, y_1, y_3]) rfl ⟨rfl, by exact belowAny⟩
/-- What has come of some points. -/
def foldA (a b : Int) (l : List (Int × Int)) : Array Value := if selL a b l = [] then #[.int .i64 0, .int .i64 0, .int .i64 0, .int .i64 0, .int .u64 0] else partA (selL a b l)
def someB (a b : Int) (l : List (Int × Int)) : Bool := !(selL a b l).isEmpty
theorem someB_out {a b : Int} {l : List (Int × Int)} {x : Int × Int} (h : x.1 < a ∨ b < x.1) : someB a b (l ++ [x]) = someB a b l := by unfold someB; rw [selL_out l h]
theorem foldA_out {a b : Int} {l : List (Int × Int)} {x : Int × Int} (h : x.1 < a ∨ b < x.1) : foldA a b (l ++ [x]) = foldA a b l := by unfold foldA; rw [selL_out l h]
theorem someB_in {a b t v : Int} {l : List (Int × Int)} (h1 : a ≤ t) (h2 : t ≤ b) : someB a b (l ++ [(t, v)]) = true := by unfold someB; rw [selL_in l (x := (t, v)) h1 h2]; simp
theorem foldA_in {a b t v : Int} {l : List (Int × Int)} (h1 : a ≤ t) (h2 : t ≤ b) : foldA a b (l ++ [(t, v)]) = partA (selL a b l ++ [v]) := by unfold foldA; rw [selL_in l (x := (t, v)) h1 h2, if_neg (by simp)]
theorem partA_one (v : Int) : partA [v] = #[.int .i64 1, .int .i64 v, .int .i64 v, .int .i64 (hiW v), .int .u64 (loW v)] := by simp [partA, minL, maxL, lsum]
theorem length_selL (a b : Int) (l : List (Int × Int)) : (selL a b l).length ≤ l.length := by unfold selL; rw [List.length_map]; exact List.length_filter_le _ _
def foldRel (w : World) (a b er x0 x1 x2 x3 x4 : Int) (P : List (Int × Int)) (g cp o1 : Nat) (a' : Act) (W : World) : Prop :=
  Below w.heap.size w W ∧ Blk W o1 #[.int .i64 x0, .int .i64 x1, .int .i64 x2, .int .i64 x3, .int .u64 x4] 34 ∧ PtsIn W (some ⟨g, 0, none⟩) P ∧ ∃ (k : Nat) (sb : Bool), (∃ u : Nat → Value, a' = { tmps := #[u 0, .int .i64 a, .int .i64 b, u 3, u 4, u 5, u 6, u 7, u 8, u 9, .pointer (some ⟨o1, 0, none⟩), .int .i64 er, .pointer (some ⟨o1 + 1, 0, none⟩), .bool sb, u 14, u 15, u 16, u 17, u 18, u 19, u 20, u 21, u 22, u 23, u 24, u 25, u 26, u 27, u 28, u 29, u 30, u 31, u 32, u 33, u 34, u 35, u 36, u 37, u 38, u 39, u 40, u 41, u 42, u 43, u 44, .slice (some ⟨g, 0, none⟩) P.length cp, .int .i64 (P.length : Int), .int .i64 (k : Int), u 48, u 49, u 50, u 51, u 52, u 53, u 54, u 55, u 56, u 57, u 58, u 59, u 60, u 61, u 62, u 63, u 64, u 65, u 66, u 67, u 68, u 69, u 70, u 71, u 72, u 73, u 74, u 75, u 76, u 77, u 78, u 79, u 80, u 81, u 82, u 83, u 84, u 85, u 86, u 87, u 88, u 89, u 90, u 91, u 92], defers := [] }) ∧ k ≤ P.length ∧ sb = someB a b (P.take k) ∧ Blk W (o1 + 1) (foldA a b (P.take k)) 34 ∧ w.heap.size ≤ o1 ∧ g < o1
set_option maxRecDepth 100000 in
set_option maxHeartbeats 20000000 in
theorem folds_w (K A R n d E : Int) (p q : Option Addr) (len cap m vc : Nat) (w : World) (len2 m2 : Nat) (s' : SegT) (a b x0 x1 x2 x3 x4 er : Int) (P : List (Int × Int)) (hP0 : P.length ≤ 1000) (hPv : ∀ x, x ∈ P → I64 x.2)
    (hfin : if selL a b P = [] then er = 9 else er = 0 ∧ #[.int .i64 x0, .int .i64 x1, .int .i64 x2, .int .i64 x3, .int .u64 x4] = partA (selL a b P))
    (c1 : ∀ W, Below w.heap.size w W → Calls Tryz.prog 10 #[] W fun e w' => e = .returned (.bool true) ∧ Below W.heap.size W w')
    (c2 : ∀ W, Below w.heap.size w W → Calls Tryz.prog 11 #[.agg #[.int .i64 K, .slice p len cap, .int .i64 A, .int .i64 R, .int .i64 n, .int .i64 d, .slice q m vc, .int .i64 E]] W fun e w' => ∃ p' cap' q' vc', e = .returned (.agg #[.int .i64 K, .slice p' len2 cap', .int .i64 A, .int .i64 R, .int .i64 n, .int .i64 d, .slice q' m2 vc', .int .i64 E]) ∧ Below W.heap.size W w' ∧ SegIn w' s' p' q' ∧ m2 ≤ vc')
    (c3 : ∀ W p' q' cap' vc', SegIn W s' p' q' → m2 ≤ vc' → Calls Tryz.prog 25 #[.agg #[.int .i64 K, .slice p' len2 cap', .int .i64 A, .int .i64 R, .int .i64 n, .int .i64 d, .slice q' m2 vc', .int .i64 E]] W fun e w' => ∃ g cp, e = .returned (.tuple #[.slice (some ⟨g, 0, none⟩) P.length cp, .int .i64 0]) ∧ Below W.heap.size W w' ∧ PtsIn w' (some ⟨g, 0, none⟩) P ∧ g < w'.heap.size ∧ P.length ≤ cp)
    (c4 : ∀ W p' q' cap' vc', SegIn W s' p' q' → m2 ≤ vc' → Calls Tryz.prog 12 #[.agg #[.int .i64 K, .slice p' len2 cap', .int .i64 A, .int .i64 R, .int .i64 n, .int .i64 d, .slice q' m2 vc', .int .i64 E], .int .i64 a, .int .i64 b] W fun e w' => e = .returned (.tuple #[.agg #[.int .i64 x0, .int .i64 x1, .int .i64 x2, .int .i64 x3, .int .u64 x4], .int .i64 er]) ∧ Below W.heap.size W w')
    (c5 : ∀ v, I64 v → ∀ W, Calls Tryz.prog 26 #[.int .i64 v] W fun e w' => e = .returned (.agg #[.int .i64 (hiW v), .int .u64 (loW v)]) ∧ Below W.heap.size W w')
    (c6 : ∀ (Q : List Int) v, (∃ k, Q = selL a b (P.take k)) → Q ≠ [] → I64 v → ∀ W, Calls Tryz.prog 27 #[.agg #[.int .i64 ((Q).length : Int), .int .i64 (minL (Q)), .int .i64 (maxL (Q)), .int .i64 (hiW (lsum (Q))), .int .u64 (loW (lsum (Q)))], .agg #[.int .i64 1, .int .i64 v, .int .i64 v, .int .i64 (hiW v), .int .u64 (loW v)]] W fun e w' => e = .returned (.tuple #[.agg #[.int .i64 ((Q.length : Int) + 1), .int .i64 (minL (Q ++ [v])), .int .i64 (maxL (Q ++ [v])), .int .i64 (hiW (lsum (Q ++ [v]))), .int .u64 (loW (lsum (Q ++ [v])))], .bool true]) ∧ Below W.heap.size W w') :
    Calls Tryz.prog 6 #[.agg #[.int .i64 K, .slice p len cap, .int .i64 A, .int .i64 R, .int .i64 n, .int .i64 d, .slice q m vc, .int .i64 E], .int .i64 a, .int .i64 b] w fun e w' => e = .returned (.bool true) ∧ Below w.heap.size w w' := by
  replace hPv := Lib.hid hPv
  replace hfin := Lib.hid hfin
  replace c5 := Lib.hid c5
  replace c6 := Lib.hid c6
  have H_c1 := Lib.hid c1
  clear c1
  have H_c2 := Lib.hid c2
  clear c2
  have H_c3 := Lib.hid c3
  clear c3
  have H_c4 := Lib.hid c4
  clear c4
  go_enter Tryz.func6, Tryz.ntmps6
  go_upto_region 1 with (fail)
  refine wp_facts (fun W' => Below w.heap.size w W' ∧ Blk W' w.heap.size #[.int .i64 K, .slice p len cap, .int .i64 A, .int .i64 R, .int .i64 n, .int .i64 d, .slice q m vc, .int .i64 E] 27) ⟨by exact belowAny, by exact blkAny2⟩ ?_
  rintro W1 ⟨hW, b1⟩
  have z2 := hW.size
  have z3 := b1.lt
  have k1 := b1.cell
  have f1 := b1.frozen
  have c1 := H_c1.out
  go_wp2_with fail
  refine (c1 _ (belowAny)).mono ?_
  rintro e w4 ⟨rfl, hb4⟩
  clear c1
  have z5 := hb4.size
  try simp at z5
  clear k1 f1
  have b1 : Blk w4 w.heap.size #[.int .i64 K, .slice p len cap, .int .i64 A, .int .i64 R, .int .i64 n, .int .i64 d, .slice q m vc, .int .i64 E] 27 := by exact blkAny2
  have hW : Below w.heap.size w w4 := by exact belowAny
  have z6 := b1.lt
  clear hb4
  have k1 := b1.cell
  have f1 := b1.frozen
  have c2 := H_c2.out
  go_wp2_with fail
  refine (c2 _ (belowAny)).mono ?_
  rintro e w7 ⟨p', cap', q', vc', rfl, hb7, hS, hvc⟩
  clear c2
  have z8 := hb7.size
  try simp at z8
  clear k1 f1
  have b1 : Blk w7 w.heap.size #[.int .i64 K, .slice p len cap, .int .i64 A, .int .i64 R, .int .i64 n, .int .i64 d, .slice q m vc, .int .i64 E] 27 := by exact blkAny2
  have hW : Below w.heap.size w w7 := by exact belowAny
  have z9 := b1.lt
  have k1 := b1.cell
  have f1 := b1.frozen
  have b2 := hS
  clear hS
  have c3 := H_c3.out
  go_wp2_with fail
  refine (c3 _ p' q' cap' vc' segAny hvc).mono ?_
  rintro e w10 ⟨g, cp, rfl, hb10, hP, hg, hcp⟩
  clear c3
  have z11 := hb10.size
  try simp at z11
  clear k1 f1
  have b1 : Blk w10 w.heap.size #[.int .i64 K, .slice p len cap, .int .i64 A, .int .i64 R, .int .i64 n, .int .i64 d, .slice q m vc, .int .i64 E] 27 := by exact blkAny2
  have b2 : SegIn w10 s' p' q' := by exact segAny
  have b3 : Blk w10 w7.heap.size #[.int .i64 K, .slice p' len2 cap', .int .i64 A, .int .i64 R, .int .i64 n, .int .i64 d, .slice q' m2 vc', .int .i64 E] 27 := by exact blkAny2
  have hW : Below w.heap.size w w10 := by exact belowAny
  have z12 := b1.lt
  have z13 := b3.lt
  have k1 := b1.cell
  have f1 := b1.frozen
  have k3 := b3.cell
  have f3 := b3.frozen
  have b4 := hP
  clear hP
  have c4 := H_c4.out
  go_wp2_with fail
  refine (c4 _ p' q' cap' vc' segAny hvc).mono ?_
  rintro e w14 ⟨rfl, hb14⟩
  clear c4
  have z15 := hb14.size
  try simp at z15
  clear k1 f1 k3 f3
  have b1 : Blk w14 w.heap.size #[.int .i64 K, .slice p len cap, .int .i64 A, .int .i64 R, .int .i64 n, .int .i64 d, .slice q m vc, .int .i64 E] 27 := by exact blkAny2
  have b2 : SegIn w14 s' p' q' := by exact segAny
  have b3 : Blk w14 w7.heap.size #[.int .i64 K, .slice p' len2 cap', .int .i64 A, .int .i64 R, .int .i64 n, .int .i64 d, .slice q' m2 vc', .int .i64 E] 27 := by exact blkAny2
  have b4 : PtsIn w14 (some ⟨g, 0, none⟩) P := by exact ptsAny
  have hW : Below w.heap.size w w14 := by exact belowAny
  have z16 := b1.lt
  have z17 := b3.lt
  clear hb14
  have k1 := b1.cell
  have f1 := b1.frozen
  have k3 := b3.cell
  have f3 := b3.frozen
  clear H_c1 H_c2 H_c3 H_c4
  go_wp2
  obtain ⟨o1, ho⟩ : ∃ o1, o1 = w14.heap.size := ⟨_, rfl⟩
  rw [← ho]
  have hoo := Lib.hid ho
  have ho1 : w.heap.size ≤ o1 := by omega
  have hg1 : g < o1 := by omega
  clear ho
  refine wp_loop (foldRel w a b er x0 x1 x2 x3 x4 P g cp o1) (fun a' _ => P.length - (intAt (a'.tmps.getD 47 undef)).toNat) ?_ ?_
  · unfold foldRel
    have ho := hoo.out
    exact ⟨belowAny, blkAny2, ptsAny, 0, false, frame_ex rfl, by omega, by simp [someB, selL], by simp only [foldA, selL, List.take_zero, List.filter_nil, List.map_nil, if_true]; exact blkAny2, by omega, by omega⟩
  · clear b1 b2 b3 b4 hW k1 f1 k3 f3 hoo ho1 hg1
    rintro a' W ⟨hW, b1, b4, k, sb, ⟨u, rfl⟩, hk, hsb, b3, ho1, hg1⟩
    have hz := hW.size
    have hz1 := b1.lt
    have hz3 := b3.lt
    replace hsb := Lib.hid hsb
    rcases Nat.lt_or_ge k P.length with hlt | hge
    · obtain ⟨⟨t, v⟩, hri⟩ : ∃ x, P[k]? = some x := ⟨P[k], List.getElem?_eq_getElem hlt⟩
      have hm : (t, v) ∈ P := List.mem_of_getElem? hri
      have hv2 : I64 v := hPv.out _ hm
      obtain ⟨g', o', e', q0, q1⟩ := b4.at' k _ hri
      cases e'
      simp only [Nat.zero_add] at q0 q1
      have Hst := Lib.hid (show P.take (k + 1) = P.take k ++ [(t, v)] by rw [List.take_add_one, hri]; rfl)
      clear hri hm
      by_cases ht1 : a ≤ t
      · by_cases ht2 : t ≤ b
        · rcases hse : selL a b (P.take k) with _ | ⟨y, Q'⟩
          · have hb0 : sb = false := by rw [hsb.out]; unfold someB; rw [hse]; rfl
            subst hb0
            have hf0 : foldA a b (P.take k) = #[.int .i64 0, .int .i64 0, .int .i64 0, .int .i64 0, .int .u64 0] := by unfold foldA; rw [if_pos hse]
            rw [hf0] at b3
            have hsel := Lib.hid (show partA (selL a b (P.take k) ++ [v]) = #[.int .i64 1, .int .i64 v, .int .i64 v, .int .i64 (hiW v), .int .u64 (loW v)] by rw [hse]; exact partA_one v)
            clear hse hf0
            have b2 := b4
            have k1 := b1.cell
            have f1 := b1.frozen
            have k3 := b3.cell
            have f3 := b3.frozen
            have H_c51 := Lib.hid (fun W' (_ : Below w.heap.size w W') => c5.out v hv2 W')
            go_upto_region 13 with (fail)
            clear k1 f1 k3 f3
            refine wp_facts (fun W' => Below w.heap.size w W' ∧ Blk W' o1 #[.int .i64 x0, .int .i64 x1, .int .i64 x2, .int .i64 x3, .int .u64 x4] 34 ∧ PtsIn W' (some ⟨g, 0, none⟩) P ∧ Blk W' (o1 + 1) #[.int .i64 0, .int .i64 0, .int .i64 0, .int .i64 0, .int .u64 0] 34 ∧ Blk W' W.heap.size #[.int .i64 t, .int .i64 v] 58) ⟨by exact belowAny, by exact blkAny2, by exact ptsAny, by exact blkAny2, by exact blkAny2⟩ ?_
            clear b1 b2 b3 hW
            rintro W1 ⟨hW, b1, b2, b3, b4⟩
            have z2 := hW.size
            have z3 := b1.lt
            have z4 := b3.lt
            have z5 := b4.lt
            have c51 := H_c51.out
            refine wp_region_nd 9 93 [] (fun W' => Rex [] W1 W' ∧ Blk W' o1 #[.int .i64 x0, .int .i64 x1, .int .i64 x2, .int .i64 x3, .int .u64 x4] 34 ∧ PtsIn W' (some ⟨g, 0, none⟩) P ∧ Blk W' (o1 + 1) #[.int .i64 0, .int .i64 0, .int .i64 0, .int .i64 0, .int .u64 0] 34 ∧ Blk W' W.heap.size #[.int .i64 t, .int .i64 v] 58) mixed (by kernel_rfl) rfl ⟨(Rex.refl _ _).drew, b1, b2.drew, b3, b4⟩ (fun w w' ⟨h0, h1, h2, h3, h4⟩ hr => ⟨h0.trans hr, h1.rex hr (by simp <;> omega), h2.rex hr (by simp <;> omega), h3.rex hr (by simp <;> omega), h4.rex hr (by simp <;> omega)⟩) (fun c a d v w h => by cases d <;> exact h) ?_
            iterate 6
              apply nd_det (hg := rfl) (hal := rfl)
              · intro a W' hC hE
                obtain ⟨_, k1, k2, k3, k4⟩ := hC
                have k1 := k1.cell
                have k3 := k3.cell
                have k4 := k4.cell
                first
                  | (simp [Oper.looksAt, Op.operands, Call.operands, envOf, Det] at hE; simp [go_sem, Act.eval, IntWalk.i64_left, hE, k1, k2, k3, k4]; try rfl)
                  | (clear hE; simp [go_sem, Act.eval, IntWalk.i64_left, k1, k2, k3, k4]; try rfl)
            refine nd_callv2 rfl rfl (fun W' hC => c51 W' (hW.trans (hC.1.of_priv hW.size))) (fun a W' hC hE => ?_) ?_
            · obtain ⟨_, k1, k2, k3, k4⟩ := hC
              have k1 := k1.cell
              have k3 := k3.cell
              have k4 := k4.cell
              first
                | (simp [Oper.looksAt, Op.operands, Call.operands, envOf, Det] at hE; simp [go_sem, Act.eval, IntWalk.i64_left, hE, k1, k2, k3, k4]; try rfl)
                | (clear hE; simp [go_sem, Act.eval, IntWalk.i64_left, k1, k2, k3, k4]; try rfl)
            iterate 1
              apply nd_det (hg := rfl) (hal := rfl)
              · intro a W' hC hE
                obtain ⟨_, k1, k2, k3, k4⟩ := hC
                have k1 := k1.cell
                have k3 := k3.cell
                have k4 := k4.cell
                first
                  | (simp [Oper.looksAt, Op.operands, Call.operands, envOf, Det] at hE; simp [go_sem, Act.eval, IntWalk.i64_left, hE, k1, k2, k3, k4]; try rfl)
                  | (clear hE; simp [go_sem, Act.eval, IntWalk.i64_left, k1, k2, k3, k4]; try rfl)
            apply nd_alloc W1.heap.size #[.int .i64 0, .int .i64 0, .int .i64 0, .int .i64 0, .int .u64 0] 34 rfl rfl
            · exact fun W' hC => hC.1.size
            · simp [others] <;> omega
            · intro w; kernel_rfl
            rintro W6 ⟨hR, d1, d2, d3, d4⟩
            simp only [ndFinR, Det, forall_eq]
            intros
            repeat (rename GDet _ _ _ _ => hgd; clear hgd)
            simp only [Act.put, List.setIfInBounds_toArray, List.set_cons_zero, List.set_cons_succ, List.drop_succ_cons, List.drop_zero]
            replace hW := hW.trans (hR.of_priv hW.size)
            clear hR
            clear c51
            try clear b1 b2 b3 b4
            have b1 := d1
            clear d1
            have b2 := d2
            clear d2
            have b3 := d3
            clear d3
            have b4 := d4
            clear d4
            obtain ⟨o6, rfl, hg_o6, b5⟩ := ‹NewVar _ _ _ _ _›
            have z7 := b5.lt
            have k1 := b1.cell
            have f1 := b1.frozen
            have k3 := b3.cell
            have f3 := b3.frozen
            have k4 := b4.cell
            have f4 := b4.frozen
            have k5 := b5.cell
            have f5 := b5.frozen
            go_wp2
            rw [show (k : Int) + 1 = ((k + 1 : Nat) : Int) by omega]
            refine ⟨?_, by simp [intAt]; omega⟩
            unfold foldRel
            exact ⟨belowAny, blkAny2, ptsAny, k + 1, true, frame_ex rfl, by omega, (by rw [Hst.out]; exact (someB_in ht1 ht2).symm), by rw [Hst.out, foldA_in ht1 ht2, hsel.out]; exact blkAny2, ho1, hg1⟩
          · have hb0 : sb = true := by rw [hsb.out]; unfold someB; rw [hse]; rfl
            subst hb0
            obtain ⟨Q, hQe⟩ : ∃ Q, Q = selL a b (P.take k) := ⟨_, rfl⟩
            have hQn : Q ≠ [] := by rw [hQe, hse]; simp
            have hf0 : foldA a b (P.take k) = #[.int .i64 ((Q).length : Int), .int .i64 (minL (Q)), .int .i64 (maxL (Q)), .int .i64 (hiW (lsum (Q))), .int .u64 (loW (lsum (Q)))] := by unfold foldA; rw [if_neg (by rw [hse]; simp), ← hQe]; rfl
            rw [hf0] at b3
            have hsel := Lib.hid (show partA (selL a b (P.take k) ++ [v]) = #[.int .i64 ((Q.length : Int) + 1), .int .i64 (minL (Q ++ [v])), .int .i64 (maxL (Q ++ [v])), .int .i64 (hiW (lsum (Q ++ [v]))), .int .u64 (loW (lsum (Q ++ [v])))] by rw [← hQe]; unfold partA; rw [List.length_append]; rfl)
            have hQ := Lib.hid (show ∃ k, Q = selL a b (P.take k) from ⟨k, hQe⟩)
            clear hse hf0 hQe
            have b2 := b4
            have k1 := b1.cell
            have f1 := b1.frozen
            have k3 := b3.cell
            have f3 := b3.frozen
            have H_c51 := Lib.hid (fun W' (_ : Below w.heap.size w W') => c5.out v hv2 W')
            have H_c61 := Lib.hid (c6.out Q v hQ.out hQn hv2)
            go_upto_region 13 with (fail)
            clear k1 f1 k3 f3
            refine wp_facts (fun W' => Below w.heap.size w W' ∧ Blk W' o1 #[.int .i64 x0, .int .i64 x1, .int .i64 x2, .int .i64 x3, .int .u64 x4] 34 ∧ PtsIn W' (some ⟨g, 0, none⟩) P ∧ Blk W' (o1 + 1) #[.int .i64 ((Q).length : Int), .int .i64 (minL (Q)), .int .i64 (maxL (Q)), .int .i64 (hiW (lsum (Q))), .int .u64 (loW (lsum (Q)))] 34 ∧ Blk W' W.heap.size #[.int .i64 t, .int .i64 v] 58) ⟨by exact belowAny, by exact blkAny2, by exact ptsAny, by exact blkAny2, by exact blkAny2⟩ ?_
            clear b1 b2 b3 hW
            rintro W1 ⟨hW, b1, b2, b3, b4⟩
            have z2 := hW.size
            have z3 := b1.lt
            have z4 := b3.lt
            have z5 := b4.lt
            have c51 := H_c51.out
            refine wp_region_nd 9 93 [] (fun W' => Rex [] W1 W' ∧ Blk W' o1 #[.int .i64 x0, .int .i64 x1, .int .i64 x2, .int .i64 x3, .int .u64 x4] 34 ∧ PtsIn W' (some ⟨g, 0, none⟩) P ∧ Blk W' (o1 + 1) #[.int .i64 ((Q).length : Int), .int .i64 (minL (Q)), .int .i64 (maxL (Q)), .int .i64 (hiW (lsum (Q))), .int .u64 (loW (lsum (Q)))] 34 ∧ Blk W' W.heap.size #[.int .i64 t, .int .i64 v] 58) mixed (by kernel_rfl) rfl ⟨(Rex.refl _ _).drew, b1, b2.drew, b3, b4⟩ (fun w w' ⟨h0, h1, h2, h3, h4⟩ hr => ⟨h0.trans hr, h1.rex hr (by simp <;> omega), h2.rex hr (by simp <;> omega), h3.rex hr (by simp <;> omega), h4.rex hr (by simp <;> omega)⟩) (fun c a d v w h => by cases d <;> exact h) ?_
            iterate 6
              apply nd_det (hg := rfl) (hal := rfl)
              · intro a W' hC hE
                obtain ⟨_, k1, k2, k3, k4⟩ := hC
                have k1 := k1.cell
                have k3 := k3.cell
                have k4 := k4.cell
                first
                  | (simp [Oper.looksAt, Op.operands, Call.operands, envOf, Det] at hE; simp [go_sem, Act.eval, IntWalk.i64_left, hE, k1, k2, k3, k4]; try rfl)
                  | (clear hE; simp [go_sem, Act.eval, IntWalk.i64_left, k1, k2, k3, k4]; try rfl)
            refine nd_callv2 rfl rfl (fun W' hC => c51 W' (hW.trans (hC.1.of_priv hW.size))) (fun a W' hC hE => ?_) ?_
            · obtain ⟨_, k1, k2, k3, k4⟩ := hC
              have k1 := k1.cell
              have k3 := k3.cell
              have k4 := k4.cell
              first
                | (simp [Oper.looksAt, Op.operands, Call.operands, envOf, Det] at hE; simp [go_sem, Act.eval, IntWalk.i64_left, hE, k1, k2, k3, k4]; try rfl)
                | (clear hE; simp [go_sem, Act.eval, IntWalk.i64_left, k1, k2, k3, k4]; try rfl)
            iterate 1
              apply nd_det (hg := rfl) (hal := rfl)
              · intro a W' hC hE
                obtain ⟨_, k1, k2, k3, k4⟩ := hC
                have k1 := k1.cell
                have k3 := k3.cell
                have k4 := k4.cell
                first
                  | (simp [Oper.looksAt, Op.operands, Call.operands, envOf, Det] at hE; simp [go_sem, Act.eval, IntWalk.i64_left, hE, k1, k2, k3, k4]; try rfl)
                  | (clear hE; simp [go_sem, Act.eval, IntWalk.i64_left, k1, k2, k3, k4]; try rfl)
            apply nd_alloc W1.heap.size #[.int .i64 0, .int .i64 0, .int .i64 0, .int .i64 0, .int .u64 0] 34 rfl rfl
            · exact fun W' hC => hC.1.size
            · simp [others] <;> omega
            · intro w; kernel_rfl
            rintro W6 ⟨hR, d1, d2, d3, d4⟩
            simp only [ndFinR, Det, forall_eq]
            intros
            repeat (rename GDet _ _ _ _ => hgd; clear hgd)
            simp only [Act.put, List.setIfInBounds_toArray, List.set_cons_zero, List.set_cons_succ, List.drop_succ_cons, List.drop_zero]
            replace hW := hW.trans (hR.of_priv hW.size)
            clear hR
            clear c51
            try clear b1 b2 b3 b4
            have b1 := d1
            clear d1
            have b2 := d2
            clear d2
            have b3 := d3
            clear d3
            have b4 := d4
            clear d4
            obtain ⟨o6, rfl, hg_o6, b5⟩ := ‹NewVar _ _ _ _ _›
            have z7 := b5.lt
            have k1 := b1.cell
            have f1 := b1.frozen
            have k3 := b3.cell
            have f3 := b3.frozen
            have k4 := b4.cell
            have f4 := b4.frozen
            have k5 := b5.cell
            have f5 := b5.frozen
            have c61 := H_c61.out
            go_wp2_with fail
            refine (c61 _).mono ?_
            rintro e w8 ⟨rfl, hb8⟩
            clear c61
            have z9 := hb8.size
            try simp at z9
            clear k1 f1 k3 f3 k4 f4 k5 f5
            have b1 : Blk w8 o1 #[.int .i64 x0, .int .i64 x1, .int .i64 x2, .int .i64 x3, .int .u64 x4] 34 := by exact blkAny2
            have b2 : PtsIn w8 (some ⟨g, 0, none⟩) P := by exact ptsAny
            have b3 : Blk w8 (o1 + 1) #[.int .i64 ((Q).length : Int), .int .i64 (minL (Q)), .int .i64 (maxL (Q)), .int .i64 (hiW (lsum (Q))), .int .u64 (loW (lsum (Q)))] 34 := by exact blkAny2
            have b4 : Blk w8 W.heap.size #[.int .i64 t, .int .i64 v] 58 := by exact blkAny2
            have b5 : Blk w8 o6 #[.int .i64 1, .int .i64 v, .int .i64 v, .int .i64 (hiW v), .int .u64 (loW v)] 34 := by exact blkAny2
            have hW : Below w.heap.size w w8 := by exact belowAny
            have z10 := b1.lt
            have z11 := b3.lt
            have z12 := b4.lt
            have z13 := b5.lt
            clear hb8
            have k1 := b1.cell
            have f1 := b1.frozen
            have k3 := b3.cell
            have f3 := b3.frozen
            have k4 := b4.cell
            have f4 := b4.frozen
            have k5 := b5.cell
            have f5 := b5.frozen
            go_wp2
            rw [show (k : Int) + 1 = ((k + 1 : Nat) : Int) by omega]
            refine ⟨?_, by simp [intAt]; omega⟩
            unfold foldRel
            exact ⟨belowAny, blkAny2, ptsAny, k + 1, true, frame_ex rfl, by omega, (by rw [Hst.out]; exact (someB_in ht1 ht2).symm), by rw [Hst.out, foldA_in ht1 ht2, hsel.out]; exact blkAny2, ho1, hg1⟩
        · have hout := Lib.hid (show (t, v).1 < a ∨ b < (t, v).1 from .inr (by simp; omega))
          have b2 := b4
          have k1 := b1.cell
          have f1 := b1.frozen
          go_wp2
          rw [show (k : Int) + 1 = ((k + 1 : Nat) : Int) by omega]
          refine ⟨?_, by simp [intAt]; omega⟩
          unfold foldRel
          exact ⟨belowAny, blkAny2, ptsAny, k + 1, sb, frame_ex rfl, by omega, hsb.out.trans (by rw [Hst.out]; exact (someB_out hout.out).symm), by rw [Hst.out, foldA_out hout.out]; exact blkAny2, ho1, hg1⟩
      · have hout := Lib.hid (show (t, v).1 < a ∨ b < (t, v).1 from .inl (by simp; omega))
        have b2 := b4
        have k1 := b1.cell
        have f1 := b1.frozen
        go_wp2
        rw [show (k : Int) + 1 = ((k + 1 : Nat) : Int) by omega]
        refine ⟨?_, by simp [intAt]; omega⟩
        unfold foldRel
        exact ⟨belowAny, blkAny2, ptsAny, k + 1, sb, frame_ex rfl, by omega, hsb.out.trans (by rw [Hst.out]; exact (someB_out hout.out).symm), by rw [Hst.out, foldA_out hout.out]; exact blkAny2, ho1, hg1⟩
    · have e : k = P.length := by omega
      subst e
      have hf := hfin.out
      have hsb' := hsb.out
      rw [List.take_length] at b3 hsb'
      by_cases hse : selL a b P = []
      · rw [if_pos hse] at hf
        have hb0 : sb = false := by rw [hsb']; unfold someB; rw [hse]; rfl
        have hf0 : foldA a b P = #[.int .i64 0, .int .i64 0, .int .i64 0, .int .i64 0, .int .u64 0] := by unfold foldA; rw [if_pos hse]
        rw [hf0] at b3
        subst hf
        subst hb0
        clear hse hf0 hsb hsb'
        have b2 := b4
        have k1 := b1.cell
        have f1 := b1.frozen
        have k3 := b3.cell
        have f3 := b3.frozen
        go_wp2
        have y_1 := b1.lt
        have y_3 := b3.lt
        refine bodyPost_ret (v := .bool true) (by simp [results, Tryz.results6, go_sem, k1, f1, k3, f3, y_1, y_3]) rfl ⟨rfl, belowAny⟩
      · rw [if_neg hse] at hf
        obtain ⟨rfl, hx⟩ := hf
        have hb0 : sb = true := by rw [hsb']; unfold someB; cases h : selL a b P with | nil => exact absurd h hse | cons y l => rfl
        have hf0 : foldA a b P = #[.int .i64 x0, .int .i64 x1, .int .i64 x2, .int .i64 x3, .int .u64 x4] := by unfold foldA; rw [if_neg hse, hx]
        rw [hf0] at b3
        subst hb0
        clear hse hf0 hsb hsb' hx
        have b2 := b4
        have k1 := b1.cell
        have f1 := b1.frozen
        have k3 := b3.cell
        have f3 := b3.frozen
        go_wp2
        have y_1 := b1.lt
        have y_3 := b3.lt
        refine bodyPost_ret (v := .bool true) (by simp [results, Tryz.results6, go_sem, k1, f1, k3, f3, y_1, y_3]) rfl ⟨rfl, belowAny⟩
end Go.Proofs.YtgblmlefmohgnaaGreat
namespace Go.Proofs.YtgblmlefmohgnaaGreat
open Go.RowKit Go.Shelf
attribute [local go_sem] Oper.semAt_some
set_option maxRecDepth 100000 in
set_option maxHeartbeats 2000000 in
theorem far1_len (K A R n d E : Int) (p q : Option Addr) (len cap m vc : Nat) (w : World) (gp len2 cp : Nat) (pp : Option Addr) (c : Int) (hne : ((len2 : Int) != c) = true) (hgp : Blk w gp #[.slice pp len2 cp] 39) (hl2 : len2 ≤ 9223372036854775807)
    (c1 : ∀ W, Below w.heap.size w W → Calls Tryz.prog 58 #[.slice p len cap] W fun e w' => e = .returned (.int .i64 c) ∧ Below W.heap.size W w') :
    Calls Tryz.prog 65 #[.agg #[.int .i64 K, .slice p len cap, .int .i64 A, .int .i64 R, .int .i64 n, .int .i64 d, .slice q m vc, .int .i64 E], .pointer (some ⟨gp, 0, none⟩)] w fun e w' => e = .returned (.tuple #[.int .i64 0, .int .i64 2]) ∧ Below w.heap.size w w' := by
  have H_c1 := Lib.hid c1
  clear c1
  go_enter Tryz.func65, Tryz.ntmps65
  go_upto_region 1 with (fail)
  refine wp_facts (fun W' => Below w.heap.size w W' ∧ Blk W' w.heap.size #[.int .i64 K, .slice p len cap, .int .i64 A, .int .i64 R, .int .i64 n, .int .i64 d, .slice q m vc, .int .i64 E] 78 ∧ Blk W' (w.heap.size + 1) #[.int .i64 0] 2 ∧ Blk W' (w.heap.size + 1 + 1) #[.int .i64 0] 35 ∧ Blk W' gp #[.slice pp len2 cp] 39) ⟨by exact belowAny, by exact blkAny2, by exact blkAny2, by exact blkAny2, by exact blkAny2⟩ ?_
  rintro W1 ⟨hW, b1, b2, b3, b4⟩
  have z2 := hW.size
  have z3 := b1.lt
  have z4 := b2.lt
  have z5 := b3.lt
  have z6 := b4.lt
  have c1 := H_c1.out
  refine wp_region_nd 7 49 [] (fun W' => Rex [] W1 W' ∧ Blk W' w.heap.size #[.int .i64 K, .slice p len cap, .int .i64 A, .int .i64 R, .int .i64 n, .int .i64 d, .slice q m vc, .int .i64 E] 78 ∧ Blk W' (w.heap.size + 1) #[.int .i64 0] 2 ∧ Blk W' (w.heap.size + 1 + 1) #[.int .i64 0] 35 ∧ Blk W' gp #[.slice pp len2 cp] 39) mixed (by kernel_rfl) rfl ⟨(Rex.refl _ _).drew, b1, b2, b3, b4⟩ (fun w w' ⟨h0, h1, h2, h3, h4⟩ hr => ⟨h0.trans hr, h1.rex hr (by simp <;> omega), h2.rex hr (by simp <;> omega), h3.rex hr (by simp <;> omega), h4.rex hr (by simp <;> omega)⟩) (fun c a d v w h => by cases d <;> exact h) ?_
  iterate 5
    apply nd_det (hg := rfl) (hal := rfl)
    · intro a W' hC hE
      obtain ⟨_, k1, k2, k3, k4⟩ := hC
      have k1 := k1.cell
      have k2 := k2.cell
      have k3 := k3.cell
      have k4 := k4.cell
      first
        | (simp [Oper.looksAt, Op.operands, Call.operands, envOf, Det] at hE; simp [go_sem, Act.eval, IntWalk.i64_left, hE, k1, k2, k3, k4]; try rfl)
        | (clear hE; simp [go_sem, Act.eval, IntWalk.i64_left, k1, k2, k3, k4]; try rfl)
  refine nd_callv2 rfl rfl (fun W' hC => c1 W' (hW.trans (hC.1.of_priv hW.size))) (fun a W' hC hE => ?_) ?_
  · obtain ⟨_, k1, k2, k3, k4⟩ := hC
    have k1 := k1.cell
    have k2 := k2.cell
    have k3 := k3.cell
    have k4 := k4.cell
    first
      | (simp [Oper.looksAt, Op.operands, Call.operands, envOf, Det] at hE; simp [go_sem, Act.eval, IntWalk.i64_left, hE, k1, k2, k3, k4]; try rfl)
      | (clear hE; simp [go_sem, Act.eval, IntWalk.i64_left, k1, k2, k3, k4]; try rfl)
  iterate 1
    apply nd_det (hg := rfl) (hal := rfl)
    · intro a W' hC hE
      obtain ⟨_, k1, k2, k3, k4⟩ := hC
      have k1 := k1.cell
      have k2 := k2.cell
      have k3 := k3.cell
      have k4 := k4.cell
      first
        | (simp [Oper.looksAt, Op.operands, Call.operands, envOf, Det] at hE; simp [go_sem, Act.eval, IntWalk.i64_left, hE, k1, k2, k3, k4]; try rfl)
        | (clear hE; simp [go_sem, Act.eval, IntWalk.i64_left, k1, k2, k3, k4]; try rfl)
  rintro W7 ⟨hR, d1, d2, d3, d4⟩
  simp only [ndFinR, Det, forall_eq]
  intros
  repeat (rename GDet _ _ _ _ => hgd; clear hgd)
  simp only [Act.put, List.setIfInBounds_toArray, List.set_cons_zero, List.set_cons_succ]
  refine wpList_nil ?_
  replace hW := hW.trans (hR.of_priv hW.size)
  clear hR
  clear c1
  try clear b1 b2 b3 b4
  have b1 := d1
  clear d1
  have b2 := d2
  clear d2
  have b3 := d3
  clear d3
  have b4 := d4
  clear d4
  have k1 := b1.cell
  have f1 := b1.frozen
  have k2 := b2.cell
  have f2 := b2.frozen
  have k3 := b3.cell
  have f3 := b3.frozen
  have k4 := b4.cell
  have f4 := b4.frozen
  go_wp2
  have y_1 := b1.lt
  have y_2 := b2.lt
  have y_3 := b3.lt
  have y_4 := b4.lt
  refine bodyPost_ret (v := .tuple #[.int .i64 0, .int .i64 2]) (by simp [results, Tryz.results65, go_sem, k1, f1, k2, f2, k3, f3, k4, f4, y_1, y_2, y_3, y_4]) rfl ⟨rfl, by exact belowAny⟩
/-- A point of a segment, and one that is held against it. -/
def okZ (z : (Int × Int) × (Int × Int)) : Bool := (z.2.1 == z.1.1) && isBack z.2.2
def farStep (f : Int) (z : (Int × Int) × (Int × Int)) : Int := mx (mx f (wrap64 (z.2.2 - z.1.2))) (wrap64 (z.1.2 - z.2.2))
def farOf (l : List ((Int × Int) × (Int × Int))) : Int := l.foldl farStep 0
theorem farOf_snoc (l : List ((Int × Int) × (Int × Int))) (z : (Int × Int) × (Int × Int)) : farOf (l ++ [z]) = mx (mx (farOf l) (wrap64 (z.2.2 - z.1.2))) (wrap64 (z.1.2 - z.2.2)) := by simp [farOf, farStep]
theorem zip_snoc {pre : List (Int × Int)} {x y : Int × Int} {pts : List (Int × Int)} (h : pts[pre.length]? = some y) : (pre ++ [x]).zip pts = pre.zip pts ++ [(x, y)] := by
  have hlt := (List.getElem?_eq_some_iff.1 h).1
  conv => lhs; rw [← List.take_append_drop pre.length pts]
  rw [List.zip_append (by simp; omega)]
  have e : pts.drop pre.length = y :: pts.drop (pre.length + 1) := by
    rw [List.drop_eq_getElem_cons hlt]
    congr 1
    rw [List.getElem?_eq_getElem hlt] at h
    injection h
  rw [e]
  simp
  conv => rhs; rw [← List.take_append_drop pre.length pts]
  conv => rhs; rw [show pre = pre ++ [] by simp]
  rw [List.zip_append (by simp; omega)]
  simp
/-- What a round of the loop keeps for the points' sake: what lay below, and all cells from a block on. -/
structure KF (B0 n₀ : Nat) (A B : World) : Prop where
  below : Below B0 A B
  rest : ∀ (b : Nat) (cs : Array Value) (t : TypeId) (f : Nat × Nat), n₀ ≤ b → A.heap[b]? = some (.cells cs t f) → B.heap[b]? = some (.cells cs t f)
theorem KF.refl (B0 n₀ : Nat) (A : World) : KF B0 n₀ A A := ⟨Below.refl _ _, fun _ _ _ _ _ h => h⟩
theorem KF.trans {B0 n₀ : Nat} {A B C : World} (h : KF B0 n₀ A B) (k : KF B0 n₀ B C) : KF B0 n₀ A C := ⟨h.below.trans k.below, fun b cs t f hb ha => k.rest b cs t f hb (h.rest b cs t f hb ha)⟩
theorem KF.alloc {B0 n₀ : Nat} {A B : World} (h : KF B0 n₀ A B) (hB : B0 ≤ B.heap.size) (o : Obj) : KF B0 n₀ A (B.alloc o) := ⟨h.below.alloc hB o, fun b cs t f hb ha => (Below.heap_alloc B o b (lt_of_heap (h.rest b cs t f hb ha))).trans (h.rest b cs t f hb ha)⟩
theorem KF.set {B0 n₀ : Nat} {A B : World} (h : KF B0 n₀ A B) {g i : Nat} (h1 : B0 ≤ g) (h2 : g < n₀) (v : Value) : KF B0 n₀ A (B.setCell ⟨g, i, none⟩ v) := ⟨h.below.setCell (p := ⟨g, i, none⟩) h1 v, fun b cs t f hb ha => (Below.heap_setCell B ⟨g, i, none⟩ v b (by simp; omega)).trans (h.rest b cs t f hb ha)⟩
theorem KF.calls {B0 n₀ : Nat} {A B C : World} (h : KF B0 n₀ A B) (hb : Below B.heap.size B C) (hB : B0 ≤ B.heap.size) : KF B0 n₀ A C := ⟨h.below.trans (hb.mono hB), fun b cs t f hn ha => (hb.block b (lt_of_heap (h.rest b cs t f hn ha))).trans (h.rest b cs t f hn ha)⟩
theorem KF.putObj {B0 n₀ : Nat} {w : World} (hB : B0 ≤ w.heap.size) (W : World) (l : Nat) (o o' : Obj) (hl : w.heap.size ≤ l) (h : W.heap[l]? = some o) (h1 : o.isCells = false) (h2 : o.isWalk = false) : KF B0 n₀ W (W.putObj l o') :=
  ⟨belowK_b hB W l o o' hl h h1 h2, fun b cs t f _ ha => keepsT_putObj o' h h1 b cs f ha⟩
theorem KeepsOthers.calls {A B C : World} (h : KeepsOthers A B) (hb : Below B.heap.size B C) : KeepsOthers A C := ⟨Nat.le_trans h.size hb.size, fun k o hk ho => by
  have e := h.same k o hk ho
  exact (hb.block k (lt_of_heap (e))).trans e⟩
def farR (s : SegT) (pts : List (Int × Int)) : Int × Int := if pts.length = (ptsL s).length then (if ((ptsL s).zip pts).all okZ then (farOf ((ptsL s).zip pts), 0) else (0, 2)) else (0, 2)
def FarOut (s : SegT) (pts : List (Int × Int)) (w : World) (e : Ending) (w' : World) : Prop := e = .returned (.tuple #[.int .i64 (farR s pts).1, .int .i64 (farR s pts).2]) ∧ Below w.heap.size w w'
theorem keepsAny {A B : World} (h : KeepsOthers A B := by repeat (first | with_reducible (exact KeepsOthers.refl _) | with_reducible (refine KeepsOthers.trans ?_ (KeepsOthers.setCell _ _ _)) | with_reducible (refine KeepsOthers.trans ?_ (KeepsOthers.alloc _ _)) | with_reducible (refine KeepsOthers.calls ?_ (by assumption)))) : KeepsOthers A B := h
theorem kfAny {B0 n₀ : Nat} {A B : World} (h : KF B0 n₀ A B := by repeat (first | with_reducible (exact KF.refl _ _ _) | with_reducible (refine KF.set ?_ (by omega) (by omega) _) | with_reducible (refine KF.alloc ?_ (by omega) _) | with_reducible (refine KF.calls ?_ (by assumption) (by first | omega | (simp; omega))))) : KF B0 n₀ A B := h
theorem all_prefix {pre l : List (Int × Int)} {pts : List (Int × Int)} (h : pre <+: l) (ha : (pre.zip pts).all okZ = false) : (l.zip pts).all okZ = false := by
  obtain ⟨t, rfl⟩ := h
  conv => lhs; rw [← List.take_append_drop pre.length pts]
  by_cases hlt : pre.length ≤ pts.length
  · rw [List.zip_append (by simp; omega), List.all_append]
    have : pre.zip (pts.take pre.length) = pre.zip pts := by
      conv => rhs; rw [← List.take_append_drop pre.length pts]
      conv => rhs; rw [show pre = pre ++ [] by simp]
      rw [List.zip_append (by simp; omega)]
      simp
    rw [this, ha]
    rfl
  · rw [List.take_of_length_le (by omega), List.drop_eq_nil_of_le (by omega), List.append_nil]
    have e : (pre ++ t).zip pts = pre.zip pts := by
      conv => lhs; rw [show pts = pts ++ [] by simp]
      have : (pre ++ t).zip pts = pre.zip pts := by
        clear ha
        induction pre generalizing pts with
        | nil => simp at hlt
        | cons a pre ih =>
          cases pts with
          | nil => simp
          | cons b pts => simp; exact ih (by simp at hlt; omega)
      simpa using this
    rw [e, ha]
set_option maxRecDepth 100000 in
set_option maxHeartbeats 8000000 in
theorem far1_w (s : SegT) (p q : Option Addr) (cap vc : Nat) (w : World) (hs : segB s = true) (hin : SegIn w s p q) (gp cp : Nat) (pp : Option Addr) (pts : List (Int × Int)) (hn : pts.length = (ptsL s).length) (hgp : Blk w gp #[.slice pp pts.length cp] 39) (hP : PtsIn w pp pts) (hI64 : ∀ x, x ∈ pts → I64 x.2) :
    CallsIn Fence.wide 4 Tryz.prog 65 #[.agg (segA s p q cap vc), .pointer (some ⟨gp, 0, none⟩)] w (FarOut s pts w) := by
  have hl := segB_runs hs
  have hcnt := cnt_pos hl
  have hlen := length_pts hs
  have H_c1 := Lib.hid (fun W (hW : Below w.heap.size w W) => c_rcount_ok p cap s.runs W hl (hin.runs.below hW))
  have hne : ((pts.length : Int) != cnt s.runs) = false := by rw [hn, hlen]; simp
  have HN := Lib.hid hn
  have HL := Lib.hid hlen
  replace hI64 := Lib.hid hI64
  clear hn hlen
  unfold segA
  refine callsIn_of_wp_marks Tryz.func65 rfl trivial ?_ rfl
  simp only [Tryz.ntmps65, List.size_toArray, List.length_cons, List.length_nil, Nat.reduceAdd, Nat.reduceSub, Array.replicate_succ, Array.replicate_zero, List.push_toArray, List.append_toArray, List.nil_append, List.cons_append]
  gi_wp2
  refine wpIn_wide.2 ?_
  refine wp_facts (fun W' => Below w.heap.size w W' ∧ Blk W' w.heap.size #[.int .i64 s.K, .slice p s.runs.length cap, .int .i64 s.A, .int .i64 s.R, .int .i64 s.n, .int .i64 s.d, .slice q s.raw.length vc, .int .i64 s.E] 78 ∧ Blk W' (w.heap.size + 1) #[.int .i64 0] 2 ∧ Blk W' (w.heap.size + 1 + 1) #[.int .i64 0] 35 ∧ Blk W' gp #[.slice pp pts.length cp] 39) ⟨by exact belowAny, by exact blkAny2, by exact blkAny2, by exact blkAny2, by exact blkAny2⟩ ?_
  rintro W1 ⟨hW, b1, b2, b3, b4⟩
  have z2 := hW.size
  have z3 := b1.lt
  have z4 := b2.lt
  have z5 := b3.lt
  have z6 := b4.lt
  have c1 := H_c1.out
  refine wp_region_ndQ 7 49 [] (fun W' => Rex [] W1 W' ∧ Blk W' w.heap.size #[.int .i64 s.K, .slice p s.runs.length cap, .int .i64 s.A, .int .i64 s.R, .int .i64 s.n, .int .i64 s.d, .slice q s.raw.length vc, .int .i64 s.E] 78 ∧ Blk W' (w.heap.size + 1) #[.int .i64 0] 2 ∧ Blk W' (w.heap.size + 1 + 1) #[.int .i64 0] 35 ∧ Blk W' gp #[.slice pp pts.length cp] 39) mixed (by kernel_rfl) rfl ⟨(Rex.refl _ _).drew, b1, b2, b3, b4⟩ (fun w w' ⟨h0, h1, h2, h3, h4⟩ hr => ⟨h0.trans hr, h1.rex hr (by simp <;> omega), h2.rex hr (by simp <;> omega), h3.rex hr (by simp <;> omega), h4.rex hr (by simp <;> omega)⟩) rfl ?_
  iterate 5
    apply nd_det (hg := rfl) (hal := rfl)
    · intro a W' hC hE
      obtain ⟨_, k1, k2, k3, k4⟩ := hC
      have k1 := k1.cell
      have k2 := k2.cell
      have k3 := k3.cell
      have k4 := k4.cell
      first
        | (simp [Oper.looksAt, Op.operands, Call.operands, envOf, Det] at hE; simp [go_sem, Act.eval, IntWalk.i64_left, hE, k1, k2, k3, k4]; try rfl)
        | (clear hE; simp [go_sem, Act.eval, IntWalk.i64_left, k1, k2, k3, k4]; try rfl)
  refine nd_callv2 rfl rfl (fun W' hC => c1 W' (hW.trans (hC.1.of_priv hW.size))) (fun a W' hC hE => ?_) ?_
  · obtain ⟨_, k1, k2, k3, k4⟩ := hC
    have k1 := k1.cell
    have k2 := k2.cell
    have k3 := k3.cell
    have k4 := k4.cell
    first
      | (simp [Oper.looksAt, Op.operands, Call.operands, envOf, Det] at hE; simp [go_sem, Act.eval, IntWalk.i64_left, hE, k1, k2, k3, k4]; try rfl)
      | (clear hE; simp [go_sem, Act.eval, IntWalk.i64_left, k1, k2, k3, k4]; try rfl)
  iterate 1
    apply nd_det (hg := rfl) (hal := rfl)
    · intro a W' hC hE
      obtain ⟨_, k1, k2, k3, k4⟩ := hC
      have k1 := k1.cell
      have k2 := k2.cell
      have k3 := k3.cell
      have k4 := k4.cell
      first
        | (simp [Oper.looksAt, Op.operands, Call.operands, envOf, Det] at hE; simp [go_sem, Act.eval, IntWalk.i64_left, hE, k1, k2, k3, k4]; try rfl)
        | (clear hE; simp [go_sem, Act.eval, IntWalk.i64_left, k1, k2, k3, k4]; try rfl)
  rintro W7 ⟨hR, d1, d2, d3, d4⟩
  simp only [ndFinR, Det, forall_eq]
  intros
  repeat (rename GDet _ _ _ _ => hgd; clear hgd)
  simp only [Act.put, List.setIfInBounds_toArray, List.set_cons_zero, List.set_cons_succ]
  refine wpList_nil ?_
  replace hW := hW.trans (hR.of_priv hW.size)
  clear hR
  clear c1
  try clear b1 b2 b3 b4
  have b1 := d1
  clear d1
  have b2 := d2
  clear d2
  have b3 := d3
  clear d3
  have b4 := d4
  clear d4
  simp only [Exit.then]
  have hz0 := hW.size
  have hz1 := b1.lt
  have hzz := b3.lt
  have k1 := b1.cell
  have k2 := b2.cell
  have k3 := b3.cell
  have k4 := b4.cell
  gi_wp2_with (refine ⟨trivial, ?_⟩; gi_at_call 63; refine (callsIn_wide.2 (points_w _ _ _ _ _ _ _ _ _ _ _ _ _)).mono ?_; rintro e w' ⟨rfl, rfl⟩)
  have hW0 : Below W7.heap.size W7 (((W7.alloc (.cells #[.int .i64 0] 2)).alloc (.cells #[.int .i64 0] 3)).alloc (.cells #[.int .i64 s.K, .slice p s.runs.length cap, .int .i64 s.A, .int .i64 s.R, .int .i64 s.n, .int .i64 s.d, .slice q s.raw.length vc, .int .i64 s.E] 78)) := belowAny
  have hBs : Blk (((W7.alloc (.cells #[.int .i64 0] 2)).alloc (.cells #[.int .i64 0] 3)).alloc (.cells #[.int .i64 s.K, .slice p s.runs.length cap, .int .i64 s.A, .int .i64 s.R, .int .i64 s.n, .int .i64 s.d, .slice q s.raw.length vc, .int .i64 s.E] 78)) (W7.heap.size + 1 + 1) #[.int .i64 s.K, .slice p s.runs.length cap, .int .i64 s.A, .int .i64 s.R, .int .i64 s.n, .int .i64 s.d, .slice q s.raw.length vc, .int .i64 s.E] 78 := Blk.new' (by simp)
  have hsW : (((W7.alloc (.cells #[.int .i64 0] 2)).alloc (.cells #[.int .i64 0] 3)).alloc (.cells #[.int .i64 s.K, .slice p s.runs.length cap, .int .i64 s.A, .int .i64 s.R, .int .i64 s.n, .int .i64 s.d, .slice q s.raw.length vc, .int .i64 s.E] 78)).heap.size = W7.heap.size + 1 + 1 + 1 := by simp
  have b5 : Blk (((W7.alloc (.cells #[.int .i64 0] 2)).alloc (.cells #[.int .i64 0] 3)).alloc (.cells #[.int .i64 s.K, .slice p s.runs.length cap, .int .i64 s.A, .int .i64 s.R, .int .i64 s.n, .int .i64 s.d, .slice q s.raw.length vc, .int .i64 s.E] 78)) (W7.heap.size) #[.int .i64 0] 2 := blkAny2
  have b6 : Blk (((W7.alloc (.cells #[.int .i64 0] 2)).alloc (.cells #[.int .i64 0] 3)).alloc (.cells #[.int .i64 s.K, .slice p s.runs.length cap, .int .i64 s.A, .int .i64 s.R, .int .i64 s.n, .int .i64 s.d, .slice q s.raw.length vc, .int .i64 s.E] 78)) (W7.heap.size + 1) #[.int .i64 0] 3 := blkAny2
  have B2 := b2.below hW0
  have B3 := b3.below hW0
  have HW1 := hW.trans (hW0.mono hW.size)
  obtain ⟨W0, hWe⟩ : ∃ W0, W0 = (((W7.alloc (.cells #[.int .i64 0] 2)).alloc (.cells #[.int .i64 0] 3)).alloc (.cells #[.int .i64 s.K, .slice p s.runs.length cap, .int .i64 s.A, .int .i64 s.R, .int .i64 s.n, .int .i64 s.d, .slice q s.raw.length vc, .int .i64 s.E] 78)) := ⟨_, rfl⟩
  rw [← hWe] at hBs hsW b5 b6 B2 B3 HW1 ⊢
  clear hWe hW0 b1 b2 b3 b4 k1 k2 k3 k4 hW H_c1
  have hk0 : gp < w.heap.size := hgp.lt
  refine wpIn_rangeFunc_ownH rfl (by omega) (gf := 106) (lb := #[.pointer (some ⟨W7.heap.size + 1 + 1, 0, none⟩)]) rfl trivial (enters_of Tryz.func106 (by kernel_rfl) rfl)
    (encs := fun x : Int × Int => #[Value.agg #[.int .i64 x.1, .int .i64 x.2]]) (Kp := KF w.heap.size (W7.heap.size + 1 + 1)) (S := fun ys => ys = ptsL s) (Sp := fun pre => pre <+: ptsL s) (N := (ptsL s).length) (w0 := W0)
    (fun lr J Jx W hWW hJ _ hY h0 => points1_in 3 (by omega) lr (W7.heap.size + 1 + 1) (W7.heap.size + 1 + 1) s p q cap vc hs (KF w.heap.size (W7.heap.size + 1 + 1)) (fun hk => ⟨hk.below.size, fun ha => hin.keep hk.below ha, fun ha => hk.rest _ _ _ _ (Nat.le_refl _) ha, fun b cs hb ha => hk.rest b cs _ _ hb ha⟩) J Jx _ hJ hY W (hBs.below hWW) ((hin.below HW1).below hWW) (by have := hWW.size; omega) h0)
    (fun h k => h.trans k) (KF.putObj (by omega)) (Below.refl _ _) (fun _ => rfl)
    (fun pre W => ((Blk W (w.heap.size + 1) #[.int .i64 0] 2 ∧ Blk W (w.heap.size + 1 + 1) #[.int .i64 0] 35) ∧ (Blk W (W7.heap.size) #[.int .i64 (farOf (pre.zip pts))] 2 ∧ Blk W (W7.heap.size + 1) #[.int .i64 (pre.length : Int)] 3)) ∧ ((pre.zip pts).all okZ = true) ∧ Below w.heap.size w W)
    (fun c pre W => (Blk W (w.heap.size + 1) #[.int .i64 0] 2 ∧ Blk W (w.heap.size + 1 + 1) #[.int .i64 2] 35) ∧ (c = .ret ∧ (pre.zip pts).all okZ = false) ∧ Below w.heap.size w W)
    (OwnFrom.and (OwnFrom.and (OwnFrom.and (Own.from (blk_own _ _ _) _) (Own.from (blk_own _ _ _) _)) (OwnFrom.and (Own.from (blk_own _ _ _) _) (Own.from (blk_own _ _ _) _))) (OwnFrom.and (ownFrom_pure _ _) (ownFrom_below (Nat.le_refl _) (by omega))))
    (fun c => OwnFrom.and (OwnFrom.and (Own.from (blk_own _ _ _) _) (Own.from (blk_own _ _ _) _)) (OwnFrom.and (ownFrom_pure _ _) (ownFrom_below (Nat.le_refl _) (by omega))))
    ⟨⟨⟨B2, B3⟩, b5, b6⟩, rfl, HW1⟩
    (fun x a' W => ∃ Bx, W7.heap.size + 1 < Bx ∧ Blk W Bx #[.int .i64 x.1, .int .i64 x.2] 58 ∧ a' = { tmps := #[.agg #[.int .i64 s.K, .slice p s.runs.length cap, .int .i64 s.A, .int .i64 s.R, .int .i64 s.n, .int .i64 s.d, .slice q s.raw.length vc, .int .i64 s.E], .pointer (some ⟨gp, 0, none⟩), .pointer (some ⟨w.heap.size, 0, none⟩), .pointer (some ⟨w.heap.size + 1, 0, none⟩), .pointer (some ⟨w.heap.size + 1 + 1, 0, none⟩), .pointer (some ⟨W7.heap.size, 0, none⟩), .pointer (some ⟨W7.heap.size + 1, 0, none⟩), .pointer (some ⟨Bx, 0, none⟩), undef, .slice pp pts.length cp, .int .i64 (pts.length : Int), .pointer (some ⟨w.heap.size, 0, none⟩), .pointer (some ⟨w.heap.size, 1, none⟩), .slice p s.runs.length cap, .int .i64 (cnt s.runs), .bool false, .agg #[.int .i64 s.K, .slice p s.runs.length cap, .int .i64 s.A, .int .i64 s.R, .int .i64 s.n, .int .i64 s.d, .slice q s.raw.length vc, .int .i64 s.E], .func (.func 106) #[] #[.pointer (some ⟨W7.heap.size + 1 + 1, 0, none⟩)], .agg #[.int .i64 x.1, .int .i64 x.2], undef, undef, undef, undef, undef, undef, undef, undef, undef, undef, undef, undef, undef, undef, undef, undef, undef, undef, undef, undef, undef, undef, undef, undef, undef, undef, undef, undef, undef, undef], defers := [] })
    (fun x a' _ X Y row hs hg hr => by obtain ⟨Bx, h1, h2, h3⟩ := hs; exact ⟨Bx, h1, blk_own Bx 58 (fun (_ : Unit) => #[Value.int .i64 x.1, Value.int .i64 x.2]) () X Y row h2 hg (fun r e => (hr r e).2), h3⟩) ?assign ?body ?done ?stop
  case assign =>
    rintro l pre x W K ⟨⟨⟨i1, i2⟩, i3, i4⟩, i5, i6⟩ hK
    have hlt4 := i4.lt
    gi_wp2
    exact hK _ _ ((KeepsOthers.alloc _ _).from _) ((KF.refl _ _ _).alloc i6.size _) ⟨⟨⟨i1.alloc _, i2.alloc _⟩, i3.alloc _, i4.alloc _⟩, i5, i6.alloc i6.size _⟩ ⟨W.heap.size, hlt4, Blk.new' rfl, rfl⟩
  case body =>
    rintro l pre ⟨xt, xv⟩ a' W hl' ⟨r, hr⟩ ⟨⟨⟨i1, i2⟩, i3, i4⟩, i5, i6⟩ ⟨Bx, hBx, bX, rfl⟩ hlt
    have hlen' := HL.out
    have hlt2 : pre.length < pts.length := by rw [HN.out]; exact hlt
    obtain ⟨⟨yt, yv⟩, hy⟩ : ∃ y, pts[pre.length]? = some y := ⟨pts[pre.length]'hlt2, List.getElem?_eq_getElem _⟩
    have hyv := hI64.out _ (List.mem_of_getElem? hy)
    obtain ⟨gb, go, rfl, q0, q1⟩ := (hP.below i6).at' _ _ hy
    have hzip := Lib.hid (zip_snoc (x := (xt, xv)) hy)
    have h5 := Lib.hid i5
    clear hy hlen' i5
    have hp256 : pre.length ≤ 256 := by have := HL.out; omega
    have k1 := i1.cell
    have f1 := i1.frozen
    have k2 := i2.cell
    have f2 := i2.frozen
    have k3 := i3.cell
    have f3 := i3.frozen
    have k4 := i4.cell
    have f4 := i4.frozen
    have kx := bX.cell
    have ke := (hgp.below i6).cell
    have y1 := i1.lt
    have y2 := i2.lt
    have y3 := i3.lt
    have y4 := i4.lt
    have yx := bX.lt
    have hz6 := i6.size
    by_cases ht : yt = xt
    · subst ht
      cases hbk : isBack yv with
      | false =>
        have cb := fun W => c_sback yv W
        rw [hbk] at cb
        have cb := Lib.hid cb
        have hall := Lib.hid (show ((pre ++ [(yt, xv)]).zip pts).all okZ = false by rw [hzip.out, List.all_append]; simp [okZ, hbk])
        clear hbk
        gi_wp2_with (refine ⟨trivial, ?_⟩; gi_at_call 66; refine (CallsIn.inRound l (callsIn_wide.2 (cb.out _))).mono ?_; rintro e w2 ⟨rfl, hb2⟩; have j1 := (i1.alloc _).below hb2; have j2 := (i2.alloc _).below hb2; have l1 := j1.cell; have m1 := j1.frozen; have l2 := j2.cell; have m2 := j2.frozen; have hz2 := hb2.size)
        exact ⟨KeepsOthers.from (keepsAny) _, ⟨⟨blkAny2, blkAny2⟩, ⟨rfl, hall.out⟩, belowAny⟩⟩
      | true =>
        have cb := fun W => c_sback yv W
        rw [hbk] at cb
        have cb := Lib.hid cb
        have hall := Lib.hid (show ((pre ++ [(yt, xv)]).zip pts).all okZ = true by rw [hzip.out, List.all_append, h5.out]; simp [okZ, hbk])
        have hfar := Lib.hid (show farOf ((pre ++ [(yt, xv)]).zip pts) = mx (mx (farOf (pre.zip pts)) (wrap64 (yv - xv))) (wrap64 (xv - yv)) by rw [hzip.out, farOf_snoc])
        have hpl := Lib.hid (show (((pre ++ [(yt, xv)]).length : Nat) : Int) = (pre.length : Int) + 1 by simp)
        clear hbk
        have hmax : ∀ ts t x y z w, (Builtin.max_ ts t #[.int .i64 x, .int .i64 y, .int .i64 z]).run Tryz.prog w = .ok (.int .i64 (mx (mx x y) z)) w := fun ts t x y z w => by simp [Builtin.max_, Builtin.max2, mx]
        gi_wp2_with (refine ⟨trivial, ?_⟩; gi_at_call 66; refine (CallsIn.inRound l (callsIn_wide.2 (cb.out _))).mono ?_; rintro e w2 ⟨rfl, hb2⟩; have j1 := (i1.alloc _).below hb2; have j2 := (i2.alloc _).below hb2; have j3 := (i3.alloc _).below hb2; have j4 := (i4.alloc _).below hb2; have jx := (bX.alloc _).below hb2; have jq := (Blk.new' (w := W) (b := W.heap.size) rfl).below hb2; have l1 := j1.cell; have m1 := j1.frozen; have l2 := j2.cell; have m2 := j2.frozen; have l3 := j3.cell; have m3 := j3.frozen; have l4 := j4.cell; have m4 := j4.frozen; have lx := jx.cell; have lq := jq.cell; have hz2 := hb2.size)
        exact ⟨KeepsOthers.from (keepsAny) _, kfAny, ⟨⟨⟨blkAny2, blkAny2⟩, by rw [hfar.out]; exact blkAny2, by rw [hpl.out]; exact blkAny2⟩, hall.out, belowAny⟩⟩
    · have ht' : (yt != xt) = true := by simpa using ht
      have hall := Lib.hid (show ((pre ++ [(xt, xv)]).zip pts).all okZ = false by rw [hzip.out, List.all_append]; simp [okZ, ht])
      clear ht
      gi_wp2
      refine ⟨trivial, ?_⟩
      gi_wp2
      exact ⟨KeepsOthers.from (keepsAny) _, ⟨⟨blkAny2, blkAny2⟩, ⟨rfl, hall.out⟩, belowAny⟩⟩
  case done =>
    rintro D ys W hD rfl ⟨⟨⟨i1, i2⟩, i3, i4⟩, i5, i6⟩ hK
    have k1 := i1.cell
    have f1 := i1.frozen
    have k2 := i2.cell
    have f2 := i2.frozen
    have k3 := i3.cell
    have y1 := i1.lt
    have y2 := i2.lt
    have y3 := i3.lt
    have hz6 := i6.size
    have hall := i5
    replace i5 := Lib.hid i5
    clear hall
    gi_wp2
    obtain ⟨W2, hWe⟩ : ∃ W2, W2 = ((W.setCell ⟨w.heap.size + 1, 0, none⟩ (.int .i64 (farOf ((ptsL s).zip pts)))).setCell ⟨w.heap.size + 1 + 1, 0, none⟩ (.int .i64 0)) := ⟨_, rfl⟩
    have j1 : Blk W2 (w.heap.size + 1) #[.int .i64 (farOf ((ptsL s).zip pts))] 2 := by rw [hWe]; exact blkAny2
    have j2 : Blk W2 (w.heap.size + 1 + 1) #[.int .i64 0] 35 := by rw [hWe]; exact blkAny2
    have hB2 : Below w.heap.size w W2 := by rw [hWe]; exact belowAny
    have hK' : W2.heap[D]? = some (.deferred (some [])) := by rw [hWe]; exact (keepsAny : KeepsOthers W _).same D _ hK rfl
    rw [← hWe]
    refine ⟨by simp, .inl ⟨_, _, rfl, run_takeDeferred hK', ?_⟩⟩
    have hc3 := cell_kept (by simpa using j1.cell 0) (grownBy_putObj' W2 D (.deferred none)) (fun r e => by cases e; exact ⟨_, hK', rfl⟩)
    have hc4 := cell_kept (by simpa using j2.cell 0) (grownBy_putObj' W2 D (.deferred none)) (fun r e => by cases e; exact ⟨_, hK', rfl⟩)
    refine ⟨.tuple #[.int .i64 (farOf ((ptsL s).zip pts)), .int .i64 0], ?_, by unfold farR; rw [if_pos HN.out, if_pos i5.out], hB2.trans (belowK_b (w := w) (Nat.le_refl _) _ D _ _ (by omega) hK' rfl rfl)⟩
    simp [results, Tryz.f65, go_sem, hc3, hc4]
  case stop =>
    rintro D c pre W hD hpre ⟨⟨i1, i2⟩, ⟨rfl, i5⟩, i6⟩ hK
    have hz6 := i6.size
    have hall := Lib.hid (all_prefix hpre i5)
    clear i5
    gi_wp2
    refine ⟨by simp, .inl ⟨_, _, rfl, run_takeDeferred hK, ?_⟩⟩
    have hc3 := cell_kept (by simpa using i1.cell 0) (grownBy_putObj' W D (.deferred none)) (fun r e => by cases e; exact ⟨_, hK, rfl⟩)
    have hc4 := cell_kept (by simpa using i2.cell 0) (grownBy_putObj' W D (.deferred none)) (fun r e => by cases e; exact ⟨_, hK, rfl⟩)
    refine ⟨.tuple #[.int .i64 0, .int .i64 2], ?_, by unfold farR; rw [if_pos HN.out, if_neg (by rw [hall.out]; simp)], i6.trans (belowK_b (w := w) (Nat.le_refl _) W D _ _ (by omega) hK rfl rfl)⟩
    simp [results, Tryz.f65, go_sem, hc3, hc4]
end Go.Proofs.YtgblmlefmohgnaaGreat
namespace Go.Proofs.YtgblmlefmohgnaaGreat
open Go.RowKit
set_option maxRecDepth 100000 in
set_option maxHeartbeats 2000000 in
theorem ofi_far (K A R n d E : Int) (p q : Option Addr) (len cap m vc : Nat) (w : World) (g : Nat) (v er : Int)
    (c1 : ∀ W, Below w.heap.size w W → Calls Tryz.prog 55 #[.agg #[.int .i64 K, .slice p len cap, .int .i64 A, .int .i64 R, .int .i64 n, .int .i64 d, .slice q m vc, .int .i64 E]] W fun e w' => e = .returned (.bool true) ∧ Below W.heap.size W w')
    (c3 : ∀ W, Below w.heap.size w W → Calls Tryz.prog 65 #[.agg #[.int .i64 K, .slice p len cap, .int .i64 A, .int .i64 R, .int .i64 n, .int .i64 d, .slice q m vc, .int .i64 E], .pointer (some ⟨g, 0, none⟩)] W fun e w' => e = .returned (.tuple #[.int .i64 v, .int .i64 er]) ∧ Below W.heap.size W w') :
    Calls Tryz.prog 64 #[.agg #[.int .i64 K, .slice p len cap, .int .i64 A, .int .i64 R, .int .i64 n, .int .i64 d, .slice q m vc, .int .i64 E], .func (.func 65) #[] #[.pointer (some ⟨g, 0, none⟩)]] w fun e w' => e = .returned (.tuple #[.int .i64 v, .int .i64 er]) ∧ Below w.heap.size w w' := by
  have H_c1 := Lib.hid c1
  clear c1
  have H_c3 := Lib.hid c3
  clear c3
  go_enter Tryz.func64, Tryz.ntmps64
  go_upto_region 1 with (fail)
  refine wp_facts (fun W' => Below w.heap.size w W' ∧ Blk W' w.heap.size #[.int .i64 K, .slice p len cap, .int .i64 A, .int .i64 R, .int .i64 n, .int .i64 d, .slice q m vc, .int .i64 E] 27) ⟨by exact belowAny, by exact blkAny2⟩ ?_
  rintro W1 ⟨hW, b1⟩
  have z2 := hW.size
  have z3 := b1.lt
  have k1 := b1.cell
  have f1 := b1.frozen
  have c1 := H_c1.out
  go_wp2_with fail
  refine (c1 _ (belowAny)).mono ?_
  rintro e w4 ⟨rfl, hb4⟩
  clear c1
  have z5 := hb4.size
  try simp at z5
  clear k1 f1
  have b1 : Blk w4 w.heap.size #[.int .i64 K, .slice p len cap, .int .i64 A, .int .i64 R, .int .i64 n, .int .i64 d, .slice q m vc, .int .i64 E] 27 := by exact blkAny2
  have hW : Below w.heap.size w w4 := by exact belowAny
  have z6 := b1.lt
  clear hb4
  have k1 := b1.cell
  have f1 := b1.frozen
  have c3 := H_c3.out
  go_wp2_with fail
  refine (c3 _ (belowAny)).mono ?_
  rintro e w7 ⟨rfl, hb7⟩
  clear c3
  have z8 := hb7.size
  try simp at z8
  clear k1 f1
  have b1 : Blk w7 w.heap.size #[.int .i64 K, .slice p len cap, .int .i64 A, .int .i64 R, .int .i64 n, .int .i64 d, .slice q m vc, .int .i64 E] 27 := by exact blkAny2
  have hW : Below w.heap.size w w7 := by exact belowAny
  have z9 := b1.lt
  clear hb7
  have k1 := b1.cell
  have f1 := b1.frozen
  go_wp2
  have y_1 := b1.lt
  refine bodyPost_ret (v := .tuple #[.int .i64 v, .int .i64 er]) (by simp [results, Tryz.results64, go_sem, k1, f1, y_1]) rfl ⟨rfl, by exact belowAny⟩
set_option maxRecDepth 100000 in
set_option maxHeartbeats 2000000 in
theorem far_w (K A R n d E : Int) (p q : Option Addr) (len cap m vc : Nat) (w : World) (len2 cp : Nat) (pp : Option Addr) (v er : Int)
    (c1 : ∀ W g, Below w.heap.size w W → Blk W g #[.slice pp len2 cp] 39 → Calls Tryz.prog 64 #[.agg #[.int .i64 K, .slice p len cap, .int .i64 A, .int .i64 R, .int .i64 n, .int .i64 d, .slice q m vc, .int .i64 E], .func (.func 65) #[] #[.pointer (some ⟨g, 0, none⟩)]] W fun e w' => e = .returned (.tuple #[.int .i64 v, .int .i64 er]) ∧ Below W.heap.size W w') :
    Calls Tryz.prog 28 #[.agg #[.int .i64 K, .slice p len cap, .int .i64 A, .int .i64 R, .int .i64 n, .int .i64 d, .slice q m vc, .int .i64 E], .slice pp len2 cp] w fun e w' => e = .returned (.tuple #[.int .i64 v, .int .i64 er]) ∧ Below w.heap.size w w' := by
  have hmf : ∀ (fn : Fn) (first cap : Array Value) (w : World), (Instr.makeFunc fn first cap).run Tryz.prog w = .ok (.func fn first cap) w := fun _ _ _ _ => rfl
  have H_c1 := Lib.hid c1
  clear c1
  go_enter Tryz.func28, Tryz.ntmps28
  go_upto_region 1 with (fail)
  refine wp_facts (fun W' => Below w.heap.size w W' ∧ Blk W' w.heap.size #[.int .i64 K, .slice p len cap, .int .i64 A, .int .i64 R, .int .i64 n, .int .i64 d, .slice q m vc, .int .i64 E] 27 ∧ Blk W' (w.heap.size + 1) #[.slice pp len2 cp] 39) ⟨by exact belowAny, by exact blkAny2, by exact blkAny2⟩ ?_
  rintro W1 ⟨hW, b1, b2⟩
  have z2 := hW.size
  have z3 := b1.lt
  have z4 := b2.lt
  have k1 := b1.cell
  have f1 := b1.frozen
  have k2 := b2.cell
  have f2 := b2.frozen
  have c1 := H_c1.out
  go_wp2_with fail
  refine (c1 _ _ (belowAny) (blkAny2)).mono ?_
  rintro e w5 ⟨rfl, hb5⟩
  clear c1
  have z6 := hb5.size
  try simp at z6
  clear k1 f1 k2 f2
  have b1 : Blk w5 w.heap.size #[.int .i64 K, .slice p len cap, .int .i64 A, .int .i64 R, .int .i64 n, .int .i64 d, .slice q m vc, .int .i64 E] 27 := by exact blkAny2
  have b2 : Blk w5 (w.heap.size + 1) #[.slice pp len2 cp] 39 := by exact blkAny2
  have hW : Below w.heap.size w w5 := by exact belowAny
  have z7 := b1.lt
  have z8 := b2.lt
  clear hb5
  have k1 := b1.cell
  have f1 := b1.frozen
  have k2 := b2.cell
  have f2 := b2.frozen
  go_wp2
  have y_1 := b1.lt
  have y_2 := b2.lt
  refine bodyPost_ret (v := .tuple #[.int .i64 v, .int .i64 er]) (by simp [results, Tryz.results28, go_sem, k1, f1, k2, f2, y_1, y_2]) rfl ⟨rfl, by exact belowAny⟩
set_option maxRecDepth 100000 in
set_option maxHeartbeats 2000000 in
theorem holds_w (K A R n d E : Int) (p q : Option Addr) (len cap m vc : Nat) (w : World) (len2 cp : Nat) (pp : Option Addr) (v er : Int)
    (c1 : ∀ W, Below w.heap.size w W → Calls Tryz.prog 28 #[.agg #[.int .i64 K, .slice p len cap, .int .i64 A, .int .i64 R, .int .i64 n, .int .i64 d, .slice q m vc, .int .i64 E], .slice pp len2 cp] W fun e w' => e = .returned (.tuple #[.int .i64 v, .int .i64 er]) ∧ Below W.heap.size W w') :
    Calls Tryz.prog 29 #[.agg #[.int .i64 K, .slice p len cap, .int .i64 A, .int .i64 R, .int .i64 n, .int .i64 d, .slice q m vc, .int .i64 E], .slice pp len2 cp] w fun e w' => e = .returned (.bool ((er == 0) && decide (v ≤ E))) ∧ Below w.heap.size w w' := by
  have H_c1 := Lib.hid c1
  clear c1
  go_enter Tryz.func29, Tryz.ntmps29
  go_upto_region 1 with (fail)
  refine wp_facts (fun W' => Below w.heap.size w W' ∧ Blk W' w.heap.size #[.int .i64 K, .slice p len cap, .int .i64 A, .int .i64 R, .int .i64 n, .int .i64 d, .slice q m vc, .int .i64 E] 27) ⟨by exact belowAny, by exact blkAny2⟩ ?_
  rintro W1 ⟨hW, b1⟩
  have z2 := hW.size
  have z3 := b1.lt
  have k1 := b1.cell
  have f1 := b1.frozen
  have c1 := H_c1.out
  go_wp2_with fail
  refine (c1 _ (belowAny)).mono ?_
  rintro e w4 ⟨rfl, hb4⟩
  clear c1
  have z5 := hb4.size
  try simp at z5
  clear k1 f1
  have b1 : Blk w4 w.heap.size #[.int .i64 K, .slice p len cap, .int .i64 A, .int .i64 R, .int .i64 n, .int .i64 d, .slice q m vc, .int .i64 E] 27 := by exact blkAny2
  have hW : Below w.heap.size w w4 := by exact belowAny
  have z6 := b1.lt
  clear hb4
  have k1 := b1.cell
  have f1 := b1.frozen
  go_upto_region 2 with (fail)
  clear k1 f1
  refine wp_facts (fun W' => Below w.heap.size w W' ∧ Blk W' w.heap.size #[.int .i64 K, .slice p len cap, .int .i64 A, .int .i64 R, .int .i64 n, .int .i64 d, .slice q m vc, .int .i64 E] 27) ⟨by exact belowAny, by exact blkAny2⟩ ?_
  clear b1 hW
  rintro W7 ⟨hW, b1⟩
  have z8 := hW.size
  have z9 := b1.lt
  refine wp_region_sq 9 21 [] (fun W' => Rex [] W7 W' ∧ Blk W' w.heap.size #[.int .i64 K, .slice p len cap, .int .i64 A, .int .i64 R, .int .i64 n, .int .i64 d, .slice q m vc, .int .i64 E] 27) (by kernel_rfl) rfl ⟨(Rex.refl _ _), b1⟩ (fun w w' ⟨h0, h1⟩ hr => ⟨h0.trans hr, h1.rex hr (by simp <;> omega)⟩) ?_
  iterate 3
    apply nd_det (hg := rfl) (hal := rfl)
    · intro a W' hC hE
      obtain ⟨_, k1⟩ := hC
      have k1 := k1.cell
      first
        | (simp [Oper.looksAt, Op.operands, Call.operands, envOf, Det] at hE; simp [go_sem, Act.eval, IntWalk.i64_left, hE, k1]; try rfl)
        | (clear hE; simp [go_sem, Act.eval, IntWalk.i64_left, k1]; try rfl)
  iterate 4
    apply nd_detg (p := true) (hg := rfl) (hd := rfl) (hal := rfl)
    · intro v W' h
      simp [envOf, Det] at h
      simp
      exact h
    · intro hp hx a W' hC hE
      obtain ⟨_, k1⟩ := hC
      have k1 := k1.cell
      simp [Oper.looksAt, Op.operands, Call.operands, envOf, Det, GDet, hx] at hE
      simp [go_sem, Act.eval, IntWalk.i64_left, hE, k1]
      try rfl
  apply nd_pick_and (ho := rfl) (hg := rfl)
  · intro v W' h
    simp [envOf, Det] at h
    exact h
  · intro v W' h hx
    simp [envOf, GDet, hx] at h
    exact h
  iterate 1
    apply nd_det (hg := rfl) (hal := rfl)
    · intro a W' hC hE
      obtain ⟨_, k1⟩ := hC
      have k1 := k1.cell
      first
        | (simp [Oper.looksAt, Op.operands, Call.operands, envOf, Det] at hE; simp [go_sem, Act.eval, IntWalk.i64_left, hE, k1]; try rfl)
        | (clear hE; simp [go_sem, Act.eval, IntWalk.i64_left, k1]; try rfl)
  rintro W10 ⟨hR, d1⟩
  simp only [ndFinR, Det, forall_eq]
  intros
  repeat (rename GDet _ _ _ _ => hgd; clear hgd)
  simp only [Act.put, List.setIfInBounds_toArray, List.set_cons_zero, List.set_cons_succ]
  refine wpList_nil ?_
  replace hW := hW.trans (hR.of_priv hW.size)
  clear hR
  try clear b1
  have b1 := d1
  clear d1
  go_wp2
  have y_1 := b1.lt
  refine bodyPost_ret (v := .bool ((er == 0) && decide (v ≤ E))) (by simp [results, Tryz.results29, go_sem, y_1]) rfl ⟨rfl, by exact belowAny⟩
/-- How far a segment is from points, and the error. -/
def farV (s : SegT) (pts : List (Int × Int)) : Int × Int := if segB s then farR s pts else (0, 210)
theorem c_Far (s : SegT) (p q : Option Addr) (cap vc : Nat) (pp : Option Addr) (cp : Nat) (pts : List (Int × Int)) (w : World) (h : SegIn w s p q) (hP : PtsIn w pp pts) (hv : ∀ x, x ∈ pts → I64 x.2) (hlen : pts.length ≤ 9223372036854775807) :
    Calls Tryz.prog 28 #[.agg (segA s p q cap vc), .slice pp pts.length cp] w fun e w' => e = .returned (.tuple #[.int .i64 (farV s pts).1, .int .i64 (farV s pts).2]) ∧ Below w.heap.size w w' := by
  refine far_w _ _ _ _ _ _ p q _ cap _ vc w pts.length cp pp _ _ fun W g hW hg => ?_
  have hi := fun W' (hW' : Below W.heap.size W W') => c_segIs s p q cap vc W' ((h.below hW).below hW')
  cases hs : segB s with
  | false =>
    rw [hs] at hi
    have e1 : farV s pts = (0, 210) := by unfold farV; rw [hs]; rfl
    rw [e1]
    exact ofi_no _ _ _ _ _ _ p q _ cap _ vc W _ hi
  | true =>
    rw [hs] at hi
    have e1 : farV s pts = farR s pts := by unfold farV; rw [hs]; rfl
    rw [e1]
    refine ofi_far _ _ _ _ _ _ p q _ cap _ vc W g _ _ hi fun W' hW' => ?_
    have hl := segB_runs hs
    by_cases hn : pts.length = (ptsL s).length
    · exact callsIn_wide.1 (far1_w s p q cap vc W' hs ((h.below hW).below hW') g cp pp pts hn (hg.below hW') ((hP.below hW).below hW') hv)
    · have e2 : farR s pts = (0, 2) := by unfold farR; rw [if_neg hn]
      rw [e2]
      have hne : ((pts.length : Int) != cnt s.runs) = true := by have := length_pts hs; simp; omega
      exact far1_len _ _ _ _ _ _ p q _ cap _ vc W' g pts.length cp pp (cnt s.runs) hne (hg.below hW') hlen (fun W'' hW'' => c_rcount_ok p cap s.runs W'' hl (((h.below hW).below hW').below hW'').runs)
def holdsB (s : SegT) (pts : List (Int × Int)) : Bool := ((farV s pts).2 == 0) && decide ((farV s pts).1 ≤ s.E)
theorem c_Holds (s : SegT) (p q : Option Addr) (cap vc : Nat) (pp : Option Addr) (cp : Nat) (pts : List (Int × Int)) (w : World) (h : SegIn w s p q) (hP : PtsIn w pp pts) (hv : ∀ x, x ∈ pts → I64 x.2) (hlen : pts.length ≤ 9223372036854775807) :
    Calls Tryz.prog 29 #[.agg (segA s p q cap vc), .slice pp pts.length cp] w fun e w' => e = .returned (.bool (holdsB s pts)) ∧ Below w.heap.size w w' :=
  holds_w _ _ _ _ _ _ p q _ cap _ vc w pts.length cp pp _ _ fun W hW => c_Far s p q cap vc pp cp pts W (h.below hW) (hP.below hW) hv hlen
end Go.Proofs.YtgblmlefmohgnaaGreat
