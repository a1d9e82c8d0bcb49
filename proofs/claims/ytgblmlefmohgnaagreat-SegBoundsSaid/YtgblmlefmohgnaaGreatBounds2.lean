/- For every segment and all numbers that come in, whatever is in them, and all a, b: SegBounds returns true; the arguments read as before. No condition. -/
import Derived.Deep.CutRange
import Derived.Test.YtgblmlefmohgnaaGreatBounds1
set_option linter.unusedSimpArgs false
set_option linter.unusedVariables false
namespace Go.Proofs.YtgblmlefmohgnaaGreat
open Go.RowKit
/-- A cell holds this. -/
structure CellIs (w : World) (g o : Nat) (v : Value) : Prop where
  cell : w.cell? ⟨g, o, none⟩ = some v
theorem CellIs.below {w w' : World} {g o : Nat} {v : Value} (h : CellIs w g o v) (hb : Below w.heap.size w w') : CellIs w' g o v := ⟨(hb.cell (p := ⟨g, o, none⟩) (cell_lt h.cell)).trans h.cell⟩
theorem CellIs.rex {L : List Nat} {w w' : World} {g o : Nat} {v : Value} (h : CellIs w g o v) (hr : Rex L w w') (hL : L = []) : CellIs w' g o v := by subst hL; exact h.below hr.below
theorem CellIs.drew {w : World} {g o : Nat} {v : Value} (h : CellIs w g o v) : CellIs w.drew g o v := ⟨h.cell⟩
theorem PtsIn.write {W : World} {g k : Nat} {cur : Array Value} {t : TypeId} {L : List (Int × Int)} {x : Int × Int} (hb : Blk W g cur t) (h : PtsIn W (some ⟨g, 0, none⟩) L) (hk : L[k]? = some x) (v : Int) :
    PtsIn (W.setCell ⟨g, k * 2 + 1, none⟩ (.int .i64 v)) (some ⟨g, 0, none⟩) (L.set k (x.1, v)) := ⟨fun i y hy => by
  have hb' := hb.set (k * 2 + 1) (.int .i64 v)
  refine ⟨g, 0, rfl, ?_, ?_⟩
  · rw [hb'.cell]
    rw [List.getElem?_set] at hy
    have : (0 + i * 2) ≠ k * 2 + 1 := by omega
    rw [Array.getElem?_setIfInBounds, if_neg (by omega)]
    split at hy
    · rename_i e
      subst e
      split at hy
      · cases hy
        obtain ⟨b, o, e, h1, _⟩ := h.at' k x hk
        cases e
        rw [hb.cell] at h1
        exact h1
      · cases hy
    · obtain ⟨b, o, e, h1, _⟩ := h.at' i y hy
      cases e
      rw [hb.cell] at h1
      exact h1
  · rw [hb'.cell]
    rw [List.getElem?_set] at hy
    split at hy
    · rename_i e
      subst e
      split at hy
      · cases hy
        obtain ⟨b, o, e, _, h1⟩ := h.at' k x hk
        cases e
        rw [hb.cell] at h1
        have hlt := (Array.getElem?_eq_some_iff.1 h1).1
        rw [Array.getElem?_setIfInBounds, if_pos (by omega), if_pos (by omega)]
      · cases hy
    · rename_i e
      rw [Array.getElem?_setIfInBounds, if_neg (by omega)]
      obtain ⟨b, o, e', _, h1⟩ := h.at' i y hy
      cases e'
      rw [hb.cell] at h1
      exact h1⟩
set_option maxRecDepth 100000 in
set_option maxHeartbeats 2000000 in
theorem bounds_seg (K A R n d E : Int) (p q : Option Addr) (len cap m vc : Nat) (w : World) (len2 m2 : Nat) (s' : SegT) (pb : Option Addr) (byl : List Int) (bc : Nat) (a b : Int)
    (c1 : ∀ W, Below w.heap.size w W → Calls Tryz.prog 10 #[] W fun e w' => e = .returned (.bool true) ∧ Below W.heap.size W w')
    (c2 : ∀ W, Below w.heap.size w W → Calls Tryz.prog 11 #[.agg #[.int .i64 K, .slice p len cap, .int .i64 A, .int .i64 R, .int .i64 n, .int .i64 d, .slice q m vc, .int .i64 E]] W fun e w' => ∃ p' cap' q' vc', e = .returned (.agg #[.int .i64 K, .slice p' len2 cap', .int .i64 A, .int .i64 R, .int .i64 n, .int .i64 d, .slice q' m2 vc', .int .i64 E]) ∧ Below W.heap.size W w' ∧ SegIn w' s' p' q' ∧ m2 ≤ vc')
    (c3 : ∀ W p' q' cap' vc', SegIn W s' p' q' → m2 ≤ vc' → Calls Tryz.prog 25 #[.agg #[.int .i64 K, .slice p' len2 cap', .int .i64 A, .int .i64 R, .int .i64 n, .int .i64 d, .slice q' m2 vc', .int .i64 E]] W fun e w' => e = .returned (.tuple #[.slice none 0 0, .int .i64 210]) ∧ Below W.heap.size W w') :
    Calls Tryz.prog 9 #[.agg #[.int .i64 K, .slice p len cap, .int .i64 A, .int .i64 R, .int .i64 n, .int .i64 d, .slice q m vc, .int .i64 E], .slice pb byl.length bc, .int .i64 a, .int .i64 b] w fun e w' => e = .returned (.bool true) ∧ Below w.heap.size w w' := by
  have H_c1 := Lib.hid c1
  clear c1
  have H_c2 := Lib.hid c2
  clear c2
  have H_c3 := Lib.hid c3
  clear c3
  go_enter Tryz.func9, Tryz.ntmps9
  go_upto_region 1 with (fail)
  refine wp_facts (fun W' => Below w.heap.size w W' ∧ Blk W' w.heap.size #[.int .i64 K, .slice p len cap, .int .i64 A, .int .i64 R, .int .i64 n, .int .i64 d, .slice q m vc, .int .i64 E] 27) ⟨by exact belowAny, by exact blkAny2⟩ ?_
  rintro W1 ⟨hW, b1⟩
  have z2 := hW.size
  have z3 := b1.lt
  have k1 := b1.cell
  have f1 := b1.frozen
  have c1 := H_c1.out
  go_wp2_with fail
  refine (c1 _ (belowAny)).mono ?_
  rintro e w4 ⟨rfl, hb4⟩
  clear c1
  have z5 := hb4.size
  try simp at z5
  clear k1 f1
  have b1 : Blk w4 w.heap.size #[.int .i64 K, .slice p len cap, .int .i64 A, .int .i64 R, .int .i64 n, .int .i64 d, .slice q m vc, .int .i64 E] 27 := by exact blkAny2
  have hW : Below w.heap.size w w4 := by exact belowAny
  have z6 := b1.lt
  clear hb4
  have k1 := b1.cell
  have f1 := b1.frozen
  have c2 := H_c2.out
  go_wp2_with fail
  refine (c2 _ (belowAny)).mono ?_
  rintro e w7 ⟨p', cap', q', vc', rfl, hb7, hS, hvc⟩
  clear c2
  have z8 := hb7.size
  try simp at z8
  clear k1 f1
  have b1 : Blk w7 w.heap.size #[.int .i64 K, .slice p len cap, .int .i64 A, .int .i64 R, .int .i64 n, .int .i64 d, .slice q m vc, .int .i64 E] 27 := by exact blkAny2
  have hW : Below w.heap.size w w7 := by exact belowAny
  have z9 := b1.lt
  have k1 := b1.cell
  have f1 := b1.frozen
  have b2 := hS
  clear hS
  have c3 := H_c3.out
  go_wp2_with fail
  refine (c3 _ p' q' cap' vc' segAny hvc).mono ?_
  rintro e w10 ⟨rfl, hb10⟩
  clear c3
  have z11 := hb10.size
  try simp at z11
  clear k1 f1
  have b1 : Blk w10 w.heap.size #[.int .i64 K, .slice p len cap, .int .i64 A, .int .i64 R, .int .i64 n, .int .i64 d, .slice q m vc, .int .i64 E] 27 := by exact blkAny2
  have b2 : SegIn w10 s' p' q' := by exact segAny
  have b3 : Blk w10 w7.heap.size #[.int .i64 K, .slice p' len2 cap', .int .i64 A, .int .i64 R, .int .i64 n, .int .i64 d, .slice q' m2 vc', .int .i64 E] 27 := by exact blkAny2
  have hW : Below w.heap.size w w10 := by exact belowAny
  have z12 := b1.lt
  have z13 := b3.lt
  clear hb10
  have k1 := b1.cell
  have f1 := b1.frozen
  have k3 := b3.cell
  have f3 := b3.frozen
  go_wp2
  have y_1 := b1.lt
  have y_3 := b3.lt
  refine bodyPost_ret (v := .bool true) (by simp [results, Tryz.results9, go_sem, k1, f1, k3, f3, y_1, y_3]) rfl ⟨rfl, by exact belowAny⟩
/-- A value that some number moves. -/
def adjV (byl : List Int) (E : Int) (k : Nat) (v : Int) : Int := match byl[k]? with
  | none => v
  | some c => if -2305843009213693952 ≤ v ∧ v ≤ 2305843009213693952 then v + c.tmod (E + 1) else v
def boundRel (wb : World) (a b : Int) (pb : Option Addr) (byl : List Int) (bc : Nat) (P P' : List (Int × Int)) (g cp o9 o : Nat) (C : Array Value) (a' : Act) (W : World) : Prop :=
  Below wb.heap.size wb W ∧ Blk W o9 C 27 ∧ ∃ (k : Nat) (sb : Bool) (cur : Array Value), (∃ u : Nat → Value, a' = { tmps := #[u 0, .slice pb byl.length bc, .int .i64 a, .int .i64 b, u 4, u 5, u 6, u 7, u 8, .pointer (some ⟨o9, 0, none⟩), .slice (some ⟨g, 0, none⟩) P.length cp, u 11, .bool sb, .pointer (some ⟨o, 0, none⟩), u 14, u 15, u 16, u 17, u 18, u 19, u 20, u 21, u 22, u 23, u 24, u 25, u 26, u 27, u 28, u 29, u 30, u 31, u 32, u 33, u 34, u 35, u 36, u 37, .slice (some ⟨g, 0, none⟩) P.length cp, .int .i64 (P.length : Int), .int .i64 (k : Int), u 41, u 42, u 43, u 44, u 45, u 46, u 47, u 48, u 49, u 50, u 51, u 52, u 53, u 54, u 55, u 56, u 57, u 58, u 59, u 60, u 61, u 62, u 63, u 64, u 65, u 66, u 67, u 68, u 69, u 70, u 71, u 72, u 73, u 74, u 75, u 76, u 77, u 78, u 79, u 80, u 81, u 82, u 83, u 84, u 85, u 86, u 87, u 88, u 89, u 90, u 91, u 92, u 93, u 94, u 95, u 96, u 97, u 98, u 99, u 100, u 101, u 102, u 103, u 104, u 105, u 106, u 107, u 108, u 109, u 110, u 111, u 112, u 113, u 114, u 115, u 116, u 117, u 118, u 119, u 120, u 121, u 122, u 123, u 124, u 125, u 126, u 127, u 128, u 129, u 130, u 131, u 132, u 133, u 134, u 135, u 136, u 137, u 138, u 139, u 140, u 141, u 142, u 143, u 144, u 145, u 146, u 147, u 148, u 149, u 150, u 151, u 152, u 153, u 154, u 155, u 156, u 157, u 158, u 159, u 160, u 161, u 162, u 163, u 164, u 165, u 166, u 167, u 168, u 169, u 170, u 171, u 172, u 173, u 174, u 175, u 176, u 177, u 178, u 179, u 180, u 181, u 182, u 183, u 184, u 185, u 186, u 187, u 188, u 189, u 190, u 191, u 192, u 193, u 194, u 195, u 196, u 197, u 198, u 199, u 200, u 201, u 202, u 203, u 204, u 205, u 206, u 207, u 208, u 209, u 210, u 211, u 212, u 213, u 214, u 215, u 216, u 217, u 218, u 219, u 220, u 221, u 222, u 223, u 224], defers := [] }) ∧ k ≤ P.length ∧ sb = someB a b (P'.take k) ∧ Blk W o (foldA a b (P'.take k)) 34 ∧ Blk W g cur 58 ∧ PtsIn W (some ⟨g, 0, none⟩) (P'.take k ++ P.drop k) ∧ wb.heap.size ≤ o9 ∧ o9 < g ∧ g < o
set_option maxRecDepth 100000 in
set_option maxHeartbeats 20000000 in
theorem bounds_w (K A R n d E : Int) (p q : Option Addr) (len cap m vc : Nat) (w : World) (len2 m2 : Nat) (s' : SegT) (pb : Option Addr) (byl : List Int) (bc : Nat) (a b : Int) (hE : 0 ≤ E ∧ E ≤ 1099511627776) (hby : IntsIn w pb byl) (hbl : byl.length ≤ 9223372036854775807) (P P' : List (Int × Int)) (hP0 : P.length ≤ 1000) (hPP : P'.length = P.length)
    (hPv : ∀ x, x ∈ P → -2305844108725321728 ≤ x.2 ∧ x.2 ≤ 2305844108725321728) (hadj : ∀ (k : Nat) t v, P[k]? = some (t, v) → P'[k]? = some (t, adjV byl E k v))
    (hPv' : ∀ x, x ∈ P' → I64 x.2)
    (c1 : ∀ W, Below w.heap.size w W → Calls Tryz.prog 10 #[] W fun e w' => e = .returned (.bool true) ∧ Below W.heap.size W w')
    (c2 : ∀ W, Below w.heap.size w W → Calls Tryz.prog 11 #[.agg #[.int .i64 K, .slice p len cap, .int .i64 A, .int .i64 R, .int .i64 n, .int .i64 d, .slice q m vc, .int .i64 E]] W fun e w' => ∃ p' cap' q' vc', e = .returned (.agg #[.int .i64 K, .slice p' len2 cap', .int .i64 A, .int .i64 R, .int .i64 n, .int .i64 d, .slice q' m2 vc', .int .i64 E]) ∧ Below W.heap.size W w' ∧ SegIn w' s' p' q' ∧ m2 ≤ vc')
    (c5 : ∀ v, I64 v → ∀ W, Calls Tryz.prog 26 #[.int .i64 v] W fun e w' => e = .returned (.agg #[.int .i64 (hiW v), .int .u64 (loW v)]) ∧ Below W.heap.size W w')
    (c6 : ∀ (Q : List Int) v, (∃ k, Q = selL a b (P'.take k)) → Q ≠ [] → I64 v → ∀ W, Calls Tryz.prog 27 #[.agg #[.int .i64 ((Q).length : Int), .int .i64 (minL (Q)), .int .i64 (maxL (Q)), .int .i64 (hiW (lsum (Q))), .int .u64 (loW (lsum (Q)))], .agg #[.int .i64 1, .int .i64 v, .int .i64 v, .int .i64 (hiW v), .int .u64 (loW v)]] W fun e w' => e = .returned (.tuple #[.agg #[.int .i64 ((Q.length : Int) + 1), .int .i64 (minL (Q ++ [v])), .int .i64 (maxL (Q ++ [v])), .int .i64 (hiW (lsum (Q ++ [v]))), .int .u64 (loW (lsum (Q ++ [v])))], .bool true]) ∧ Below W.heap.size W w')
    (x0 x1 x2 x3 x4 y1 y2 y3 y4 er rh rl lh ll hh hl d1 d2 : Int)
    (hfin : (selL a b P' = [] ∧ er = 9) ∨ (selL a b P' ≠ [] ∧ er = 0 ∧ foldA a b P' = #[.int .i64 x0, .int .i64 y1, .int .i64 y2, .int .i64 y3, .int .u64 y4] ∧ (-2305844108725321728 ≤ x1 ∧ x1 ≤ 2305844108725321728) ∧ (-2305844108725321728 ≤ x2 ∧ x2 ≤ 2305844108725321728) ∧ x1 - E ≤ y1 ∧ y1 ≤ x1 + E ∧ x2 - E ≤ y2 ∧ y2 ≤ x2 + E ∧ d1 ≤ 0 ∧ d2 ≤ 0))
    (c7 : ∀ W p' q' cap' vc' g cp, SegIn W s' p' q' → m2 ≤ vc' → PtsIn W (some ⟨g, 0, none⟩) P' → Calls Tryz.prog 29 #[.agg #[.int .i64 K, .slice p' len2 cap', .int .i64 A, .int .i64 R, .int .i64 n, .int .i64 d, .slice q' m2 vc', .int .i64 E], .slice (some ⟨g, 0, none⟩) P.length cp] W fun e w' => e = .returned (.bool true) ∧ Below W.heap.size W w')
    (c8 : ∀ W p' q' cap' vc', SegIn W s' p' q' → m2 ≤ vc' → Calls Tryz.prog 12 #[.agg #[.int .i64 K, .slice p' len2 cap', .int .i64 A, .int .i64 R, .int .i64 n, .int .i64 d, .slice q' m2 vc', .int .i64 E], .int .i64 a, .int .i64 b] W fun e w' => e = .returned (.tuple #[.agg #[.int .i64 x0, .int .i64 x1, .int .i64 x2, .int .i64 x3, .int .u64 x4], .int .i64 er]) ∧ Below W.heap.size W w')
    (c9 : selL a b P' ≠ [] → ∀ W, Calls Tryz.prog 34 #[.int .i64 E, .int .i64 x0] W fun e w' => e = .returned (.agg #[.int .i64 rh, .int .u64 rl]) ∧ Below W.heap.size W w')
    (c10 : selL a b P' ≠ [] → ∀ W, Calls Tryz.prog 35 #[.agg #[.int .i64 x3, .int .u64 x4], .agg #[.int .i64 rh, .int .u64 rl]] W fun e w' => e = .returned (.tuple #[.agg #[.int .i64 lh, .int .u64 ll], .int .i64 0]) ∧ Below W.heap.size W w')
    (c11 : selL a b P' ≠ [] → ∀ W, Calls Tryz.prog 36 #[.agg #[.int .i64 x3, .int .u64 x4], .agg #[.int .i64 rh, .int .u64 rl]] W fun e w' => e = .returned (.tuple #[.agg #[.int .i64 hh, .int .u64 hl], .int .i64 0]) ∧ Below W.heap.size W w')
    (c12 : selL a b P' ≠ [] → ∀ W, Calls Tryz.prog 37 #[.agg #[.int .i64 lh, .int .u64 ll], .agg #[.int .i64 y3, .int .u64 y4]] W fun e w' => e = .returned (.int .i64 d1) ∧ Below W.heap.size W w')
    (c13 : selL a b P' ≠ [] → ∀ W, Calls Tryz.prog 37 #[.agg #[.int .i64 y3, .int .u64 y4], .agg #[.int .i64 hh, .int .u64 hl]] W fun e w' => e = .returned (.int .i64 d2) ∧ Below W.heap.size W w')
    (c3 : ∀ W p' q' cap' vc', SegIn W s' p' q' → m2 ≤ vc' → Calls Tryz.prog 25 #[.agg #[.int .i64 K, .slice p' len2 cap', .int .i64 A, .int .i64 R, .int .i64 n, .int .i64 d, .slice q' m2 vc', .int .i64 E]] W fun e w' => ∃ g cp cur, e = .returned (.tuple #[.slice (some ⟨g, 0, none⟩) P.length cp, .int .i64 0]) ∧ Below W.heap.size W w' ∧ PtsIn w' (some ⟨g, 0, none⟩) P ∧ W.heap.size ≤ g ∧ Blk w' g cur 58) :
    Calls Tryz.prog 9 #[.agg #[.int .i64 K, .slice p len cap, .int .i64 A, .int .i64 R, .int .i64 n, .int .i64 d, .slice q m vc, .int .i64 E], .slice pb byl.length bc, .int .i64 a, .int .i64 b] w fun e w' => e = .returned (.bool true) ∧ Below w.heap.size w w' := by
  replace hPv := Lib.hid hPv
  replace hadj := Lib.hid hadj
  replace hPP := Lib.hid hPP
  replace hPv' := Lib.hid hPv'
  replace c5 := Lib.hid c5
  replace c6 := Lib.hid c6
  replace hfin := Lib.hid hfin
  replace c7 := Lib.hid c7
  replace c8 := Lib.hid c8
  replace c9 := Lib.hid c9
  replace c10 := Lib.hid c10
  replace c11 := Lib.hid c11
  replace c12 := Lib.hid c12
  replace c13 := Lib.hid c13
  have H_c1 := Lib.hid c1
  clear c1
  have H_c2 := Lib.hid c2
  clear c2
  have H_c3 := Lib.hid c3
  clear c3
  go_enter Tryz.func9, Tryz.ntmps9
  go_upto_region 1 with (fail)
  refine wp_facts (fun W' => Below w.heap.size w W' ∧ Blk W' w.heap.size #[.int .i64 K, .slice p len cap, .int .i64 A, .int .i64 R, .int .i64 n, .int .i64 d, .slice q m vc, .int .i64 E] 27) ⟨by exact belowAny, by exact blkAny2⟩ ?_
  rintro W1 ⟨hW, b1⟩
  have z2 := hW.size
  have z3 := b1.lt
  have k1 := b1.cell
  have f1 := b1.frozen
  have c1 := H_c1.out
  go_wp2_with fail
  refine (c1 _ (belowAny)).mono ?_
  rintro e w4 ⟨rfl, hb4⟩
  clear c1
  have z5 := hb4.size
  try simp at z5
  clear k1 f1
  have b1 : Blk w4 w.heap.size #[.int .i64 K, .slice p len cap, .int .i64 A, .int .i64 R, .int .i64 n, .int .i64 d, .slice q m vc, .int .i64 E] 27 := by exact blkAny2
  have hW : Below w.heap.size w w4 := by exact belowAny
  have z6 := b1.lt
  clear hb4
  have k1 := b1.cell
  have f1 := b1.frozen
  have c2 := H_c2.out
  go_wp2_with fail
  refine (c2 _ (belowAny)).mono ?_
  rintro e w7 ⟨p', cap', q', vc', rfl, hb7, hS, hvc⟩
  clear c2
  have z8 := hb7.size
  try simp at z8
  clear k1 f1
  have b1 : Blk w7 w.heap.size #[.int .i64 K, .slice p len cap, .int .i64 A, .int .i64 R, .int .i64 n, .int .i64 d, .slice q m vc, .int .i64 E] 27 := by exact blkAny2
  have hW : Below w.heap.size w w7 := by exact belowAny
  have z9 := b1.lt
  have k1 := b1.cell
  have f1 := b1.frozen
  have b2 := hS
  clear hS
  have hS7 := Lib.hid b2
  have hW7 := Lib.hid hW
  have hvc7 := Lib.hid hvc
  have c3 := H_c3.out
  go_wp2_with fail
  refine (c3 _ p' q' cap' vc' segAny hvc).mono ?_
  rintro e w10 ⟨g, cp, cur, rfl, hb10, hP, hg, hG⟩
  clear c3
  have z11 := hb10.size
  try simp at z11
  clear k1 f1
  have b1 : Blk w10 w.heap.size #[.int .i64 K, .slice p len cap, .int .i64 A, .int .i64 R, .int .i64 n, .int .i64 d, .slice q m vc, .int .i64 E] 27 := by exact blkAny2
  have b2 : SegIn w10 s' p' q' := by exact segAny
  have b3 : Blk w10 w7.heap.size #[.int .i64 K, .slice p' len2 cap', .int .i64 A, .int .i64 R, .int .i64 n, .int .i64 d, .slice q' m2 vc', .int .i64 E] 27 := by exact blkAny2
  have hW : Below w.heap.size w w10 := by exact belowAny
  have z12 := b1.lt
  have z13 := b3.lt
  have k1 := b1.cell
  have f1 := b1.frozen
  have k3 := b3.cell
  have f3 := b3.frozen
  have b4 := hP
  clear hP
  clear H_c1 H_c2 H_c3
  have hbg := hG.below (Below.refl _ _)
  clear b1 b2 hW hG
  go_wp2
  obtain ⟨o9, ho9⟩ : ∃ o9, o9 = w7.heap.size := ⟨_, rfl⟩
  obtain ⟨o, ho⟩ : ∃ o, o = w10.heap.size := ⟨_, rfl⟩
  rw [← ho9, ← ho]
  rw [← ho9] at b3 k3 f3
  have ox1 : w7.heap.size ≤ o9 := by omega
  have ox2 : o9 < g := by simp at hg; omega
  have ox3 : g < o := by have := hbg.lt; omega
  have hWb : Below w7.heap.size w7 w10 := belowAny
  have Hho := Lib.hid ho
  clear ho ho9 hg
  refine wp_loop (boundRel w7 a b pb byl bc P P' g cp o9 o #[.int .i64 K, .slice p' len2 cap', .int .i64 A, .int .i64 R, .int .i64 n, .int .i64 d, .slice q' m2 vc', .int .i64 E]) (fun a' _ => P.length - (intAt (a'.tmps.getD 40 undef)).toNat) ?_ ?_
  · unfold boundRel
    have ho := Hho.out
    exact ⟨belowAny, blkAny2, 0, false, cur, frame_ex rfl, by omega, by simp [someB, selL], by simp only [foldA, selL, List.take_zero, List.filter_nil, List.map_nil, if_true]; exact blkAny2, blkAny2, by simpa using b4.alloc _, ox1, ox2, ox3⟩
  · clear b3 b4 k3 f3 hbg hWb Hho ox1 ox2 ox3 cur
    rintro a' W ⟨hW, b1, k, sb, cur, ⟨u, rfl⟩, hk, hsb, hbo, hbg, hpi, ox1, ox2, ox3⟩
    have hz := hW.size
    have hz1 := b1.lt
    have hzo := hbo.lt
    have hzg := hbg.lt
    replace hsb := Lib.hid hsb
    rcases Nat.lt_or_ge k P.length with hlt | hge
    · obtain ⟨⟨t, v⟩, hri⟩ : ∃ x, P[k]? = some x := ⟨P[k], List.getElem?_eq_getElem hlt⟩
      have hv := hPv.out _ (List.mem_of_getElem? hri)
      have had := Lib.hid (hadj.out k t v hri)
      have hL : (P'.take k ++ P.drop k)[k]? = some (t, v) := by
        have hpp := hPP.out
        rw [List.getElem?_append_right (by simp; omega)]
        simp [List.length_take, show min k P'.length = k by omega, hri]
      have hset : (P'.take k ++ P.drop k).set k (t, adjV byl E k v) = P'.take (k + 1) ++ P.drop (k + 1) := by
        have hpp := hPP.out
        have hd : P.drop k = (t, v) :: P.drop (k + 1) := by
          rw [List.drop_eq_getElem_cons hlt]
          congr 1
          rw [List.getElem?_eq_getElem hlt] at hri
          injection hri
        rw [hd, List.set_append_right _ _ (by simp; omega), List.take_add_one, had.out]
        simp [List.length_take, show min k P'.length = k by omega]
      obtain ⟨g', o', e', q0, q1⟩ := hpi.at' k _ hL
      cases e'
      simp only [Nat.zero_add] at q0 q1
      have hL' := Lib.hid hL
      have hset' := Lib.hid hset
      clear hL hset hri
      have k1 := b1.cell
      have fg := hbg.frozen
      obtain ⟨ex, hex⟩ : ∃ ex, ex = foldA a b (P'.take k) := ⟨_, rfl⟩
      rw [← hex] at hbo
      have hex' := Lib.hid hex
      clear hex
      go_upto_if 46 with (fail)
      go_cut [15, 40] from 40 to 119 (fun f15 i wx => i = .int .i64 (k : Int) ∧ Below w7.heap.size w7 wx ∧ Blk wx o9 #[.int .i64 K, .slice p' len2 cap', .int .i64 A, .int .i64 R, .int .i64 n, .int .i64 d, .slice q' m2 vc', .int .i64 E] 27 ∧ Blk wx o ex 34 ∧ ∃ cur', Blk wx g cur' 58 ∧ PtsIn wx (some ⟨g, 0, none⟩) (P'.take (k + 1) ++ P.drop (k + 1)))
      case first =>
        by_cases hkb : k < byl.length
        · obtain ⟨c, hc⟩ : ∃ c, byl[k]? = some c := ⟨byl[k], List.getElem?_eq_getElem hkb⟩
          obtain ⟨vb, vo, rfl, hc0⟩ := hby.at' k c hc
          have cb : CellIs W vb (vo + k) (.int .i64 c) := CellIs.below ⟨hc0⟩ (hW7.out.trans (hW.mono hW7.out.size))
          have cq : CellIs W g (k * 2 + 1) (.int .i64 v) := ⟨q1⟩
          have hadv := Lib.hid (show adjV byl E k v = if -2305843009213693952 ≤ v ∧ v ≤ 2305843009213693952 then v + c.tmod (E + 1) else v by unfold adjV; rw [hc])
          have HwE := Lib.hid (show wrap64 (E + 1) = E + 1 by rw [wrap64_eq]; omega)
          have HE1 := Lib.hid (show ¬ (E + 1 = 0) by omega)
          clear hc hc0 k1 fg q0 q1
          have b2 := hbg
          have b3 := hbo
          have b4 := cb
          have b5 := cq
          have b6 := hpi
          go_upto_region 12 with (fail)
          refine wp_facts (fun W' => Below w7.heap.size w7 W' ∧ Blk W' o9 #[.int .i64 K, .slice p' len2 cap', .int .i64 A, .int .i64 R, .int .i64 n, .int .i64 d, .slice q' m2 vc', .int .i64 E] 27 ∧ Blk W' g cur 58 ∧ Blk W' o ex 34 ∧ CellIs W' vb (vo + k) (.int .i64 c) ∧ CellIs W' g (k * 2 + 1) (.int .i64 v) ∧ PtsIn W' (some ⟨g, 0, none⟩) (P'.take k ++ P.drop k)) ⟨by exact belowAny, by exact blkAny2, by exact blkAny2, by exact blkAny2, by exact cb, by exact cq, by exact hpi⟩ ?_
          clear b1 b2 b3 b4 b5 b6 hW
          rintro W1 ⟨hW, b1, b2, b3, b4, b5, b6⟩
          have z2 := hW.size
          have z3 := b1.lt
          have z4 := b2.lt
          have z5 := b3.lt
          refine wp_region_ndQ 9 225 [] (fun W' => Rex [] W1 W' ∧ Blk W' o9 #[.int .i64 K, .slice p' len2 cap', .int .i64 A, .int .i64 R, .int .i64 n, .int .i64 d, .slice q' m2 vc', .int .i64 E] 27 ∧ Blk W' g cur 58 ∧ Blk W' o ex 34 ∧ CellIs W' vb (vo + k) (.int .i64 c) ∧ CellIs W' g (k * 2 + 1) (.int .i64 v) ∧ PtsIn W' (some ⟨g, 0, none⟩) (P'.take k ++ P.drop k)) mixed (by kernel_rfl) rfl ⟨(Rex.refl _ _).drew, b1, b2, b3, b4.drew, b5.drew, b6.drew⟩ (fun w w' ⟨h0, h1, h2, h3, h4, h5, h6⟩ hr => ⟨h0.trans hr, h1.rex hr (by simp <;> omega), h2.rex hr (by simp <;> omega), h3.rex hr (by simp <;> omega), h4.rex hr (by simp <;> omega), h5.rex hr (by simp <;> omega), h6.rex hr (by simp <;> omega)⟩) rfl ?_
          iterate 9
            apply nd_det (hg := rfl) (hal := rfl)
            · intro a W' hC hE
              obtain ⟨_, k1, k2, k3, k4, k5, k6⟩ := hC
              have k1 := k1.cell
              have k4 := k4.cell
              first
                | (simp [Oper.looksAt, Op.operands, Call.operands, envOf, Det] at hE; simp [go_sem, Act.eval, IntWalk.i64_left, hE, k1, k2, k3, k4, k5, k6, hkb, HwE.out, HE1.out]; try rfl)
                | (clear hE; simp [go_sem, Act.eval, IntWalk.i64_left, k1, k2, k3, k4, k5, k6, hkb, HwE.out, HE1.out]; try rfl)
          rintro W6 ⟨hR, d1, d2, d3, d4, d5, d6⟩
          simp only [ndFinR, Det, forall_eq]
          intros
          repeat (rename GDet _ _ _ _ => hgd; clear hgd)
          simp only [Act.put, List.setIfInBounds_toArray, List.set_cons_zero, List.set_cons_succ]
          refine wpList_nil ?_
          replace hW := hW.trans (hR.of_priv hW.size)
          clear hR
          try clear b1 b2 b3 b4 b5 b6
          have b1 := d1
          clear d1
          have b2 := d2
          clear d2
          have b3 := d3
          clear d3
          have b4 := d4
          clear d4
          have b5 := d5
          clear d5
          have b6 := d6
          clear d6
          have k1 := b1.cell
          have fg := b2.frozen
          have kq := b5.cell
          have hcm : -1099511627776 ≤ c.tmod (E + 1) ∧ c.tmod (E + 1) ≤ 1099511627776 := by
            have h1 := Int.tmod_lt_of_pos c (show 0 < E + 1 by omega)
            have h2 := Int.lt_tmod_of_pos c (show 0 < E + 1 by omega)
            omega
          obtain ⟨m, hm⟩ : ∃ m, m = c.tmod (E + 1) := ⟨_, rfl⟩
          rw [← hm] at hcm ⊢
          have hm' := Lib.hid hm
          clear hm
          by_cases hr1 : -2305843009213693952 ≤ v
          · by_cases hr2 : v ≤ 2305843009213693952
            · have Hadv := Lib.hid (show adjV byl E k v = v + m by rw [hadv.out, if_pos ⟨hr1, hr2⟩, hm'.out])
              go_wp2
              go_meet
              case rel => exact ⟨rfl, belowAny, blkAny2, blkAny2, _, b2.set _ _, by rw [← hset'.out, Hadv.out]; exact PtsIn.write b2 b6 hL'.out _⟩
            · have Hadv := Lib.hid (show adjV byl E k v = v by rw [hadv.out, if_neg (by omega)])
              go_wp2
              go_meet
              case rel => exact ⟨rfl, hW, b1, b3, cur, b2, by rw [← hset'.out, Hadv.out, ← (List.getElem?_eq_some_iff.1 hL'.out).2, List.set_getElem_self]; exact b6⟩
          · have Hadv := Lib.hid (show adjV byl E k v = v by rw [hadv.out, if_neg (by omega)])
            go_wp2
            go_meet
            case rel => exact ⟨rfl, hW, b1, b3, cur, b2, by rw [← hset'.out, Hadv.out, ← (List.getElem?_eq_some_iff.1 hL'.out).2, List.set_getElem_self]; exact b6⟩
        · have hadv : adjV byl E k v = v := by unfold adjV; rw [List.getElem?_eq_none (by omega)]
          go_wp2
          go_meet
          case rel => exact ⟨rfl, hW, b1, hbo, cur, hbg, by rw [← hset'.out, hadv, ← (List.getElem?_eq_some_iff.1 hL'.out).2, List.set_getElem_self]; exact hpi⟩
      case rest =>
        clear hW b1 hbo hbg hpi k1 fg q0 q1 hz hz1 hzo hzg
        obtain ⟨rfl, hW, b1, b2, cur', b3, c4⟩ := hcut
        obtain ⟨vv, hve⟩ : ∃ vv, vv = adjV byl E k v := ⟨_, rfl⟩
        have had2 := had.out
        rw [← hve] at had2
        have hvv : I64 vv := hPv'.out _ (List.mem_of_getElem? had2)
        have Hst := Lib.hid (show P'.take (k + 1) = P'.take k ++ [(t, vv)] by rw [List.take_add_one, had2]; rfl)
        have hL2 : (P'.take (k + 1) ++ P.drop (k + 1))[k]? = some (t, vv) := by
          have hpp := hPP.out
          rw [List.getElem?_append_left (by simp; omega), List.getElem?_take, if_pos (by omega)]
          exact had2
        obtain ⟨g', o', e', q0, q1⟩ := c4.at' k _ hL2
        cases e'
        simp only [Nat.zero_add] at q0 q1
        have cq : CellIs wc g (k * 2 + 1) (.int .i64 vv) := ⟨q1⟩
        have k1 := b1.cell
        have hz := hW.size
        have hz1 := b1.lt
        have hzo := b2.lt
        have hzg := b3.lt
        clear had2 hL2 hve had hL' hset'
        by_cases ht1 : a ≤ t
        · by_cases ht2 : t ≤ b
          · rcases hse : selL a b (P'.take k) with _ | ⟨y, Q'⟩
            · have hb0 : sb = false := by rw [hsb.out]; unfold someB; rw [hse]; rfl
              subst hb0
              have hf0 : ex = #[.int .i64 0, .int .i64 0, .int .i64 0, .int .i64 0, .int .u64 0] := by rw [hex'.out]; unfold foldA; rw [if_pos hse]
              subst hf0
              have hsel := Lib.hid (show partA (selL a b (P'.take k) ++ [vv]) = #[.int .i64 1, .int .i64 vv, .int .i64 vv, .int .i64 (hiW vv), .int .u64 (loW vv)] by rw [hse]; exact partA_one vv)
              clear hse
              have b4 := cq
              have b5 := c4
              have H_c51 := Lib.hid (fun W' (_ : Below w7.heap.size w7 W') => c5.out vv hvv W')
              go_upto_region 16 with (fail)
              refine wp_facts (fun W' => Below w7.heap.size w7 W' ∧ Blk W' o9 #[.int .i64 K, .slice p' len2 cap', .int .i64 A, .int .i64 R, .int .i64 n, .int .i64 d, .slice q' m2 vc', .int .i64 E] 27 ∧ Blk W' o #[.int .i64 0, .int .i64 0, .int .i64 0, .int .i64 0, .int .u64 0] 34 ∧ Blk W' g cur' 58 ∧ CellIs W' g (k * 2 + 1) (.int .i64 vv) ∧ PtsIn W' (some ⟨g, 0, none⟩) (P'.take (k + 1) ++ P.drop (k + 1))) ⟨by exact belowAny, by exact blkAny2, by exact blkAny2, by exact blkAny2, by exact cq, by exact ptsAny⟩ ?_
              clear b1 b2 b3 b4 b5 hW
              rintro W1 ⟨hW, b1, b2, b3, b4, b5⟩
              have z2 := hW.size
              have z3 := b1.lt
              have z4 := b2.lt
              have z5 := b3.lt
              have c51 := H_c51.out
              refine wp_region_nd 18 225 [] (fun W' => Rex [] W1 W' ∧ Blk W' o9 #[.int .i64 K, .slice p' len2 cap', .int .i64 A, .int .i64 R, .int .i64 n, .int .i64 d, .slice q' m2 vc', .int .i64 E] 27 ∧ Blk W' o #[.int .i64 0, .int .i64 0, .int .i64 0, .int .i64 0, .int .u64 0] 34 ∧ Blk W' g cur' 58 ∧ CellIs W' g (k * 2 + 1) (.int .i64 vv) ∧ PtsIn W' (some ⟨g, 0, none⟩) (P'.take (k + 1) ++ P.drop (k + 1))) mixed (by kernel_rfl) rfl ⟨(Rex.refl _ _).drew, b1, b2, b3, b4.drew, b5.drew⟩ (fun w w' ⟨h0, h1, h2, h3, h4, h5⟩ hr => ⟨h0.trans hr, h1.rex hr (by simp <;> omega), h2.rex hr (by simp <;> omega), h3.rex hr (by simp <;> omega), h4.rex hr (by simp <;> omega), h5.rex hr (by simp <;> omega)⟩) (fun c a d v w h => by cases d <;> exact h) ?_
              iterate 15
                apply nd_det (hg := rfl) (hal := rfl)
                · intro a W' hC hE
                  obtain ⟨_, k1, k2, k3, k4, k5⟩ := hC
                  have k4 := k4.cell
                  first
                    | (simp [Oper.looksAt, Op.operands, Call.operands, envOf, Det] at hE; simp [go_sem, Act.eval, IntWalk.i64_left, hE, k1, k2, k3, k4, k5, hlt]; try rfl)
                    | (clear hE; simp [go_sem, Act.eval, IntWalk.i64_left, k1, k2, k3, k4, k5, hlt]; try rfl)
              refine nd_callv2 rfl rfl (fun W' hC => c51 W' (hW.trans (hC.1.of_priv hW.size))) (fun a W' hC hE => ?_) ?_
              · obtain ⟨_, k1, k2, k3, k4, k5⟩ := hC
                have k4 := k4.cell
                first
                  | (simp [Oper.looksAt, Op.operands, Call.operands, envOf, Det] at hE; simp [go_sem, Act.eval, IntWalk.i64_left, hE, k1, k2, k3, k4, k5, hlt]; try rfl)
                  | (clear hE; simp [go_sem, Act.eval, IntWalk.i64_left, k1, k2, k3, k4, k5, hlt]; try rfl)
              iterate 1
                apply nd_det (hg := rfl) (hal := rfl)
                · intro a W' hC hE
                  obtain ⟨_, k1, k2, k3, k4, k5⟩ := hC
                  have k4 := k4.cell
                  first
                    | (simp [Oper.looksAt, Op.operands, Call.operands, envOf, Det] at hE; simp [go_sem, Act.eval, IntWalk.i64_left, hE, k1, k2, k3, k4, k5, hlt]; try rfl)
                    | (clear hE; simp [go_sem, Act.eval, IntWalk.i64_left, k1, k2, k3, k4, k5, hlt]; try rfl)
              apply nd_alloc W1.heap.size #[.int .i64 0, .int .i64 0, .int .i64 0, .int .i64 0, .int .u64 0] 34 rfl rfl
              · exact fun W' hC => hC.1.size
              · simp [others] <;> omega
              · intro w; kernel_rfl
              rintro W6 ⟨hR, d1, d2, d3, d4, d5⟩
              simp only [ndFinR, Det, forall_eq]
              intros
              repeat (rename GDet _ _ _ _ => hgd; clear hgd)
              simp only [Act.put, List.setIfInBounds_toArray, List.set_cons_zero, List.set_cons_succ, List.drop_succ_cons, List.drop_zero]
              replace hW := hW.trans (hR.of_priv hW.size)
              clear hR
              clear c51
              try clear b1 b2 b3 b4 b5
              have b1 := d1
              clear d1
              have b2 := d2
              clear d2
              have b3 := d3
              clear d3
              have b4 := d4
              clear d4
              have b5 := d5
              clear d5
              obtain ⟨o6, rfl, hg_o6, b6⟩ := ‹NewVar _ _ _ _ _›
              have z7 := b6.lt
              have e5 := b5
              have e6 := b6
              clear b4 b5 b6
              have b4 := e5
              have b5 := e6
              clear e5 e6
              have zz := hW.size
              have zg := b3.lt
              have zo := b2.lt
              have k1 := b1.cell
              have f1 := b1.frozen
              have k2 := b2.cell
              have f2 := b2.frozen
              have k3 := b3.cell
              have f3 := b3.frozen
              have k5 := b5.cell
              have f5 := b5.frozen
              go_wp2
              rw [show (k : Int) + 1 = ((k + 1 : Nat) : Int) by omega]
              refine ⟨?_, by simp [intAt]; omega⟩
              unfold boundRel
              exact ⟨belowAny, blkAny2, k + 1, true, cur', frame_ex rfl, by omega, (by rw [Hst.out]; exact (someB_in ht1 ht2).symm), by rw [Hst.out, foldA_in ht1 ht2, hsel.out]; exact blkAny2, blkAny2, ptsAny, ox1, ox2, ox3⟩
            · have hb0 : sb = true := by rw [hsb.out]; unfold someB; rw [hse]; rfl
              subst hb0
              obtain ⟨Q, hQe⟩ : ∃ Q, Q = selL a b (P'.take k) := ⟨_, rfl⟩
              have hQn : Q ≠ [] := by rw [hQe, hse]; simp
              have hf0 : ex = #[.int .i64 ((Q).length : Int), .int .i64 (minL (Q)), .int .i64 (maxL (Q)), .int .i64 (hiW (lsum (Q))), .int .u64 (loW (lsum (Q)))] := by rw [hex'.out]; unfold foldA; rw [if_neg (by rw [hse]; simp), ← hQe]; rfl
              subst hf0
              have hsel := Lib.hid (show partA (selL a b (P'.take k) ++ [vv]) = #[.int .i64 ((Q.length : Int) + 1), .int .i64 (minL (Q ++ [vv])), .int .i64 (maxL (Q ++ [vv])), .int .i64 (hiW (lsum (Q ++ [vv]))), .int .u64 (loW (lsum (Q ++ [vv])))] by rw [← hQe]; unfold partA; rw [List.length_append]; rfl)
              have hQ := Lib.hid (show ∃ k, Q = selL a b (P'.take k) from ⟨k, hQe⟩)
              clear hse hQe
              have b4 := cq
              have b5 := c4
              have H_c51 := Lib.hid (fun W' (_ : Below w7.heap.size w7 W') => c5.out vv hvv W')
              go_upto_region 16 with (fail)
              refine wp_facts (fun W' => Below w7.heap.size w7 W' ∧ Blk W' o9 #[.int .i64 K, .slice p' len2 cap', .int .i64 A, .int .i64 R, .int .i64 n, .int .i64 d, .slice q' m2 vc', .int .i64 E] 27 ∧ Blk W' o #[.int .i64 ((Q).length : Int), .int .i64 (minL (Q)), .int .i64 (maxL (Q)), .int .i64 (hiW (lsum (Q))), .int .u64 (loW (lsum (Q)))] 34 ∧ Blk W' g cur' 58 ∧ CellIs W' g (k * 2 + 1) (.int .i64 vv) ∧ PtsIn W' (some ⟨g, 0, none⟩) (P'.take (k + 1) ++ P.drop (k + 1))) ⟨by exact belowAny, by exact blkAny2, by exact blkAny2, by exact blkAny2, by exact cq, by exact ptsAny⟩ ?_
              clear b1 b2 b3 b4 b5 hW
              rintro W1 ⟨hW, b1, b2, b3, b4, b5⟩
              have z2 := hW.size
              have z3 := b1.lt
              have z4 := b2.lt
              have z5 := b3.lt
              have c51 := H_c51.out
              refine wp_region_nd 18 225 [] (fun W' => Rex [] W1 W' ∧ Blk W' o9 #[.int .i64 K, .slice p' len2 cap', .int .i64 A, .int .i64 R, .int .i64 n, .int .i64 d, .slice q' m2 vc', .int .i64 E] 27 ∧ Blk W' o #[.int .i64 ((Q).length : Int), .int .i64 (minL (Q)), .int .i64 (maxL (Q)), .int .i64 (hiW (lsum (Q))), .int .u64 (loW (lsum (Q)))] 34 ∧ Blk W' g cur' 58 ∧ CellIs W' g (k * 2 + 1) (.int .i64 vv) ∧ PtsIn W' (some ⟨g, 0, none⟩) (P'.take (k + 1) ++ P.drop (k + 1))) mixed (by kernel_rfl) rfl ⟨(Rex.refl _ _).drew, b1, b2, b3, b4.drew, b5.drew⟩ (fun w w' ⟨h0, h1, h2, h3, h4, h5⟩ hr => ⟨h0.trans hr, h1.rex hr (by simp <;> omega), h2.rex hr (by simp <;> omega), h3.rex hr (by simp <;> omega), h4.rex hr (by simp <;> omega), h5.rex hr (by simp <;> omega)⟩) (fun c a d v w h => by cases d <;> exact h) ?_
              iterate 15
                apply nd_det (hg := rfl) (hal := rfl)
                · intro a W' hC hE
                  obtain ⟨_, k1, k2, k3, k4, k5⟩ := hC
                  have k4 := k4.cell
                  first
                    | (simp [Oper.looksAt, Op.operands, Call.operands, envOf, Det] at hE; simp [go_sem, Act.eval, IntWalk.i64_left, hE, k1, k2, k3, k4, k5, hlt]; try rfl)
                    | (clear hE; simp [go_sem, Act.eval, IntWalk.i64_left, k1, k2, k3, k4, k5, hlt]; try rfl)
              refine nd_callv2 rfl rfl (fun W' hC => c51 W' (hW.trans (hC.1.of_priv hW.size))) (fun a W' hC hE => ?_) ?_
              · obtain ⟨_, k1, k2, k3, k4, k5⟩ := hC
                have k4 := k4.cell
                first
                  | (simp [Oper.looksAt, Op.operands, Call.operands, envOf, Det] at hE; simp [go_sem, Act.eval, IntWalk.i64_left, hE, k1, k2, k3, k4, k5, hlt]; try rfl)
                  | (clear hE; simp [go_sem, Act.eval, IntWalk.i64_left, k1, k2, k3, k4, k5, hlt]; try rfl)
              iterate 1
                apply nd_det (hg := rfl) (hal := rfl)
                · intro a W' hC hE
                  obtain ⟨_, k1, k2, k3, k4, k5⟩ := hC
                  have k4 := k4.cell
                  first
                    | (simp [Oper.looksAt, Op.operands, Call.operands, envOf, Det] at hE; simp [go_sem, Act.eval, IntWalk.i64_left, hE, k1, k2, k3, k4, k5, hlt]; try rfl)
                    | (clear hE; simp [go_sem, Act.eval, IntWalk.i64_left, k1, k2, k3, k4, k5, hlt]; try rfl)
              apply nd_alloc W1.heap.size #[.int .i64 0, .int .i64 0, .int .i64 0, .int .i64 0, .int .u64 0] 34 rfl rfl
              · exact fun W' hC => hC.1.size
              · simp [others] <;> omega
              · intro w; kernel_rfl
              rintro W6 ⟨hR, d1, d2, d3, d4, d5⟩
              simp only [ndFinR, Det, forall_eq]
              intros
              repeat (rename GDet _ _ _ _ => hgd; clear hgd)
              simp only [Act.put, List.setIfInBounds_toArray, List.set_cons_zero, List.set_cons_succ, List.drop_succ_cons, List.drop_zero]
              replace hW := hW.trans (hR.of_priv hW.size)
              clear hR
              clear c51
              try clear b1 b2 b3 b4 b5
              have b1 := d1
              clear d1
              have b2 := d2
              clear d2
              have b3 := d3
              clear d3
              have b4 := d4
              clear d4
              have b5 := d5
              clear d5
              obtain ⟨o6, rfl, hg_o6, b6⟩ := ‹NewVar _ _ _ _ _›
              have z7 := b6.lt
              have e5 := b5
              have e6 := b6
              clear b4 b5 b6
              have b4 := e5
              have b5 := e6
              clear e5 e6
              have zz := hW.size
              have zg := b3.lt
              have zo := b2.lt
              have k1 := b1.cell
              have f1 := b1.frozen
              have k2 := b2.cell
              have f2 := b2.frozen
              have k3 := b3.cell
              have f3 := b3.frozen
              have k5 := b5.cell
              have f5 := b5.frozen
              have H_c61 := Lib.hid (c6.out Q vv hQ.out hQn hvv)
              have c61 := H_c61.out
              go_wp2_with fail
              refine (c61 _).mono ?_
              rintro e w8 ⟨rfl, hb8⟩
              clear c61
              have z9 := hb8.size
              try simp at z9
              clear k1 f1 k2 f2 k3 f3 k5 f5
              have b1 : Blk w8 o9 #[.int .i64 K, .slice p' len2 cap', .int .i64 A, .int .i64 R, .int .i64 n, .int .i64 d, .slice q' m2 vc', .int .i64 E] 27 := by exact blkAny2
              have b2 : Blk w8 o #[.int .i64 ((Q).length : Int), .int .i64 (minL (Q)), .int .i64 (maxL (Q)), .int .i64 (hiW (lsum (Q))), .int .u64 (loW (lsum (Q)))] 34 := by exact blkAny2
              have b3 : Blk w8 g cur' 58 := by exact blkAny2
              have b4 : PtsIn w8 (some ⟨g, 0, none⟩) (P'.take (k + 1) ++ P.drop (k + 1)) := by exact ptsAny
              have b5 : Blk w8 o6 #[.int .i64 1, .int .i64 vv, .int .i64 vv, .int .i64 (hiW vv), .int .u64 (loW vv)] 34 := by exact blkAny2
              have hW : Below w7.heap.size w7 w8 := by exact belowAny
              have z10 := b1.lt
              have z11 := b2.lt
              have z12 := b3.lt
              have z13 := b5.lt
              clear hb8
              have k1 := b1.cell
              have f1 := b1.frozen
              have k2 := b2.cell
              have f2 := b2.frozen
              have k3 := b3.cell
              have f3 := b3.frozen
              have k5 := b5.cell
              have f5 := b5.frozen
              go_wp2
              rw [show (k : Int) + 1 = ((k + 1 : Nat) : Int) by omega]
              refine ⟨?_, by simp [intAt]; omega⟩
              unfold boundRel
              exact ⟨belowAny, blkAny2, k + 1, true, cur', frame_ex rfl, by omega, (by rw [Hst.out]; exact (someB_in ht1 ht2).symm), by rw [Hst.out, foldA_in ht1 ht2, hsel.out]; exact blkAny2, blkAny2, ptsAny, ox1, ox2, ox3⟩
          · have hout := Lib.hid (show (t, vv).1 < a ∨ b < (t, vv).1 from .inr (by simp; omega))
            go_wp2
            rw [show (k : Int) + 1 = ((k + 1 : Nat) : Int) by omega]
            refine ⟨?_, by simp [intAt]; omega⟩
            unfold boundRel
            exact ⟨belowAny, blkAny2, k + 1, sb, cur', frame_ex rfl, by omega, hsb.out.trans (by rw [Hst.out]; exact (someB_out hout.out).symm), by rw [Hst.out, foldA_out hout.out, ← hex'.out]; exact blkAny2, blkAny2, ptsAny, ox1, ox2, ox3⟩
        · have hout := Lib.hid (show (t, vv).1 < a ∨ b < (t, vv).1 from .inl (by simp; omega))
          go_wp2
          rw [show (k : Int) + 1 = ((k + 1 : Nat) : Int) by omega]
          refine ⟨?_, by simp [intAt]; omega⟩
          unfold boundRel
          exact ⟨belowAny, blkAny2, k + 1, sb, cur', frame_ex rfl, by omega, hsb.out.trans (by rw [Hst.out]; exact (someB_out hout.out).symm), by rw [Hst.out, foldA_out hout.out, ← hex'.out]; exact blkAny2, blkAny2, ptsAny, ox1, ox2, ox3⟩
    · have e : k = P.length := by omega
      subst e
      have et : P'.take P.length = P' := List.take_of_length_le (by have := hPP.out; omega)
      have hsb' := hsb.out
      rw [et] at hbo hsb' hpi
      rw [List.drop_length, List.append_nil] at hpi
      rcases hfin.out with ⟨hse, rfl⟩ | ⟨hne, rfl, hfo, gb1, gb2, gb3, gb4, gb5, gb6, gb7, gb8⟩
      · have hb0 : sb = false := by rw [hsb']; unfold someB; rw [hse]; rfl
        have hf0 : foldA a b P' = #[.int .i64 0, .int .i64 0, .int .i64 0, .int .i64 0, .int .u64 0] := by unfold foldA; rw [if_pos hse]
        rw [hf0] at hbo
        subst hb0
        clear hse hf0 hsb hsb' et
        have b2 := hbo
        have b3 := hS7.out.below hW
        have b4 := hpi
        have H_c71 := Lib.hid (fun W' (hs : SegIn W' s' p' q') (hp : PtsIn W' (some ⟨g, 0, none⟩) P') => c7.out W' p' q' cap' vc' g cp hs hvc7.out hp)
        have H_c81 := Lib.hid (fun W' (hs : SegIn W' s' p' q') => c8.out W' p' q' cap' vc' hs hvc7.out)
        have k1 := b1.cell
        have f1 := b1.frozen
        have k2 := b2.cell
        have f2 := b2.frozen
        have c71 := H_c71.out
        go_wp2_with fail
        refine (c71 _ (segAny) (ptsAny)).mono ?_
        rintro e w1 ⟨rfl, hb1⟩
        clear c71
        have z2 := hb1.size
        try simp at z2
        clear k1 f1 k2 f2
        have b1 : Blk w1 o9 #[.int .i64 K, .slice p' len2 cap', .int .i64 A, .int .i64 R, .int .i64 n, .int .i64 d, .slice q' m2 vc', .int .i64 E] 27 := by exact blkAny2
        have b2 : Blk w1 o #[.int .i64 0, .int .i64 0, .int .i64 0, .int .i64 0, .int .u64 0] 34 := by exact blkAny2
        have b3 : SegIn w1 s' p' q' := by exact segAny
        have b4 : PtsIn w1 (some ⟨g, 0, none⟩) P' := by exact ptsAny
        have hW : Below w7.heap.size w7 w1 := by exact belowAny
        have z3 := b1.lt
        have z4 := b2.lt
        clear hb1
        have k1 := b1.cell
        have f1 := b1.frozen
        have k2 := b2.cell
        have f2 := b2.frozen
        have c81 := H_c81.out
        go_wp2_with fail
        refine (c81 _ (segAny)).mono ?_
        rintro e w5 ⟨rfl, hb5⟩
        clear c81
        have z6 := hb5.size
        try simp at z6
        clear k1 f1 k2 f2
        have b1 : Blk w5 o9 #[.int .i64 K, .slice p' len2 cap', .int .i64 A, .int .i64 R, .int .i64 n, .int .i64 d, .slice q' m2 vc', .int .i64 E] 27 := by exact blkAny2
        have b2 : Blk w5 o #[.int .i64 0, .int .i64 0, .int .i64 0, .int .i64 0, .int .u64 0] 34 := by exact blkAny2
        have b3 : SegIn w5 s' p' q' := by exact segAny
        have b4 : PtsIn w5 (some ⟨g, 0, none⟩) P' := by exact ptsAny
        have hW : Below w7.heap.size w7 w5 := by exact belowAny
        have z7 := b1.lt
        have z8 := b2.lt
        clear hb5
        have k1 := b1.cell
        have f1 := b1.frozen
        have k2 := b2.cell
        have f2 := b2.frozen
        go_wp2
        have y_1 := b1.lt
        have y_2 := b2.lt
        refine bodyPost_ret (v := .bool true) (by simp [results, Tryz.results9, go_sem, k1, f1, k2, f2, y_1, y_2]) rfl ⟨rfl, (hW7.out.trans ((show Below w7.heap.size w7 _ from belowAny).mono hW7.out.size))⟩
      · have hb0 : sb = true := by rw [hsb']; unfold someB; cases h : selL a b P' with | nil => exact absurd h hne | cons y l => rfl
        rw [hfo] at hbo
        subst hb0
        clear hfo hsb hsb' et
        have b2 := hbo
        have b3 := hS7.out.below hW
        have b4 := hpi
        have H_c71 := Lib.hid (fun W' (hs : SegIn W' s' p' q') (hp : PtsIn W' (some ⟨g, 0, none⟩) P') => c7.out W' p' q' cap' vc' g cp hs hvc7.out hp)
        have H_c81 := Lib.hid (fun W' (hs : SegIn W' s' p' q') => c8.out W' p' q' cap' vc' hs hvc7.out)
        have k1 := b1.cell
        have f1 := b1.frozen
        have k2 := b2.cell
        have f2 := b2.frozen
        have c71 := H_c71.out
        go_wp2_with fail
        refine (c71 _ (segAny) (ptsAny)).mono ?_
        rintro e w1 ⟨rfl, hb1⟩
        clear c71
        have z2 := hb1.size
        try simp at z2
        clear k1 f1 k2 f2
        have b1 : Blk w1 o9 #[.int .i64 K, .slice p' len2 cap', .int .i64 A, .int .i64 R, .int .i64 n, .int .i64 d, .slice q' m2 vc', .int .i64 E] 27 := by exact blkAny2
        have b2 : Blk w1 o #[.int .i64 x0, .int .i64 y1, .int .i64 y2, .int .i64 y3, .int .u64 y4] 34 := by exact blkAny2
        have b3 : SegIn w1 s' p' q' := by exact segAny
        have b4 : PtsIn w1 (some ⟨g, 0, none⟩) P' := by exact ptsAny
        have hW : Below w7.heap.size w7 w1 := by exact belowAny
        have z3 := b1.lt
        have z4 := b2.lt
        clear hb1
        have k1 := b1.cell
        have f1 := b1.frozen
        have k2 := b2.cell
        have f2 := b2.frozen
        have c81 := H_c81.out
        go_wp2_with fail
        refine (c81 _ (segAny)).mono ?_
        rintro e w5 ⟨rfl, hb5⟩
        clear c81
        have z6 := hb5.size
        try simp at z6
        clear k1 f1 k2 f2
        have b1 : Blk w5 o9 #[.int .i64 K, .slice p' len2 cap', .int .i64 A, .int .i64 R, .int .i64 n, .int .i64 d, .slice q' m2 vc', .int .i64 E] 27 := by exact blkAny2
        have b2 : Blk w5 o #[.int .i64 x0, .int .i64 y1, .int .i64 y2, .int .i64 y3, .int .u64 y4] 34 := by exact blkAny2
        have b3 : SegIn w5 s' p' q' := by exact segAny
        have b4 : PtsIn w5 (some ⟨g, 0, none⟩) P' := by exact ptsAny
        have hW : Below w7.heap.size w7 w5 := by exact belowAny
        have z7 := b1.lt
        have z8 := b2.lt
        clear hb5
        have k1 := b1.cell
        have f1 := b1.frozen
        have k2 := b2.cell
        have f2 := b2.frozen
        have H_c91 := Lib.hid (c9.out hne)
        have H_c101 := Lib.hid (c10.out hne)
        have H_c111 := Lib.hid (c11.out hne)
        have H_c121 := Lib.hid (c12.out hne)
        have H_c131 := Lib.hid (c13.out hne)
        clear hne
        have c91 := H_c91.out
        go_wp2_with fail
        refine (c91 _).mono ?_
        rintro e w9 ⟨rfl, hb9⟩
        clear c91
        have z10 := hb9.size
        try simp at z10
        clear k1 f1 k2 f2
        have b1 : Blk w9 o9 #[.int .i64 K, .slice p' len2 cap', .int .i64 A, .int .i64 R, .int .i64 n, .int .i64 d, .slice q' m2 vc', .int .i64 E] 27 := by exact blkAny2
        have b2 : Blk w9 o #[.int .i64 x0, .int .i64 y1, .int .i64 y2, .int .i64 y3, .int .u64 y4] 34 := by exact blkAny2
        have b3 : SegIn w9 s' p' q' := by exact segAny
        have b4 : PtsIn w9 (some ⟨g, 0, none⟩) P' := by exact ptsAny
        have b5 : Blk w9 w5.heap.size #[.int .i64 x0, .int .i64 x1, .int .i64 x2, .int .i64 x3, .int .u64 x4] 34 := by exact blkAny2
        have hW : Below w7.heap.size w7 w9 := by exact belowAny
        have z11 := b1.lt
        have z12 := b2.lt
        have z13 := b5.lt
        clear hb9
        have k1 := b1.cell
        have f1 := b1.frozen
        have k2 := b2.cell
        have f2 := b2.frozen
        have k5 := b5.cell
        have f5 := b5.frozen
        have c101 := H_c101.out
        go_wp2_with fail
        refine (c101 _).mono ?_
        rintro e w14 ⟨rfl, hb14⟩
        clear c101
        have z15 := hb14.size
        try simp at z15
        clear k1 f1 k2 f2 k5 f5
        have b1 : Blk w14 o9 #[.int .i64 K, .slice p' len2 cap', .int .i64 A, .int .i64 R, .int .i64 n, .int .i64 d, .slice q' m2 vc', .int .i64 E] 27 := by exact blkAny2
        have b2 : Blk w14 o #[.int .i64 x0, .int .i64 y1, .int .i64 y2, .int .i64 y3, .int .u64 y4] 34 := by exact blkAny2
        have b3 : SegIn w14 s' p' q' := by exact segAny
        have b4 : PtsIn w14 (some ⟨g, 0, none⟩) P' := by exact ptsAny
        have b5 : Blk w14 w5.heap.size #[.int .i64 x0, .int .i64 x1, .int .i64 x2, .int .i64 x3, .int .u64 x4] 34 := by exact blkAny2
        have b6 : Blk w14 w9.heap.size #[.int .i64 rh, .int .u64 rl] 32 := by exact blkAny2
        have hW : Below w7.heap.size w7 w14 := by exact belowAny
        have z16 := b1.lt
        have z17 := b2.lt
        have z18 := b5.lt
        have z19 := b6.lt
        clear hb14
        have k1 := b1.cell
        have f1 := b1.frozen
        have k2 := b2.cell
        have f2 := b2.frozen
        have k5 := b5.cell
        have f5 := b5.frozen
        have k6 := b6.cell
        have f6 := b6.frozen
        have c111 := H_c111.out
        go_wp2_with fail
        refine (c111 _).mono ?_
        rintro e w20 ⟨rfl, hb20⟩
        clear c111
        have z21 := hb20.size
        try simp at z21
        clear k1 f1 k2 f2 k5 f5 k6 f6
        have b1 : Blk w20 o9 #[.int .i64 K, .slice p' len2 cap', .int .i64 A, .int .i64 R, .int .i64 n, .int .i64 d, .slice q' m2 vc', .int .i64 E] 27 := by exact blkAny2
        have b2 : Blk w20 o #[.int .i64 x0, .int .i64 y1, .int .i64 y2, .int .i64 y3, .int .u64 y4] 34 := by exact blkAny2
        have b3 : SegIn w20 s' p' q' := by exact segAny
        have b4 : PtsIn w20 (some ⟨g, 0, none⟩) P' := by exact ptsAny
        have b5 : Blk w20 w5.heap.size #[.int .i64 x0, .int .i64 x1, .int .i64 x2, .int .i64 x3, .int .u64 x4] 34 := by exact blkAny2
        have b6 : Blk w20 w9.heap.size #[.int .i64 rh, .int .u64 rl] 32 := by exact blkAny2
        have b7 : Blk w20 w14.heap.size #[.int .i64 lh, .int .u64 ll] 32 := by exact blkAny2
        have hW : Below w7.heap.size w7 w20 := by exact belowAny
        have z22 := b1.lt
        have z23 := b2.lt
        have z24 := b5.lt
        have z25 := b6.lt
        have z26 := b7.lt
        clear hb20
        have k1 := b1.cell
        have f1 := b1.frozen
        have k2 := b2.cell
        have f2 := b2.frozen
        have k5 := b5.cell
        have f5 := b5.frozen
        have k6 := b6.cell
        have f6 := b6.frozen
        have k7 := b7.cell
        have f7 := b7.frozen
        have c121 := H_c121.out
        go_wp2_with fail
        refine (c121 _).mono ?_
        rintro e w27 ⟨rfl, hb27⟩
        clear c121
        have z28 := hb27.size
        try simp at z28
        clear k1 f1 k2 f2 k5 f5 k6 f6 k7 f7
        have b1 : Blk w27 o9 #[.int .i64 K, .slice p' len2 cap', .int .i64 A, .int .i64 R, .int .i64 n, .int .i64 d, .slice q' m2 vc', .int .i64 E] 27 := by exact blkAny2
        have b2 : Blk w27 o #[.int .i64 x0, .int .i64 y1, .int .i64 y2, .int .i64 y3, .int .u64 y4] 34 := by exact blkAny2
        have b3 : SegIn w27 s' p' q' := by exact segAny
        have b4 : PtsIn w27 (some ⟨g, 0, none⟩) P' := by exact ptsAny
        have b5 : Blk w27 w5.heap.size #[.int .i64 x0, .int .i64 x1, .int .i64 x2, .int .i64 x3, .int .u64 x4] 34 := by exact blkAny2
        have b6 : Blk w27 w9.heap.size #[.int .i64 rh, .int .u64 rl] 32 := by exact blkAny2
        have b7 : Blk w27 w14.heap.size #[.int .i64 lh, .int .u64 ll] 32 := by exact blkAny2
        have b8 : Blk w27 w20.heap.size #[.int .i64 hh, .int .u64 hl] 32 := by exact blkAny2
        have hW : Below w7.heap.size w7 w27 := by exact belowAny
        have z29 := b1.lt
        have z30 := b2.lt
        have z31 := b5.lt
        have z32 := b6.lt
        have z33 := b7.lt
        have z34 := b8.lt
        clear hb27
        have k1 := b1.cell
        have f1 := b1.frozen
        have k2 := b2.cell
        have f2 := b2.frozen
        have k5 := b5.cell
        have f5 := b5.frozen
        have k6 := b6.cell
        have f6 := b6.frozen
        have k7 := b7.cell
        have f7 := b7.frozen
        have k8 := b8.cell
        have f8 := b8.frozen
        have c131 := H_c131.out
        go_wp2_with fail
        refine (c131 _).mono ?_
        rintro e w35 ⟨rfl, hb35⟩
        clear c131
        have z36 := hb35.size
        try simp at z36
        clear k1 f1 k2 f2 k5 f5 k6 f6 k7 f7 k8 f8
        have b1 : Blk w35 o9 #[.int .i64 K, .slice p' len2 cap', .int .i64 A, .int .i64 R, .int .i64 n, .int .i64 d, .slice q' m2 vc', .int .i64 E] 27 := by exact blkAny2
        have b2 : Blk w35 o #[.int .i64 x0, .int .i64 y1, .int .i64 y2, .int .i64 y3, .int .u64 y4] 34 := by exact blkAny2
        have b3 : SegIn w35 s' p' q' := by exact segAny
        have b4 : PtsIn w35 (some ⟨g, 0, none⟩) P' := by exact ptsAny
        have b5 : Blk w35 w5.heap.size #[.int .i64 x0, .int .i64 x1, .int .i64 x2, .int .i64 x3, .int .u64 x4] 34 := by exact blkAny2
        have b6 : Blk w35 w9.heap.size #[.int .i64 rh, .int .u64 rl] 32 := by exact blkAny2
        have b7 : Blk w35 w14.heap.size #[.int .i64 lh, .int .u64 ll] 32 := by exact blkAny2
        have b8 : Blk w35 w20.heap.size #[.int .i64 hh, .int .u64 hl] 32 := by exact blkAny2
        have hW : Below w7.heap.size w7 w35 := by exact belowAny
        have z37 := b1.lt
        have z38 := b2.lt
        have z39 := b5.lt
        have z40 := b6.lt
        have z41 := b7.lt
        have z42 := b8.lt
        clear hb35
        have k1 := b1.cell
        have f1 := b1.frozen
        have k2 := b2.cell
        have f2 := b2.frozen
        have k5 := b5.cell
        have f5 := b5.frozen
        have k6 := b6.cell
        have f6 := b6.frozen
        have k7 := b7.cell
        have f7 := b7.frozen
        have k8 := b8.cell
        have f8 := b8.frozen
        go_wp2
        have y_1 := b1.lt
        have y_2 := b2.lt
        have y_5 := b5.lt
        have y_6 := b6.lt
        have y_7 := b7.lt
        have y_8 := b8.lt
        refine bodyPost_ret (v := .bool true) (by simp [results, Tryz.results9, go_sem, k1, f1, k2, f2, k5, f5, k6, f6, k7, f7, k8, f8, y_1, y_2, y_5, y_6, y_7, y_8]) rfl ⟨rfl, (hW7.out.trans ((show Below w7.heap.size w7 _ from belowAny).mono hW7.out.size))⟩
end Go.Proofs.YtgblmlefmohgnaaGreat
namespace Go.Proofs.YtgblmlefmohgnaaGreat
open Go.RowKit

def NearL (E : Int) (l l' : List Int) : Prop := l.length = l'.length ∧ ∀ (k : Nat) (u v : Int), l[k]? = some u → l'[k]? = some v → u - E ≤ v ∧ v ≤ u + E
theorem NearL.tail {E u v : Int} {l l' : List Int} (h : NearL E (u :: l) (v :: l')) : NearL E l l' := ⟨by simpa using h.1, fun k a b ha hb => h.2 (k + 1) a b (by simpa using ha) (by simpa using hb)⟩
theorem NearL.cons {E u v : Int} {l l' : List Int} (h : NearL E l l') (h1 : u - E ≤ v) (h2 : v ≤ u + E) : NearL E (u :: l) (v :: l') := ⟨by simpa using h.1, fun k a b ha hb => by
  cases k with
  | zero => simp at ha hb; omega
  | succ k => exact h.2 k a b (by simpa using ha) (by simpa using hb)⟩
theorem near_sum {E : Int} : ∀ (l l' : List Int), NearL E l l' → lsum l - E * l.length ≤ lsum l' ∧ lsum l' ≤ lsum l + E * l.length
  | [], [], _ => by simp [lsum]
  | [], v :: l', h => by have := h.1; simp at this
  | u :: l, [], h => by have := h.1; simp at this
  | u :: l, v :: l', h => by
    have ih := near_sum l l' h.tail
    have h0 := h.2 0 u v rfl rfl
    have e : E * ((u :: l).length : Int) = E * l.length + E := by simp [Int.mul_add]
    rw [e]
    simp only [lsum]
    omega
theorem near_min {E : Int} {l l' : List Int} (h : NearL E l l') (hn : l ≠ []) : minL l - E ≤ minL l' ∧ minL l' ≤ minL l + E := by
  have hn' : l' ≠ [] := by rintro rfl; have := h.1; cases l <;> simp_all
  obtain ⟨m1, m2⟩ := minL_is hn
  obtain ⟨n1, n2⟩ := minL_is hn'
  obtain ⟨i, hi⟩ := List.getElem?_of_mem m1
  obtain ⟨j, hj⟩ := List.getElem?_of_mem n1
  have li := (List.getElem?_eq_some_iff.1 hi).1
  have lj := (List.getElem?_eq_some_iff.1 hj).1
  have hl := h.1
  have a := h.2 i _ _ hi (List.getElem?_eq_getElem (by omega))
  have b := h.2 j _ _ (List.getElem?_eq_getElem (by omega)) hj
  have c := n2 _ (List.getElem_mem (show i < l'.length by omega))
  have d := m2 _ (List.getElem_mem (show j < l.length by omega))
  omega
theorem near_max {E : Int} {l l' : List Int} (h : NearL E l l') (hn : l ≠ []) : maxL l - E ≤ maxL l' ∧ maxL l' ≤ maxL l + E := by
  have hn' : l' ≠ [] := by rintro rfl; have := h.1; cases l <;> simp_all
  obtain ⟨m1, m2⟩ := maxL_is hn
  obtain ⟨n1, n2⟩ := maxL_is hn'
  obtain ⟨i, hi⟩ := List.getElem?_of_mem m1
  obtain ⟨j, hj⟩ := List.getElem?_of_mem n1
  have li := (List.getElem?_eq_some_iff.1 hi).1
  have lj := (List.getElem?_eq_some_iff.1 hj).1
  have hl := h.1
  have a := h.2 i _ _ hi (List.getElem?_eq_getElem (by omega))
  have b := h.2 j _ _ (List.getElem?_eq_getElem (by omega)) hj
  have c := n2 _ (List.getElem_mem (show i < l'.length by omega))
  have d := m2 _ (List.getElem_mem (show j < l.length by omega))
  omega
theorem near_sel {E a b : Int} : ∀ (P P' : List (Int × Int)), P.length = P'.length → (∀ (k : Nat) (x y : Int × Int), P[k]? = some x → P'[k]? = some y → x.1 = y.1 ∧ x.2 - E ≤ y.2 ∧ y.2 ≤ x.2 + E) → NearL E (selL a b P) (selL a b P')
  | [], [], _, _ => ⟨rfl, fun k u v h => by simp [selL] at h⟩
  | [], _ :: _, h, _ => by simp at h
  | _ :: _, [], h, _ => by simp at h
  | x :: P, y :: P', hl, h => by
    have ih := near_sel (a := a) (b := b) P P' (by simpa using hl) (fun k u v hu hv => h (k + 1) u v (by simpa using hu) (by simpa using hv))
    obtain ⟨h1, h2, h3⟩ := h 0 x y rfl rfl
    have e : selB a b y = selB a b x := by unfold selB; rw [h1]
    unfold selL at ih ⊢
    rw [List.filter_cons, List.filter_cons, e]
    split
    · rw [List.map_cons, List.map_cons]
      exact ih.cons h2 h3
    · exact ih
theorem adjV_near {byl : List Int} {E : Int} (h0 : 0 ≤ E) (hE : E ≤ 1099511627776) (k : Nat) {v : Int} (hv : -2305844108725321728 ≤ v ∧ v ≤ 2305844108725321728) : (v - E ≤ adjV byl E k v ∧ adjV byl E k v ≤ v + E) ∧ -2305844108725321728 ≤ adjV byl E k v ∧ adjV byl E k v ≤ 2305844108725321728 := by
  unfold adjV
  split
  · omega
  · rename_i c _
    have h1 := Int.tmod_lt_of_pos c (show 0 < E + 1 by omega)
    have h2 := Int.lt_tmod_of_pos c (show 0 < E + 1 by omega)
    split <;> omega
def moved (byl : List Int) (E : Int) (P : List (Int × Int)) : List (Int × Int) := P.mapIdx fun k x => (x.1, adjV byl E k x.2)
theorem moved_at {byl : List Int} {E : Int} {P : List (Int × Int)} {k : Nat} {x : Int × Int} (h : P[k]? = some x) : (moved byl E P)[k]? = some (x.1, adjV byl E k x.2) := by
  unfold moved
  rw [List.getElem?_mapIdx, h]
  rfl
theorem length_moved (byl : List Int) (E : Int) (P : List (Int × Int)) : (moved byl E P).length = P.length := by simp [moved]
theorem mem_zip_at {α β : Type} {l : List α} {l' : List β} {z : α × β} (h : z ∈ l.zip l') : ∃ k : Nat, l[k]? = some z.1 ∧ l'[k]? = some z.2 := by
  obtain ⟨k, hk⟩ := List.getElem?_of_mem h
  rw [List.getElem?_zip_eq_some] at hk
  exact ⟨k, hk⟩
theorem farOf_le {E : Int} : ∀ (l : List ((Int × Int) × (Int × Int))) (f : Int), f ≤ E → (∀ z, z ∈ l → wrap64 (z.2.2 - z.1.2) ≤ E ∧ wrap64 (z.1.2 - z.2.2) ≤ E) → l.foldl farStep f ≤ E
  | [], f, h, _ => h
  | z :: l, f, h, hz => by
    obtain ⟨h1, h2⟩ := hz z (by simp)
    refine farOf_le l _ ?_ fun y hy => hz y (by simp [hy])
    unfold farStep
    have a := mx_spec (mx f (wrap64 (z.2.2 - z.1.2))) (wrap64 (z.1.2 - z.2.2))
    have b := mx_spec f (wrap64 (z.2.2 - z.1.2))
    omega
theorem segB_err {s : SegT} (h : segB s = true) : 0 ≤ s.E ∧ s.E ≤ 1099511627776 := by
  unfold segB at h
  simp only [Bool.and_eq_true, decide_eq_true_eq] at h
  exact h.2.1
theorem pts_bd {s : SegT} (hs : segB s = true) {x : Int × Int} (hx : x ∈ ptsL s) : -2305844108725321728 ≤ x.2 ∧ x.2 ≤ 2305844108725321728 := vals_back hs (by rw [← map_pts hs]; exact List.mem_map_of_mem hx)
theorem moved_near {s : SegT} (hs : segB s = true) (byl : List Int) {k : Nat} {x y : Int × Int} (hx : (ptsL s)[k]? = some x) (hy : (moved byl s.E (ptsL s))[k]? = some y) : x.1 = y.1 ∧ (x.2 - s.E ≤ y.2 ∧ y.2 ≤ x.2 + s.E) ∧ -2305844108725321728 ≤ y.2 ∧ y.2 ≤ 2305844108725321728 := by
  rw [moved_at hx] at hy
  cases hy
  have hE := segB_err hs
  exact ⟨rfl, adjV_near hE.1 hE.2 k (pts_bd hs (List.mem_of_getElem? hx))⟩
theorem moved_back {s : SegT} (hs : segB s = true) (byl : List Int) {y : Int × Int} (hy : y ∈ moved byl s.E (ptsL s)) : -2305844108725321728 ≤ y.2 ∧ y.2 ≤ 2305844108725321728 := by
  obtain ⟨k, hk⟩ := List.getElem?_of_mem hy
  have hlt := (List.getElem?_eq_some_iff.1 hk).1
  rw [length_moved] at hlt
  exact (moved_near hs byl (List.getElem?_eq_getElem hlt) hk).2.2
/-- A segment holds its points, moved by at most Err. -/
theorem holds_moved {s : SegT} (hs : segB s = true) (byl : List Int) : holdsB s (moved byl s.E (ptsL s)) = true := by
  have hE := segB_err hs
  have key : ∀ z, z ∈ (ptsL s).zip (moved byl s.E (ptsL s)) → okZ z = true ∧ wrap64 (z.2.2 - z.1.2) ≤ s.E ∧ wrap64 (z.1.2 - z.2.2) ≤ s.E := by
    intro z hz
    obtain ⟨k, h1, h2⟩ := mem_zip_at hz
    obtain ⟨e1, e2, e3⟩ := moved_near hs byl h1 h2
    have e4 := pts_bd hs (List.mem_of_getElem? h1)
    refine ⟨?_, ?_, ?_⟩
    · unfold okZ isBack
      simp [e1, e3]
    · rw [wrap64_eq]; omega
    · rw [wrap64_eq]; omega
  have hall : ((ptsL s).zip (moved byl s.E (ptsL s))).all okZ = true := List.all_eq_true.2 fun z hz => (key z hz).1
  have hfar := farOf_le _ 0 hE.1 fun z hz => (key z hz).2
  unfold holdsB farV farR
  rw [hs, if_pos rfl, if_pos (length_moved _ _ _), if_pos hall]
  simp
  exact hfar
theorem cmpI_le {a b : Int} (h : a ≤ b) : cmpI a b ≤ 0 := by
  rcases Int.lt_or_eq_of_le h with h | h
  · rw [cmpI_lt h]; omega
  · rw [cmpI_eq h]; omega
end Go.Proofs.YtgblmlefmohgnaaGreat
namespace Go.Proofs.YtgblmlefmohgnaaGreat
open Go.RowKit
theorem Came.below {w w' : World} {s : SegT} {p q : Option Addr} {cap vc : Nat} (h : Came w s p q cap vc) (hb : Below w.heap.size w w') : Came w' s p q cap vc := ⟨h.runs.below hb, h.raw.below hb, h.nilR, h.nilV, h.capR, h.capV, h.maxR, h.maxV⟩
theorem partOut_no {s : SegT} (h : segB s = false) (a b : Int) : partOut s a b = (#[.int .i64 0, .int .i64 0, .int .i64 0, .int .i64 0, .int .u64 0], 210) := by unfold partOut; rw [h]; rfl
theorem partOut_five (s : SegT) (a b : Int) : ∃ c0 c1 c2 c3 c4 : Int, (partOut s a b).1 = #[.int .i64 c0, .int .i64 c1, .int .i64 c2, .int .i64 c3, .int .u64 c4] := by
  unfold partOut partA
  split
  · split
    · exact ⟨_, _, _, _, _, rfl⟩
    · exact ⟨_, _, _, _, _, rfl⟩
  · exact ⟨_, _, _, _, _, rfl⟩
theorem c_together {P Q R : List Int} (w : World) (hP : P.length ≤ 1000) (hQ : Q.length ≤ 1000) (h1 : (R.length : Int) = P.length + Q.length) (h2 : minL R = min (minL P) (minL Q)) (h3 : maxL R = max (maxL P) (maxL Q)) (h4 : lsum R = lsum P + lsum Q)
    (hp : W128 (lsum P)) (hq : W128 (lsum Q)) (hr : W128 (lsum P + lsum Q)) :
    Calls Tryz.prog 27 #[.agg (partA P), .agg (partA Q)] w fun e w' => e = .returned (.tuple #[.agg (partA R), .bool true]) ∧ Below w.heap.size w w' := by
  have := together_w P.length (minL P) (maxL P) Q.length (minL Q) (maxL Q) (lsum P) (lsum Q) w (by omega) (fun W _ => c_add_in _ _ W hp hq hr)
  rw [← h1, ← h2, ← h3, ← h4] at this
  exact this
theorem c_togetherOne (Q : List Int) (v : Int) (w : World) (hQ : Q ≠ []) (hn : Q.length ≤ 900) (hb : ∀ x, x ∈ Q → -2305844108725321728 * 2 ≤ x ∧ x ≤ 2305844108725321728 * 2) (hv : I64 v) :
    Calls Tryz.prog 27 #[.agg #[.int .i64 ((Q).length : Int), .int .i64 (minL (Q)), .int .i64 (maxL (Q)), .int .i64 (hiW (lsum (Q))), .int .u64 (loW (lsum (Q)))], .agg #[.int .i64 1, .int .i64 v, .int .i64 v, .int .i64 (hiW v), .int .u64 (loW v)]] w fun e w' => e = .returned (.tuple #[.agg #[.int .i64 ((Q.length : Int) + 1), .int .i64 (minL (Q ++ [v])), .int .i64 (maxL (Q ++ [v])), .int .i64 (hiW (lsum (Q ++ [v]))), .int .u64 (loW (lsum (Q ++ [v])))], .bool true]) ∧ Below w.heap.size w w' := by
  have h := lsum_bd (l := Q) (B := 4611688217450643456) (fun x hx => by have := hb x hx; omega)
  have := c_together (P := Q) (Q := [v]) (R := Q ++ [v]) w (by omega) (by simp) (by simp) (minL_append hQ (by simp)) (maxL_append hQ (by simp)) (lsum_append _ _)
    (by unfold W128; omega) (by obtain ⟨_, _⟩ := hv; simp [lsum]; unfold W128; omega) (by obtain ⟨_, _⟩ := hv; simp [lsum]; unfold W128; omega)
  rw [partA_one] at this
  have e : partA (Q ++ [v]) = #[.int .i64 ((Q.length : Int) + 1), .int .i64 (minL (Q ++ [v])), .int .i64 (maxL (Q ++ [v])), .int .i64 (hiW (lsum (Q ++ [v]))), .int .u64 (loW (lsum (Q ++ [v])))] := by unfold partA; rw [List.length_append]; rfl
  rw [e] at this
  exact this
theorem pts_back {s : SegT} (hs : segB s = true) {x : Int × Int} (hx : x ∈ ptsL s) : -2305844108725321728 ≤ x.2 ∧ x.2 ≤ 2305844108725321728 := vals_back hs (by rw [← map_pts hs]; exact List.mem_map_of_mem hx)
theorem c_PointsIn (s : SegT) (p q : Option Addr) (cap vc : Nat) (w : World) (h : SegIn w s p q) (hs : segB s = true) :
    Calls Tryz.prog 25 #[.agg (segA s p q cap vc)] w fun e w' => ∃ g cp, e = .returned (.tuple #[.slice (some ⟨g, 0, none⟩) (ptsL s).length cp, .int .i64 0]) ∧ Below w.heap.size w w' ∧ PtsIn w' (some ⟨g, 0, none⟩) (ptsL s) ∧ g < w'.heap.size ∧ (ptsL s).length ≤ cp := by
  refine (c_Points s p q cap vc w h hs).mono ?_
  rintro e w' ⟨v, rfl, hv, hB⟩
  have hn := length_pts hs
  have hc := cnt_pos (segB_runs hs)
  obtain ⟨g, cp, cur, rfl, _, hcp, _, hb, _, htk⟩ := pts_is hv (by omega)
  exact ⟨g, cp, rfl, hB, pts_in hb htk, hb.lt, hcp⟩
theorem c_folds (s : SegT) (p q : Option Addr) (cap vc : Nat) (a b : Int) (w : World) (h : Came w s p q cap vc) (hb : I64 b) :
    Calls Tryz.prog 6 #[.agg (segA s p q cap vc), .int .i64 a, .int .i64 b] w fun e w' => e = .returned (.bool true) ∧ Below w.heap.size w w' := by
  have c1 := fun W (_ : Below w.heap.size w W) => c_wakes W
  have c2 := fun W (hW : Below w.heap.size w W) => c_own s p q cap vc W (h.below hW)
  have key : ∀ (R : Array Value) (er : Int), partOut (ownS s) a b = (R, er) → ∀ W p' q' cap' vc', SegIn W (ownS s) p' q' → (ownS s).raw.length ≤ vc' → Calls Tryz.prog 12 #[.agg (segA (ownS s) p' q' cap' vc'), .int .i64 a, .int .i64 b] W fun e w' => e = .returned (.tuple #[.agg R, .int .i64 er]) ∧ Below W.heap.size W w' := by
    intro R er he W p' q' cap' vc' h1 h2
    have := c_Part (ownS s) p' q' cap' vc' a b W h1 h2 hb.1
    rw [he] at this
    exact this
  cases hs : segB (ownS s) with
  | false => exact folds_seg _ _ _ _ _ _ p q _ cap _ vc w _ _ (ownS s) a b c1 c2 (fun W p' q' cap' vc' h1 _ => c_Points_no (ownS s) p' q' cap' vc' W h1 hs) (key _ _ (partOut_no hs _ _))
  | true =>
    obtain ⟨x0, x1, x2, x3, x4, e5⟩ := partOut_five (ownS s) a b
    have hn := length_pts hs
    have hc := cnt_pos (segB_runs hs)
    have hsel := partOut_sel hs a b
    refine folds_w _ _ _ _ _ _ p q _ cap _ vc w _ _ (ownS s) a b x0 x1 x2 x3 x4 (partOut (ownS s) a b).2 (ptsL (ownS s)) (by omega) (fun x hx => ?_) ?_ c1 c2 (fun W p' q' cap' vc' h1 _ => c_PointsIn (ownS s) p' q' cap' vc' W h1 hs) (key _ _ (Prod.ext e5 rfl)) (fun v hv W => c_Of v W hv) (fun Q v hQ hne hv W => ?_)
    · have := pts_back hs hx
      exact ⟨by omega, by omega⟩
    · rw [← e5, hsel]
      split
      · rfl
      · exact ⟨rfl, rfl⟩
    · obtain ⟨k, rfl⟩ := hQ
      have hl := length_selL a b ((ptsL (ownS s)).take k)
      refine c_togetherOne _ v W hne (by simp at hl; omega) (fun x hx => ?_) hv
      unfold selL at hx
      simp only [List.mem_map, List.mem_filter] at hx
      obtain ⟨y, ⟨hy, _⟩, rfl⟩ := hx
      have := pts_back hs (List.mem_of_mem_take hy)
      omega
end Go.Proofs.YtgblmlefmohgnaaGreat
namespace Go.Proofs.YtgblmlefmohgnaaGreat
open Go.RowKit
set_option maxRecDepth 100000 in
set_option maxHeartbeats 400000 in
theorem c_Sub (a b : Int) (w : World) (ha : W128 a) (hb : W128 b) :
    Calls Tryz.prog 35 #[wideV a, wideV b] w fun e w' => e = .returned (.tuple #[wideV (wv (inW (a - b)) (wrapW (a - b))), .int .i64 (we (inW (a - b)))]) ∧ Below w.heap.size w w' := by
  have c1 := fun w => c_difference a b w ha hb
  have c2 := fun f w => c_told (wrapW (a - b)) f w
  clear ha hb
  unfold wideV at *
  generalize inW (a - b) = f at *
  go_enter Tryz.func35, Tryz.ntmps35
  go_wp2_with fail
  refine (c1 _).mono ?_
  rintro e w1 ⟨rfl, hb1⟩
  obtain ⟨hc1, hf1⟩ := bcell hb1
  have hz1 := hb1.size
  simp at hz1
  go_wp2_with fail
  refine (c2 _ _).mono ?_
  rintro e w2 ⟨rfl, hb2⟩
  obtain ⟨hc2, hf2⟩ := bcell hb2
  have hz2 := hb2.size
  clear c1 c2
  have z0 : w.heap.size < w2.heap.size := by omega
  have z1 : w.heap.size + 1 < w2.heap.size := by omega
  have z2 : w.heap.size + 1 + 1 < w2.heap.size := by omega
  have y0 : w.heap.size < w1.heap.size := by omega
  have y1 : w.heap.size + 1 < w1.heap.size := by omega
  have y2 : w.heap.size + 1 + 1 < w1.heap.size := by omega
  go_wp2
  refine bodyPost_ret (v := .tuple #[.agg #[.int .i64 (hiW (wv f (wrapW (a - b)))), .int .u64 (loW (wv f (wrapW (a - b))))], .int .i64 (we f)]) (by simp [results, Tryz.results35, go_sem, hc1, hc2, y0, y1, y2]) rfl ⟨rfl, ?_⟩
  have h0 : Below w.heap.size w w1 := ((((Below.refl _ _).alloc (Nat.le_refl _) _).alloc (by simp) _).alloc (by simp; omega) _).trans (hb1.mono (by simp; omega))
  exact (((h0.trans (hb2.mono (by omega))).setCell (by simp; omega) _).setCell (by simp; omega) _)

end Go.Proofs.YtgblmlefmohgnaaGreat
namespace Go.Proofs.YtgblmlefmohgnaaGreat
open Go.RowKit
theorem c_sub_in (a b : Int) (w : World) (ha : W128 a) (hb : W128 b) (hab : W128 (a - b)) :
    Calls Tryz.prog 35 #[wideV a, wideV b] w fun e w' => e = .returned (.tuple #[wideV (a - b), .int .i64 0]) ∧ Below w.heap.size w w' := by
  have := c_Sub a b w ha hb
  rw [inW_in hab, wrapW_in hab] at this
  exact this
theorem c_PointsBlk (s : SegT) (p q : Option Addr) (cap vc : Nat) (w : World) (h : SegIn w s p q) (hs : segB s = true) :
    Calls Tryz.prog 25 #[.agg (segA s p q cap vc)] w fun e w' => ∃ g cp cur, e = .returned (.tuple #[.slice (some ⟨g, 0, none⟩) (ptsL s).length cp, .int .i64 0]) ∧ Below w.heap.size w w' ∧ PtsIn w' (some ⟨g, 0, none⟩) (ptsL s) ∧ w.heap.size ≤ g ∧ Blk w' g cur 58 := by
  refine (c_Points s p q cap vc w h hs).mono ?_
  rintro e w' ⟨v, rfl, hv, hB⟩
  have hn := length_pts hs
  have hc := cnt_pos (segB_runs hs)
  obtain ⟨g, cp, cur, rfl, hg, hcp, _, hb, _, htk⟩ := pts_is hv (by omega)
  exact ⟨g, cp, cur, rfl, hB, pts_in hb htk, hg, hb⟩
theorem c_bounds (s : SegT) (p q : Option Addr) (cap vc : Nat) (pb : Option Addr) (byl : List Int) (bc : Nat) (a b : Int) (w : World) (h : Came w s p q cap vc) (hby : IntsIn w pb byl) (hbl : byl.length ≤ 9223372036854775807) (hb : I64 b) :
    Calls Tryz.prog 9 #[.agg (segA s p q cap vc), .slice pb byl.length bc, .int .i64 a, .int .i64 b] w fun e w' => e = .returned (.bool true) ∧ Below w.heap.size w w' := by
  have c1 := fun W (_ : Below w.heap.size w W) => c_wakes W
  have c2 := fun W (hW : Below w.heap.size w W) => c_own s p q cap vc W (h.below hW)
  have key : ∀ (R : Array Value) (er : Int), partOut (ownS s) a b = (R, er) → ∀ W p' q' cap' vc', SegIn W (ownS s) p' q' → (ownS s).raw.length ≤ vc' → Calls Tryz.prog 12 #[.agg (segA (ownS s) p' q' cap' vc'), .int .i64 a, .int .i64 b] W fun e w' => e = .returned (.tuple #[.agg R, .int .i64 er]) ∧ Below W.heap.size W w' := by
    intro R er he W p' q' cap' vc' h1 h2
    have := c_Part (ownS s) p' q' cap' vc' a b W h1 h2 hb.1
    rw [he] at this
    exact this
  cases hs : segB (ownS s) with
  | false => exact bounds_seg _ _ _ _ _ _ p q _ cap _ vc w _ _ (ownS s) pb byl bc a b c1 c2 (fun W p' q' cap' vc' h1 _ => c_Points_no (ownS s) p' q' cap' vc' W h1 hs)
  | true =>
    have hE : 0 ≤ s.E ∧ s.E ≤ 1099511627776 := segB_err (s := ownS s) hs
    have hn := length_pts hs
    have hc := cnt_pos (segB_runs hs)
    have hsel := partOut_sel hs a b
    have hnear := near_sel (E := s.E) (a := a) (b := b) (ptsL (ownS s)) (moved byl s.E (ptsL (ownS s))) (length_moved _ _ _).symm (fun k x y hx hy => by
      obtain ⟨e1, e2, _⟩ := moved_near hs byl hx hy
      exact ⟨e1, e2⟩)
    have hback : ∀ y, y ∈ moved byl s.E (ptsL (ownS s)) → -2305844108725321728 ≤ y.2 ∧ y.2 ≤ 2305844108725321728 := fun y hy => moved_back hs byl hy
    have hlm := length_moved byl s.E (ptsL (ownS s))
    have hhold := holds_moved hs byl
    have hadj : ∀ (k : Nat) t v, (ptsL (ownS s))[k]? = some (t, v) → (moved byl s.E (ptsL (ownS s)))[k]? = some (t, adjV byl s.E k v) := fun k t v hx => moved_at hx
    replace hhold : holdsB (ownS s) (moved byl s.E (ptsL (ownS s))) = true := hhold
    obtain ⟨P', hP'⟩ : ∃ P', P' = moved byl s.E (ptsL (ownS s)) := ⟨_, rfl⟩
    rw [← hP'] at hnear hback hlm hhold hadj
    have c6 : ∀ (Q : List Int) v, (∃ k, Q = selL a b (P'.take k)) → Q ≠ [] → I64 v → ∀ W, Calls Tryz.prog 27 #[.agg #[.int .i64 (Q.length : Int), .int .i64 (minL Q), .int .i64 (maxL Q), .int .i64 (hiW (lsum Q)), .int .u64 (loW (lsum Q))], .agg #[.int .i64 1, .int .i64 v, .int .i64 v, .int .i64 (hiW v), .int .u64 (loW v)]] W fun e w' => e = .returned (.tuple #[.agg #[.int .i64 ((Q.length : Int) + 1), .int .i64 (minL (Q ++ [v])), .int .i64 (maxL (Q ++ [v])), .int .i64 (hiW (lsum (Q ++ [v]))), .int .u64 (loW (lsum (Q ++ [v])))], .bool true]) ∧ Below W.heap.size W w' := by
      intro Q v hQ hne hv W
      obtain ⟨k, rfl⟩ := hQ
      have hl := length_selL a b (P'.take k)
      refine c_togetherOne _ v W hne (by simp at hl; omega) (fun x hx => ?_) hv
      unfold selL at hx
      simp only [List.mem_map, List.mem_filter] at hx
      obtain ⟨y, ⟨hy, _⟩, rfl⟩ := hx
      have := hback _ (List.mem_of_mem_take hy)
      omega
    have c7 : ∀ W p' q' cap' vc' g cp, SegIn W (ownS s) p' q' → (ownS s).raw.length ≤ vc' → PtsIn W (some ⟨g, 0, none⟩) P' → Calls Tryz.prog 29 #[.agg (segA (ownS s) p' q' cap' vc'), .slice (some ⟨g, 0, none⟩) (ptsL (ownS s)).length cp] W fun e w' => e = .returned (.bool true) ∧ Below W.heap.size W w' := by
      intro W p' q' cap' vc' g cp h1 _ h3
      have := c_Holds (ownS s) p' q' cap' vc' (some ⟨g, 0, none⟩) cp P' W h1 h3 (fun x hx => by have := hback x hx; exact ⟨by omega, by omega⟩) (by omega)
      rw [hhold, hlm] at this
      exact this
    have hv64 : ∀ x, x ∈ P' → I64 x.2 := fun x hx => by have := hback x hx; exact ⟨by omega, by omega⟩
    by_cases hempty : selL a b (ptsL (ownS s)) = []
    · have hempty' : selL a b P' = [] := List.length_eq_zero_iff.1 (by rw [← hnear.1, hempty]; rfl)
      rw [if_pos hempty] at hsel
      exact bounds_w _ _ _ _ _ _ p q _ cap _ vc w _ _ (ownS s) pb byl bc a b hE hby hbl (ptsL (ownS s)) P' (by omega) hlm (fun x hx => pts_bd hs hx) hadj hv64 c1 c2 (fun v hv W => c_Of v W hv) c6 0 0 0 0 0 0 0 0 0 9 0 0 0 0 0 0 0 0 (.inl ⟨hempty', rfl⟩) c7 (key _ _ hsel)
        (fun hne => absurd hempty' hne) (fun hne => absurd hempty' hne) (fun hne => absurd hempty' hne) (fun hne => absurd hempty' hne) (fun hne => absurd hempty' hne) (fun W p' q' cap' vc' h1 _ => c_PointsBlk (ownS s) p' q' cap' vc' W h1 hs)
    · have hne' : selL a b P' ≠ [] := by
        intro e
        exact hempty (List.length_eq_zero_iff.1 (by rw [hnear.1, e]; rfl))
      rw [if_neg hempty] at hsel
      have m1 := near_min hnear hempty
      have m2 := near_max hnear hempty
      have m3 := near_sum _ _ hnear
      have i1 := minL_is hempty
      have i2 := maxL_is hempty
      have hlen := length_selL a b (ptsL (ownS s))
      have hbd : ∀ v, v ∈ selL a b (ptsL (ownS s)) → -2305844108725321728 ≤ v ∧ v ≤ 2305844108725321728 := by
        intro v hv
        unfold selL at hv
        simp only [List.mem_map, List.mem_filter] at hv
        obtain ⟨y, ⟨hy, _⟩, rfl⟩ := hv
        exact pts_bd hs hy
      have hsum := lsum_bd hbd
      obtain ⟨n, hnn⟩ : ∃ n : Nat, n = (selL a b (ptsL (ownS s))).length := ⟨_, rfl⟩
      rw [← hnn] at m3 hsum
      have hroom : 0 ≤ s.E * (n : Int) ∧ s.E * (n : Int) ≤ 1099511627776 * 256 := by
        refine ⟨Int.mul_nonneg hE.1 (by omega), Int.mul_le_mul hE.2 (by omega) (by omega) (by omega)⟩
      obtain ⟨S, hS⟩ : ∃ S, S = lsum (selL a b (ptsL (ownS s))) := ⟨_, rfl⟩
      obtain ⟨S', hS'⟩ : ∃ S', S' = lsum (selL a b P') := ⟨_, rfl⟩
      obtain ⟨M, hM⟩ : ∃ M, M = s.E * (n : Int) := ⟨_, rfl⟩
      rw [← hM] at m3 hroom
      rw [← hS] at m3 hsum
      rw [← hS'] at m3
      have hpA : partA (selL a b (ptsL (ownS s))) = #[.int .i64 (n : Int), .int .i64 (minL (selL a b (ptsL (ownS s)))), .int .i64 (maxL (selL a b (ptsL (ownS s)))), .int .i64 (hiW S), .int .u64 (loW S)] := by unfold partA; rw [← hnn, ← hS]
      have hfA : foldA a b P' = #[.int .i64 (n : Int), .int .i64 (minL (selL a b P')), .int .i64 (maxL (selL a b P')), .int .i64 (hiW S'), .int .u64 (loW S')] := by
        unfold foldA partA
        rw [if_neg hne', ← hnear.1, ← hnn, ← hS']
      rw [hpA] at hsel
      have w1 : W128 S := by unfold W128; omega
      have w2 : W128 M := by unfold W128; omega
      have w3 : W128 (S - M) := by unfold W128; omega
      have w4 : W128 (S + M) := by unfold W128; omega
      have hmul := fun W => c_Mul s.E (n : Int) W ⟨by omega, by omega⟩ ⟨by omega, by omega⟩
      rw [← hM] at hmul
      refine bounds_w _ _ _ _ _ _ p q _ cap _ vc w _ _ (ownS s) pb byl bc a b hE hby hbl (ptsL (ownS s)) P' (by omega) hlm (fun x hx => pts_bd hs hx) hadj hv64 c1 c2 (fun v hv W => c_Of v W hv) c6 (n : Int) _ _ (hiW S) (loW S) _ _ (hiW S') (loW S') 0 (hiW M) (loW M) (hiW (S - M)) (loW (S - M)) (hiW (S + M)) (loW (S + M)) (cmpI (S - M) S') (cmpI S' (S + M))
        (.inr ⟨hne', rfl, hfA, hbd _ i1.1, hbd _ i2.1, m1.1, m1.2, m2.1, m2.2, cmpI_le (by omega), cmpI_le (by omega)⟩) c7 (key _ _ hsel)
        (fun _ W => hmul W) (fun _ W => c_sub_in S M W w1 w2 w3) (fun _ W => c_add_in S M W w1 w2 w4) (fun _ W => c_Compare (S - M) S' W) (fun _ W => c_Compare S' (S + M) W) (fun W p' q' cap' vc' h1 _ => c_PointsBlk (ownS s) p' q' cap' vc' W h1 hs)
end Go.Proofs.YtgblmlefmohgnaaGreat
namespace Go.Proofs.YtgblmlefmohgnaaGreat
open Go.ChangeShapes Go.WideShapes Go.ChangeAt Go.RowKit
section
variable {H : Type} {enc : TypeId × Value → H} {w : World} {base : Nat} {spare : Nat → Bool} {held : Bool}
set_option maxRecDepth 100000 in
theorem open_num_arg {r : Reach} {b0 : Nat} {v : Value} {d : DataW H} {ps : List MemPlace} (hv : Value.okWide Tryz.prog w r b0 25 v) (h : DataW.Trod enc Tryz.prog w base spare held 25 v d ps) :
    ∃ (p : Option Addr) (l : List Int) (cap : Nat), v = .slice p l.length cap ∧ (p = none → l = [] ∧ cap = 0) ∧ l.length ≤ cap ∧ cap ≤ maxLen ∧ IntsIn w p l ∧ ∀ z, z ∈ l → I64 z := by
  have hu : Tryz.prog.underlying 25 = some (.slice 2) := by kernel_rfl
  obtain ⟨a, len, cap, rfl⟩ := okWide_slice hu hv
  obtain ⟨fuel, hf⟩ := h
  obtain ⟨p, l, c, e, r⟩ := open_nums hu Tryz.isInt64.1 Tryz.isInt64.2 hf
  simp [Value.cells] at e
  obtain ⟨rfl, rfl, rfl⟩ := e
  exact ⟨_, l, _, rfl, r⟩
end
set_option maxRecDepth 100000 in
theorem bounds_lifted (os : Os) (started : os.Started) (H : Type) (enc : TypeId × Value → H) :
    ReturnsInHanded {} Tryz.checked os 9 .any (Rows.segBoundsSpec.pre6 enc Tryz.prog Tryz.f9 Rows.segBoundsRow.domain false) (Rows.segBoundsSpec.post enc Tryz.prog Tryz.f9 false true false false) := by
  refine returnsInHanded_of_change (C := Tryz.checked) Tryz.ownKnob started (by kernel_rfl) Tryz.func9
    (ChangeSpec.witness6 (enc := enc) (C := Tryz.checked) false ⟨#[], #[.agg #[.int .i64 0, .slice none 0 0, .int .i64 0, .int .i64 0, .int .i64 0, .int .i64 0, .slice none 0 0, .int .i64 0], .slice none 0 0, .int .i64 0, .int .i64 0], []⟩ 8 (by kernel_rfl) (by kernel_rfl) (by kernel_rfl) (by kernel_rfl)) ?_
  intro W base args ds gs before hval0 hW hcnd _
  have hval : ∀ (j : Nat) t v, Tryz.f9.params[j]? = some t → args[j]? = some v → Value.okWide Tryz.prog W .any base t v := hval0
  have hW' := hW
  obtain ⟨p, q, hA0, hV, rfl, hfz, hnd⟩ := hW
  have hA : DataW.TrodAll enc Tryz.prog W 0 (fun _ => true) true Tryz.f9.params.toList args.toList ds p := hA0
  rw [Tryz.params9] at hA hval
  obtain ⟨v0, v1, v2, v3, d0, d1, d2, d3, p0, p1, p2, p3, rfl, rfl, rfl, h0, h1, h2, h3⟩ := trodAll_four hA
  obtain ⟨rfl, rfl⟩ := trodVars_none hV
  obtain ⟨s, p', q', cap, vc, rfl, hs, _⟩ := open_seg (hval 0 _ v0 rfl rfl) h0
  obtain ⟨pb, byl, bc, rfl, _, hbl, hbm, hby, _⟩ := open_num_arg (hval 1 _ v1 rfl rfl) h1
  obtain ⟨a, rfl, rfl, rfl, wa⟩ := open_int Tryz.isInt64.1 (hval 2 _ v2 rfl rfl) h2
  obtain ⟨b, rfl, rfl, rfl, wb⟩ := open_int Tryz.isInt64.1 (hval 3 _ v3 rfl rfl) h3
  clear hA0 hval0
  unfold maxLen at hbm
  refine (c_bounds s p' q' cap vc pb byl bc a b W hs hby (by omega) (wf_I64 wb)).mono fun e W' ⟨he, hb⟩ => ?_
  subst he
  exact ⟨_, rfl, law_post Tryz.laidOut (pars_ok (by kernel_rfl)) rfl (by kernel_rfl) rfl hW' hb rfl⟩
theorem segBounds_holds : Rows.SegBoundsSaid :=
  OpenClaim.holds_of_wide 9 Tryz.f9 rfl rfl rfl rfl rfl rfl rfl ⟨rfl, rfl, rfl, rfl, rfl⟩ rfl rfl rfl rfl rfl (by kernel_rfl) Tryz.func9 (by kernel_rfl)
    (of_decide_eq_true (by kernel_rfl)) (by unfold Func.isWrapper; first | (rw [if_pos (by decide +kernel)]; kernel_rfl) | (rw [if_neg (by decide +kernel)]; exact ⟨rfl, rfl⟩))
    (fun os started H enc _ => bounds_lifted os started H enc)
end Go.Proofs.YtgblmlefmohgnaaGreat
