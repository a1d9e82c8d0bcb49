/- Parts of the proof that follows: The document's segments: Kind, Points walked. | Layer span: Least, Most. No condition but that there is a span, and that they may be. | Layer span: Plus, Around. No condition but that the spans may be. | Layers record and series: Name, and whether a series' numbers may be. No condition. -/
import Derived.Lib.OthersKept
import Derived.Lib.RuneBytes
import Derived.Test.YtidfcoooccblaaaGreatTogether11
set_option maxRecDepth 100000
set_option maxHeartbeats 8000000
set_option linter.unusedSimpArgs false
set_option linter.unusedVariables false
namespace Go.Proofs.YtidfcoooccblaaaGreat
open Go.RowKit
def ptRel (w1 : World) (g bt ot ct : Nat) (T V : List Int) (a' : Act) (W : World) : Prop :=
 Below w1.heap.size w1 W /\ ∃ (i : Nat) (v : Value), (∃ u : Nat -> Value, a' = { tmps := #[u 0, .pointer (some ⟨g, 0, none⟩), .slice none 0 0, .bool false, .slice (some ⟨bt, ot, none⟩) T.length ct, v, .int .i64 (i : Int), u 7, u 8, u 9, u 10, u 11, u 12, u 13, u 14, u 15, u 16, u 17, u 18, u 19, u 20, u 21, u 22, u 23, u 24, u 25, u 26, u 27, u 28, u 29, u 30, u 31, u 32, u 33, u 34, u 35, u 36, u 37, u 38, u 39, u 40, u 41, u 42, u 43, u 44, u 45, u 46, u 47, u 48, u 49, u 50, u 51, u 52, u 53, u 54, u 55, u 56, u 57, u 58, u 59], defers := [] }) /\
  OwnR W w1.heap.size 91 2 v i (flatPts ((T.zip V).take i)) /\ i <= T.length /\ ∀ (k : Nat) (y : Int), k < i -> V[k]? = some y -> isBack y = true
def PtsPost (w : World) (T V : List Int) (e : Ending) (w' : World) : Prop :=
 Below w.heap.size w w' /\ ((V.all isBack = true /\ ∃ v, e = .returned (.tuple #[v, .bool true]) /\ OwnR w' w.heap.size 91 2 v T.length (flatPts (T.zip V))) ∨ (V.all isBack = false /\ e = .returned (.tuple #[.slice none 0 0, .bool false])))
theorem c_spTwoL (a b c d : Int) (w : World) : Calls Tryz.prog 90 #[.agg #[.int .i64 a, .int .i64 b], .agg #[.int .i64 c, .int .i64 d]] w fun e w' => e = .returned (.agg #[.int .i64 (mn a c), .int .i64 (mn b d)]) /\ Below w.heap.size w w' := by
 have hm : ∀ ts t x y w, (Builtin.min_ ts t #[.int .i64 x, .int .i64 y]).run Tryz.prog w = .ok (.int .i64 (mn x y)) w := fun ts t x y w => by simp [Builtin.min_, Builtin.min2, mn]
 go_enter Tryz.func90, Tryz.ntmps90
 go_wp2
 refine bodyPost_ret (v := .agg #[.int .i64 (mn a c), .int .i64 (mn b d)]) (by simp [results, Tryz.results90, go_sem]) rfl ⟨rfl, by exact belowAny⟩
theorem c_spTwoM (a b c d : Int) (w : World) : Calls Tryz.prog 91 #[.agg #[.int .i64 a, .int .i64 b], .agg #[.int .i64 c, .int .i64 d]] w fun e w' => e = .returned (.agg #[.int .i64 (mx a c), .int .i64 (mx b d)]) /\ Below w.heap.size w w' := by
 have hm : ∀ ts t x y w, (Builtin.max_ ts t #[.int .i64 x, .int .i64 y]).run Tryz.prog w = .ok (.int .i64 (mx x y)) w := fun ts t x y w => by simp [Builtin.max_, Builtin.max2, mx]
 go_enter Tryz.func91, Tryz.ntmps91
 go_wp2
 refine bodyPost_ret (v := .agg #[.int .i64 (mx a c), .int .i64 (mx b d)]) (by simp [results, Tryz.results91, go_sem]) rfl ⟨rfl, by exact belowAny⟩
theorem minL_snoc {l : List Int} (h : l ≠ []) (x : Int) : minL (l ++ [x]) = mn (minL l) x := by
 cases l with
 | nil => exact absurd rfl h
 | cons y l => simp [minL, List.foldl_append]
theorem fold_stepL {l : List (Int × Int)} {i : Nat} {x y : Int} (h : l[i]? = some (x, y)) :
  (i = 0 -> minL ((l.take (0 + 1)).map (·.1)) = x /\ minL ((l.take (0 + 1)).map (·.2)) = y) /\ (0 < i -> minL ((l.take (i + 1)).map (·.1)) = mn (minL ((l.take i).map (·.1))) x /\ minL ((l.take (i + 1)).map (·.2)) = mn (minL ((l.take i).map (·.2))) y) := by
 have hlt := (List.getElem?_eq_some_iff.1 h).1
 constructor
 ·rintro rfl
  cases l with
  | nil => simp at h
  | cons z l => simp at h; subst h; simp [minL]
 ·intro hi
  have hne : ∀ f : Int × Int -> Int, (l.take i).map f ≠ [] := fun f e => by have := congrArg List.length e; rw [List.length_map, List.length_take] at this; simp only [List.length_nil] at this; omega
  rw [List.take_add_one, h]
  simp only [Option.toList_some, List.map_append, List.map_cons, List.map_nil]
  exact ⟨minL_snoc (hne _) x, minL_snoc (hne _) y⟩
theorem maxL_snoc {l : List Int} (h : l ≠ []) (x : Int) : maxL (l ++ [x]) = mx (maxL l) x := by
 cases l with
 | nil => exact absurd rfl h
 | cons y l => simp [maxL, List.foldl_append]
theorem fold_stepM {l : List (Int × Int)} {i : Nat} {x y : Int} (h : l[i]? = some (x, y)) :
  (i = 0 -> maxL ((l.take (0 + 1)).map (·.1)) = x /\ maxL ((l.take (0 + 1)).map (·.2)) = y) /\ (0 < i -> maxL ((l.take (i + 1)).map (·.1)) = mx (maxL ((l.take i).map (·.1))) x /\ maxL ((l.take (i + 1)).map (·.2)) = mx (maxL ((l.take i).map (·.2))) y) := by
 have hlt := (List.getElem?_eq_some_iff.1 h).1
 constructor
 ·rintro rfl
  cases l with
  | nil => simp at h
  | cons z l => simp at h; subst h; simp [maxL]
 ·intro hi
  have hne : ∀ f : Int × Int -> Int, (l.take i).map f ≠ [] := fun f e => by have := congrArg List.length e; rw [List.length_map, List.length_take] at this; simp only [List.length_nil] at this; omega
  rw [List.take_add_one, h]
  simp only [Option.toList_some, List.map_append, List.map_cons, List.map_nil]
  exact ⟨maxL_snoc (hne _) x, maxL_snoc (hne _) y⟩
def fdLRel (w : World) (p : Option Addr) (cap : Nat) (l : List (Int × Int)) (a' : Act) (W : World) : Prop :=
 Below w.heap.size w W /\ Blk W w.heap.size #[.int .i64 0, .int .i64 0] 169 /\ ∃ i : Nat, Blk W (w.heap.size + 1) #[.int .i64 (minL ((l.take i).map (·.1))), .int .i64 (minL ((l.take i).map (·.2)))] 169 /\ (∃ u : Nat -> Value, a' = { tmps := #[.slice p l.length cap, .func (.func 90) #[] #[], u 2, u 3, .pointer (some ⟨w.heap.size, 0, none⟩), u 5, .pointer (some ⟨w.heap.size + 1, 0, none⟩), u 7, u 8, .slice p l.length cap, .int .i64 (l.length : Int), .int .i64 (i : Int), u 12, u 13, u 14, u 15, u 16, u 17, u 18, u 19, u 20, u 21, u 22, u 23, u 24, u 25, u 26, u 27], defers := [] }) /\ i <= l.length
theorem c_spFoldL (p : Option Addr) (cap : Nat) (l : List (Int × Int)) (w : World) (hlen : l.length <= 1000000) (hpos : 0 < l.length) (h : PtsIn w p l) :
  Calls Tryz.prog 147 #[.slice p l.length cap, .func (.func 90) #[] #[]] w fun e w' => e = .returned (.tuple #[.agg #[.int .i64 (minL (l.map (·.1))), .int .i64 (minL (l.map (·.2)))], .bool true]) /\ Below w.heap.size w w' := by
 go_enter Tryz.func147, Tryz.ntmps147
 go_wp2
 refine wp_loop (fdLRel w p cap l) (fun a' _ => l.length - (intAt (a'.tmps.getD 11 undef)).toNat) ?_ ?_
 ·unfold fdLRel
  exact ⟨belowAny, blkAny2, 0, blkAny2, frame_ex rfl, Nat.zero_le _⟩
 ·rintro a' W ⟨hW0, b1, i, b2, ⟨u, rfl⟩, hi'⟩
  have hz := hW0.size
  have zb1 := b1.lt
  have zb2 := b2.lt
  rcases Nat.lt_or_ge i l.length with hlt | hge
  ·obtain ⟨⟨x, y⟩, tr⟩ : ∃ r, l[i]? = some r := ⟨l[i]'(by omega), List.getElem?_eq_getElem (by omega)⟩
   obtain ⟨b, o, rfl, q0, q1⟩ := (h.below hW0).at' i _ tr
   simp only at q0 q1
   have hst := fold_stepL tr
   rcases Nat.eq_zero_or_pos i with rfl | hi0
   ·obtain ⟨m, hm⟩ : ∃ m, minL ((l.take 0).map (·.1)) = m := ⟨_, rfl⟩
    obtain ⟨n, hn⟩ : ∃ n, minL ((l.take 0).map (·.2)) = n := ⟨_, rfl⟩
    rw [hm, hn] at b2
    replace hst := Lib.hid (hst.1 rfl)
    clear hm hn tr
    simp only [Nat.zero_mul, Nat.add_zero] at q0 q1
    rw [show ((0 : Nat) : Int) = 0 from rfl]
    have k1 := b1.cell
    have f1 := b1.frozen
    have k2 := b2.cell
    have f2 := b2.frozen
    go_wp2
    refine ⟨?_, by simp [intAt]; omega⟩
    unfold fdLRel
    exact ⟨hW0.trans belowAny, blkAny2, 1, by rw [hst.out.1, hst.out.2]; exact blkAny2, frame_ex rfl, by omega⟩
   ·have hst := hst.2 hi0
    obtain ⟨m, hm⟩ : ∃ m, minL ((l.take i).map (·.1)) = m := ⟨_, rfl⟩
    obtain ⟨n, hn⟩ : ∃ n, minL ((l.take i).map (·.2)) = n := ⟨_, rfl⟩
    rw [hm, hn] at b2 hst
    replace hst := Lib.hid hst
    have hne : ((i : Int) == 0) = false := by simp; omega
    clear hm hn tr
    have k1 := b1.cell
    have f1 := b1.frozen
    have k2 := b2.cell
    have f2 := b2.frozen
    go_wp2_with fail
    refine (c_spTwoL m n x y _).mono ?_
    rintro e w21 ⟨rfl, hb21⟩
    have z22 := hb21.size
    try simp at z22
    clear k1 f1 k2 f2
    have b1 : Blk w21 w.heap.size #[.int .i64 0, .int .i64 0] 169 := blkAny2
    have b2 : Blk w21 (w.heap.size + 1) #[.int .i64 m, .int .i64 n] 169 := blkAny2
    have b3 : Blk w21 W.heap.size #[.int .i64 x, .int .i64 y] 169 := blkAny2
    have hW : Below W.heap.size W w21 := belowAny
    have z23 := b1.lt
    have z24 := b2.lt
    have z25 := b3.lt
    clear hb21
    have k1 := b1.cell
    have f1 := b1.frozen
    have k2 := b2.cell
    have f2 := b2.frozen
    have k3 := b3.cell
    have f3 := b3.frozen
    go_wp2
    rw [show (i : Int) + 1 = ((i + 1 : Nat) : Int) by omega]
    refine ⟨?_, by simp [intAt]; omega⟩
    unfold fdLRel
    exact ⟨hW0.trans belowAny, blkAny2, i + 1, by rw [hst.out.1, hst.out.2]; exact blkAny2, frame_ex rfl, by omega⟩
  ·obtain rfl : i = l.length := by omega
   rw [List.take_length] at b2
   have k1 := b1.cell
   have f1 := b1.frozen
   have k2 := b2.cell
   have f2 := b2.frozen
   have hgt : decide ((0 : Int) < (l.length : Int)) = true := by simp; omega
   go_wp2
   have y1 := b1.lt
   have y2 := b2.lt
   refine bodyPost_ret (v := .tuple #[.agg #[.int .i64 (minL (l.map (·.1))), .int .i64 (minL (l.map (·.2)))], .bool true]) (by simp [results, Tryz.results147, go_sem, k1, f1, k2, f2, y1, y2, hgt]) rfl ⟨rfl, ?_⟩
   exact hW0.trans belowAny
def fdMRel (w : World) (p : Option Addr) (cap : Nat) (l : List (Int × Int)) (a' : Act) (W : World) : Prop :=
 Below w.heap.size w W /\ Blk W w.heap.size #[.int .i64 0, .int .i64 0] 169 /\ ∃ i : Nat, Blk W (w.heap.size + 1) #[.int .i64 (maxL ((l.take i).map (·.1))), .int .i64 (maxL ((l.take i).map (·.2)))] 169 /\ (∃ u : Nat -> Value, a' = { tmps := #[.slice p l.length cap, .func (.func 91) #[] #[], u 2, u 3, .pointer (some ⟨w.heap.size, 0, none⟩), u 5, .pointer (some ⟨w.heap.size + 1, 0, none⟩), u 7, u 8, .slice p l.length cap, .int .i64 (l.length : Int), .int .i64 (i : Int), u 12, u 13, u 14, u 15, u 16, u 17, u 18, u 19, u 20, u 21, u 22, u 23, u 24, u 25, u 26, u 27], defers := [] }) /\ i <= l.length
theorem c_spFoldM (p : Option Addr) (cap : Nat) (l : List (Int × Int)) (w : World) (hlen : l.length <= 1000000) (hpos : 0 < l.length) (h : PtsIn w p l) :
  Calls Tryz.prog 147 #[.slice p l.length cap, .func (.func 91) #[] #[]] w fun e w' => e = .returned (.tuple #[.agg #[.int .i64 (maxL (l.map (·.1))), .int .i64 (maxL (l.map (·.2)))], .bool true]) /\ Below w.heap.size w w' := by
 go_enter Tryz.func147, Tryz.ntmps147
 go_wp2
 refine wp_loop (fdMRel w p cap l) (fun a' _ => l.length - (intAt (a'.tmps.getD 11 undef)).toNat) ?_ ?_
 ·unfold fdMRel
  exact ⟨belowAny, blkAny2, 0, blkAny2, frame_ex rfl, Nat.zero_le _⟩
 ·rintro a' W ⟨hW0, b1, i, b2, ⟨u, rfl⟩, hi'⟩
  have hz := hW0.size
  have zb1 := b1.lt
  have zb2 := b2.lt
  rcases Nat.lt_or_ge i l.length with hlt | hge
  ·obtain ⟨⟨x, y⟩, tr⟩ : ∃ r, l[i]? = some r := ⟨l[i]'(by omega), List.getElem?_eq_getElem (by omega)⟩
   obtain ⟨b, o, rfl, q0, q1⟩ := (h.below hW0).at' i _ tr
   simp only at q0 q1
   have hst := fold_stepM tr
   rcases Nat.eq_zero_or_pos i with rfl | hi0
   ·obtain ⟨m, hm⟩ : ∃ m, maxL ((l.take 0).map (·.1)) = m := ⟨_, rfl⟩
    obtain ⟨n, hn⟩ : ∃ n, maxL ((l.take 0).map (·.2)) = n := ⟨_, rfl⟩
    rw [hm, hn] at b2
    replace hst := Lib.hid (hst.1 rfl)
    clear hm hn tr
    simp only [Nat.zero_mul, Nat.add_zero] at q0 q1
    rw [show ((0 : Nat) : Int) = 0 from rfl]
    have k1 := b1.cell
    have f1 := b1.frozen
    have k2 := b2.cell
    have f2 := b2.frozen
    go_wp2
    refine ⟨?_, by simp [intAt]; omega⟩
    unfold fdMRel
    exact ⟨hW0.trans belowAny, blkAny2, 1, by rw [hst.out.1, hst.out.2]; exact blkAny2, frame_ex rfl, by omega⟩
   ·have hst := hst.2 hi0
    obtain ⟨m, hm⟩ : ∃ m, maxL ((l.take i).map (·.1)) = m := ⟨_, rfl⟩
    obtain ⟨n, hn⟩ : ∃ n, maxL ((l.take i).map (·.2)) = n := ⟨_, rfl⟩
    rw [hm, hn] at b2 hst
    replace hst := Lib.hid hst
    have hne : ((i : Int) == 0) = false := by simp; omega
    clear hm hn tr
    have k1 := b1.cell
    have f1 := b1.frozen
    have k2 := b2.cell
    have f2 := b2.frozen
    go_wp2_with fail
    refine (c_spTwoM m n x y _).mono ?_
    rintro e w21 ⟨rfl, hb21⟩
    have z22 := hb21.size
    try simp at z22
    clear k1 f1 k2 f2
    have b1 : Blk w21 w.heap.size #[.int .i64 0, .int .i64 0] 169 := blkAny2
    have b2 : Blk w21 (w.heap.size + 1) #[.int .i64 m, .int .i64 n] 169 := blkAny2
    have b3 : Blk w21 W.heap.size #[.int .i64 x, .int .i64 y] 169 := blkAny2
    have hW : Below W.heap.size W w21 := belowAny
    have z23 := b1.lt
    have z24 := b2.lt
    have z25 := b3.lt
    clear hb21
    have k1 := b1.cell
    have f1 := b1.frozen
    have k2 := b2.cell
    have f2 := b2.frozen
    have k3 := b3.cell
    have f3 := b3.frozen
    go_wp2
    rw [show (i : Int) + 1 = ((i + 1 : Nat) : Int) by omega]
    refine ⟨?_, by simp [intAt]; omega⟩
    unfold fdMRel
    exact ⟨hW0.trans belowAny, blkAny2, i + 1, by rw [hst.out.1, hst.out.2]; exact blkAny2, frame_ex rfl, by omega⟩
  ·obtain rfl : i = l.length := by omega
   rw [List.take_length] at b2
   have k1 := b1.cell
   have f1 := b1.frozen
   have k2 := b2.cell
   have f2 := b2.frozen
   have hgt : decide ((0 : Int) < (l.length : Int)) = true := by simp; omega
   go_wp2
   have y1 := b1.lt
   have y2 := b2.lt
   refine bodyPost_ret (v := .tuple #[.agg #[.int .i64 (maxL (l.map (·.1))), .int .i64 (maxL (l.map (·.2)))], .bool true]) (by simp [results, Tryz.results147, go_sem, k1, f1, k2, f2, y1, y2, hgt]) rfl ⟨rfl, ?_⟩
   exact hW0.trans belowAny
theorem Tryz.infoEnds : (Tryz.prog.info? 169).map (fun i => (i.zero, i.size, i.bytes)) = some (some (.agg #[.int .i64 0, .int .i64 0]), 2, 16) := by kernel_rfl
theorem c_spOf (a b : Int) (w : World) : Calls Tryz.prog 146 #[.agg #[.int .i64 a, .int .i64 b]] w fun e w' => e = .returned (.agg #[.int .i64 a, .int .i64 b]) /\ Below w.heap.size w w' := by
 go_enter Tryz.func146, Tryz.ntmps146
 go_wp2
 refine bodyPost_ret (v := .agg #[.int .i64 a, .int .i64 b]) (by simp [results, Tryz.results146, go_sem]) rfl ⟨rfl, by exact belowAny⟩
theorem c_spSpan (a b : Int) (w : World) : Calls Tryz.prog 95 #[.agg #[.int .i64 a, .int .i64 b]] w fun e w' => e = .returned (.agg #[.int .i64 a, .int .i64 b]) /\ Below w.heap.size w w' := by
 go_enter Tryz.func95, Tryz.ntmps95
 go_wp2
 refine bodyPost_ret (v := .agg #[.int .i64 a, .int .i64 b]) (by simp [results, Tryz.results95, go_sem]) rfl ⟨rfl, by exact belowAny⟩
theorem OwnR.ptsS {w : World} {B n : Nat} {t : TypeId} {v : Value} {l : List (Int × Int)} (h : OwnR w B t 2 v n (flatPts l)) (hn : 0 < n) : ∃ g cp, v = .slice (some ⟨g, 0, none⟩) n cp /\ PtsIn w (some ⟨g, 0, none⟩) l := by
 rcases h.own.2 with ⟨_, h0⟩ | ⟨g, cap, cur, rfl, _, hb, _, _, _, ht⟩
 ·omega
 ·exact ⟨g, cap, rfl, pts_in hb ht⟩
def tgLRel (w : World) (p : Option Addr) (cap : Nat) (l : List (Int × Int)) (a' : Act) (W : World) : Prop :=
 Below w.heap.size w W /\ Blk W w.heap.size #[.int .i64 0, .int .i64 0] 33 /\ ∃ (i : Nat) (v : Value), OwnR W w.heap.size 169 2 v i (flatPts (l.take i)) /\ (∃ u : Nat -> Value, a' = { tmps := #[.slice p l.length cap, .func (.func 90) #[] #[], u 2, u 3, .pointer (some ⟨w.heap.size, 0, none⟩), u 5, u 6, v, u 8, u 9, u 10, u 11, u 12, u 13, u 14, u 15, u 16, u 17, u 18, .slice p l.length cap, .int .i64 (l.length : Int), .int .i64 (i : Int), u 22, u 23, u 24, u 25, u 26, u 27, u 28, u 29, u 30, u 31, u 32, u 33, u 34, u 35, u 36, u 37, u 38, u 39, u 40, u 41, u 42, u 43, u 44, u 45, u 46], defers := [] }) /\ i <= l.length
theorem togL_w (p : Option Addr) (cap : Nat) (l : List (Int × Int)) (w : World) (hlen : l.length <= 1000000) (hpos : 0 < l.length) (h : PtsIn w p l)
  (c1 : ∀ W, Below w.heap.size w W -> Calls Tryz.prog 92 #[.slice p l.length cap] W fun e w' => e = .returned (.int .i64 0) /\ Below W.heap.size W w')
  (c2 : ∀ W g cp, PtsIn W (some ⟨g, 0, none⟩) l -> Calls Tryz.prog 147 #[.slice (some ⟨g, 0, none⟩) l.length cp, .func (.func 90) #[] #[]] W fun e w' => e = .returned (.tuple #[.agg #[.int .i64 (minL (l.map (·.1))), .int .i64 (minL (l.map (·.2)))], .bool true]) /\ Below W.heap.size W w')
  (c3 : ∀ W, Calls Tryz.prog 96 #[.agg #[.int .i64 (minL (l.map (·.1))), .int .i64 (minL (l.map (·.2)))]] W fun e w' => e = .returned (.int .i64 0) /\ Below W.heap.size W w') :
  Calls Tryz.prog 89 #[.slice p l.length cap, .func (.func 90) #[] #[]] w fun e w' => e = .returned (.tuple #[.agg #[.int .i64 (minL (l.map (·.1))), .int .i64 (minL (l.map (·.2)))], .int .i64 0]) /\ Below w.heap.size w w' := by
 obtain ⟨i0, hi, hz0, hz1, hz2⟩ := info_parts Tryz.infoEnds
 replace c2 := Lib.hid c2
 replace c3 := Lib.hid c3
 have H_c1 := Lib.hid c1
 clear c1
 go_enter Tryz.func89, Tryz.ntmps89
 have c1 := H_c1.out
 go_wp2_with fail
 refine (c1 _ belowAny).mono ?_
 rintro e w1 ⟨rfl, hb1⟩
 clear c1
 have z2 := hb1.size
 try simp at z2
 have b1 : Blk w1 w.heap.size #[.int .i64 0, .int .i64 0] 33 := blkAny2
 have hW : Below w.heap.size w w1 := belowAny
 have z3 := b1.lt
 clear hb1
 have k1 := b1.cell
 have f1 := b1.frozen
 have hWW := hW
 go_wp2
 refine wp_loop (tgLRel w p cap l) (fun a' _ => l.length - (intAt (a'.tmps.getD 21 undef)).toNat) ?_ ?_
 ·unfold tgLRel
  exact ⟨hW, b1, 0, _, OwnR.nil _ _ _ _, frame_ex rfl, Nat.zero_le _⟩
 ·rintro a' W ⟨hW0, b1, i, v, hown, ⟨u, rfl⟩, hi'⟩
  have hz := hW0.size
  have zb1 := b1.lt
  rcases Nat.lt_or_ge i l.length with hlt | hge
  ·obtain ⟨⟨x, y⟩, tr⟩ : ∃ r, l[i]? = some r := ⟨l[i]'(by omega), List.getElem?_eq_getElem (by omega)⟩
   obtain ⟨b, o, rfl, q0, q1⟩ := (h.below hW0).at' i _ tr
   simp only at q0 q1
   have htk := Lib.hid (show flatPts (l.take (i + 1)) = flatPts (l.take i) ++ [.int .i64 x, .int .i64 y] by rw [List.take_add_one, tr]; exact flatPts_snoc _ _)
   clear tr
   have k1 := b1.cell
   have f1 := b1.frozen
   have cb := Lib.hid (c_spOf x y)
   go_wp2_with fail
   refine (cb.out _).mono ?_
   rintro e w21 ⟨rfl, hb21⟩
   have z22 := hb21.size
   try simp at z22
   clear k1 f1
   have b1 : Blk w21 w.heap.size #[.int .i64 0, .int .i64 0] 33 := blkAny2
   have b2 : Blk w21 W.heap.size #[.int .i64 x, .int .i64 y] 33 := blkAny2
   have hW : Below W.heap.size W w21 := belowAny
   have z23 := b1.lt
   have z24 := b2.lt
   clear hb21
   have k1 := b1.cell
   have f1 := b1.frozen
   have k2 := b2.cell
   have f2 := b2.frozen
   have hown' := (hown.below hW).own
   have hW9 := hW0.trans (hW.mono hz)
   have ya9 := hW9.size
   clear cb hown hW
   go_wp2_with (at_builtin; refine wpList_append_own _ rfl (.tmp 25) (.tmp 28) 232 rfl w.heap.size 169 i0 (.agg #[.int .i64 0, .int .i64 0]) 2 16 (by kernel_rfl) hi hz0 hz1 hz2 rfl (by decide) _ _ _ rfl (hown'.alloc _) ⟨w21.heap.size, 0, none⟩ 1 1 [.int .i64 x, .int .i64 y] rfl rfl (cell_two_new _ _ _ _) (by simp [Value.oneCell']) (by simp [maxLen]; omega) (by omega) (by simp; omega) ?_)
   intro v' w9 hown2 hgr _
   have hB := Lib.hid (below_append hW9 ya9 hown' hgr)
   have b9 := b1.grown hown' (by decide) hgr
   replace hown2 := Lib.hid hown2
   clear hgr hown' b1 b2 k1 f1
   go_wp2
   rw [show (i : Int) + 1 = ((i + 1 : Nat) : Int) by omega]
   refine ⟨?_, by simp [intAt]; omega⟩
   unfold tgLRel
   exact ⟨hB.out, b9, i + 1, v', ⟨by rw [htk.out]; simpa using hown2.out⟩, frame_ex rfl, by omega⟩
  ·obtain rfl : i = l.length := by omega
   rw [List.take_length] at hown
   obtain ⟨g0, cp0, rfl, hP⟩ := hown.ptsS (by omega)
   replace hP := Lib.hid hP
   replace c2 := c2.out
   replace c3 := c3.out
   obtain ⟨m, hm⟩ : ∃ m, minL (l.map (·.1)) = m := ⟨_, rfl⟩
   obtain ⟨n, hn⟩ : ∃ n, minL (l.map (·.2)) = n := ⟨_, rfl⟩
   rw [hm, hn] at c2 c3
   replace hm := Lib.hid hm
   replace hn := Lib.hid hn
   clear hown
   have k1 := b1.cell
   have f1 := b1.frozen
   have hW : Below w.heap.size w W := hW0
   have H_c2 := Lib.hid c2
   have H_c3 := Lib.hid c3
   clear c2 c3
   have c2 := H_c2.out
   go_wp2_with fail
   refine (c2 _ g0 cp0 hP.out).mono ?_
   rintro e w51 ⟨rfl, hb51⟩
   clear c2
   have z52 := hb51.size
   try simp at z52
   clear k1 f1
   have b1 : Blk w51 w.heap.size #[.int .i64 0, .int .i64 0] 33 := blkAny2
   have hW : Below w.heap.size w w51 := belowAny
   have z53 := b1.lt
   clear hb51
   have k1 := b1.cell
   have f1 := b1.frozen
   go_wp2_with fail
   refine (c_spSpan m n _).mono ?_
   rintro e w54 ⟨rfl, hb54⟩
   have z55 := hb54.size
   try simp at z55
   clear k1 f1
   have b1 : Blk w54 w.heap.size #[.int .i64 0, .int .i64 0] 33 := blkAny2
   have b2 : Blk w54 w51.heap.size #[.int .i64 m, .int .i64 n] 169 := blkAny2
   have hW : Below w.heap.size w w54 := belowAny
   have z56 := b1.lt
   have z57 := b2.lt
   clear hb54
   have k1 := b1.cell
   have f1 := b1.frozen
   have k2 := b2.cell
   have f2 := b2.frozen
   have c3 := H_c3.out
   go_wp2_with fail
   refine (c3 _).mono ?_
   rintro e w58 ⟨rfl, hb58⟩
   clear c3
   have z59 := hb58.size
   try simp at z59
   clear k1 f1 k2 f2
   have b1 : Blk w58 w.heap.size #[.int .i64 0, .int .i64 0] 33 := blkAny2
   have b2 : Blk w58 w51.heap.size #[.int .i64 m, .int .i64 n] 169 := blkAny2
   have b3 : Blk w58 w54.heap.size #[.int .i64 m, .int .i64 n] 33 := blkAny2
   have hW : Below w.heap.size w w58 := belowAny
   have z60 := b1.lt
   have z61 := b2.lt
   have z62 := b3.lt
   clear hb58
   have k1 := b1.cell
   have f1 := b1.frozen
   have k2 := b2.cell
   have f2 := b2.frozen
   have k3 := b3.cell
   have f3 := b3.frozen
   go_wp2
   have y1 := b1.lt
   refine bodyPost_ret (v := .tuple #[.agg #[.int .i64 m, .int .i64 n], .int .i64 0]) (by simp [results, Tryz.results89, go_sem, k1, f1, y1]) rfl ⟨by rw [hm.out, hn.out], belowAny⟩
def tgMRel (w : World) (p : Option Addr) (cap : Nat) (l : List (Int × Int)) (a' : Act) (W : World) : Prop :=
 Below w.heap.size w W /\ Blk W w.heap.size #[.int .i64 0, .int .i64 0] 33 /\ ∃ (i : Nat) (v : Value), OwnR W w.heap.size 169 2 v i (flatPts (l.take i)) /\ (∃ u : Nat -> Value, a' = { tmps := #[.slice p l.length cap, .func (.func 91) #[] #[], u 2, u 3, .pointer (some ⟨w.heap.size, 0, none⟩), u 5, u 6, v, u 8, u 9, u 10, u 11, u 12, u 13, u 14, u 15, u 16, u 17, u 18, .slice p l.length cap, .int .i64 (l.length : Int), .int .i64 (i : Int), u 22, u 23, u 24, u 25, u 26, u 27, u 28, u 29, u 30, u 31, u 32, u 33, u 34, u 35, u 36, u 37, u 38, u 39, u 40, u 41, u 42, u 43, u 44, u 45, u 46], defers := [] }) /\ i <= l.length
theorem togM_w (p : Option Addr) (cap : Nat) (l : List (Int × Int)) (w : World) (hlen : l.length <= 1000000) (hpos : 0 < l.length) (h : PtsIn w p l)
  (c1 : ∀ W, Below w.heap.size w W -> Calls Tryz.prog 92 #[.slice p l.length cap] W fun e w' => e = .returned (.int .i64 0) /\ Below W.heap.size W w')
  (c2 : ∀ W g cp, PtsIn W (some ⟨g, 0, none⟩) l -> Calls Tryz.prog 147 #[.slice (some ⟨g, 0, none⟩) l.length cp, .func (.func 91) #[] #[]] W fun e w' => e = .returned (.tuple #[.agg #[.int .i64 (maxL (l.map (·.1))), .int .i64 (maxL (l.map (·.2)))], .bool true]) /\ Below W.heap.size W w')
  (c3 : ∀ W, Calls Tryz.prog 96 #[.agg #[.int .i64 (maxL (l.map (·.1))), .int .i64 (maxL (l.map (·.2)))]] W fun e w' => e = .returned (.int .i64 0) /\ Below W.heap.size W w') :
  Calls Tryz.prog 89 #[.slice p l.length cap, .func (.func 91) #[] #[]] w fun e w' => e = .returned (.tuple #[.agg #[.int .i64 (maxL (l.map (·.1))), .int .i64 (maxL (l.map (·.2)))], .int .i64 0]) /\ Below w.heap.size w w' := by
 obtain ⟨i0, hi, hz0, hz1, hz2⟩ := info_parts Tryz.infoEnds
 replace c2 := Lib.hid c2
 replace c3 := Lib.hid c3
 have H_c1 := Lib.hid c1
 clear c1
 go_enter Tryz.func89, Tryz.ntmps89
 have c1 := H_c1.out
 go_wp2_with fail
 refine (c1 _ belowAny).mono ?_
 rintro e w1 ⟨rfl, hb1⟩
 clear c1
 have z2 := hb1.size
 try simp at z2
 have b1 : Blk w1 w.heap.size #[.int .i64 0, .int .i64 0] 33 := blkAny2
 have hW : Below w.heap.size w w1 := belowAny
 have z3 := b1.lt
 clear hb1
 have k1 := b1.cell
 have f1 := b1.frozen
 have hWW := hW
 go_wp2
 refine wp_loop (tgMRel w p cap l) (fun a' _ => l.length - (intAt (a'.tmps.getD 21 undef)).toNat) ?_ ?_
 ·unfold tgMRel
  exact ⟨hW, b1, 0, _, OwnR.nil _ _ _ _, frame_ex rfl, Nat.zero_le _⟩
 ·rintro a' W ⟨hW0, b1, i, v, hown, ⟨u, rfl⟩, hi'⟩
  have hz := hW0.size
  have zb1 := b1.lt
  rcases Nat.lt_or_ge i l.length with hlt | hge
  ·obtain ⟨⟨x, y⟩, tr⟩ : ∃ r, l[i]? = some r := ⟨l[i]'(by omega), List.getElem?_eq_getElem (by omega)⟩
   obtain ⟨b, o, rfl, q0, q1⟩ := (h.below hW0).at' i _ tr
   simp only at q0 q1
   have htk := Lib.hid (show flatPts (l.take (i + 1)) = flatPts (l.take i) ++ [.int .i64 x, .int .i64 y] by rw [List.take_add_one, tr]; exact flatPts_snoc _ _)
   clear tr
   have k1 := b1.cell
   have f1 := b1.frozen
   have cb := Lib.hid (c_spOf x y)
   go_wp2_with fail
   refine (cb.out _).mono ?_
   rintro e w21 ⟨rfl, hb21⟩
   have z22 := hb21.size
   try simp at z22
   clear k1 f1
   have b1 : Blk w21 w.heap.size #[.int .i64 0, .int .i64 0] 33 := blkAny2
   have b2 : Blk w21 W.heap.size #[.int .i64 x, .int .i64 y] 33 := blkAny2
   have hW : Below W.heap.size W w21 := belowAny
   have z23 := b1.lt
   have z24 := b2.lt
   clear hb21
   have k1 := b1.cell
   have f1 := b1.frozen
   have k2 := b2.cell
   have f2 := b2.frozen
   have hown' := (hown.below hW).own
   have hW9 := hW0.trans (hW.mono hz)
   have ya9 := hW9.size
   clear cb hown hW
   go_wp2_with (at_builtin; refine wpList_append_own _ rfl (.tmp 25) (.tmp 28) 232 rfl w.heap.size 169 i0 (.agg #[.int .i64 0, .int .i64 0]) 2 16 (by kernel_rfl) hi hz0 hz1 hz2 rfl (by decide) _ _ _ rfl (hown'.alloc _) ⟨w21.heap.size, 0, none⟩ 1 1 [.int .i64 x, .int .i64 y] rfl rfl (cell_two_new _ _ _ _) (by simp [Value.oneCell']) (by simp [maxLen]; omega) (by omega) (by simp; omega) ?_)
   intro v' w9 hown2 hgr _
   have hB := Lib.hid (below_append hW9 ya9 hown' hgr)
   have b9 := b1.grown hown' (by decide) hgr
   replace hown2 := Lib.hid hown2
   clear hgr hown' b1 b2 k1 f1
   go_wp2
   rw [show (i : Int) + 1 = ((i + 1 : Nat) : Int) by omega]
   refine ⟨?_, by simp [intAt]; omega⟩
   unfold tgMRel
   exact ⟨hB.out, b9, i + 1, v', ⟨by rw [htk.out]; simpa using hown2.out⟩, frame_ex rfl, by omega⟩
  ·obtain rfl : i = l.length := by omega
   rw [List.take_length] at hown
   obtain ⟨g0, cp0, rfl, hP⟩ := hown.ptsS (by omega)
   replace hP := Lib.hid hP
   replace c2 := c2.out
   replace c3 := c3.out
   obtain ⟨m, hm⟩ : ∃ m, maxL (l.map (·.1)) = m := ⟨_, rfl⟩
   obtain ⟨n, hn⟩ : ∃ n, maxL (l.map (·.2)) = n := ⟨_, rfl⟩
   rw [hm, hn] at c2 c3
   replace hm := Lib.hid hm
   replace hn := Lib.hid hn
   clear hown
   have k1 := b1.cell
   have f1 := b1.frozen
   have hW : Below w.heap.size w W := hW0
   have H_c2 := Lib.hid c2
   have H_c3 := Lib.hid c3
   clear c2 c3
   have c2 := H_c2.out
   go_wp2_with fail
   refine (c2 _ g0 cp0 hP.out).mono ?_
   rintro e w51 ⟨rfl, hb51⟩
   clear c2
   have z52 := hb51.size
   try simp at z52
   clear k1 f1
   have b1 : Blk w51 w.heap.size #[.int .i64 0, .int .i64 0] 33 := blkAny2
   have hW : Below w.heap.size w w51 := belowAny
   have z53 := b1.lt
   clear hb51
   have k1 := b1.cell
   have f1 := b1.frozen
   go_wp2_with fail
   refine (c_spSpan m n _).mono ?_
   rintro e w54 ⟨rfl, hb54⟩
   have z55 := hb54.size
   try simp at z55
   clear k1 f1
   have b1 : Blk w54 w.heap.size #[.int .i64 0, .int .i64 0] 33 := blkAny2
   have b2 : Blk w54 w51.heap.size #[.int .i64 m, .int .i64 n] 169 := blkAny2
   have hW : Below w.heap.size w w54 := belowAny
   have z56 := b1.lt
   have z57 := b2.lt
   clear hb54
   have k1 := b1.cell
   have f1 := b1.frozen
   have k2 := b2.cell
   have f2 := b2.frozen
   have c3 := H_c3.out
   go_wp2_with fail
   refine (c3 _).mono ?_
   rintro e w58 ⟨rfl, hb58⟩
   clear c3
   have z59 := hb58.size
   try simp at z59
   clear k1 f1 k2 f2
   have b1 : Blk w58 w.heap.size #[.int .i64 0, .int .i64 0] 33 := blkAny2
   have b2 : Blk w58 w51.heap.size #[.int .i64 m, .int .i64 n] 169 := blkAny2
   have b3 : Blk w58 w54.heap.size #[.int .i64 m, .int .i64 n] 33 := blkAny2
   have hW : Below w.heap.size w w58 := belowAny
   have z60 := b1.lt
   have z61 := b2.lt
   have z62 := b3.lt
   clear hb58
   have k1 := b1.cell
   have f1 := b1.frozen
   have k2 := b2.cell
   have f2 := b2.frozen
   have k3 := b3.cell
   have f3 := b3.frozen
   go_wp2
   have y1 := b1.lt
   refine bodyPost_ret (v := .tuple #[.agg #[.int .i64 m, .int .i64 n], .int .i64 0]) (by simp [results, Tryz.results89, go_sem, k1, f1, y1]) rfl ⟨by rw [hm.out, hn.out], belowAny⟩
theorem pubL_w (p : Option Addr) (len cap : Nat) (m n : Int) (w : World)
  (c1 : ∀ W, Below w.heap.size w W -> Calls Tryz.prog 89 #[.slice p len cap, .func (.func 90) #[] #[]] W fun e w' => e = .returned (.tuple #[.agg #[.int .i64 m, .int .i64 n], .int .i64 0]) /\ Below W.heap.size W w') :
  Calls Tryz.prog 43 #[.slice p len cap] w fun e w' => e = .returned (.tuple #[.agg #[.int .i64 m, .int .i64 n], .int .i64 0]) /\ Below w.heap.size w w' := by
 have H_c1 := Lib.hid c1
 clear c1
 go_enter Tryz.func43, Tryz.ntmps43
 have c1 := H_c1.out
 go_wp2_with fail
 refine (c1 _ belowAny).mono ?_
 rintro e w1 ⟨rfl, hb1⟩
 clear c1
 have z2 := hb1.size
 try simp at z2
 have b1 : Blk w1 w.heap.size #[.int .i64 0, .int .i64 0] 33 := blkAny2
 have hW : Below w.heap.size w w1 := belowAny
 have z3 := b1.lt
 clear hb1
 have k1 := b1.cell
 have f1 := b1.frozen
 go_wp2
 have y_1 := b1.lt
 refine bodyPost_ret (v := .tuple #[.agg #[.int .i64 m, .int .i64 n], .int .i64 0]) (by simp [results, Tryz.results43, go_sem, k1, f1, y_1]) rfl ⟨rfl, by exact belowAny⟩
theorem c_spLeast (p : Option Addr) (cap : Nat) (l : List (Int × Int)) (w : World) (hlen : l.length <= 1000000) (hpos : 0 < l.length) (h : PtsIn w p l) (hall : l.all (fun x => decide (x.1 <= x.2)) = true) :
  Calls Tryz.prog 43 #[.slice p l.length cap] w fun e w' => e = .returned (.tuple #[.agg #[.int .i64 (minL (l.map (·.1))), .int .i64 (minL (l.map (·.2)))], .int .i64 0]) /\ Below w.heap.size w w' := by
 have hs : spsE l = 0 := by unfold spsE; rw [hall]; rfl
 have hne : l ≠ [] := List.length_pos_iff.1 hpos
 have hne1 : l.map (·.1) ≠ [] := by simpa using hne
 have hne2 : l.map (·.2) ≠ [] := by simpa using hne
 have hle : minL (l.map (·.1)) <= minL (l.map (·.2)) := by
  obtain ⟨x, hx, he⟩ := List.mem_map.1 (minL_is hne2).1
  exact Int.le_trans ((minL_is hne1).2 _ (List.mem_map_of_mem hx)) (by have := List.all_eq_true.1 hall x hx; simp only [decide_eq_true_eq] at this; rw [<- he]; exact this)
 refine pubL_w p l.length cap _ _ w fun W hW => togL_w p cap l W hlen hpos (h.below hW) (fun W' hW' => ?_) (fun W' g cp hp => c_spFoldL _ cp l W' hlen hpos hp) (fun W' => ?_)
 ·have := c_spChecked p cap l W' hlen ((h.below hW).below hW')
  rw [hs] at this
  exact this
 ·have := c_spCheck (minL (l.map (·.1))) (minL (l.map (·.2))) W'
  unfold spE at this
  rw [if_pos hle] at this
  exact this
theorem pubM_w (p : Option Addr) (len cap : Nat) (m n : Int) (w : World)
  (c1 : ∀ W, Below w.heap.size w W -> Calls Tryz.prog 89 #[.slice p len cap, .func (.func 91) #[] #[]] W fun e w' => e = .returned (.tuple #[.agg #[.int .i64 m, .int .i64 n], .int .i64 0]) /\ Below W.heap.size W w') :
  Calls Tryz.prog 44 #[.slice p len cap] w fun e w' => e = .returned (.tuple #[.agg #[.int .i64 m, .int .i64 n], .int .i64 0]) /\ Below w.heap.size w w' := by
 have H_c1 := Lib.hid c1
 clear c1
 go_enter Tryz.func44, Tryz.ntmps44
 have c1 := H_c1.out
 go_wp2_with fail
 refine (c1 _ belowAny).mono ?_
 rintro e w1 ⟨rfl, hb1⟩
 clear c1
 have z2 := hb1.size
 try simp at z2
 have b1 : Blk w1 w.heap.size #[.int .i64 0, .int .i64 0] 33 := blkAny2
 have hW : Below w.heap.size w w1 := belowAny
 have z3 := b1.lt
 clear hb1
 have k1 := b1.cell
 have f1 := b1.frozen
 go_wp2
 have y_1 := b1.lt
 refine bodyPost_ret (v := .tuple #[.agg #[.int .i64 m, .int .i64 n], .int .i64 0]) (by simp [results, Tryz.results44, go_sem, k1, f1, y_1]) rfl ⟨rfl, by exact belowAny⟩
theorem c_spMost (p : Option Addr) (cap : Nat) (l : List (Int × Int)) (w : World) (hlen : l.length <= 1000000) (hpos : 0 < l.length) (h : PtsIn w p l) (hall : l.all (fun x => decide (x.1 <= x.2)) = true) :
  Calls Tryz.prog 44 #[.slice p l.length cap] w fun e w' => e = .returned (.tuple #[.agg #[.int .i64 (maxL (l.map (·.1))), .int .i64 (maxL (l.map (·.2)))], .int .i64 0]) /\ Below w.heap.size w w' := by
 have hs : spsE l = 0 := by unfold spsE; rw [hall]; rfl
 have hne : l ≠ [] := List.length_pos_iff.1 hpos
 have hne1 : l.map (·.1) ≠ [] := by simpa using hne
 have hne2 : l.map (·.2) ≠ [] := by simpa using hne
 have hle : maxL (l.map (·.1)) <= maxL (l.map (·.2)) := by
  obtain ⟨x, hx, he⟩ := List.mem_map.1 (maxL_is hne1).1
  exact by have := List.all_eq_true.1 hall x hx; simp only [decide_eq_true_eq] at this; have h2 := (maxL_is hne2).2 _ (List.mem_map_of_mem (f := fun z : Int × Int => z.2) hx); (try simp only at h2); (try simp only at he); omega
 refine pubM_w p l.length cap _ _ w fun W hW => togM_w p cap l W hlen hpos (h.below hW) (fun W' hW' => ?_) (fun W' g cp hp => c_spFoldM _ cp l W' hlen hpos hp) (fun W' => ?_)
 ·have := c_spChecked p cap l W' hlen ((h.below hW).below hW')
  rw [hs] at this
  exact this
 ·have := c_spCheck (maxL (l.map (·.1))) (maxL (l.map (·.2))) W'
  unfold spE at this
  rw [if_pos hle] at this
  exact this
def plS1 (i : Nat) (S : Int) : Int := if 1 <= i then S else 0
def plS2 (i : Nat) (S : Int) : Int := if 2 <= i then S else 0
theorem c_spBoth (w : World) : Calls Tryz.prog 93 #[] w fun e w' => e = .returned (.slice (some ⟨w.heap.size, 0, none⟩) 2 2) /\ Below w.heap.size w w' /\ Blk w' w.heap.size #[.func (.func 148) #[] #[], .func (.func 149) #[] #[]] 173 := by
 go_enter Tryz.func93, Tryz.ntmps93
 go_wp2
 go_ret
 exact ⟨rfl, belowAny, Blk.new' rfl⟩
def plusV (f : Bool) (S1 S2 : Int) : Array Value := if f = true then #[S1, S2] else #[.int .i64 0, .int .i64 0]
def plusE (f : Bool) : Int := if f = true then 0 else 5
def plRel (w : World) (p : Option Addr) (len cap : Nat) (S1 S2 : Int) (fa fb : Bool) (g h : Nat) (a' : Act) (W : World) : Prop :=
 Below w.heap.size w W /\ Blk W w.heap.size #[.int .i64 0, .int .i64 0] 33 /\ Blk W h #[.func (.func 148) #[] #[], .func (.func 149) #[] #[]] 173 /\ ∃ i : Nat, Blk W g #[.int .i64 (plS1 i S1), .int .i64 (plS2 i S2)] 169 /\ (∃ u : Nat -> Value, a' = { tmps := #[.slice p len cap, u 1, .pointer (some ⟨w.heap.size, 0, none⟩), u 3, u 4, .pointer (some ⟨g, 0, none⟩), u 6, u 7, u 8, u 9, u 10, u 11, u 12, u 13, u 14, u 15, u 16, .slice (some ⟨h, 0, none⟩) 2 2, .int .i64 2, .int .i64 (i : Int), u 20, u 21, u 22, u 23, u 24, u 25, u 26, u 27, u 28, u 29, u 30, u 31, u 32, u 33, u 34, u 35, u 36, u 37, u 38, u 39, u 40, u 41, u 42, u 43], defers := [] }) /\ i <= 2 /\ (1 <= i -> fa = true) /\ (2 <= i -> fb = true)
theorem spPlus_w (p : Option Addr) (len cap : Nat) (S1 S2 : Int) (fa fb : Bool) (w : World) (hle : fa = true -> fb = true -> S1 <= S2)
  (c1 : ∀ W, Below w.heap.size w W -> Calls Tryz.prog 92 #[.slice p len cap] W fun e w' => e = .returned (.int .i64 0) /\ Below W.heap.size W w')
  (c2 : ∀ W, Below w.heap.size w W -> Calls Tryz.prog 94 #[.slice p len cap, .func (.func 148) #[] #[]] W fun e w' => e = .returned (.tuple #[S1, .bool fa]) /\ Below W.heap.size W w')
  (c3 : ∀ W, Below w.heap.size w W -> Calls Tryz.prog 94 #[.slice p len cap, .func (.func 149) #[] #[]] W fun e w' => e = .returned (.tuple #[S2, .bool fb]) /\ Below W.heap.size W w') :
  Calls Tryz.prog 45 #[.slice p len cap] w fun e w' => e = .returned (.tuple #[.agg (plusV (fa && fb) S1 S2), .int .i64 (plusE (fa && fb))]) /\ Below w.heap.size w w' := by
 replace c2 := Lib.hid c2
 replace c3 := Lib.hid c3
 have H_c1 := Lib.hid c1
 clear c1
 go_enter Tryz.func45, Tryz.ntmps45
 go_upto_region 1 with (fail)
 refine wp_scope_straight ?_
 have c1 := H_c1.out
 go_wp2_with fail
 refine (c1 _ belowAny).mono ?_
 rintro e w1 ⟨rfl, hb1⟩
 clear c1
 have z2 := hb1.size
 try simp at z2
 have b1 : Blk w1 w.heap.size #[.int .i64 0, .int .i64 0] 33 := blkAny2
 have hW : Below w.heap.size w w1 := belowAny
 have z3 := b1.lt
 clear hb1
 have k1 := b1.cell
 have f1 := b1.frozen
 clear H_c1
 have hWW := hW
 go_wp2
 refine wp_label ?_
 simp only [Exit.then]
 go_wp2_with fail
 refine (c_spBoth _).mono ?_
 rintro e w9 ⟨rfl, hb9, b9⟩
 have d1 : Blk w9 w.heap.size #[.int .i64 0, .int .i64 0] 33 := blkAny2
 have d2 : Blk w9 w1.heap.size #[.int .i64 0, .int .i64 0] 169 := blkAny2
 have d3 : Blk w9 (w1.heap.size + 1) #[.func (.func 148) #[] #[], .func (.func 149) #[] #[]] 173 := (by simpa using b9)
 have hW9 : Below w.heap.size w w9 := belowAny
 simp only [World.size_alloc]
 clear b1 b9 hb9 k1 f1 hW
 have y3 := d3.lt
 have k3 := d3.cell
 go_wp2
 clear k3
 refine wp_loop (plRel w p len cap S1 S2 fa fb w1.heap.size (w1.heap.size + 1)) (fun a' _ => 2 - (intAt (a'.tmps.getD 19 undef)).toNat) ?_ ?_
 ·unfold plRel
  exact ⟨hW9, d1, d3, 0, d2, frame_ex rfl, by omega, fun h => by omega, fun h => by omega⟩
 have hg1 := hWW.size
 have hg2 : w.heap.size < w1.heap.size := by omega
 obtain ⟨g, hg⟩ : ∃ g, w1.heap.size = g := ⟨_, rfl⟩
 rw [hg] at hg2 ⊢
 clear hg d1 d2 d3 hW9 y3 hWW hg1
 rintro a' W ⟨hW0, b1, b3, i, b2, ⟨u, rfl⟩, hi', hfa, hfb⟩
 have hz := hW0.size
 have zb1 := b1.lt
 have zb2 := b2.lt
 have zb3 := b3.lt
 have c2 := Lib.hid (c2.out W hW0)
 have c3 := Lib.hid (c3.out W hW0)
 have hi3 : i = 0 ∨ i = 1 ∨ i = 2 := by omega
 rcases hi3 with rfl | rfl | rfl
 ·replace b2 : Blk W g #[.int .i64 0, .int .i64 0] 169 := by simpa [plS1, plS2] using b2
  cases fa with
  | true =>
   have k1 := b1.cell
   have f1 := b1.frozen
   have k2 := b2.cell
   have f2 := b2.frozen
   have k3 := b3.cell
   have f3 := b3.frozen
   go_wp2_with fail
   refine (c2.out).mono ?_
   rintro e w21 ⟨rfl, hb21⟩
   have z22 := hb21.size
   try simp at z22
   clear k1 f1 k2 f2 k3 f3
   have b1 : Blk w21 w.heap.size #[.int .i64 0, .int .i64 0] 33 := blkAny2
   have b2 : Blk w21 g #[.int .i64 0, .int .i64 0] 169 := blkAny2
   have b3 : Blk w21 (g + 1) #[.func (.func 148) #[] #[], .func (.func 149) #[] #[]] 173 := blkAny2
   have hW : Below W.heap.size W w21 := belowAny
   have z23 := b1.lt
   have z24 := b2.lt
   have z25 := b3.lt
   clear hb21
   have k1 := b1.cell
   have f1 := b1.frozen
   have k2 := b2.cell
   have f2 := b2.frozen
   have k3 := b3.cell
   have f3 := b3.frozen
   go_wp2
   refine ⟨?_, by simp [intAt]⟩
   unfold plRel
   exact ⟨hW0.trans ((hW.mono hz).setCell (by simp; omega) _), blkAny2, blkAny2, 1, (blkAny2 : Blk _ g #[S1, .int .i64 0] 169), frame_ex rfl, by omega, fun _ => rfl, fun h => by omega⟩
  | false =>
   have k1 := b1.cell
   have f1 := b1.frozen
   have k2 := b2.cell
   have f2 := b2.frozen
   have k3 := b3.cell
   have f3 := b3.frozen
   go_wp2_with fail
   refine (c2.out).mono ?_
   rintro e w21 ⟨rfl, hb21⟩
   have z22 := hb21.size
   try simp at z22
   clear k1 f1 k2 f2 k3 f3
   have b1 : Blk w21 w.heap.size #[.int .i64 0, .int .i64 0] 33 := blkAny2
   have b2 : Blk w21 g #[.int .i64 0, .int .i64 0] 169 := blkAny2
   have b3 : Blk w21 (g + 1) #[.func (.func 148) #[] #[], .func (.func 149) #[] #[]] 173 := blkAny2
   have hW : Below W.heap.size W w21 := belowAny
   have z23 := b1.lt
   have z24 := b2.lt
   have z25 := b3.lt
   clear hb21
   have k1 := b1.cell
   have f1 := b1.frozen
   have k2 := b2.cell
   have f2 := b2.frozen
   have k3 := b3.cell
   have f3 := b3.frozen
   have hB8 := hW0.trans (hW.mono hz)
   clear hW
   go_wp2_with fail
   refine (c_spSpan 9223372036854775807 (-9223372036854775808) _).mono ?_
   rintro e w31 ⟨rfl, hb31⟩
   have d1 : Blk w31 w.heap.size #[.int .i64 0, .int .i64 0] 33 := blkAny2
   have hW31 : Below w.heap.size w w31 := belowAny
   have z31 := hW31.size
   have zd := d1.lt
   clear hB8 hb31 b1 b2 b3 k1 f1 k2 f2 k3 f3
   have k1 := d1.cell
   have f1 := d1.frozen
   have cz := Lib.hid (show ∀ W, Calls Tryz.prog 96 #[.agg #[.int .i64 9223372036854775807, .int .i64 (-9223372036854775808)]] W fun e w' => e = .returned (.int .i64 140) /\ Below W.heap.size W w' from fun W => by have := c_spCheck 9223372036854775807 (-9223372036854775808) W; unfold spE at this; rw [if_neg (by first | assumption | omega)] at this; exact this)
   go_wp2_with fail
   refine (cz.out _).mono ?_
   rintro e w32 ⟨rfl, hb32⟩
   have e1 : Blk w32 w.heap.size #[.int .i64 0, .int .i64 0] 33 := blkAny2
   have e2 : Blk w32 w31.heap.size #[.int .i64 9223372036854775807, .int .i64 (-9223372036854775808)] 33 := blkAny2
   have hW32 : Below w.heap.size w w32 := belowAny
   have z32 := hW32.size
   have ze := e1.lt
   have ze2 := e2.lt
   clear cz d1 hW31 hb32 k1 f1
   have k1 := e1.cell
   have f1 := e1.frozen
   have k2 := e2.cell
   go_wp2
   simp only [Exit.noGoto]
   refine bodyPost_ret (v := .tuple #[.agg #[.int .i64 0, .int .i64 0], .int .i64 5]) (by simp [results, Tryz.results45, go_sem, k1, f1, ze]) rfl ⟨rfl, by exact belowAny⟩
 ·replace b2 : Blk W g #[S1, .int .i64 0] 169 := by simpa [plS1, plS2] using b2
  cases fb with
  | true =>
   have k1 := b1.cell
   have f1 := b1.frozen
   have k2 := b2.cell
   have f2 := b2.frozen
   have k3 := b3.cell
   have f3 := b3.frozen
   go_wp2_with fail
   refine (c3.out).mono ?_
   rintro e w21 ⟨rfl, hb21⟩
   have z22 := hb21.size
   try simp at z22
   clear k1 f1 k2 f2 k3 f3
   have b1 : Blk w21 w.heap.size #[.int .i64 0, .int .i64 0] 33 := blkAny2
   have b2 : Blk w21 g #[S1, .int .i64 0] 169 := blkAny2
   have b3 : Blk w21 (g + 1) #[.func (.func 148) #[] #[], .func (.func 149) #[] #[]] 173 := blkAny2
   have hW : Below W.heap.size W w21 := belowAny
   have z23 := b1.lt
   have z24 := b2.lt
   have z25 := b3.lt
   clear hb21
   have k1 := b1.cell
   have f1 := b1.frozen
   have k2 := b2.cell
   have f2 := b2.frozen
   have k3 := b3.cell
   have f3 := b3.frozen
   go_wp2
   refine ⟨?_, by simp [intAt]⟩
   unfold plRel
   exact ⟨hW0.trans ((hW.mono hz).setCell (by simp; omega) _), blkAny2, blkAny2, 2, (blkAny2 : Blk _ g #[S1, S2] 169), frame_ex rfl, by omega, fun _ => hfa (Nat.le_refl _), fun _ => rfl⟩
  | false =>
   have k1 := b1.cell
   have f1 := b1.frozen
   have k2 := b2.cell
   have f2 := b2.frozen
   have k3 := b3.cell
   have f3 := b3.frozen
   go_wp2_with fail
   refine (c3.out).mono ?_
   rintro e w21 ⟨rfl, hb21⟩
   have z22 := hb21.size
   try simp at z22
   clear k1 f1 k2 f2 k3 f3
   have b1 : Blk w21 w.heap.size #[.int .i64 0, .int .i64 0] 33 := blkAny2
   have b2 : Blk w21 g #[S1, .int .i64 0] 169 := blkAny2
   have b3 : Blk w21 (g + 1) #[.func (.func 148) #[] #[], .func (.func 149) #[] #[]] 173 := blkAny2
   have hW : Below W.heap.size W w21 := belowAny
   have z23 := b1.lt
   have z24 := b2.lt
   have z25 := b3.lt
   clear hb21
   have k1 := b1.cell
   have f1 := b1.frozen
   have k2 := b2.cell
   have f2 := b2.frozen
   have k3 := b3.cell
   have f3 := b3.frozen
   have hB8 := hW0.trans (hW.mono hz)
   clear hW
   go_wp2_with fail
   refine (c_spSpan 9223372036854775807 (-9223372036854775808) _).mono ?_
   rintro e w31 ⟨rfl, hb31⟩
   have d1 : Blk w31 w.heap.size #[.int .i64 0, .int .i64 0] 33 := blkAny2
   have hW31 : Below w.heap.size w w31 := belowAny
   have z31 := hW31.size
   have zd := d1.lt
   clear hB8 hb31 b1 b2 b3 k1 f1 k2 f2 k3 f3
   have k1 := d1.cell
   have f1 := d1.frozen
   have cz := Lib.hid (show ∀ W, Calls Tryz.prog 96 #[.agg #[.int .i64 9223372036854775807, .int .i64 (-9223372036854775808)]] W fun e w' => e = .returned (.int .i64 140) /\ Below W.heap.size W w' from fun W => by have := c_spCheck 9223372036854775807 (-9223372036854775808) W; unfold spE at this; rw [if_neg (by first | assumption | omega)] at this; exact this)
   go_wp2_with fail
   refine (cz.out _).mono ?_
   rintro e w32 ⟨rfl, hb32⟩
   have e1 : Blk w32 w.heap.size #[.int .i64 0, .int .i64 0] 33 := blkAny2
   have e2 : Blk w32 w31.heap.size #[.int .i64 9223372036854775807, .int .i64 (-9223372036854775808)] 33 := blkAny2
   have hW32 : Below w.heap.size w w32 := belowAny
   have z32 := hW32.size
   have ze := e1.lt
   have ze2 := e2.lt
   clear cz d1 hW31 hb32 k1 f1
   have k1 := e1.cell
   have f1 := e1.frozen
   have k2 := e2.cell
   go_wp2
   simp only [Exit.noGoto]
   refine bodyPost_ret (v := .tuple #[.agg #[.int .i64 0, .int .i64 0], .int .i64 5]) (by simp [results, Tryz.results45, go_sem, k1, f1, ze]) rfl ⟨by rw [Bool.and_false]; rfl, by exact belowAny⟩
 ·replace b2 : Blk W g #[S1, S2] 169 := by simpa [plS1, plS2] using b2
  obtain rfl := hfa (by omega)
  obtain rfl := hfb (by omega)
  replace hle := hle rfl rfl
  have k1 := b1.cell
  have f1 := b1.frozen
  have k2 := b2.cell
  have f2 := b2.frozen
  have k3 := b3.cell
  have f3 := b3.frozen
  have hB8 := hW0
  clear hW0
  go_wp2_with fail
  refine (c_spSpan S1 S2 _).mono ?_
  rintro e w31 ⟨rfl, hb31⟩
  have d1 : Blk w31 w.heap.size #[.int .i64 0, .int .i64 0] 33 := blkAny2
  have hW31 : Below w.heap.size w w31 := belowAny
  have z31 := hW31.size
  have zd := d1.lt
  clear hB8 hb31 b1 b2 b3 k1 f1 k2 f2 k3 f3
  have k1 := d1.cell
  have f1 := d1.frozen
  have cz := Lib.hid (show ∀ W, Calls Tryz.prog 96 #[.agg #[S1, S2]] W fun e w' => e = .returned (.int .i64 0) /\ Below W.heap.size W w' from fun W => by have := c_spCheck S1 S2 W; unfold spE at this; rw [if_pos (by first | assumption | omega)] at this; exact this)
  go_wp2_with fail
  refine (cz.out _).mono ?_
  rintro e w32 ⟨rfl, hb32⟩
  have e1 : Blk w32 w.heap.size #[.int .i64 0, .int .i64 0] 33 := blkAny2
  have e2 : Blk w32 w31.heap.size #[S1, S2] 33 := blkAny2
  have hW32 : Below w.heap.size w w32 := belowAny
  have z32 := hW32.size
  have ze := e1.lt
  have ze2 := e2.lt
  clear cz d1 hW31 hb32 k1 f1
  have k1 := e1.cell
  have f1 := e1.frozen
  have k2 := e2.cell
  go_wp2
  simp only [Exit.noGoto]
  refine bodyPost_ret (v := .tuple #[.agg #[S1, S2], .int .i64 0]) (by simp [results, Tryz.results45, go_sem, k1, f1, ze]) rfl ⟨rfl, by exact belowAny⟩
def spA (l : List (Int × Int)) : Int := lsum (l.map (·.1))
def spB (l : List (Int × Int)) : Int := lsum (l.map (·.2))
theorem spA_le : ∀ {l : List (Int × Int)}, l.all (fun x => decide (x.1 <= x.2)) = true -> spA l <= spB l
 | [], _ => Int.le_refl _
 | x :: l, h => by
  simp only [List.all_cons, Bool.and_eq_true, decide_eq_true_eq] at h
  have := spA_le h.2
  unfold spA spB at *
  simp only [List.map_cons, lsum]
  omega
theorem inI_bd {n : Int} : inI n = true ↔ -9223372036854775808 <= n /\ n <= 9223372036854775807 := by unfold inI; rw [decide_eq_true_eq]; rfl
theorem wrap_inI {n : Int} (h : inI n = true) : wrap64 n = n := by
 have := inI_bd.1 h
 rw [wrap64_eq]
 omega
theorem c_spPlus (p : Option Addr) (cap : Nat) (l : List (Int × Int)) (w : World) (hlen : l.length <= 1000000) (h : PtsIn w p l) (hv : ∀ x, x ∈ l -> I64 x.1 /\ I64 x.2) (hall : l.all (fun x => decide (x.1 <= x.2)) = true) :
  Calls Tryz.prog 45 #[.slice p l.length cap] w fun e w' => e = .returned (.tuple #[.agg (plusV (inI (spA l) && inI (spB l)) (spA l) (spB l)), .int .i64 (plusE (inI (spA l) && inI (spB l)))]) /\ Below w.heap.size w w' := by
 have hs : spsE l = 0 := by unfold spsE; rw [hall]; rfl
 have key := spPlus_w p l.length cap (wrap64 (spA l)) (wrap64 (spB l)) (inI (spA l)) (inI (spB l)) w (fun h1 h2 => by rw [wrap_inI h1, wrap_inI h2]; exact spA_le hall)
  (fun W hW => by have := c_spChecked p cap l W hlen (h.below hW); rw [hs] at this; exact this) (fun W hW => c_spTot1 p cap l W hlen (h.below hW) hv) (fun W hW => c_spTot2 p cap l W hlen (h.below hW) hv)
 have e : plusV (inI (spA l) && inI (spB l)) (wrap64 (spA l)) (wrap64 (spB l)) = plusV (inI (spA l) && inI (spB l)) (spA l) (spB l) := by
  unfold plusV
  split
  ·rename_i hh
   rw [Bool.and_eq_true] at hh
   rw [wrap_inI hh.1, wrap_inI hh.2]
  ·rfl
 rw [e] at key
 exact key
theorem c_spPoint (v : Int) (w : World) : Calls Tryz.prog 207 #[v] w fun e w' => e = .returned (.agg #[v, v]) /\ Below w.heap.size w w' := by
 go_enter Tryz.func207, Tryz.ntmps207
 go_wp2
 refine bodyPost_ret (v := .agg #[v, v]) (by simp [results, Tryz.results207, go_sem]) rfl ⟨rfl, by exact belowAny⟩
theorem around_w (v far : Int) (w : World) (h0 : 0 <= far) (E1 : Hid (wrap64 (-far) = -far))
  (c2 : ∀ W g, PtsIn W (some ⟨g, 0, none⟩) [(v, v), (-far, far)] -> Calls Tryz.prog 45 #[.slice (some ⟨g, 0, none⟩) 2 2] W fun e w' => e = .returned (.tuple #[.agg #[.int .i64 (v - far), .int .i64 (v + far)], .int .i64 0]) /\ Below W.heap.size W w') :
  Calls Tryz.prog 185 #[v, far] w fun e w' => e = .returned (.tuple #[.agg #[.int .i64 (v - far), .int .i64 (v + far)], .int .i64 0]) /\ Below w.heap.size w w' := by
 have H_c2 := Lib.hid c2
 clear c2
 go_enter Tryz.func185, Tryz.ntmps185
 go_wp2_with fail
 refine (c_spPoint v _).mono ?_
 rintro e w1 ⟨rfl, hb1⟩
 have z2 := hb1.size
 try simp at z2
 have b1 : Blk w1 w.heap.size #[.int .i64 0, .int .i64 0] 33 := blkAny2
 have hW : Below w.heap.size w w1 := belowAny
 have z3 := b1.lt
 clear hb1
 have k1 := b1.cell
 have f1 := b1.frozen
 have c2 := H_c2.out
 go_wp2_with fail
 have p9 : Blk (w1.alloc (.cells #[v, v, .int .i64 (wrap64 (-far)), far] 33)) w1.heap.size #[v, v, .int .i64 (wrap64 (-far)), far] 33 := Blk.new' rfl
 rw [E1.out] at p9 ⊢
 refine (c2 _ w1.heap.size (pts_in (n := 4) (l := [(v, v), (-far, far)]) p9 rfl)).mono ?_
 rintro e w9 ⟨rfl, hb9⟩
 have d1 : Blk w9 w.heap.size #[.int .i64 0, .int .i64 0] 33 := blkAny2
 have hW9 : Below w.heap.size w w9 := belowAny
 clear c2 p9 hb9 hW b1 k1 f1
 have k1 := d1.cell
 have f1 := d1.frozen
 have y1 := d1.lt
 go_wp2
 refine bodyPost_ret (v := .tuple #[.agg #[.int .i64 (v - far), .int .i64 (v + far)], .int .i64 0]) (by simp [results, Tryz.results185, go_sem, k1, f1, y1]) rfl ⟨rfl, by exact belowAny⟩
theorem c_spAround (v far : Int) (w : World) (h0 : 0 <= far) (h1 : far <= 1099511627776) (h2 : -4611686018427387904 <= v) (h3 : v <= 4611686018427387904) :
  Calls Tryz.prog 185 #[v, far] w fun e w' => e = .returned (.tuple #[.agg #[.int .i64 (v - far), .int .i64 (v + far)], .int .i64 0]) /\ Below w.heap.size w w' := by
 refine around_w v far w h0 (Lib.hid (by rw [wrap64_eq]; omega)) fun W g hp => ?_
 have hA : spA [(v, v), (-far, far)] = v - far := by simp [spA, lsum]; omega
 have hB : spB [(v, v), (-far, far)] = v + far := by simp [spB, lsum]
 have i1 : inI (v - far) = true := inI_bd.2 (by omega)
 have i2 : inI (v + far) = true := inI_bd.2 (by omega)
 have key := c_spPlus (some ⟨g, 0, none⟩) 2 [(v, v), (-far, far)] W (by simp) hp (fun x hx => by simp at hx; rcases hx with rfl | rfl <;> simp only [I64] <;> omega) (by simp; omega)
 rw [hA, hB, i1, i2] at key
 exact key
theorem anAround_w (v far : Int) (w : World)
  (c2 : ∀ W, Below w.heap.size w W -> Calls Tryz.prog 185 #[v, far] W fun e w' => e = .returned (.tuple #[.agg #[.int .i64 (v - far), .int .i64 (v + far)], .int .i64 0]) /\ Below W.heap.size W w') :
  Calls Tryz.prog 156 #[v, far] w fun e w' => e = .returned (.agg #[.int .i64 (v - far), .int .i64 (v + far)]) /\ Below w.heap.size w w' := by
 have H_c2 := Lib.hid c2
 clear c2
 go_enter Tryz.func156, Tryz.ntmps156
 have c2 := H_c2.out
 go_wp2_with fail
 refine (c2 _ belowAny).mono ?_
 rintro e w1 ⟨rfl, hb1⟩
 clear c2
 have z2 := hb1.size
 try simp at z2
 have b1 : Blk w1 w.heap.size #[.int .i64 0, .int .i64 0] 33 := blkAny2
 have hW : Below w.heap.size w w1 := belowAny
 have z3 := b1.lt
 clear hb1
 have k1 := b1.cell
 have f1 := b1.frozen
 go_wp2
 have y_1 := b1.lt
 refine bodyPost_ret (v := .agg #[.int .i64 (v - far), .int .i64 (v + far)]) (by simp [results, Tryz.results156, go_sem, k1, f1, y_1]) rfl ⟨rfl, by exact belowAny⟩
theorem c_anAround (v far : Int) (w : World) (h0 : 0 <= far) (h1 : far <= 1099511627776) (h2 : -4611686018427387904 <= v) (h3 : v <= 4611686018427387904) :
  Calls Tryz.prog 156 #[v, far] w fun e w' => e = .returned (.agg #[.int .i64 (v - far), .int .i64 (v + far)]) /\ Below w.heap.size w w' :=
 anAround_w v far w fun W _ => c_spAround v far W h0 h1 h2 h3
attribute [local simp] Oper.looksAt Op.operands Call.operands envOf Det GDet
theorem c_recLetter (r : Nat) (w : World) : Calls Tryz.prog 161 #[.int .i32 r] w fun e w' => e = .returned (.bool (letterB r)) /\ Below w.heap.size w w' := by
 go_enter Tryz.func161, Tryz.ntmps161
 go_upto_region 1 with (fail)
 refine wp_facts (fun W' => Below w.heap.size w W' /\ True) ⟨by exact belowAny, trivial⟩ ?_
 rintro W1 ⟨hW, _⟩
 have z2 := hW.size
 refine wp_region_sq 15 17 [] (fun W' => Rex [] W1 W') (by kernel_rfl) rfl (Rex.refl _ _) (fun w w' h0 hr => h0.trans hr) ?_
 iterate 15
  first
  | (
   apply nd_det (hg := rfl) (hal := rfl)
   ·intro a W' hC hE
    obtain _ := hC
    first
     | (simp at hE; simp [go_sem, Act.eval, IntWalk.i64_left, hE]; try rfl)
     | (clear hE; simp [go_sem, Act.eval, IntWalk.i64_left]; try rfl))
  | (
   apply nd_detg (p := true) (hg := rfl) (hd := rfl) (hal := rfl)
   ·intro v W' h
    simp at h
    simp
    exact h
   ·intro hp hx a W' hC hE
    obtain _ := hC
    simp [hx] at hE
    simp [go_sem, Act.eval, IntWalk.i64_left, hE]
    try rfl)
  | (
   apply nd_pick_and (ho := rfl) (hg := rfl)
   ·intro v W' h
    simp at h
    exact h
   ·intro v W' h hx
    simp [hx] at h
    exact h)
  | (
   apply nd_detg (p := _) (hg := rfl) (hd := rfl) (hal := rfl)
   ·intro v W' h
    exact h
   ·intro hp hx a W' hC hE
    obtain _ := hC
    try simp at hp
    try simp at hx
    simp [hp, hx] at hE
    simp [go_sem, Act.eval, IntWalk.i64_left, hE]
    try rfl)
  | (
   apply nd_pickg_and (p := true) (ho := rfl) (hg := rfl) (hd := rfl)
   ·intro v W' h
    simp at h
    simp
    exact h
   ·intro _ hx v W' h
    simp [hx] at h
    exact h
   ·intro _ hx v W' h hy
    simp [hx, hy] at h
    exact h)
  | (
   apply nd_pick_or (ho := rfl) (hg := rfl)
   ·intro v W' h
    simp at h
    exact h
   ·intro v W' h hx
    simp [hx] at h
    exact h)
 rintro W3 hR
 simp only [ndFinR, Det, forall_eq]
 intros
 repeat (rename GDet _ _ _ _ => hgd; clear hgd)
 simp only [Act.put, List.setIfInBounds_toArray, List.set_cons_zero, List.set_cons_succ]
 refine wpList_nil ?_
 replace hW := hW.trans (hR.of_priv hW.size)
 clear hR
 go_wp2
 refine bodyPost_ret (v := .bool ((decide (97 <= (r : Int)) && decide ((r : Int) <= 122)) || (decide (48 <= (r : Int)) && decide ((r : Int) <= 57)))) (by simp [results, Tryz.results161, go_sem]) rfl ⟨?_, by exact belowAny⟩
 congr 2
 unfold letterB
 rw [Bool.eq_iff_iff]
 simp only [Bool.or_eq_true, Bool.and_eq_true, decide_eq_true_eq]
 omega
theorem c_srBtw (n lo hi : Int) (w : World) : Calls Tryz.prog 55 #[n, lo, hi] w fun e w' => e = .returned (.bool (btw n lo hi)) /\ Below w.heap.size w w' := by
 unfold btw
 go_enter Tryz.func55, Tryz.ntmps55
 go_upto_region 1 with (fail)
 refine wp_facts (fun W' => Below w.heap.size w W' /\ True) ⟨by exact belowAny, trivial⟩ ?_
 rintro W1 ⟨hW, _⟩
 have z2 := hW.size
 refine wp_region_sq 9 15 [] (fun W' => Rex [] W1 W') (by kernel_rfl) rfl (Rex.refl _ _) (fun w w' h0 hr => h0.trans hr) ?_
 iterate 4
  apply nd_det (hg := rfl) (hal := rfl)
  ·intro a W' hC hE
   obtain _ := hC
   first
    | (simp at hE; simp [go_sem, Act.eval, IntWalk.i64_left, hE]; try rfl)
    | (clear hE; simp [go_sem, Act.eval, IntWalk.i64_left]; try rfl)
 iterate 3
  apply nd_detg (p := true) (hg := rfl) (hd := rfl) (hal := rfl)
  ·intro v W' h
   simp at h
   simp
   exact h
  ·intro hp hx a W' hC hE
   obtain _ := hC
   simp [hx] at hE
   simp [go_sem, Act.eval, IntWalk.i64_left, hE]
   try rfl
 apply nd_pick_and (ho := rfl) (hg := rfl)
 ·intro v W' h
  simp at h
  exact h
 ·intro v W' h hx
  simp [hx] at h
  exact h
 iterate 1
  apply nd_det (hg := rfl) (hal := rfl)
  ·intro a W' hC hE
   obtain _ := hC
   first
    | (simp at hE; simp [go_sem, Act.eval, IntWalk.i64_left, hE]; try rfl)
    | (clear hE; simp [go_sem, Act.eval, IntWalk.i64_left]; try rfl)
 rintro W3 hR
 simp only [ndFinR, Det, forall_eq]
 intros
 repeat (rename GDet _ _ _ _ => hgd; clear hgd)
 simp only [Act.put, List.setIfInBounds_toArray, List.set_cons_zero, List.set_cons_succ]
 refine wpList_nil ?_
 replace hW := hW.trans (hR.of_priv hW.size)
 clear hR
 go_wp2
 refine bodyPost_ret (v := .bool (decide (lo <= n) && decide (n <= hi))) (by simp [results, Tryz.results55, go_sem]) rfl ⟨rfl, by exact belowAny⟩
theorem c_srScl (n : Int) (w : World) : Calls Tryz.prog 109 #[n] w fun e w' => e = .returned (.bool (btw n (-40) 40)) /\ Below w.heap.size w w' := by
 unfold btw
 go_enter Tryz.func109, Tryz.ntmps109
 go_upto_region 1 with (fail)
 refine wp_facts (fun W' => Below w.heap.size w W' /\ True) ⟨by exact belowAny, trivial⟩ ?_
 rintro W1 ⟨hW, _⟩
 have z2 := hW.size
 refine wp_region_sq 7 9 [] (fun W' => Rex [] W1 W') (by kernel_rfl) rfl (Rex.refl _ _) (fun w w' h0 hr => h0.trans hr) ?_
 iterate 3
  apply nd_det (hg := rfl) (hal := rfl)
  ·intro a W' hC hE
   obtain _ := hC
   first
    | (simp at hE; simp [go_sem, Act.eval, IntWalk.i64_left, hE]; try rfl)
    | (clear hE; simp [go_sem, Act.eval, IntWalk.i64_left]; try rfl)
 iterate 2
  apply nd_detg (p := true) (hg := rfl) (hd := rfl) (hal := rfl)
  ·intro v W' h
   simp at h
   simp
   exact h
  ·intro hp hx a W' hC hE
   obtain _ := hC
   simp [hx] at hE
   simp [go_sem, Act.eval, IntWalk.i64_left, hE]
   try rfl
 apply nd_pick_and (ho := rfl) (hg := rfl)
 ·intro v W' h
  simp at h
  exact h
 ·intro v W' h hx
  simp [hx] at h
  exact h
 iterate 1
  apply nd_det (hg := rfl) (hal := rfl)
  ·intro a W' hC hE
   obtain _ := hC
   first
    | (simp at hE; simp [go_sem, Act.eval, IntWalk.i64_left, hE]; try rfl)
    | (clear hE; simp [go_sem, Act.eval, IntWalk.i64_left]; try rfl)
 rintro W3 hR
 simp only [ndFinR, Det, forall_eq]
 intros
 repeat (rename GDet _ _ _ _ => hgd; clear hgd)
 simp only [Act.put, List.setIfInBounds_toArray, List.set_cons_zero, List.set_cons_succ]
 refine wpList_nil ?_
 replace hW := hW.trans (hR.of_priv hW.size)
 clear hR
 go_wp2
 refine bodyPost_ret (v := .bool (decide (-40 <= n) && decide (n <= 40))) (by simp [results, Tryz.results109, go_sem]) rfl ⟨rfl, by exact belowAny⟩
theorem width_pos (s : ByteArray) (pos : Nat) (h : pos < s.size) : 1 <= (Utf8.decode s pos).2 := by
 by_cases ha : (s[pos]'h).toNat < 128
 ·rw [decode_ascii s pos h ha]
  exact Nat.le_refl _
 ·exact (decode_high s pos h (by omega)).2
def nmRel (w : World) (s : ByteArray) (ok : Bool) (a' : Act) (W : World) : Prop :=
 Below w.heap.size w W /\ ∃ pos f : Nat, (∃ u : Nat -> Value, a' = { tmps := #[.string s, u 1, u 2, .bool ok, u 4, u 5, u 6, u 7, u 8, u 9, u 10, u 11, u 12, u 13, u 14, .pointer (some ⟨w.heap.size, 0, none⟩), u 16, u 17, u 18, u 19, u 20, u 21, u 22], defers := [] }) /\ W.heap[w.heap.size]? = some (.stringIter s pos) /\ s.size <= pos + f /\ lettersB s f pos = lettersB s s.size 0
theorem c_recName (s : ByteArray) (w : World) : Calls Tryz.prog 108 #[.string s] w fun e w' => e = .returned (.bool (nameB s)) /\ Below w.heap.size w w' := by
 go_enter Tryz.func108, Tryz.ntmps108
 go_upto_region 1 with (fail)
 refine wp_scope_straight (wp_seq ?_)
 refine wp_facts (fun W' => Below w.heap.size w W' /\ True) ⟨by exact belowAny, trivial⟩ ?_
 rintro W1 ⟨hW, _⟩
 have z2 := hW.size
 refine wp_region_sq 9 23 [] (fun W' => Rex [] W1 W') (by kernel_rfl) rfl (Rex.refl _ _) (fun w w' h0 hr => h0.trans hr) ?_
 iterate 4
  apply nd_det (hg := rfl) (hal := rfl)
  ·intro a W' hC hE
   obtain _ := hC
   first
    | (simp at hE; simp [go_sem, Act.eval, IntWalk.i64_left, hE]; try rfl)
    | (clear hE; simp [go_sem, Act.eval, IntWalk.i64_left]; try rfl)
 iterate 3
  apply nd_detg (p := true) (hg := rfl) (hd := rfl) (hal := rfl)
  ·intro v W' h
   simp at h
   simp
   exact h
  ·intro hp hx a W' hC hE
   obtain _ := hC
   simp [hx] at hE
   simp [go_sem, Act.eval, IntWalk.i64_left, hE]
   try rfl
 apply nd_pick_and (ho := rfl) (hg := rfl)
 ·intro v W' h
  simp at h
  exact h
 ·intro v W' h hx
  simp [hx] at h
  exact h
 iterate 1
  apply nd_det (hg := rfl) (hal := rfl)
  ·intro a W' hC hE
   obtain _ := hC
   first
    | (simp at hE; simp [go_sem, Act.eval, IntWalk.i64_left, hE]; try rfl)
    | (clear hE; simp [go_sem, Act.eval, IntWalk.i64_left]; try rfl)
 rintro W3 hR
 simp only [ndFinR, Det, forall_eq]
 intros
 repeat (rename GDet _ _ _ _ => hgd; clear hgd)
 simp only [Act.put, List.setIfInBounds_toArray, List.set_cons_zero, List.set_cons_succ]
 refine wpList_nil ?_
 replace hW := hW.trans (hR.of_priv hW.size)
 clear hR
 have hok : (decide (1 <= (s.size : Int)) && decide ((s.size : Int) <= 12)) = decide (1 <= s.size /\ s.size <= 12) := by
  rw [Bool.eq_iff_iff]
  simp only [Bool.and_eq_true, decide_eq_true_eq]
  omega
 rw [hok]
 obtain ⟨ok, ho⟩ : ∃ b, decide (1 <= s.size /\ s.size <= 12) = b := ⟨_, rfl⟩
 rw [ho]
 replace ho := Lib.hid ho
 clear hok
 simp only [Exit.then]
 refine wp_seq (wp_label ?_)
 go_wp2
 refine wp_loop (nmRel W3 s ok) (fun _ W => s.size - W.iterPos W3.heap.size) ?_ ?_
 ·unfold nmRel
  have hit := World.iter_heap W3 s 0
  exact ⟨(Below.refl _ _).alloc (Nat.le_refl _) _, 0, s.size, frame_ex rfl, by simpa using hit, by omega, rfl⟩
 ·rintro a' W ⟨hW0, pos, f, ⟨u, rfl⟩, hit, hf, hlet⟩
  have hz := hW0.size
  have hlt := (Array.getElem?_eq_some_iff.1 hit).1
  by_cases hp : pos < s.size
  ·have hnx : ∀ ty, (Instr.next (.pointer (some ⟨W3.heap.size, 0, none⟩)) true ty).run Tryz.prog W = _ := fun ty => Lib.run_next_any_at W W3.heap.size s pos ty hit hp
   have hwd := width_pos s pos hp
   have hit2 := Lib.iterAt_heap W W3.heap.size s pos (pos + (Utf8.decode s pos).2) hit
   have hbw2 := Lib.below_iterAt hW0 (k := W3.heap.size) (Nat.le_refl _) s (pos + (Utf8.decode s pos).2)
   obtain ⟨f, rfl⟩ : ∃ g, f = g + 1 := ⟨f - 1, by omega⟩
   have hst : lettersB s (f + 1) pos = (letterB (Utf8.decode s pos).1 && lettersB s f (pos + (Utf8.decode s pos).2)) := by simp [lettersB, hp]
   rw [hst] at hlet
   obtain ⟨r, hr⟩ : ∃ r, (Utf8.decode s pos).1 = r := ⟨_, rfl⟩
   obtain ⟨d, hd⟩ : ∃ d, (Utf8.decode s pos).2 = d := ⟨_, rfl⟩
   have hm : s.size - (pos + d) < s.size - W.iterPos W3.heap.size := by
    simp only [World.iterPos, hit]; omega
   rw [hd] at hit2 hbw2 hlet hwd
   rw [hr] at hlet
   simp only [hr, hd] at hnx
   obtain ⟨W4, hW4⟩ : ∃ W4, W.iterAt W3.heap.size s (pos + d) = W4 := ⟨_, rfl⟩
   rw [hW4] at hit2 hbw2
   simp only [hW4] at hnx
   have cl := fun W => c_recLetter r W
   clear hst hr hd hW4 hit hlt
   replace hit2 := Lib.hid hit2
   replace hm := Lib.hid hm
   cases hlb : letterB r with
   | true =>
    rw [hlb] at cl hlet
    replace cl := Lib.hid cl
    replace hlet := Lib.hid hlet
    clear hlb
    go_wp2_with fail
    refine (cl.out _).mono ?_
    rintro e w5 ⟨rfl, hb5⟩
    have hit5 := Lib.hid ((hb5.block _ (Array.getElem?_eq_some_iff.1 hit2.out).1).trans hit2.out)
    go_wp2
    refine ⟨?_, by simp only [World.iterPos, hit5.out]; exact hm.out⟩
    unfold nmRel
    exact ⟨hbw2.trans (hb5.mono hbw2.size), pos + d, f, frame_ex rfl, hit5.out, by omega, by rw [<- hlet.out]; rfl⟩
   | false =>
    rw [hlb] at cl hlet
    replace cl := Lib.hid cl
    have hno := Lib.hid (show nameB s = false by unfold nameB; rw [<- hlet]; simp)
    clear hlb hlet
    go_wp2_with fail
    refine (cl.out _).mono ?_
    rintro e w5 ⟨rfl, hb5⟩
    go_wp2
    simp only [Exit.noGoto]
    go_ret
    exact ⟨by rw [hno.out]; rfl, hW.trans ((hbw2.trans (hb5.mono hbw2.size)).mono hW.size)⟩
  ·have hnx : ∀ ty, (Instr.next (.pointer (some ⟨W3.heap.size, 0, none⟩)) true ty).run Tryz.prog W = _ := fun ty => Lib.run_next_end_at W W3.heap.size s pos ty hit hp
   have hall := Lib.hid (show nameB s = ok by
    unfold nameB
    rw [<- hlet, ho.out]
    cases f with
    | zero => simp [lettersB]
    | succ f => simp [lettersB, hp])
   clear hlet
   go_wp2
   simp only [Exit.noGoto]
   go_ret
   exact ⟨by rw [hall.out]; rfl, hW.trans (hW0.mono hW.size)⟩
theorem c_srNums (nm : ByteArray) (ep fl la sc : Int) (ps po : Option Addr) (ns cs no co : Nat) (w : World) :
  Calls Tryz.prog 52 #[.agg #[.string nm, ep, fl, la, sc, .slice ps ns cs, .slice po no co]] w fun e w' => e = .returned (.bool (nameB nm && btw ep 0 1099511627776 && btw sc (-40) 40 && btw fl 0 281474976710656 && btw la (-1) 281474976710656)) /\ Below w.heap.size w w' := by
 go_enter Tryz.func52, Tryz.ntmps52
 go_upto_region 1 with (fail)
 refine wp_facts (fun W' => Below w.heap.size w W' /\ Blk W' w.heap.size #[.string nm, ep, fl, la, sc, .slice ps ns cs, .slice po no co] 25) ⟨by exact belowAny, by exact blkAny2⟩ ?_
 rintro W1 ⟨hW, b1⟩
 have z2 := hW.size
 have z3 := b1.lt
 refine wp_region_sq 24 26 [] (fun W' => Rex [] W1 W' /\ Blk W' w.heap.size #[.string nm, ep, fl, la, sc, .slice ps ns cs, .slice po no co] 25) (by kernel_rfl) rfl ⟨(Rex.refl _ _), b1⟩ (fun w w' ⟨h0, h1⟩ hr => ⟨h0.trans hr, h1.rex hr (by simp <;> omega)⟩) ?_
 iterate 2
  apply nd_det (hg := rfl) (hal := rfl)
  ·intro a W' hC hE
   obtain ⟨_, k1⟩ := hC
   have k1 := k1.cell
   first
    | (simp at hE; simp [go_sem, Act.eval, IntWalk.i64_left, hE, k1]; try rfl)
    | (clear hE; simp [go_sem, Act.eval, IntWalk.i64_left, k1]; try rfl)
 refine nd_callv2 rfl rfl (fun W' hC => c_recName nm W') (fun a W' hC hE => ?_) ?_
 ·obtain ⟨_, k1⟩ := hC
  have k1 := k1.cell
  first
   | (simp at hE; simp [go_sem, Act.eval, IntWalk.i64_left, hE, k1]; try rfl)
   | (clear hE; simp [go_sem, Act.eval, IntWalk.i64_left, k1]; try rfl)
 iterate 1
  apply nd_det (hg := rfl) (hal := rfl)
  ·intro a W' hC hE
   obtain ⟨_, k1⟩ := hC
   have k1 := k1.cell
   first
    | (simp at hE; simp [go_sem, Act.eval, IntWalk.i64_left, hE, k1]; try rfl)
    | (clear hE; simp [go_sem, Act.eval, IntWalk.i64_left, k1]; try rfl)
 iterate 2
  apply nd_detg (p := true) (hg := rfl) (hd := rfl) (hal := rfl)
  ·intro v W' h
   simp at h
   simp
   exact h
  ·intro hp hx a W' hC hE
   obtain ⟨_, k1⟩ := hC
   have k1 := k1.cell
   simp [hx] at hE
   simp [go_sem, Act.eval, IntWalk.i64_left, hE, k1]
   try rfl
 apply nd_callvg2 (p := true) (hg := rfl) (hd := rfl) (hal := rfl)
 ·intro v W' h
  simp at h
  simp
  exact h
 ·intro hp hx W' hC
  exact c_srBtw ep 0 1099511627776 W'
 ·intro hp hx a W' hC hE
  obtain ⟨_, k1⟩ := hC
  have k1 := k1.cell
  first
   | (simp [hx] at hE; simp [go_sem, Act.eval, IntWalk.i64_left, hE, k1]; try rfl)
   | (clear hE; simp [go_sem, Act.eval, IntWalk.i64_left, k1]; try rfl)
 apply nd_pick_and (ho := rfl) (hg := rfl)
 ·intro v W' h
  simp at h
  exact h
 ·intro v W' h hx
  simp [hx] at h
  exact h
 iterate 1
  apply nd_det (hg := rfl) (hal := rfl)
  ·intro a W' hC hE
   obtain ⟨_, k1⟩ := hC
   have k1 := k1.cell
   first
    | (simp at hE; simp [go_sem, Act.eval, IntWalk.i64_left, hE, k1]; try rfl)
    | (clear hE; simp [go_sem, Act.eval, IntWalk.i64_left, k1]; try rfl)
 iterate 2
  apply nd_detg (p := true) (hg := rfl) (hd := rfl) (hal := rfl)
  ·intro v W' h
   simp at h
   simp
   exact h
  ·intro hp hx a W' hC hE
   obtain ⟨_, k1⟩ := hC
   have k1 := k1.cell
   simp [hx] at hE
   simp [go_sem, Act.eval, IntWalk.i64_left, hE, k1]
   try rfl
 apply nd_callvg2 (p := true) (hg := rfl) (hd := rfl) (hal := rfl)
 ·intro v W' h
  simp at h
  simp
  exact h
 ·intro hp hx W' hC
  exact c_srScl sc W'
 ·intro hp hx a W' hC hE
  obtain ⟨_, k1⟩ := hC
  have k1 := k1.cell
  first
   | (simp [hx] at hE; simp [go_sem, Act.eval, IntWalk.i64_left, hE, k1]; try rfl)
   | (clear hE; simp [go_sem, Act.eval, IntWalk.i64_left, k1]; try rfl)
 apply nd_pick_and (ho := rfl) (hg := rfl)
 ·intro v W' h
  simp at h
  exact h
 ·intro v W' h hx
  simp [hx] at h
  exact h
 iterate 1
  apply nd_det (hg := rfl) (hal := rfl)
  ·intro a W' hC hE
   obtain ⟨_, k1⟩ := hC
   have k1 := k1.cell
   first
    | (simp at hE; simp [go_sem, Act.eval, IntWalk.i64_left, hE, k1]; try rfl)
    | (clear hE; simp [go_sem, Act.eval, IntWalk.i64_left, k1]; try rfl)
 iterate 2
  apply nd_detg (p := true) (hg := rfl) (hd := rfl) (hal := rfl)
  ·intro v W' h
   simp at h
   simp
   exact h
  ·intro hp hx a W' hC hE
   obtain ⟨_, k1⟩ := hC
   have k1 := k1.cell
   simp [hx] at hE
   simp [go_sem, Act.eval, IntWalk.i64_left, hE, k1]
   try rfl
 apply nd_callvg2 (p := true) (hg := rfl) (hd := rfl) (hal := rfl)
 ·intro v W' h
  simp at h
  simp
  exact h
 ·intro hp hx W' hC
  exact c_srBtw fl 0 281474976710656 W'
 ·intro hp hx a W' hC hE
  obtain ⟨_, k1⟩ := hC
  have k1 := k1.cell
  first
   | (simp [hx] at hE; simp [go_sem, Act.eval, IntWalk.i64_left, hE, k1]; try rfl)
   | (clear hE; simp [go_sem, Act.eval, IntWalk.i64_left, k1]; try rfl)
 apply nd_pick_and (ho := rfl) (hg := rfl)
 ·intro v W' h
  simp at h
  exact h
 ·intro v W' h hx
  simp [hx] at h
  exact h
 iterate 1
  apply nd_det (hg := rfl) (hal := rfl)
  ·intro a W' hC hE
   obtain ⟨_, k1⟩ := hC
   have k1 := k1.cell
   first
    | (simp at hE; simp [go_sem, Act.eval, IntWalk.i64_left, hE, k1]; try rfl)
    | (clear hE; simp [go_sem, Act.eval, IntWalk.i64_left, k1]; try rfl)
 iterate 2
  apply nd_detg (p := true) (hg := rfl) (hd := rfl) (hal := rfl)
  ·intro v W' h
   simp at h
   simp
   exact h
  ·intro hp hx a W' hC hE
   obtain ⟨_, k1⟩ := hC
   have k1 := k1.cell
   simp [hx] at hE
   simp [go_sem, Act.eval, IntWalk.i64_left, hE, k1]
   try rfl
 apply nd_callvg2 (p := true) (hg := rfl) (hd := rfl) (hal := rfl)
 ·intro v W' h
  simp at h
  simp
  exact h
 ·intro hp hx W' hC
  exact c_srBtw la (-1) 281474976710656 W'
 ·intro hp hx a W' hC hE
  obtain ⟨_, k1⟩ := hC
  have k1 := k1.cell
  first
   | (simp [hx] at hE; simp [go_sem, Act.eval, IntWalk.i64_left, hE, k1]; try rfl)
   | (clear hE; simp [go_sem, Act.eval, IntWalk.i64_left, k1]; try rfl)
 apply nd_pick_and (ho := rfl) (hg := rfl)
 ·intro v W' h
  simp at h
  exact h
 ·intro v W' h hx
  simp [hx] at h
  exact h
 iterate 1
  apply nd_det (hg := rfl) (hal := rfl)
  ·intro a W' hC hE
   obtain ⟨_, k1⟩ := hC
   have k1 := k1.cell
   first
    | (simp at hE; simp [go_sem, Act.eval, IntWalk.i64_left, hE, k1]; try rfl)
    | (clear hE; simp [go_sem, Act.eval, IntWalk.i64_left, k1]; try rfl)
 rintro W4 ⟨hR, d1⟩
 simp only [ndFinR, Det, forall_eq]
 intros
 repeat (rename GDet _ _ _ _ => hgd; clear hgd)
 simp only [Act.put, List.setIfInBounds_toArray, List.set_cons_zero, List.set_cons_succ]
 refine wpList_nil ?_
 replace hW := hW.trans (hR.of_priv hW.size)
 clear hR
 try clear b1
 have b1 := d1
 clear d1
 go_wp2
 have y_1 := b1.lt
 refine bodyPost_ret (v := .bool (nameB nm && btw ep 0 1099511627776 && btw sc (-40) 40 && btw fl 0 281474976710656 && btw la (-1) 281474976710656)) (by simp [results, Tryz.results52, go_sem, y_1]) rfl ⟨rfl, by exact belowAny⟩
end Go.Proofs.YtidfcoooccblaaaGreat
