/- Parts of the proof that follows: Layer runs: pieces, Pieces. | Layer runs: Pieces. | Layer seg: numbers in a row; the least, the greatest, whether all may be told. | Layer seg: span, lineIs, the kinds of lines. | Layer seg: rawIs, kinds, is. -/
import Derived.Test.YtbanjolokkghdaaGreatDoorWz8
set_option linter.unusedSimpArgs false
set_option linter.unusedVariables false
namespace Go.Proofs.YtbanjolokkghdaaGreatDoor
open Go.RowKit
theorem Blk.three {W : World} {g n : Nat} {L : List RunT} {t : TypeId} (h : Blk W g (runCells L) t) (hn : n < L.length) :
    ∃ a b c, W.cell? ⟨g, n * 3, none⟩ = some a ∧ W.cell? ⟨g, n * 3 + 1, none⟩ = some b ∧ W.cell? ⟨g, n * 3 + 2, none⟩ = some c := by
  obtain ⟨a, b, c⟩ := flat_at L n _ (List.getElem?_eq_getElem hn)
  have k := h.cell
  exact ⟨.int .i64 L[n].f, .int .i64 L[n].s, .int .i64 L[n].c, by rw [k]; simpa [runCells] using a, by rw [k]; simpa [runCells] using b, by rw [k]; simpa [runCells] using c⟩
def piecesRel (p : Option Addr) (cap : Nat) (l : List RunT) (i j : Int) (w : World) (a' : Act) (W : World) : Prop :=
  Below w.heap.size w W ∧ ∃ k : Nat, (∃ u : Nat → Value, a' = { tmps := #[(.slice p l.length cap), .int .i64 (i - cnt (l.take k)), .int .i64 (j - cnt (l.take k)), u 3, u 4, u 5, u 6, .slice (some ⟨w.heap.size, 0, none⟩) l.length l.length, .int .i64 ((piecesL (l.take k) i j).length : Int), u 9, u 10, u 11, u 12, u 13, u 14, u 15, u 16, u 17, u 18, (.slice p l.length cap), .int .i64 (l.length : Int), .int .i64 (k : Int), u 22, u 23, u 24, u 25, u 26, u 27, u 28, u 29, u 30, u 31, u 32, u 33, u 34, u 35, u 36, u 37, u 38, u 39, u 40, u 41, u 42, u 43, u 44, u 45, u 46, u 47, u 48, u 49, u 50, u 51, u 52, u 53, u 54, u 55, u 56, u 57, u 58, u 59, u 60, u 61, u 62, u 63, u 64], defers := [] }) ∧ k ≤ l.length ∧ Blk W w.heap.size (runCells (piecesL (l.take k) i j ++ l.drop (piecesL (l.take k) i j).length)) 94
end Go.Proofs.YtbanjolokkghdaaGreatDoor
namespace Go.Proofs.YtbanjolokkghdaaGreatDoor
open Go.RowKit
/-- The pieces of a row in a block of their own. -/
def PiecesOut (w : World) (l : List RunT) (v : Value) (w' : World) : Prop := ∃ g, v = .slice (some ⟨g, 0, none⟩) l.length l.length ∧ w.heap.size ≤ g ∧ RunsIn w' (some ⟨g, 0, none⟩) l
end Go.Proofs.YtbanjolokkghdaaGreatDoor
namespace Go.Proofs.YtbanjolokkghdaaGreatDoor
open Go.RowKit
/-- The slice p holds just these numbers. -/
structure IntsIn (w : World) (p : Option Addr) (l : List Int) : Prop where
  at' : ∀ (i : Nat) (x : Int), l[i]? = some x → ∃ b o, p = some ⟨b, o, none⟩ ∧ w.cell? ⟨b, o + i, none⟩ = some (.int .i64 x)
theorem IntsIn.below {w w' : World} {p : Option Addr} {l : List Int} (h : IntsIn w p l) (hb : Below w.heap.size w w') : IntsIn w' p l := ⟨fun i r hr => by
  obtain ⟨b, o, e, h1⟩ := h.at' i r hr
  have hB := (bcell hb).1
  exact ⟨b, o, e, (hB b _ (cell_lt h1)).trans h1⟩⟩
theorem IntsIn.drew {w : World} {p : Option Addr} {l : List Int} (h : IntsIn w p l) : IntsIn w.drew p l := ⟨h.at'⟩
def minL : List Int → Int
  | [] => 0
  | x :: l => l.foldl mn x
def maxL : List Int → Int
  | [] => 0
  | x :: l => l.foldl mx x
def minRel (p : Option Addr) (cap : Nat) (l : List Int) (w : World) (a' : Act) (W : World) : Prop :=
  Below w.heap.size w W ∧ ∃ (i : Nat) (m : Int), (∃ u : Nat → Value, a' = { tmps := #[(.slice p l.length cap), u 1, u 2, .int .i64 m, .int .i64 (i : Int), u 5, u 6, u 7, u 8, u 9, u 10, u 11, u 12, u 13, u 14, u 15, u 16, u 17, u 18, u 19, u 20, u 21, u 22, u 23, u 24], defers := [] }) ∧ 1 ≤ i ∧ i ≤ l.length ∧ m = minL (l.take i)
def maxRel (p : Option Addr) (cap : Nat) (l : List Int) (w : World) (a' : Act) (W : World) : Prop :=
  Below w.heap.size w W ∧ ∃ (i : Nat) (m : Int), (∃ u : Nat → Value, a' = { tmps := #[(.slice p l.length cap), u 1, u 2, .int .i64 m, .int .i64 (i : Int), u 5, u 6, u 7, u 8, u 9, u 10, u 11, u 12, u 13, u 14, u 15, u 16, u 17, u 18, u 19, u 20, u 21, u 22, u 23, u 24], defers := [] }) ∧ 1 ≤ i ∧ i ≤ l.length ∧ m = maxL (l.take i)
set_option maxRecDepth 100000 in
set_option maxHeartbeats 2000000 in
theorem c_sback (v : Int) (w : World) : Calls Tryz.prog 172 #[.int .i64 v] w fun e w' => e = .returned (.bool (isBack v)) ∧ Below w.heap.size w w' := by
  unfold isBack
  go_enter Tryz.func172, Tryz.ntmps172
  go_upto_region 1 with (fail)
  refine wp_cutB w (Bz) ?_
  rintro W1 hW z2 hL
  refine wp_regS 7 9 hW hL ?_
  iterate 3 refine dA ?_
  iterate 2 refine gA ?_
  refine pA ?_
  refine dA ?_
  clear hW hL
  rintro W3 hW z4 hL
  simp only [ndR]
  intros
  repeat (rename GDet _ _ _ _ => hgd; clear hgd)
  simp only [ndS]
  refine wpList_nil ?_
  obtain ⟨-⟩ := hL
  go_wp2
  refine bodyPost_ret (by simp [results, Tryz.results172, go_sem]) rfl ⟨rfl, by exact belowAny⟩
set_option maxRecDepth 100000 in
set_option maxHeartbeats 2000000 in
theorem c_rawis1 (v : Int) (w : World) : Calls Tryz.prog 196 #[.int .i64 v] w fun e w' => e = .returned (.bool (!isBack v)) ∧ Below w.heap.size w w' := by
  have c1 := fun W => c_sback v W
  have H_c1 := Lib.hid c1
  clear c1
  go_enter Tryz.func196, Tryz.ntmps196
  go_wp2_with fail
  refine (H_c1.out _).mono ?_
  rintro e w1 ⟨rfl, hb1⟩
  have z2 := hb1.size
  try simp at z2
  refine haveB w w1 (Bz) ?_
  rintro hW z3 ⟨-⟩
  clear hb1
  go_wp2
  refine bodyPost_ret (by simp [results, Tryz.results196, go_sem]) rfl ⟨rfl, by exact belowAny⟩
def idxRel (p : Option Addr) (cap : Nat) (l : List Int) (w : World) (a' : Act) (W : World) : Prop :=
  Below w.heap.size w W ∧ ∃ i : Nat, (∃ u : Nat → Value, a' = { tmps := #[(.slice p l.length cap), .func (.func 196) #[] #[], u 2, u 3, u 4, u 5, (.slice p l.length cap), .int .i64 (l.length : Int), .int .i64 (i : Int), u 9, u 10, u 11, u 12, u 13, u 14, u 15, u 16, u 17, u 18], defers := [] }) ∧ i ≤ l.length ∧ (l.take i).all isBack = true
def IdxOut (l : List Int) (w : World) (e : Ending) (w' : World) : Prop := ∃ r : Int, e = .returned (.int .i64 r) ∧ decide (0 ≤ r) = !(l.all isBack) ∧ -1 ≤ r ∧ Below w.heap.size w w'
theorem all_take {l : List Int} {i : Nat} {v : Int} (hv : l[i]? = some v) (h : (l.take i).all isBack = true) : (l.take (i + 1)).all isBack = isBack v := by
  rw [List.getElem?_eq_some_iff] at hv
  obtain ⟨hi, rfl⟩ := hv
  rw [List.take_succ_eq_append_getElem hi, List.all_append, h]
  simp
theorem all_false {l : List Int} {i : Nat} {v : Int} (hv : l[i]? = some v) (h : isBack v = false) : l.all isBack = false := by
  rw [List.all_eq_false]
  exact ⟨v, List.mem_of_getElem? hv, by simp [h]⟩
set_option maxRecDepth 100000 in
set_option maxHeartbeats 2000000 in
theorem index_w (p : Option Addr) (cap : Nat) (l : List Int) (w : World) (hlen : l.length ≤ 1000000) (h : IntsIn w p l) :
    Calls Tryz.prog 239 #[.slice p l.length cap, .func (.func 196) #[] #[]] w (IdxOut l w) := by
  go_enter Tryz.func239, Tryz.ntmps239
  go_wp2
  refine wp_loop (idxRel p cap l w) (fun a' _ => l.length - (intAt (a'.tmps.getD 8 undef)).toNat) ?_ ?_
  · unfold idxRel
    exact ⟨belowAny, 0, frame_ex rfl, by omega, by simp⟩
  · rintro a' W ⟨hW, i, ⟨u, rfl⟩, hi, hm⟩
    have hz := hW.size
    replace hm := Lib.hid hm
    rcases Nat.lt_or_ge i l.length with hlt | hge
    · obtain ⟨v, hv⟩ : ∃ v, l[i]? = some v := ⟨l[i], List.getElem?_eq_getElem hlt⟩
      obtain ⟨b', o', e, k1⟩ := (h.below hW).at' i v hv
      cases e
      have hn := Lib.hid (all_take hv hm.out)
      replace hv := Lib.hid hv
      go_wp2_with fail
      refine (c_rawis1 v _).mono ?_
      rintro e w4 ⟨rfl, hb4⟩
      have hz4 := hb4.size
      clear k1
      cases hb : isBack v with
      | true =>
        rw [hb] at hn
        go_wp2
        rw [show (i : Int) + 1 = ((i + 1 : Nat) : Int) by omega]
        refine ⟨?_, by simp [intAt]; omega⟩
        unfold idxRel
        exact ⟨belowAny, i + 1, frame_ex rfl, by omega, hn.out⟩
      | false =>
        have hf := Lib.hid (all_false hv.out hb)
        clear hn
        go_wp2
        go_ret
        exact ⟨_, rfl, by rw [hf.out]; simp, by omega, belowAny⟩
    · have e : i = l.length := by omega
      subst e
      have hm' := hm.out
      rw [List.take_length] at hm'
      replace hm' := Lib.hid hm'
      clear hm
      go_wp2
      go_ret
      exact ⟨_, rfl, by rw [hm'.out]; simp, by omega, hW⟩
set_option maxRecDepth 100000 in
set_option maxHeartbeats 2000000 in
theorem c_contains (p : Option Addr) (cap : Nat) (l : List Int) (w : World) (hlen : l.length ≤ 1000000) (h : IntsIn w p l) :
    Calls Tryz.prog 195 #[.slice p l.length cap, .func (.func 196) #[] #[]] w fun e w' => e = .returned (.bool (!(l.all isBack))) ∧ Below w.heap.size w w' := by
  go_enter Tryz.func195, Tryz.ntmps195
  go_wp2_with fail
  refine (index_w p cap l _ hlen h).mono ?_
  rintro e w4 ⟨r, rfl, hr, hr1, hb4⟩
  have hr' := Lib.hid hr
  clear hr
  go_wp2
  go_ret
  exact ⟨by rw [← hr'.out]; rfl, hb4⟩
end Go.Proofs.YtbanjolokkghdaaGreatDoor
namespace Go.Proofs.YtbanjolokkghdaaGreatDoor
open Go.RowKit
set_option maxRecDepth 100000 in
set_option maxHeartbeats 2000000 in
theorem span_w (K A R n d E : Int) (p q : Option Addr) (len cap m vc : Nat) (w : World) (x y N : Int) (hx : 0 ≤ x ∧ x ≤ 281474976710656) (hy : 0 ≤ y ∧ y ≤ 281474976710656) (hN : 0 ≤ N ∧ N ≤ 256)
    (c1 : ∀ W, Below w.heap.size w W → Calls Tryz.prog 191 #[.slice p len cap, .int .i64 0] W fun e w' => e = .returned (.tuple #[.int .i64 x, .int .i64 0]) ∧ Below W.heap.size W w')
    (c2 : ∀ W, Below w.heap.size w W → Calls Tryz.prog 171 #[.slice p len cap] W fun e w' => e = .returned (.int .i64 N) ∧ Below W.heap.size W w')
    (c3 : ∀ W, Below w.heap.size w W → Calls Tryz.prog 191 #[.slice p len cap, .int .i64 (N - 1)] W fun e w' => e = .returned (.tuple #[.int .i64 y, .int .i64 0]) ∧ Below W.heap.size W w') :
    Calls Tryz.prog 189 #[.agg #[.int .i64 K, .slice p len cap, .int .i64 A, .int .i64 R, .int .i64 n, .int .i64 d, .slice q m vc, .int .i64 E]] w fun e w' => e = .returned (.tuple #[.int .i64 x, .int .i64 (y - x)]) ∧ Below w.heap.size w w' := by
  have e1 := Lib.hid (show wrap64 (N - 1) = N - 1 by rw [wrap64_eq]; omega)
  have H_c1 := Lib.hid c1
  clear c1
  have H_c2 := Lib.hid c2
  clear c2
  have H_c3 := Lib.hid c3
  clear c3
  go_enter Tryz.func189, Tryz.ntmps189
  go_upto_region 1 with (fail)
  refine wp_cutB w (Bc w.heap.size #[.int .i64 K, .slice p len cap, .int .i64 A, .int .i64 R, .int .i64 n, .int .i64 d, .slice q m vc, .int .i64 E] 113 <| Bz) ?_
  rintro W1 hW z2 ⟨⟨b1, yb1, k1, f1⟩, -⟩
  go_wp2_with fail
  refine (H_c1.out _ (belowAny)).mono ?_
  rintro e w3 ⟨rfl, hb3⟩
  have z4 := hb3.size
  try simp at z4
  clear k1 f1
  refine haveB w w3 (Bc w.heap.size #[.int .i64 K, .slice p len cap, .int .i64 A, .int .i64 R, .int .i64 n, .int .i64 d, .slice q m vc, .int .i64 E] 113 <| Bz) ?_
  clear b1 hW
  rintro hW z5 ⟨⟨b1, yb1, k1, f1⟩, -⟩
  clear hb3
  go_upto_region 2 with (fail)
  clear k1 f1
  refine wp_cutB w (Bc w.heap.size #[.int .i64 K, .slice p len cap, .int .i64 A, .int .i64 R, .int .i64 n, .int .i64 d, .slice q m vc, .int .i64 E] 113 <| Bz) ?_
  clear b1 hW
  rintro W6 hW z7 hL
  refine wp_regD 14 31 hW hL ?_
  iterate 6 refine dE (fun W' hC => e1.out) ?_
  refine cE (fun W' hC => e1.out) (fun W' hC => H_c2.out W' (hW.trans (hC.1.of_priv hW.size))) ?_
  refine dE (fun W' hC => e1.out) ?_
  refine cE (fun W' hC => e1.out) (fun W' hC => H_c3.out W' (hW.trans (hC.1.of_priv hW.size))) ?_
  iterate 5 refine dE (fun W' hC => e1.out) ?_
  clear hW hL
  rintro W8 hW z9 hL
  simp only [ndR]
  intros
  simp only [ndS]
  refine wpList_nil ?_
  obtain ⟨⟨b1, yb1, k1, f1⟩, -⟩ := hL
  go_wp2
  refine bodyPost_ret (by simp [results, Tryz.results189, go_sem, k1, f1, yb1]) rfl ⟨rfl, by exact belowAny⟩
set_option maxRecDepth 100000 in
set_option maxHeartbeats 2000000 in
theorem lineis_yes (K A R n d E : Int) (p q : Option Addr) (len cap m vc : Nat) (w : World) (x L a b : Int) 
    (c1 : ∀ W, Below w.heap.size w W → Calls Tryz.prog 189 #[.agg #[.int .i64 K, .slice p len cap, .int .i64 A, .int .i64 R, .int .i64 n, .int .i64 d, .slice q 0 vc, .int .i64 E]] W fun e w' => e = .returned (.tuple #[.int .i64 x, .int .i64 L]) ∧ Below W.heap.size W w')
    (c2 : ∀ W, Below w.heap.size w W → Calls Tryz.prog 190 #[.agg #[.int .i64 A, .int .i64 R, .int .i64 n, .int .i64 d], .int .i64 0, .int .i64 L] W fun e w' => e = .returned (.tuple #[.agg #[.int .i64 a, .int .i64 b], .int .i64 0]) ∧ Below W.heap.size W w') :
    Calls Tryz.prog 138 #[.agg #[.int .i64 K, .slice p len cap, .int .i64 A, .int .i64 R, .int .i64 n, .int .i64 d, .slice q 0 vc, .int .i64 E]] w fun e w' => e = .returned (.bool true) ∧ Below w.heap.size w w' := by
  have H_c1 := Lib.hid c1
  clear c1
  have H_c2 := Lib.hid c2
  clear c2
  go_enter Tryz.func138, Tryz.ntmps138
  go_upto_region 1 with (fail)
  refine wp_cutB w (Bc w.heap.size #[.int .i64 K, .slice p len cap, .int .i64 A, .int .i64 R, .int .i64 n, .int .i64 d, .slice q 0 vc, .int .i64 E] 113 <| Bz) ?_
  rintro W1 hW z2 ⟨⟨b1, yb1, k1, f1⟩, -⟩
  go_wp2_with fail
  refine (H_c1.out _ (belowAny)).mono ?_
  rintro e w3 ⟨rfl, hb3⟩
  have z4 := hb3.size
  try simp at z4
  clear k1 f1
  refine haveB w w3 (Bc w.heap.size #[.int .i64 K, .slice p len cap, .int .i64 A, .int .i64 R, .int .i64 n, .int .i64 d, .slice q 0 vc, .int .i64 E] 113 <| Bz) ?_
  clear b1 hW
  rintro hW z5 ⟨⟨b1, yb1, k1, f1⟩, -⟩
  clear hb3
  go_wp2_with fail
  refine (H_c2.out _ (belowAny)).mono ?_
  rintro e w6 ⟨rfl, hb6⟩
  have z7 := hb6.size
  try simp at z7
  clear k1 f1
  refine haveB w w6 (Bc w.heap.size #[.int .i64 K, .slice p len cap, .int .i64 A, .int .i64 R, .int .i64 n, .int .i64 d, .slice q 0 vc, .int .i64 E] 113 <| Bz) ?_
  clear b1 hW
  rintro hW z8 ⟨⟨b1, yb1, k1, f1⟩, -⟩
  clear hb6
  go_wp2
  refine bodyPost_ret (by simp [results, Tryz.results138, go_sem, k1, f1, yb1]) rfl ⟨rfl, by exact belowAny⟩

set_option maxRecDepth 100000 in
set_option maxHeartbeats 2000000 in
theorem lineis_raw (K A R n d E : Int) (p q : Option Addr) (len cap m vc : Nat) (w : World) (x L a b : Int) (hm : ¬ m = 0)
    (c1 : ∀ W, Below w.heap.size w W → Calls Tryz.prog 189 #[.agg #[.int .i64 K, .slice p len cap, .int .i64 A, .int .i64 R, .int .i64 n, .int .i64 d, .slice q m vc, .int .i64 E]] W fun e w' => e = .returned (.tuple #[.int .i64 x, .int .i64 L]) ∧ Below W.heap.size W w')
    (c2 : ∀ W, Below w.heap.size w W → Calls Tryz.prog 190 #[.agg #[.int .i64 A, .int .i64 R, .int .i64 n, .int .i64 d], .int .i64 0, .int .i64 L] W fun e w' => e = .returned (.tuple #[.agg #[.int .i64 a, .int .i64 b], .int .i64 0]) ∧ Below W.heap.size W w') :
    Calls Tryz.prog 138 #[.agg #[.int .i64 K, .slice p len cap, .int .i64 A, .int .i64 R, .int .i64 n, .int .i64 d, .slice q m vc, .int .i64 E]] w fun e w' => e = .returned (.bool false) ∧ Below w.heap.size w w' := by
  have H_c1 := Lib.hid c1
  clear c1
  have H_c2 := Lib.hid c2
  clear c2
  go_enter Tryz.func138, Tryz.ntmps138
  go_upto_region 1 with (fail)
  refine wp_cutB w (Bc w.heap.size #[.int .i64 K, .slice p len cap, .int .i64 A, .int .i64 R, .int .i64 n, .int .i64 d, .slice q m vc, .int .i64 E] 113 <| Bz) ?_
  rintro W1 hW z2 ⟨⟨b1, yb1, k1, f1⟩, -⟩
  go_wp2_with fail
  refine (H_c1.out _ (belowAny)).mono ?_
  rintro e w3 ⟨rfl, hb3⟩
  have z4 := hb3.size
  try simp at z4
  clear k1 f1
  refine haveB w w3 (Bc w.heap.size #[.int .i64 K, .slice p len cap, .int .i64 A, .int .i64 R, .int .i64 n, .int .i64 d, .slice q m vc, .int .i64 E] 113 <| Bz) ?_
  clear b1 hW
  rintro hW z5 ⟨⟨b1, yb1, k1, f1⟩, -⟩
  clear hb3
  go_wp2_with fail
  refine (H_c2.out _ (belowAny)).mono ?_
  rintro e w6 ⟨rfl, hb6⟩
  have z7 := hb6.size
  try simp at z7
  clear k1 f1
  refine haveB w w6 (Bc w.heap.size #[.int .i64 K, .slice p len cap, .int .i64 A, .int .i64 R, .int .i64 n, .int .i64 d, .slice q m vc, .int .i64 E] 113 <| Bz) ?_
  clear b1 hW
  rintro hW z8 ⟨⟨b1, yb1, k1, f1⟩, -⟩
  clear hb6
  go_wp2
  refine bodyPost_ret (by simp [results, Tryz.results138, go_sem, k1, f1, yb1, hm]) rfl ⟨rfl, by exact belowAny⟩

set_option maxRecDepth 100000 in
set_option maxHeartbeats 2000000 in
theorem lineis_over (K A R n d E : Int) (p q : Option Addr) (len cap m vc : Nat) (w : World) (x L a b : Int) 
    (c1 : ∀ W, Below w.heap.size w W → Calls Tryz.prog 189 #[.agg #[.int .i64 K, .slice p len cap, .int .i64 A, .int .i64 R, .int .i64 n, .int .i64 d, .slice q m vc, .int .i64 E]] W fun e w' => e = .returned (.tuple #[.int .i64 x, .int .i64 L]) ∧ Below W.heap.size W w')
    (c2 : ∀ W, Below w.heap.size w W → Calls Tryz.prog 190 #[.agg #[.int .i64 A, .int .i64 R, .int .i64 n, .int .i64 d], .int .i64 0, .int .i64 L] W fun e w' => e = .returned (.tuple #[.agg #[.int .i64 a, .int .i64 b], .int .i64 5]) ∧ Below W.heap.size W w') :
    Calls Tryz.prog 138 #[.agg #[.int .i64 K, .slice p len cap, .int .i64 A, .int .i64 R, .int .i64 n, .int .i64 d, .slice q m vc, .int .i64 E]] w fun e w' => e = .returned (.bool false) ∧ Below w.heap.size w w' := by
  have H_c1 := Lib.hid c1
  clear c1
  have H_c2 := Lib.hid c2
  clear c2
  go_enter Tryz.func138, Tryz.ntmps138
  go_upto_region 1 with (fail)
  refine wp_cutB w (Bc w.heap.size #[.int .i64 K, .slice p len cap, .int .i64 A, .int .i64 R, .int .i64 n, .int .i64 d, .slice q m vc, .int .i64 E] 113 <| Bz) ?_
  rintro W1 hW z2 ⟨⟨b1, yb1, k1, f1⟩, -⟩
  go_wp2_with fail
  refine (H_c1.out _ (belowAny)).mono ?_
  rintro e w3 ⟨rfl, hb3⟩
  have z4 := hb3.size
  try simp at z4
  clear k1 f1
  refine haveB w w3 (Bc w.heap.size #[.int .i64 K, .slice p len cap, .int .i64 A, .int .i64 R, .int .i64 n, .int .i64 d, .slice q m vc, .int .i64 E] 113 <| Bz) ?_
  clear b1 hW
  rintro hW z5 ⟨⟨b1, yb1, k1, f1⟩, -⟩
  clear hb3
  go_wp2_with fail
  refine (H_c2.out _ (belowAny)).mono ?_
  rintro e w6 ⟨rfl, hb6⟩
  have z7 := hb6.size
  try simp at z7
  clear k1 f1
  refine haveB w w6 (Bc w.heap.size #[.int .i64 K, .slice p len cap, .int .i64 A, .int .i64 R, .int .i64 n, .int .i64 d, .slice q m vc, .int .i64 E] 113 <| Bz) ?_
  clear b1 hW
  rintro hW z8 ⟨⟨b1, yb1, k1, f1⟩, -⟩
  clear hb6
  go_wp2
  refine bodyPost_ret (by simp [results, Tryz.results138, go_sem, k1, f1, yb1]) rfl ⟨rfl, by exact belowAny⟩

set_option maxRecDepth 100000 in
set_option maxHeartbeats 2000000 in
theorem lineis_no (K A R n d E : Int) (p q : Option Addr) (len cap m vc : Nat) (w : World) (x L a b : Int) 
    (c1 : ∀ W, Below w.heap.size w W → Calls Tryz.prog 189 #[.agg #[.int .i64 K, .slice p len cap, .int .i64 A, .int .i64 R, .int .i64 n, .int .i64 d, .slice q m vc, .int .i64 E]] W fun e w' => e = .returned (.tuple #[.int .i64 x, .int .i64 L]) ∧ Below W.heap.size W w')
    (c2 : ∀ W, Below w.heap.size w W → Calls Tryz.prog 190 #[.agg #[.int .i64 A, .int .i64 R, .int .i64 n, .int .i64 d], .int .i64 0, .int .i64 L] W fun e w' => e = .returned (.tuple #[.agg #[.int .i64 a, .int .i64 b], .int .i64 150]) ∧ Below W.heap.size W w') :
    Calls Tryz.prog 138 #[.agg #[.int .i64 K, .slice p len cap, .int .i64 A, .int .i64 R, .int .i64 n, .int .i64 d, .slice q m vc, .int .i64 E]] w fun e w' => e = .returned (.bool false) ∧ Below w.heap.size w w' := by
  have H_c1 := Lib.hid c1
  clear c1
  have H_c2 := Lib.hid c2
  clear c2
  go_enter Tryz.func138, Tryz.ntmps138
  go_upto_region 1 with (fail)
  refine wp_cutB w (Bc w.heap.size #[.int .i64 K, .slice p len cap, .int .i64 A, .int .i64 R, .int .i64 n, .int .i64 d, .slice q m vc, .int .i64 E] 113 <| Bz) ?_
  rintro W1 hW z2 ⟨⟨b1, yb1, k1, f1⟩, -⟩
  go_wp2_with fail
  refine (H_c1.out _ (belowAny)).mono ?_
  rintro e w3 ⟨rfl, hb3⟩
  have z4 := hb3.size
  try simp at z4
  clear k1 f1
  refine haveB w w3 (Bc w.heap.size #[.int .i64 K, .slice p len cap, .int .i64 A, .int .i64 R, .int .i64 n, .int .i64 d, .slice q m vc, .int .i64 E] 113 <| Bz) ?_
  clear b1 hW
  rintro hW z5 ⟨⟨b1, yb1, k1, f1⟩, -⟩
  clear hb3
  go_wp2_with fail
  refine (H_c2.out _ (belowAny)).mono ?_
  rintro e w6 ⟨rfl, hb6⟩
  have z7 := hb6.size
  try simp at z7
  clear k1 f1
  refine haveB w w6 (Bc w.heap.size #[.int .i64 K, .slice p len cap, .int .i64 A, .int .i64 R, .int .i64 n, .int .i64 d, .slice q m vc, .int .i64 E] 113 <| Bz) ?_
  clear b1 hW
  rintro hW z8 ⟨⟨b1, yb1, k1, f1⟩, -⟩
  clear hb6
  go_wp2
  refine bodyPost_ret (by simp [results, Tryz.results138, go_sem, k1, f1, yb1]) rfl ⟨rfl, by exact belowAny⟩

set_option maxRecDepth 100000 in
set_option maxHeartbeats 2000000 in
theorem kind1_flat (K A R n d E : Int) (p q : Option Addr) (len cap m vc : Nat) (w : World) (b : Bool) 
    (c1 : ∀ W, Below w.heap.size w W → Calls Tryz.prog 138 #[.agg #[.int .i64 K, .slice p len cap, .int .i64 A, .int .i64 R, .int .i64 0, .int .i64 d, .slice q m vc, .int .i64 E]] W fun e w' => e = .returned (.bool b) ∧ Below W.heap.size W w') :
    Calls Tryz.prog 137 #[.agg #[.int .i64 K, .slice p len cap, .int .i64 A, .int .i64 R, .int .i64 0, .int .i64 d, .slice q m vc, .int .i64 E]] w fun e w' => e = .returned (.bool b) ∧ Below w.heap.size w w' := by
  have H_c1 := Lib.hid c1
  clear c1
  go_enter Tryz.func137, Tryz.ntmps137
  go_upto_region 1 with (fail)
  refine wp_cutB w (Bc w.heap.size #[.int .i64 K, .slice p len cap, .int .i64 A, .int .i64 R, .int .i64 0, .int .i64 d, .slice q m vc, .int .i64 E] 113 <| Bz) ?_
  rintro W1 hW z2 ⟨⟨b1, yb1, k1, f1⟩, -⟩
  go_wp2_with fail
  refine (H_c1.out _ (belowAny)).mono ?_
  rintro e w3 ⟨rfl, hb3⟩
  have z4 := hb3.size
  try simp at z4
  clear k1 f1
  refine haveB w w3 (Bc w.heap.size #[.int .i64 K, .slice p len cap, .int .i64 A, .int .i64 R, .int .i64 0, .int .i64 d, .slice q m vc, .int .i64 E] 113 <| Bz) ?_
  clear b1 hW
  rintro hW z5 ⟨⟨b1, yb1, k1, f1⟩, -⟩
  clear hb3
  go_wp2
  refine bodyPost_ret (by simp [results, Tryz.results137, go_sem, k1, f1, yb1]) rfl ⟨rfl, by exact belowAny⟩

set_option maxRecDepth 100000 in
set_option maxHeartbeats 2000000 in
theorem kind1_no (K A R n d E : Int) (p q : Option Addr) (len cap m vc : Nat) (w : World) (b : Bool) (hn : (n == 0) = false)
     :
    Calls Tryz.prog 137 #[.agg #[.int .i64 K, .slice p len cap, .int .i64 A, .int .i64 R, .int .i64 n, .int .i64 d, .slice q m vc, .int .i64 E]] w fun e w' => e = .returned (.bool false) ∧ Below w.heap.size w w' := by
  go_enter Tryz.func137, Tryz.ntmps137
  go_upto_region 1 with (fail)
  refine wp_cutB w (Bc w.heap.size #[.int .i64 K, .slice p len cap, .int .i64 A, .int .i64 R, .int .i64 n, .int .i64 d, .slice q m vc, .int .i64 E] 113 <| Bz) ?_
  rintro W1 hW z2 ⟨⟨b1, yb1, k1, f1⟩, -⟩
  go_wp2
  refine bodyPost_ret (by simp [results, Tryz.results137, go_sem, k1, f1, yb1]) rfl ⟨rfl, by exact belowAny⟩

set_option maxRecDepth 100000 in
set_option maxHeartbeats 2000000 in
theorem kind2_tilt (K A R n d E : Int) (p q : Option Addr) (len cap m vc : Nat) (w : World) (b : Bool) (hn : (n != 0) = true)
    (c1 : ∀ W, Below w.heap.size w W → Calls Tryz.prog 138 #[.agg #[.int .i64 K, .slice p len cap, .int .i64 A, .int .i64 0, .int .i64 n, .int .i64 d, .slice q m vc, .int .i64 E]] W fun e w' => e = .returned (.bool b) ∧ Below W.heap.size W w') :
    Calls Tryz.prog 139 #[.agg #[.int .i64 K, .slice p len cap, .int .i64 A, .int .i64 0, .int .i64 n, .int .i64 d, .slice q m vc, .int .i64 E]] w fun e w' => e = .returned (.bool b) ∧ Below w.heap.size w w' := by
  have H_c1 := Lib.hid c1
  clear c1
  go_enter Tryz.func139, Tryz.ntmps139
  go_upto_region 1 with (fail)
  refine wp_cutB w (Bc w.heap.size #[.int .i64 K, .slice p len cap, .int .i64 A, .int .i64 0, .int .i64 n, .int .i64 d, .slice q m vc, .int .i64 E] 113 <| Bz) ?_
  rintro W1 hW z2 ⟨⟨b1, yb1, k1, f1⟩, -⟩
  go_wp2_with fail
  refine (H_c1.out _ (belowAny)).mono ?_
  rintro e w3 ⟨rfl, hb3⟩
  have z4 := hb3.size
  try simp at z4
  clear k1 f1
  refine haveB w w3 (Bc w.heap.size #[.int .i64 K, .slice p len cap, .int .i64 A, .int .i64 0, .int .i64 n, .int .i64 d, .slice q m vc, .int .i64 E] 113 <| Bz) ?_
  clear b1 hW
  rintro hW z5 ⟨⟨b1, yb1, k1, f1⟩, -⟩
  clear hb3
  go_wp2
  refine bodyPost_ret (by simp [results, Tryz.results139, go_sem, k1, f1, yb1]) rfl ⟨rfl, by exact belowAny⟩

set_option maxRecDepth 100000 in
set_option maxHeartbeats 2000000 in
theorem kind2_flat (K A R n d E : Int) (p q : Option Addr) (len cap m vc : Nat) (w : World) (b : Bool) 
     :
    Calls Tryz.prog 139 #[.agg #[.int .i64 K, .slice p len cap, .int .i64 A, .int .i64 R, .int .i64 0, .int .i64 d, .slice q m vc, .int .i64 E]] w fun e w' => e = .returned (.bool false) ∧ Below w.heap.size w w' := by
  go_enter Tryz.func139, Tryz.ntmps139
  go_upto_region 1 with (fail)
  refine wp_cutB w (Bc w.heap.size #[.int .i64 K, .slice p len cap, .int .i64 A, .int .i64 R, .int .i64 0, .int .i64 d, .slice q m vc, .int .i64 E] 113 <| Bz) ?_
  rintro W1 hW z2 ⟨⟨b1, yb1, k1, f1⟩, -⟩
  go_wp2
  refine bodyPost_ret (by simp [results, Tryz.results139, go_sem, k1, f1, yb1]) rfl ⟨rfl, by exact belowAny⟩

set_option maxRecDepth 100000 in
set_option maxHeartbeats 2000000 in
theorem kind2_free (K A R n d E : Int) (p q : Option Addr) (len cap m vc : Nat) (w : World) (b : Bool) (hn : (n != 0) = true) (hR : (R == 0) = false)
     :
    Calls Tryz.prog 139 #[.agg #[.int .i64 K, .slice p len cap, .int .i64 A, .int .i64 R, .int .i64 n, .int .i64 d, .slice q m vc, .int .i64 E]] w fun e w' => e = .returned (.bool false) ∧ Below w.heap.size w w' := by
  go_enter Tryz.func139, Tryz.ntmps139
  go_upto_region 1 with (fail)
  refine wp_cutB w (Bc w.heap.size #[.int .i64 K, .slice p len cap, .int .i64 A, .int .i64 R, .int .i64 n, .int .i64 d, .slice q m vc, .int .i64 E] 113 <| Bz) ?_
  rintro W1 hW z2 ⟨⟨b1, yb1, k1, f1⟩, -⟩
  go_wp2
  refine bodyPost_ret (by simp [results, Tryz.results139, go_sem, k1, f1, yb1]) rfl ⟨rfl, by exact belowAny⟩

set_option maxRecDepth 100000 in
set_option maxHeartbeats 2000000 in
theorem kind3_free (K A R n d E : Int) (p q : Option Addr) (len cap m vc : Nat) (w : World) (b : Bool) (hR : (R != 0) = true)
    (c1 : ∀ W, Below w.heap.size w W → Calls Tryz.prog 138 #[.agg #[.int .i64 K, .slice p len cap, .int .i64 A, .int .i64 R, .int .i64 n, .int .i64 d, .slice q m vc, .int .i64 E]] W fun e w' => e = .returned (.bool b) ∧ Below W.heap.size W w') :
    Calls Tryz.prog 140 #[.agg #[.int .i64 K, .slice p len cap, .int .i64 A, .int .i64 R, .int .i64 n, .int .i64 d, .slice q m vc, .int .i64 E]] w fun e w' => e = .returned (.bool b) ∧ Below w.heap.size w w' := by
  have H_c1 := Lib.hid c1
  clear c1
  go_enter Tryz.func140, Tryz.ntmps140
  go_upto_region 1 with (fail)
  refine wp_cutB w (Bc w.heap.size #[.int .i64 K, .slice p len cap, .int .i64 A, .int .i64 R, .int .i64 n, .int .i64 d, .slice q m vc, .int .i64 E] 113 <| Bz) ?_
  rintro W1 hW z2 ⟨⟨b1, yb1, k1, f1⟩, -⟩
  go_wp2_with fail
  refine (H_c1.out _ (belowAny)).mono ?_
  rintro e w3 ⟨rfl, hb3⟩
  have z4 := hb3.size
  try simp at z4
  clear k1 f1
  refine haveB w w3 (Bc w.heap.size #[.int .i64 K, .slice p len cap, .int .i64 A, .int .i64 R, .int .i64 n, .int .i64 d, .slice q m vc, .int .i64 E] 113 <| Bz) ?_
  clear b1 hW
  rintro hW z5 ⟨⟨b1, yb1, k1, f1⟩, -⟩
  clear hb3
  go_wp2
  refine bodyPost_ret (by simp [results, Tryz.results140, go_sem, k1, f1, yb1]) rfl ⟨rfl, by exact belowAny⟩

set_option maxRecDepth 100000 in
set_option maxHeartbeats 2000000 in
theorem kind3_no (K A R n d E : Int) (p q : Option Addr) (len cap m vc : Nat) (w : World) (b : Bool) 
     :
    Calls Tryz.prog 140 #[.agg #[.int .i64 K, .slice p len cap, .int .i64 A, .int .i64 0, .int .i64 n, .int .i64 d, .slice q m vc, .int .i64 E]] w fun e w' => e = .returned (.bool false) ∧ Below w.heap.size w w' := by
  go_enter Tryz.func140, Tryz.ntmps140
  go_upto_region 1 with (fail)
  refine wp_cutB w (Bc w.heap.size #[.int .i64 K, .slice p len cap, .int .i64 A, .int .i64 0, .int .i64 n, .int .i64 d, .slice q m vc, .int .i64 E] 113 <| Bz) ?_
  rintro W1 hW z2 ⟨⟨b1, yb1, k1, f1⟩, -⟩
  go_wp2
  refine bodyPost_ret (by simp [results, Tryz.results140, go_sem, k1, f1, yb1]) rfl ⟨rfl, by exact belowAny⟩

end Go.Proofs.YtbanjolokkghdaaGreatDoor
namespace Go.Proofs.YtbanjolokkghdaaGreatDoor
open Go.RowKit
def lineZ (A R n d : Int) : Bool := decide (A = 0 ∧ R = 0 ∧ n = 0 ∧ d = 0)
set_option maxRecDepth 100000 in
set_option maxHeartbeats 2000000 in
theorem rawis_w (K A R n d E : Int) (p q : Option Addr) (len cap m vc : Nat) (w : World) (N : Int) (b2 : Bool) 
    (c1 : ∀ W, Below w.heap.size w W → Calls Tryz.prog 171 #[.slice p len cap] W fun e w' => e = .returned (.int .i64 N) ∧ Below W.heap.size W w')
    (c2 : ∀ W, Below w.heap.size w W → Calls Tryz.prog 195 #[.slice q m vc, .func (.func 196) #[] #[]] W fun e w' => e = .returned (.bool b2) ∧ Below W.heap.size W w') :
    Calls Tryz.prog 142 #[.agg #[.int .i64 K, .slice p len cap, .int .i64 A, .int .i64 R, .int .i64 n, .int .i64 d, .slice q m vc, .int .i64 E]] w fun e w' => e = .returned (.bool (lineZ A R n d && (m : Int) == N && !b2)) ∧ Below w.heap.size w w' := by
  have H_c1 := Lib.hid c1
  clear c1
  have H_c2 := Lib.hid c2
  clear c2
  go_enter Tryz.func142, Tryz.ntmps142
  go_upto_region 1 with (fail)
  refine wp_cutB w (Bc w.heap.size #[.int .i64 K, .slice p len cap, .int .i64 A, .int .i64 R, .int .i64 n, .int .i64 d, .slice q m vc, .int .i64 E] 113 <| Bz) ?_
  rintro W1 hW z2 hL
  obtain ⟨⟨b1, yb1, k1, f1⟩, -⟩ := id hL
  clear k1 f1
  refine wp_regD 24 26 hW hL ?_
  iterate 4 refine dA ?_
  apply nd_det (c := .bool (lineZ A R n d)) (hg := rfl) (hal := rfl)
  · intro a W' hC hE
    obtain ⟨_, ⟨-, -, k1, -⟩, -⟩ := hC
    simp [Oper.looksAt, Op.operands, Call.operands, envOf, Det] at hE
    simp [go_sem, Act.eval, hE, k1]
    unfold lineZ
    by_cases h1 : A = 0 <;> by_cases h2 : R = 0 <;> by_cases h3 : n = 0 <;> by_cases h4 : d = 0 <;> simp [h1, h2, h3, h4]
  refine dA ?_
  iterate 7 refine gA ?_
  refine cG (fun hp hx W' hC => H_c1.out W' (hW.trans (hC.1.of_priv hW.size))) ?_
  refine gA ?_
  refine pA ?_
  refine dA ?_
  iterate 3 refine gA ?_
  refine cG (fun hp hx W' hC => H_c2.out W' (hW.trans (hC.1.of_priv hW.size))) ?_
  refine gA ?_
  refine pA ?_
  refine dA ?_
  clear hW hL b1
  rintro W3 hW z4 hL
  simp only [ndR]
  intros
  repeat (rename GDet _ _ _ _ => hgd; clear hgd)
  simp only [ndS]
  refine wpList_nil ?_
  obtain ⟨⟨b1, yb1, k1, f1⟩, -⟩ := hL
  go_wp2
  refine bodyPost_ret (v := .bool (lineZ A R n d && (m : Int) == N && !b2)) (by simp [results, Tryz.results142, go_sem, k1, f1, yb1]) rfl ⟨rfl, belowAny⟩
set_option maxRecDepth 100000 in
set_option maxHeartbeats 2000000 in
theorem kinds_w (w : World) : Calls Tryz.prog 94 #[] w fun e w' => e = .returned (.agg #[.nilFunc, .nilFunc, .func (.func 137) #[] #[], .func (.func 141) #[] #[], .func (.func 139) #[] #[], .func (.func 141) #[] #[], .func (.func 140) #[] #[], .func (.func 141) #[] #[], .func (.func 142) #[] #[], .func (.func 143) #[] #[]]) ∧ Below w.heap.size w w' := by
  go_enter Tryz.func94, Tryz.ntmps94
  go_wp2
  exact bodyPost_ret (v := .agg #[.nilFunc, .nilFunc, .func (.func 137) #[] #[], .func (.func 141) #[] #[], .func (.func 139) #[] #[], .func (.func 141) #[] #[], .func (.func 140) #[] #[], .func (.func 141) #[] #[], .func (.func 142) #[] #[], .func (.func 143) #[] #[]]) (by simp [results, Tryz.results94, go_sem]) rfl ⟨rfl, belowAny⟩
end Go.Proofs.YtbanjolokkghdaaGreatDoor
