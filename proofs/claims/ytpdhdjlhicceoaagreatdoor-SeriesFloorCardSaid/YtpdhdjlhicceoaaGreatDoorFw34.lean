/- Parts of the proof that follows: A row of zeros written into a block (clear). No condition. | slices.DeleteFunc of a series' points below a floor. No condition. | slices.DeleteFunc of segments below a floor. No condition. -/
import Derived.Test.YtpdhdjlhicceoaaGreatDoorFw33
set_option linter.unusedSimpArgs false
set_option linter.unusedVariables false
namespace Go.Proofs.YtpdhdjlhicceoaaGreatDoor
open Go.RowKit
theorem Rex.setRow {w : World} {g : Nat} {cs cs' : Array Value} {t : TypeId} (hg : Blk w g cs t) (hs : cs'.size = cs.size) : Rex [g] w (w.setRow g cs') := by
  refine ⟨rfl, rfl, rfl, ?_, fun k hk hn => setRow_other w g k cs' (by simpa using hn), fun k hk c t' f hc => ?_⟩
  · unfold World.setRow; simp
  · obtain rfl : k = g := by simpa using hk
    have h1 : w.heap[k]? = some (.cells cs t (0, 0)) := hg
    rw [h1] at hc
    injection hc with hc
    injection hc with e1 e2 e3
    subst e1; subst e2; subst e3
    exact ⟨cs', hs, setRow_heap w k cs cs' t (0, 0) hg⟩
theorem run_clear_row {P : Program} (t ty e : TypeId) (z : Array Value) (ht : P.underlying t = some (.slice e)) (hz : ∀ w, (zeroValue e).run P w = .ok (.agg z) w) (w : World) (g off n c : Nat) (cur : Array Value) {e' : TypeId} (hg : w.heap[g]? = some (.cells cur e' (0, 0)))
    (hn : 0 < n) (hfit : off + (Builtin.zeroCells z n).toList.length ≤ cur.size) (h1 : ∀ v ∈ (Builtin.zeroCells z n).toList, v.oneCell' = true) :
    (Builtin.clear_ #[t] ty #[.slice (some ⟨g, off, none⟩) n c]).run P w = .ok (.tuple #[]) (w.setRow g (cur.toList.take off ++ (Builtin.zeroCells z n).toList ++ cur.toList.drop (off + (Builtin.zeroCells z n).toList.length)).toArray) := by
  have hst := run_storeCells_at (P := P) g off e' (Builtin.zeroCells z n).toList 0 cur w hg (by simpa using hfit) h1
  simp only [Nat.add_zero] at hst
  obtain ⟨k, rfl⟩ : ∃ k, n = k + 1 := ⟨n - 1, by omega⟩
  simp [Builtin.clear_, run_underlying ht, hz, Value.cells, hst]
end Go.Proofs.YtpdhdjlhicceoaaGreatDoor
namespace Go.Proofs.YtpdhdjlhicceoaaGreatDoor
open Go.RowKit
def PtO9 (W : World) (B : Nat) (p : Option Addr) (cap : Nat) (l : List (Int × Int)) : Prop := OwnR W B 53 2 (.slice p l.length cap) l.length (flatPts l)
theorem PtO9.pts {W : World} {B : Nat} {p : Option Addr} {cap : Nat} {l : List (Int × Int)} (h : PtO9 W B p cap l) : PtsIn W p l := by
  rcases OwnR.own h with ⟨_, ⟨h1, h0⟩ | ⟨g, cap', cur, h1, hg, hb, hn, hmx, _, ht⟩⟩
  · have : l = [] := List.length_eq_zero_iff.1 h0
    subst this
    exact ⟨fun i r hr => by simp at hr⟩
  · injection h1 with h1 _ _
    subst h1
    exact pts_in hb ht
def keepP (fl : Int) (l : List (Int × Int)) : List (Int × Int) := l.filter fun q => decide (fl ≤ q.1)
set_option maxRecDepth 100000 in
set_option maxHeartbeats 2000000 in
theorem c_retPt (t y fl : Int) (o6 : Nat) (w : World) (h6 : Blk w o6 #[.int .i64 fl] 2) : Calls Tryz.prog 66 #[.agg #[.int .i64 t, .int .i64 y], .pointer (some ⟨o6, 0, none⟩)] w fun e w' => e = .returned (.bool (decide (t < fl))) ∧ Below w.heap.size w w' := by
  go_enter Tryz.func66, Tryz.ntmps66
  go_upto_region 1 with (fail)
  refine wp_cutB w (Bc o6 #[.int .i64 fl] 2 <| Bc w.heap.size #[.int .i64 t, .int .i64 y] 53 <| Bz) ?_
  rintro W1 hW z2 hL
  refine wp_regS 5 8 hW hL ?_
  iterate 5 refine dA ?_
  clear hW hL
  rintro W3 hW z4 hL
  simp only [ndR]
  intros
  simp only [ndS]
  refine wpList_nil ?_
  obtain ⟨⟨b1, yb1, k1, f1⟩, ⟨b2, yb2, k2, f2⟩, -⟩ := hL
  go_wp2
  refine bodyPost_ret (by simp [results, Tryz.results66, go_sem, k1, f1, k2, f2, yb1, yb2]) rfl ⟨rfl, by exact belowAny⟩
def idqRel (w : World) (p : Option Addr) (cap : Nat) (l : List (Int × Int)) (o6 : Nat) (fl : Int) (a' : Act) (W : World) : Prop :=
  Below w.heap.size w W ∧ Blk W o6 #[.int .i64 fl] 2 ∧ ∃ i : Nat, (∃ u : Nat → Value, a' = { tmps := #[.slice p l.length cap, .func (.func 66) #[] #[.pointer (some ⟨o6, 0, none⟩)], u 2, u 3, .int .i64 0, u 5, .slice p l.length cap, .int .i64 (l.length : Int), .int .i64 (i : Int), u 9, u 10, u 11, u 12, u 13, u 14, u 15, u 16, u 17, u 18], defers := [] }) ∧ (l.take i).all (fun q => decide (fl ≤ q.1)) = true ∧ i ≤ l.length
set_option maxRecDepth 100000 in
set_option maxHeartbeats 2000000 in
theorem c_idxPtsS (p : Option Addr) (cap : Nat) (l : List (Int × Int)) (o6 : Nat) (fl : Int) (w : World) (h : PtsIn w p l) (h6 : Blk w o6 #[.int .i64 fl] 2) (hmx : l.length ≤ 3000) :
    Calls Tryz.prog 102 #[.slice p l.length cap, .func (.func 66) #[] #[.pointer (some ⟨o6, 0, none⟩)]] w fun e w' => ∃ iv : Int, e = .returned (.int .i64 iv) ∧ Below w.heap.size w w' ∧ ((iv = -1 ∧ l.all (fun q => decide (fl ≤ q.1)) = true) ∨ ∃ k : Nat, iv = (k : Int) ∧ k < l.length ∧ (l.take k).all (fun q => decide (fl ≤ q.1)) = true ∧ ∃ t y, l[k]? = some (t, y) ∧ t < fl) := by
  go_enter Tryz.func102, Tryz.ntmps102
  go_wp2
  refine wp_loop (idqRel w p cap l o6 fl) (fun a' _ => l.length - (intAt (a'.tmps.getD 8 undef)).toNat) ?_ ?_
  · unfold idqRel
    exact ⟨Below.refl _ _, h6, 0, frame_ex rfl, by simp, Nat.zero_le _⟩
  rintro a' W ⟨hW0, b1, i, ⟨u, rfl⟩, hall, hi'⟩
  have hz := hW0.size
  replace hall := Lib.hid hall
  rcases Nat.lt_or_ge i l.length with hlt | hge
  · obtain ⟨⟨t, y⟩, tr⟩ : ∃ x, l[i]? = some x := ⟨l[i]'(by omega), List.getElem?_eq_getElem (by omega)⟩
    obtain ⟨bp, op, rfl, q0, q1⟩ := (h.below hW0).at' i _ tr
    have c1 := Lib.hid (fun W (hb : Blk W o6 #[.int .i64 fl] 2) => c_retPt t y fl o6 W hb)
    have hnx := Lib.hid (fun (e : fl ≤ t) => (show (l.take (i + 1)).all (fun q => decide (fl ≤ q.1)) = true by rw [List.take_add_one, tr, List.all_append, hall.out]; simp [e]))
    replace tr := Lib.hid tr
    by_cases hd : t < fl
    · have c1 := Lib.hid (fun W hb => decide_eq_true hd ▸ c1.out W hb)
      go_wp2_with fail
      refine (c1.out W b1).mono ?_
      rintro e w9 ⟨rfl, hB9⟩
      have d1 := b1.below hB9
      have e1 := hW0.trans (hB9.mono hz)
      clear hB9 q0 q1
      go_wp2
      go_ret
      exact ⟨_, rfl, e1, .inr ⟨i, rfl, hlt, hall.out, t, y, tr.out, hd⟩⟩
    · have c1 := Lib.hid (fun W hb => decide_eq_false hd ▸ c1.out W hb)
      replace hnx := Lib.hid (hnx.out (by omega))
      go_wp2_with fail
      refine (c1.out W b1).mono ?_
      rintro e w9 ⟨rfl, hB9⟩
      have d1 := b1.below hB9
      have e1 := hW0.trans (hB9.mono hz)
      clear hB9 q0 q1
      go_wp2
      rw [show (i : Int) + 1 = ((i + 1 : Nat) : Int) by omega]
      refine ⟨?_, by simp [intAt]; omega⟩
      unfold idqRel
      exact ⟨e1, d1, i + 1, frame_ex rfl, hnx.out, by omega⟩
  · obtain rfl : i = l.length := by omega
    go_wp2
    go_ret
    exact ⟨_, rfl, hW0, .inl ⟨rfl, by have := hall.out; rwa [List.take_length] at this⟩⟩
theorem flatPts_append9 (a b : List (Int × Int)) : flatPts (a ++ b) = flatPts a ++ flatPts b := by rw [flatPts_flat, flatPts_flat, flatPts_flat, List.flatMap_append]
theorem keepP_all {fl : Int} {l : List (Int × Int)} (h : l.all (fun q => decide (fl ≤ q.1)) = true) : keepP fl l = l := by
  unfold keepP
  rw [List.filter_eq_self]
  intro q hq
  exact List.all_eq_true.1 h q hq
theorem keepP_snoc (fl : Int) (l : List (Int × Int)) (t y : Int) : keepP fl (l ++ [(t, y)]) = if t < fl then keepP fl l else keepP fl l ++ [(t, y)] := by
  unfold keepP
  rw [List.filter_append]
  by_cases h : t < fl
  · rw [if_pos h]
    simp [List.filter_cons, show ¬fl ≤ t by omega]
  · rw [if_neg h]
    simp [List.filter_cons, show fl ≤ t by omega]
/-- So far gone through: what stays is at the begin of the block, the rest stands as it was. -/
structure DpInv (fl : Int) (c : Nat) (l : List (Int × Int)) (cur : Array Value) (i j : Nat) : Prop where
  size : cur.size = c * 2
  len : (keepP fl (l.take j)).length = i
  pre : cur.toList.take (i * 2) = flatPts (keepP fl (l.take j))
  rest : ∀ k t y, j ≤ k → l[k]? = some (t, y) → cur[k * 2]? = some (.int .i64 t) ∧ cur[k * 2 + 1]? = some (.int .i64 y)
theorem DpInv.del {fl : Int} {c : Nat} {l : List (Int × Int)} {cur : Array Value} {i j : Nat} {t y : Int} (h : DpInv fl c l cur i j) (hj : l[j]? = some (t, y)) (ht : t < fl) : DpInv fl c l cur i (j + 1) := by
  have e : keepP fl (l.take (j + 1)) = keepP fl (l.take j) := by rw [List.take_add_one, hj]; show keepP fl (l.take j ++ [(t, y)]) = _; rw [keepP_snoc, if_pos ht]
  exact ⟨h.size, by rw [e]; exact h.len, by rw [e]; exact h.pre, fun k t y hk => h.rest k t y (by omega)⟩
theorem take_two9 {c : Array Value} {n : Nat} {a b : Value} {L : List Value} (h : c.toList.take n = L) (hs : n + 2 ≤ c.size) : ((c.setIfInBounds n a).setIfInBounds (n + 1) b).toList.take (n + 2) = L ++ [a, b] := by
  rw [Array.toList_setIfInBounds, Array.toList_setIfInBounds]
  have hl : n + 2 ≤ c.toList.length := by rw [Array.length_toList]; exact hs
  apply List.ext_getElem?
  intro k
  have hL : L.length = n := by rw [← h, List.length_take]; omega
  rw [List.getElem?_take, List.getElem?_set, List.getElem?_set, List.length_set]
  rcases Nat.lt_trichotomy k n with h1 | h1 | h1
  · rw [if_pos (by omega), if_neg (by omega), if_neg (by omega), List.getElem?_append_left (by omega), ← h, List.getElem?_take, if_pos h1]
  · subst h1
    rw [if_pos (by omega), if_neg (by omega), if_pos rfl, if_pos (by omega), List.getElem?_append_right (by omega), hL, Nat.sub_self]
    rfl
  · by_cases h2 : k = n + 1
    · subst h2
      rw [if_pos (by omega), if_pos rfl, if_pos (by omega), List.getElem?_append_right (by omega), hL, show n + 1 - n = 1 by omega]
      rfl
    · rw [if_neg (by omega), List.getElem?_eq_none (by rw [List.length_append, hL]; simp; omega)]
theorem DpInv.keep {fl : Int} {c : Nat} {l : List (Int × Int)} {cur : Array Value} {i j : Nat} {t y : Int} (h : DpInv fl c l cur i j) (hj : l[j]? = some (t, y)) (ht : ¬t < fl) (hij : i < j) (hlc : l.length ≤ c) : DpInv fl c l ((cur.setIfInBounds (i * 2) (.int .i64 t)).setIfInBounds (i * 2 + 1) (.int .i64 y)) (i + 1) (j + 1) := by
  have e : keepP fl (l.take (j + 1)) = keepP fl (l.take j) ++ [(t, y)] := by rw [List.take_add_one, hj]; show keepP fl (l.take j ++ [(t, y)]) = _; rw [keepP_snoc, if_neg ht]
  have hjl := (List.getElem?_eq_some_iff.1 hj).1
  refine ⟨by simp [h.size], by rw [e, List.length_append, h.len]; rfl, ?_, fun k t' y' hk hr => ?_⟩
  · rw [e, flatPts_append9, show (i + 1) * 2 = i * 2 + 2 by omega, take_two9 h.pre (by rw [h.size]; omega)]
    rfl
  · have h1 := h.rest k t' y' (by omega) hr
    rw [Array.getElem?_setIfInBounds, if_neg (by omega), Array.getElem?_setIfInBounds, if_neg (by omega), Array.getElem?_setIfInBounds, if_neg (by omega), Array.getElem?_setIfInBounds, if_neg (by omega)]
    exact h1
theorem flatPts_takeN : ∀ (l : List (Int × Int)) (M : Nat), (flatPts l).take (M * 2) = flatPts (l.take M)
  | [], M => by simp [flatPts]
  | x :: l, 0 => by simp [flatPts]
  | x :: l, M + 1 => by
    have h : flatPts (x :: l) = [.int .i64 x.1, .int .i64 x.2] ++ flatPts l := rfl
    have h2 : flatPts (x :: l.take M) = [.int .i64 x.1, .int .i64 x.2] ++ flatPts (l.take M) := rfl
    rw [h, List.take_succ_cons, h2, show (M + 1) * 2 = [(Value.int .i64 x.1), .int .i64 x.2].length + M * 2 by simp; omega, List.take_length_add_append, flatPts_takeN l M]
theorem zero_pt9 (w : World) : (zeroValue 53).run Tryz.prog w = .ok (.agg #[.int .i64 0, .int .i64 0]) w := by kernel_rfl
def zPt9 : Array Value := #[.int .i64 0, .int .i64 0]
theorem zPt9_size (n : Nat) : (Builtin.zeroCells zPt9 n).toList.length = n * 2 := by rw [Array.length_toList, size_zeroCells]; rfl
theorem zPt9_one (n : Nat) : ∀ v ∈ (Builtin.zeroCells zPt9 n).toList, v.oneCell' = true := by
  intro v hv
  unfold Builtin.zeroCells at hv
  simp only [Array.toList_map, List.mem_map] at hv
  obtain ⟨k, _, rfl⟩ := hv
  have hk : k % zPt9.size < 2 := Nat.mod_lt _ (by decide)
  match h : k % zPt9.size, hk with
  | 0, _ => rfl
  | 1, _ => rfl
def clrP9 (cur : Array Value) (i n : Nat) : Array Value := (cur.toList.take (i * 2) ++ (Builtin.zeroCells zPt9 n).toList ++ cur.toList.drop (i * 2 + (Builtin.zeroCells zPt9 n).toList.length)).toArray
theorem clrP9_size (cur : Array Value) (i n : Nat) (h : i * 2 + n * 2 ≤ cur.size) : (clrP9 cur i n).size = cur.size := by
  have h2 := zPt9_size n
  unfold clrP9
  simp only [List.size_toArray, List.length_append, List.length_take, List.length_drop, h2]
  rw [Array.length_toList]
  omega
theorem clrP9_take (cur : Array Value) (i n : Nat) (h : i * 2 ≤ cur.size) : (clrP9 cur i n).toList.take (i * 2) = cur.toList.take (i * 2) := by
  unfold clrP9
  rw [List.append_assoc, List.take_append_of_le_length (by rw [List.length_take, Array.length_toList]; omega), List.take_take, Nat.min_self]
def dpRel (w : World) (gp c : Nat) (l : List (Int × Int)) (o6 : Nat) (fl : Int) (a' : Act) (W : World) : Prop :=
  Rex [gp] w W ∧ Blk W o6 #[.int .i64 fl] 2 ∧ ∃ (i j : Nat) (cur : Array Value), (∃ u : Nat → Value, a' = { tmps := #[.slice (some ⟨gp, 0, none⟩) l.length c, .func (.func 66) #[] #[.pointer (some ⟨o6, 0, none⟩)], u 2, u 3, .slice none 0 0, .int .i64 (i : Int), .int .i64 (j : Int), u 7, u 8, u 9, u 10, u 11, u 12, u 13, u 14, u 15, u 16, u 17, u 18, u 19, u 20, u 21, u 22, u 23, u 24, u 25, u 26, u 27, u 28, u 29, u 30, u 31, u 32, u 33, u 34, u 35, u 36, u 37, u 38, u 39, u 40, u 41], defers := [] }) ∧ Blk W gp cur 53 ∧ DpInv fl c l cur i j ∧ i < j ∧ j ≤ l.length
set_option maxRecDepth 100000 in
set_option maxHeartbeats 2000000 in
theorem c_delPtsS (B gp c : Nat) (l : List (Int × Int)) (o6 : Nat) (fl : Int) (w : World) (hO : PtO9 w B (some ⟨gp, 0, none⟩) c l) (h6 : Blk w o6 #[.int .i64 fl] 2) (hmx : l.length ≤ 3000) :
    Calls Tryz.prog 65 #[.slice (some ⟨gp, 0, none⟩) l.length c, .func (.func 66) #[] #[.pointer (some ⟨o6, 0, none⟩)]] w fun e w' => e = .returned (.slice (some ⟨gp, 0, none⟩) (keepP fl l).length c) ∧ Rex [gp] w w' ∧ PtO9 w' B (some ⟨gp, 0, none⟩) c (keepP fl l) := by
  have hpt := PtO9.pts hO
  obtain ⟨cu0, hBg, hb0, hnc, hcm, hs0, ht0⟩ : ∃ cur, B ≤ gp ∧ Blk w gp cur 53 ∧ l.length ≤ c ∧ c ≤ maxLen ∧ cur.size = c * 2 ∧ cur.toList.take (l.length * 2) = flatPts l := by
    rcases (OwnR.own hO).2 with ⟨h1, _⟩ | ⟨g, c9, cur, h1, hg, hb, h2, h3, h4, h5⟩
    · injection h1 with h1 _ _; cases h1
    · injection h1 with h1 _ h6
      injection h1 with h1
      injection h1 with h1 _ _
      subst h1; subst h6
      exact ⟨cur, hg, hb, h2, h3, h4, h5⟩
  have hne : o6 ≠ gp := by
    rintro rfl
    have e1 : w.heap[o6]? = some (.cells #[.int .i64 fl] 2 (0, 0)) := h6
    have e2 : w.heap[o6]? = some (.cells cu0 53 (0, 0)) := hb0
    rw [e1] at e2
    injection e2 with e2
    injection e2 with _ e2 _
    revert e2
    decide
  have mk : ∀ (w' : World) (cur : Array Value) (L : List (Int × Int)), Blk w' gp cur 53 → cur.size = c * 2 → L.length ≤ c → cur.toList.take (L.length * 2) = flatPts L → PtO9 w' B (some ⟨gp, 0, none⟩) c L := fun w' cur L h1 h2 h3 h4 => ⟨flatPts_len9 L, .inr ⟨gp, c, cur, rfl, hBg, h1, h3, hcm, h2, h4⟩⟩
  replace mk := Lib.hid mk
  replace hcm := Lib.hid hcm
  go_enter Tryz.func65, Tryz.ntmps65
  go_wp2_with fail
  refine (c_idxPtsS (some ⟨gp, 0, none⟩) c l o6 fl w hpt h6 hmx).mono ?_
  rintro e w1 ⟨iv, rfl, hB1, hiv⟩
  rcases hiv with ⟨rfl, hall⟩ | ⟨k, rfl, hk, hall, t, y, hkt, htf⟩
  · have hkl := Lib.hid (keepP_all hall)
    have hR := Lib.hid (Rex.of_below (L := [gp]) hB1)
    have hb1 := Lib.hid (hb0.below hB1)
    clear hall hB1
    go_wp2
    go_ret
    exact ⟨by rw [hkl.out]; rfl, hR.out, by rw [hkl.out]; exact mk.out _ _ _ hb1.out hs0 hnc ht0⟩
  have hb1 := hb0.below hB1
  have h61 := h6.below hB1
  have hR := Rex.of_below (L := [gp]) hB1
  have hk0 : keepP fl (l.take k) = l.take k := keepP_all hall
  have hin : DpInv fl c l cu0 k (k + 1) := by
    have e : keepP fl (l.take (k + 1)) = l.take k := by rw [List.take_add_one, hkt]; show keepP fl (l.take k ++ [(t, y)]) = _; rw [keepP_snoc, if_pos htf, hk0]
    refine ⟨hs0, by rw [e, List.length_take]; omega, ?_, fun m t' y' hm hr => ?_⟩
    · rw [e, show cu0.toList.take (k * 2) = (cu0.toList.take (l.length * 2)).take (k * 2) by rw [List.take_take, Nat.min_eq_left (by omega)], ht0, flatPts_takeN]
    · have hml := (List.getElem?_eq_some_iff.1 hr).1
      have g : ∀ d v, d < 2 → (flatPts l)[m * 2 + d]? = some v → cu0[m * 2 + d]? = some v := fun d v hd hv => by
        rw [← ht0, List.getElem?_take, if_pos (by omega), Array.getElem?_toList] at hv
        exact hv
      rw [flatPts_flat] at g
      exact ⟨g 0 _ (by omega) (flat_to _ 2 (fun _ => rfl) l m _ 0 _ hr rfl), g 1 _ (by omega) (flat_to _ 2 (fun _ => rfl) l m _ 1 _ hr rfl)⟩
  have hne1 : (((k : Nat) : Int) == -1) = false := beq_eq_false_iff_ne.2 (by omega)
  replace hin := Lib.hid hin
  replace hb1 := Lib.hid hb1
  replace hR := Lib.hid hR
  clear hB1 hall hkt hk0 hb0 hs0 ht0 hpt hO h6
  go_wp2
  refine wp_loop (dpRel w gp c l o6 fl) (fun a' _ => l.length - (intAt (a'.tmps.getD 6 undef)).toNat) ?_ ?_
  · unfold dpRel
    exact ⟨hR.out, h61, k, k + 1, cu0, frame_ex rfl, hb1.out, hin.out, by omega, by omega⟩
  clear hR h61 hb1 hin hne1
  rintro a' W ⟨hR0, b1, i, j, cur, ⟨u, rfl⟩, hG, hinv, hij, hj'⟩
  have hz := hR0.size
  have yb1 := b1.lt
  have yG := hG.lt
  replace hinv := Lib.hid hinv
  rcases Nat.lt_or_ge j l.length with hlt | hge
  · obtain ⟨⟨t, y⟩, tr⟩ : ∃ x, l[j]? = some x := ⟨l[j]'(by omega), List.getElem?_eq_getElem (by omega)⟩
    have q0 := (hG.cell (j * 2)).trans (hinv.out.rest j t y (Nat.le_refl _) tr).1
    have q1 := (hG.cell (j * 2 + 1)).trans (hinv.out.rest j t y (Nat.le_refl _) tr).2
    have c1 := Lib.hid (fun W (hb : Blk W o6 #[.int .i64 fl] 2) => c_retPt t y fl o6 W hb)
    have hx0 : ∃ v, cur[i * 2]? = some v := ⟨_, Array.getElem?_eq_getElem (by rw [hinv.out.size]; omega)⟩
    have hx1 : ∃ v, cur[i * 2 + 1]? = some v := ⟨_, Array.getElem?_eq_getElem (by rw [hinv.out.size]; omega)⟩
    obtain ⟨v0, hx0⟩ := hx0
    obtain ⟨v1, hx1⟩ := hx1
    replace hx0 := Lib.hid hx0
    replace hx1 := Lib.hid hx1
    by_cases hd : t < fl
    · have c1 := Lib.hid (fun W hb => decide_eq_true hd ▸ c1.out W hb)
      have hst := Lib.hid (hinv.out.del tr hd)
      clear tr hx0 hx1
      have b2 := hG
      clear hG
      have k1 := b1.cell
      have f1 := b1.frozen
      go_upto_region 8 with (fail)
      clear k1 f1
      refine wp_cutB W (Bc o6 #[.int .i64 fl] 2 <| Rc (fun W' => Blk W' gp cur 53) <| Bc W.heap.size #[.int .i64 t, .int .i64 y] 53 <| Bz) ?_ (hI := by exact belowAny) (hR := (Bc.mk (by exact blkAny2) <| Rc.mk (by first | exact b2 | exact b2.below (by exact belowAny)) <| Bc.mk (by exact blkAny2) <| trivial))
      clear b1 b2
      rintro W21 hW z22 ⟨⟨b1, yb1, k1, f1⟩, b2, ⟨b3, yb3, k3, f3⟩, -⟩
      clear q0 q1
      go_wp2_with fail
      refine (c1.out W21 b1).mono ?_
      rintro e w9 ⟨rfl, hB9⟩
      have d1 := b1.below hB9
      have d2 := b2.below hB9
      have d3 := b3.below hB9
      have hz9 := hB9.size
      have e1 := hR0.trans (Rex.of_below (L := [gp]) (hW.trans (hB9.mono hW.size)))
      clear b1 b2 b3 k1 f1 k3 f3 hB9 hW
      clear d3
      replace d2 := Lib.hid d2
      replace e1 := Lib.hid e1
      go_wp2
      rw [show (j : Int) + 1 = ((j + 1 : Nat) : Int) by omega]
      refine ⟨?_, by simp [intAt]; omega⟩
      unfold dpRel
      exact ⟨e1.out, d1, i, j + 1, cur, frame_ex rfl, d2.out, hst.out, by omega, by omega⟩
    · have c1 := Lib.hid (fun W hb => decide_eq_false hd ▸ c1.out W hb)
      have hst := Lib.hid (hinv.out.keep tr hd hij hnc)
      clear tr
      have b2 := hG
      clear hG
      have k1 := b1.cell
      have f1 := b1.frozen
      go_upto_region 8 with (fail)
      clear k1 f1
      refine wp_cutB W (Bc o6 #[.int .i64 fl] 2 <| Rc (fun W' => Blk W' gp cur 53) <| Bc W.heap.size #[.int .i64 t, .int .i64 y] 53 <| Bz) ?_ (hI := by exact belowAny) (hR := (Bc.mk (by exact blkAny2) <| Rc.mk (by first | exact b2 | exact b2.below (by exact belowAny)) <| Bc.mk (by exact blkAny2) <| trivial))
      clear b1 b2
      rintro W21 hW z22 ⟨⟨b1, yb1, k1, f1⟩, b2, ⟨b3, yb3, k3, f3⟩, -⟩
      clear q0 q1
      go_wp2_with fail
      refine (c1.out W21 b1).mono ?_
      rintro e w9 ⟨rfl, hB9⟩
      have d1 := b1.below hB9
      have d2 := b2.below hB9
      have d3 := b3.below hB9
      have hz9 := hB9.size
      have e1 := hR0.trans (Rex.of_below (L := [gp]) (hW.trans (hB9.mono hW.size)))
      clear b1 b2 b3 k1 f1 k3 f3 hB9 hW
      have k3 := d3.cell
      have f3 := d3.frozen
      have x0 := (d2.cell (i * 2)).trans hx0.out
      have x1 := (d2.cell (i * 2 + 1)).trans hx1.out
      have g0 := d2.frozen (i * 2)
      have g1 := d2.frozen (i * 2 + 1)
      have yd2 := d2.lt
      have hH := Lib.hid (And.intro e1 (And.intro d1 d2))
      clear e1 d1 d2
      go_wp2
      obtain ⟨e1, d1, d2⟩ := hH.out
      rw [show (i : Int) + 1 = ((i + 1 : Nat) : Int) by omega, show (j : Int) + 1 = ((j + 1 : Nat) : Int) by omega]
      refine ⟨?_, by simp [intAt]; omega⟩
      unfold dpRel
      have d2a := d2.set (i * 2) (.int .i64 t)
      have d2b := d2a.set (i * 2 + 1) (.int .i64 y)
      exact ⟨(e1.setOwn d2 (by simp) _ _).setOwn d2a (by simp) _ _, (d1.setO hne _ _).setO hne _ _, i + 1, j + 1, _, frame_ex rfl, d2b, hst.out, by omega, by omega⟩
  · obtain rfl : j = l.length := by omega
    have h1 := hinv.out.len
    have h2 := hinv.out.pre
    have h3 := hinv.out.size
    rw [List.take_length] at h1 h2
    have hcl0 := fun ty => run_clear_row (P := Tryz.prog) 24 ty 53 zPt9 (by kernel_rfl) zero_pt9 W gp (i * 2) (l.length - i) (c - i) cur hG (by omega) (by rw [zPt9_size, h3]; omega) (zPt9_one _)
    have hR9 := hR0.trans (Rex.setRow hG (clrP9_size cur i (l.length - i) (by rw [h3]; omega)))
    have hB9 := setRow_heap W gp _ (clrP9 cur i (l.length - i)) 53 (0, 0) hG
    obtain ⟨w9, hw9⟩ : ∃ w9, w9 = W.setRow gp (clrP9 cur i (l.length - i)) := ⟨_, rfl⟩
    rw [← hw9] at hR9 hB9
    have hcl : ∀ ty, (Builtin.clear_ #[24] ty #[.slice (some ⟨gp, i * 2, none⟩) (l.length - i) (c - i)]).run Tryz.prog W = .ok (.tuple #[]) w9 := fun ty => by rw [hw9]; exact hcl0 ty
    have hfin := Lib.hid (show (keepP fl l).length = i ∧ Rex [gp] w w9 ∧ PtO9 w9 B (some ⟨gp, 0, none⟩) c (keepP fl l) from ⟨h1, hR9, mk.out _ _ _ hB9 (by rw [clrP9_size cur i _ (by rw [h3]; omega), h3]) (by omega) (by rw [h1, clrP9_take cur i _ (by rw [h3]; omega)]; exact h2)⟩)
    have hci : ¬c = i := by omega
    have hic : i ≤ c := by omega
    clear hcl0 hw9 hR9 hB9 h1 h2 h3 hinv mk hR0
    go_wp2
    go_ret
    exact ⟨by rw [hfin.out.1]; rfl, hfin.out.2⟩
end Go.Proofs.YtpdhdjlhicceoaaGreatDoor
namespace Go.Proofs.YtpdhdjlhicceoaaGreatDoor
open Go.RowKit
/-- A segment's runs and numbers lie outside a block. -/
structure RdR (W : World) (g : Nat) (x : SegR) : Prop where
  inn : SegIn W x.s x.p x.q
  vc : x.s.raw.length ≤ x.vc
  farR : ∀ a, x.p = some a → g < a.block
  farV : ∀ a, x.q = some a → g < a.block
theorem RdR.rex {L : List Nat} {w w' : World} {g : Nat} {x : SegR} (h : RdR w g x) (hr : Rex L w w') (hL : ∀ y, y ∈ L → y ≤ g) : RdR w' g x := by
  refine ⟨⟨⟨fun i r hi => ?_⟩, ⟨fun i r hi => ?_⟩, h.inn.fewR, h.inn.fewV⟩, h.vc, h.farR, h.farV⟩
  · obtain ⟨b, o, e, q0, q1, q2⟩ := h.inn.runs.at' i r hi
    have hb : b ∉ L := fun hm => by have h1 := h.farR _ e; have h2 := hL _ hm; simp only at h1; omega
    have key : ∀ z v, w.cell? ⟨b, z, none⟩ = some v → w'.cell? ⟨b, z, none⟩ = some v := fun z v hv => (World.cell?_of_block (hr.block b (cell_lt hv) hb)).trans hv
    exact ⟨b, o, e, key _ _ q0, key _ _ q1, key _ _ q2⟩
  · obtain ⟨b, o, e, q0⟩ := h.inn.raw.at' i r hi
    have hb : b ∉ L := fun hm => by have h1 := h.farV _ e; have h2 := hL _ hm; simp only at h1; omega
    exact ⟨b, o, e, (World.cell?_of_block (hr.block b (cell_lt q0) hb)).trans q0⟩
theorem segs_in {W : World} {g g9 : Nat} {cur : Array Value} {l : List SegR} (hb : Blk W g cur 49) (hsc : SegCells cur l) (hr : ∀ x, x ∈ l → RdR W g9 x) : SegsIn W (some ⟨g, 0, none⟩) (l.map (·.s)) := ⟨fun i s hs => by
  rw [List.getElem?_map] at hs
  obtain ⟨x, hx, rfl⟩ := Option.map_eq_some_iff.1 hs
  have h1 := hr x (List.mem_of_getElem? hx)
  exact ⟨g, 0, x.p, x.q, x.cap, x.vc, rfl, fun j v hv => by rw [hb.cell, Nat.zero_add]; exact hsc i x hx j v hv, h1.inn, h1.vc⟩⟩
theorem RdR.below {w w' : World} {g : Nat} {x : SegR} (h : RdR w g x) (hb : Below w.heap.size w w') : RdR w' g x := ⟨h.inn.below hb, h.vc, h.farR, h.farV⟩
def keepR (fl : Int) (l : List SegR) : List SegR := l.filter fun x => decide (fl ≤ lastT x.s.runs)
theorem keepR_all {fl : Int} {l : List SegR} (h : l.all (fun x => decide (fl ≤ lastT x.s.runs)) = true) : keepR fl l = l := by
  unfold keepR
  rw [List.filter_eq_self]
  intro q hq
  exact List.all_eq_true.1 h q hq
theorem keepR_snoc (fl : Int) (l : List SegR) (x : SegR) : keepR fl (l ++ [x]) = if lastT x.s.runs < fl then keepR fl l else keepR fl l ++ [x] := by
  unfold keepR
  rw [List.filter_append]
  by_cases h : lastT x.s.runs < fl
  · rw [if_pos h]
    simp [List.filter_cons, show ¬fl ≤ lastT x.s.runs by omega]
  · rw [if_neg h]
    simp [List.filter_cons, show fl ≤ lastT x.s.runs by omega]
theorem keepR_next {fl : Int} {l : List SegR} {j : Nat} {x : SegR} (h : l[j]? = some x) : keepR fl (l.take (j + 1)) = if lastT x.s.runs < fl then keepR fl (l.take j) else keepR fl (l.take j) ++ [x] := by
  rw [List.take_add_one, h]
  exact keepR_snoc fl (l.take j) x
/-- So far gone through: what stays is at the begin of the block, the rest stands as it was. -/
structure DsInv (fl : Int) (l : List SegR) (cur : Array Value) (i j : Nat) : Prop where
  size : cur.size = l.length * 8
  len : (keepR fl (l.take j)).length = i
  pre : cur.toList.take (i * 8) = flatSegs (keepR fl (l.take j))
  rest : ∀ k x, j ≤ k → l[k]? = some x → ∀ m v, (segRA x)[m]? = some v → cur[k * 8 + m]? = some v
theorem DsInv.del {fl : Int} {l : List SegR} {cur : Array Value} {i j : Nat} {x : SegR} (h : DsInv fl l cur i j) (hj : l[j]? = some x) (ht : lastT x.s.runs < fl) : DsInv fl l cur i (j + 1) := by
  have e : keepR fl (l.take (j + 1)) = keepR fl (l.take j) := by rw [keepR_next hj, if_pos ht]
  exact ⟨h.size, by rw [e]; exact h.len, by rw [e]; exact h.pre, fun k x hk => h.rest k x (by omega)⟩
theorem take_set1 {c : Array Value} {n : Nat} {a : Value} (h : n < c.size) : (c.setIfInBounds n a).toList.take (n + 1) = c.toList.take n ++ [a] := by
  rw [Array.toList_setIfInBounds]
  apply List.ext_getElem?
  intro k
  have hl : n < c.toList.length := by rw [Array.length_toList]; exact h
  rw [List.getElem?_take, List.getElem?_set]
  rcases Nat.lt_trichotomy k n with h1 | h1 | h1
  · rw [if_pos (by omega), if_neg (by omega), List.getElem?_append_left (by rw [List.length_take]; omega), List.getElem?_take, if_pos h1]
  · subst h1
    rw [if_pos (by omega), if_pos rfl, if_pos hl, List.getElem?_append_right (by rw [List.length_take]; omega), List.length_take, Nat.min_eq_left (by omega), Nat.sub_self]
    rfl
  · rw [if_neg (by omega), List.getElem?_eq_none (by rw [List.length_append, List.length_take]; simp; omega)]
def set8 (c : Array Value) (n : Nat) (x : SegR) : Array Value := ((((((((c.setIfInBounds (n) (.int .i64 x.s.K)).setIfInBounds (n + 1) (.slice x.p x.s.runs.length x.cap)).setIfInBounds (n + 2) (.int .i64 x.s.A)).setIfInBounds (n + 3) (.int .i64 x.s.R)).setIfInBounds (n + 4) (.int .i64 x.s.n)).setIfInBounds (n + 5) (.int .i64 x.s.d)).setIfInBounds (n + 6) (.slice x.q x.s.raw.length x.vc)).setIfInBounds (n + 7) (.int .i64 x.s.E))
theorem take_eight {c : Array Value} {n : Nat} {x : SegR} {L : List Value} (h : c.toList.take n = L) (hs : n + 8 ≤ c.size) : (set8 c n x).toList.take (n + 8) = L ++ (segRA x).toList := by
  unfold set8
  rw [take_set1 (n := n + 7) (by simp; omega), take_set1 (n := n + 6) (by simp; omega), take_set1 (n := n + 5) (by simp; omega), take_set1 (n := n + 4) (by simp; omega), take_set1 (n := n + 3) (by simp; omega), take_set1 (n := n + 2) (by simp; omega), take_set1 (n := n + 1) (by simp; omega), take_set1 (n := n) (by omega), h]
  simp only [List.append_assoc]
  rfl
theorem set8_far {c : Array Value} {n k : Nat} {x : SegR} (h : n + 8 ≤ k) : (set8 c n x)[k]? = c[k]? := by
  unfold set8
  simp only [Array.getElem?_setIfInBounds]
  rw [if_neg (by omega), if_neg (by omega), if_neg (by omega), if_neg (by omega), if_neg (by omega), if_neg (by omega), if_neg (by omega), if_neg (by omega)]
theorem flatSegs_snoc (l : List SegR) (x : SegR) : flatSegs (l ++ [x]) = flatSegs l ++ (segRA x).toList := by
  unfold flatSegs
  rw [List.flatMap_append, List.flatMap_singleton]
theorem DsInv.keep {fl : Int} {l : List SegR} {cur : Array Value} {i j : Nat} {x : SegR} (h : DsInv fl l cur i j) (hj : l[j]? = some x) (ht : ¬lastT x.s.runs < fl) (hij : i < j) : DsInv fl l (set8 cur (i * 8) x) (i + 1) (j + 1) := by
  have e : keepR fl (l.take (j + 1)) = keepR fl (l.take j) ++ [x] := by rw [keepR_next hj, if_neg ht]
  have hjl := (List.getElem?_eq_some_iff.1 hj).1
  refine ⟨by simp [set8, h.size], by rw [e, List.length_append, h.len]; rfl, ?_, fun k y hk hr m v hv => ?_⟩
  · rw [e, flatSegs_snoc, show (i + 1) * 8 = i * 8 + 8 by omega, take_eight h.pre (by rw [h.size]; omega)]
  · rw [set8_far (by omega)]
    exact h.rest k y (by omega) hr m v hv
set_option maxRecDepth 100000 in
set_option maxHeartbeats 2000000 in
theorem c_retSeg (x : SegR) (g fl : Int) (o6 : Nat) (w : World) (h6 : Blk w o6 #[.int .i64 fl] 2) (hx : SegIn w x.s x.p x.q) (hv : segB x.s = true) : Calls Tryz.prog 63 #[.agg (segRA x), .pointer (some ⟨o6, 0, none⟩)] w fun e w' => e = .returned (.bool (decide (lastT x.s.runs < fl))) ∧ Below w.heap.size w w' := by
  have c1 := Lib.hid (fun W (hW : Below w.heap.size w W) => c_srLast x.s x.p x.q x.cap x.vc W (hx.below hW) hv)
  unfold segRA segA
  unfold segA at c1
  go_enter Tryz.func63, Tryz.ntmps63
  go_upto_region 1 with (fail)
  refine wp_cutB w (Bc o6 #[.int .i64 fl] 2 <| Bc w.heap.size #[.int .i64 x.s.K, .slice x.p x.s.runs.length x.cap, .int .i64 x.s.A, .int .i64 x.s.R, .int .i64 x.s.n, .int .i64 x.s.d, .slice x.q x.s.raw.length x.vc, .int .i64 x.s.E] 49 <| Bz) ?_
  rintro W1 hW z2 hL
  refine wp_regD 5 8 hW hL ?_
  refine dA ?_
  refine cA (fun W' hC => c1.out W' (hW.trans (hC.1.of_priv hW.size))) ?_
  iterate 3 refine dA ?_
  clear hW hL
  rintro W3 hW z4 hL
  simp only [ndR]
  intros
  simp only [ndS]
  refine wpList_nil ?_
  obtain ⟨⟨b1, yb1, k1, f1⟩, ⟨b2, yb2, k2, f2⟩, -⟩ := hL
  go_wp2
  refine bodyPost_ret (by simp [results, Tryz.results63, go_sem, k1, f1, k2, f2, yb1, yb2]) rfl ⟨rfl, by exact belowAny⟩
def idsRel (w : World) (gp n : Nat) (l : List SegR) (cur : Array Value) (o6 : Nat) (fl : Int) (a' : Act) (W : World) : Prop :=
  Below w.heap.size w W ∧ Blk W o6 #[.int .i64 fl] 2 ∧ Blk W gp cur 49 ∧ ∃ i : Nat, (∃ u : Nat → Value, a' = { tmps := #[.slice (some ⟨gp, 0, none⟩) l.length n, .func (.func 63) #[] #[.pointer (some ⟨o6, 0, none⟩)], u 2, u 3, .int .i64 0, u 5, .slice (some ⟨gp, 0, none⟩) l.length n, .int .i64 (l.length : Int), .int .i64 (i : Int), u 9, u 10, u 11, u 12, u 13, u 14, u 15, u 16, u 17, u 18], defers := [] }) ∧ (l.take i).all (fun x => decide (fl ≤ lastT x.s.runs)) = true ∧ i ≤ l.length
set_option maxRecDepth 100000 in
set_option maxHeartbeats 2000000 in
theorem c_idxSegs (gp n g9 : Nat) (l : List SegR) (cur : Array Value) (o6 : Nat) (fl : Int) (w : World) (hb : Blk w gp cur 49) (hsc : SegCells cur l) (h6 : Blk w o6 #[.int .i64 fl] 2) (hmx : l.length ≤ 3000) (hin : ∀ x, x ∈ l → RdR w g9 x ∧ segB x.s = true) :
    Calls Tryz.prog 99 #[.slice (some ⟨gp, 0, none⟩) l.length n, .func (.func 63) #[] #[.pointer (some ⟨o6, 0, none⟩)]] w fun e w' => ∃ iv : Int, e = .returned (.int .i64 iv) ∧ Below w.heap.size w w' ∧ ((iv = -1 ∧ l.all (fun x => decide (fl ≤ lastT x.s.runs)) = true) ∨ ∃ k : Nat, iv = (k : Int) ∧ k < l.length ∧ (l.take k).all (fun x => decide (fl ≤ lastT x.s.runs)) = true ∧ ∃ x, l[k]? = some x ∧ lastT x.s.runs < fl) := by
  replace hin := Lib.hid hin
  replace hsc := Lib.hid hsc
  go_enter Tryz.func99, Tryz.ntmps99
  go_wp2
  refine wp_loop (idsRel w gp n l cur o6 fl) (fun a' _ => l.length - (intAt (a'.tmps.getD 8 undef)).toNat) ?_ ?_
  · unfold idsRel
    exact ⟨Below.refl _ _, h6, hb, 0, frame_ex rfl, by simp, Nat.zero_le _⟩
  clear hb h6
  rintro a' W ⟨hW0, b1, hG, i, ⟨u, rfl⟩, hall, hi'⟩
  have hz := hW0.size
  have yb1 := b1.lt
  have yG := hG.lt
  replace hall := Lib.hid hall
  rcases Nat.lt_or_ge i l.length with hlt | hge
  · obtain ⟨x, tr⟩ : ∃ x, l[i]? = some x := ⟨l[i]'(by omega), List.getElem?_eq_getElem (by omega)⟩
    obtain ⟨hxr, hxb⟩ := hin.out x (List.mem_of_getElem? tr)
    have hx := hxr.inn.below hW0
    have q0 : W.cell? ⟨gp, i * 8, none⟩ = some (.int .i64 x.s.K) := (hG.cell _).trans (hsc.out i x tr 0 _ rfl)
    have q1 : W.cell? ⟨gp, i * 8 + 1, none⟩ = some (.slice x.p x.s.runs.length x.cap) := (hG.cell _).trans (hsc.out i x tr 1 _ rfl)
    have q2 : W.cell? ⟨gp, i * 8 + 2, none⟩ = some (.int .i64 x.s.A) := (hG.cell _).trans (hsc.out i x tr 2 _ rfl)
    have q3 : W.cell? ⟨gp, i * 8 + 3, none⟩ = some (.int .i64 x.s.R) := (hG.cell _).trans (hsc.out i x tr 3 _ rfl)
    have q4 : W.cell? ⟨gp, i * 8 + 4, none⟩ = some (.int .i64 x.s.n) := (hG.cell _).trans (hsc.out i x tr 4 _ rfl)
    have q5 : W.cell? ⟨gp, i * 8 + 5, none⟩ = some (.int .i64 x.s.d) := (hG.cell _).trans (hsc.out i x tr 5 _ rfl)
    have q6 : W.cell? ⟨gp, i * 8 + 6, none⟩ = some (.slice x.q x.s.raw.length x.vc) := (hG.cell _).trans (hsc.out i x tr 6 _ rfl)
    have q7 : W.cell? ⟨gp, i * 8 + 7, none⟩ = some (.int .i64 x.s.E) := (hG.cell _).trans (hsc.out i x tr 7 _ rfl)
    have c1 := Lib.hid (fun W (hb : Blk W o6 #[.int .i64 fl] 2) (hx : SegIn W x.s x.p x.q) => c_retSeg x fl fl o6 W hb hx hxb)
    unfold segRA segA at c1
    have hnx := Lib.hid (fun (e : fl ≤ lastT x.s.runs) => (show (l.take (i + 1)).all (fun x => decide (fl ≤ lastT x.s.runs)) = true by rw [List.take_add_one, tr, List.all_append, hall.out]; simp [e]))
    replace tr := Lib.hid tr
    clear hxr
    by_cases hd : lastT x.s.runs < fl
    · have c1 := Lib.hid (fun W hb hx => decide_eq_true hd ▸ c1.out W hb hx)
      go_wp2_with fail
      refine (c1.out W b1 hx).mono ?_
      rintro e w9 ⟨rfl, hB9⟩
      have d1 := b1.below hB9
      have d2 := hG.below hB9
      have e1 := hW0.trans (hB9.mono hz)
      clear hB9 q0 q1 q2 q3 q4 q5 q6 q7 hG
      go_wp2
      go_ret
      exact ⟨_, rfl, e1, .inr ⟨i, rfl, hlt, hall.out, x, tr.out, hd⟩⟩
    · have c1 := Lib.hid (fun W hb hx => decide_eq_false hd ▸ c1.out W hb hx)
      replace hnx := Lib.hid (hnx.out (by omega))
      go_wp2_with fail
      refine (c1.out W b1 hx).mono ?_
      rintro e w9 ⟨rfl, hB9⟩
      have d1 := b1.below hB9
      have d2 := hG.below hB9
      have e1 := hW0.trans (hB9.mono hz)
      clear hB9 q0 q1 q2 q3 q4 q5 q6 q7 hG
      go_wp2
      rw [show (i : Int) + 1 = ((i + 1 : Nat) : Int) by omega]
      refine ⟨?_, by simp [intAt]; omega⟩
      unfold idsRel
      exact ⟨e1, d1, d2, i + 1, frame_ex rfl, hnx.out, by omega⟩
  · obtain rfl : i = l.length := by omega
    go_wp2
    go_ret
    exact ⟨_, rfl, hW0, .inl ⟨rfl, by have := hall.out; rwa [List.take_length] at this⟩⟩
theorem zero_sg (w : World) : (zeroValue 49).run Tryz.prog w = .ok (.agg #[.int .i64 0, .slice none 0 0, .int .i64 0, .int .i64 0, .int .i64 0, .int .i64 0, .slice none 0 0, .int .i64 0]) w := by kernel_rfl
def zSg : Array Value := #[.int .i64 0, .slice none 0 0, .int .i64 0, .int .i64 0, .int .i64 0, .int .i64 0, .slice none 0 0, .int .i64 0]
theorem zSg_size (n : Nat) : (Builtin.zeroCells zSg n).toList.length = n * 8 := by rw [Array.length_toList, size_zeroCells]; rfl
theorem zSg_one (n : Nat) : ∀ v ∈ (Builtin.zeroCells zSg n).toList, v.oneCell' = true := by
  intro v hv
  unfold Builtin.zeroCells at hv
  simp only [Array.toList_map, List.mem_map] at hv
  obtain ⟨k, _, rfl⟩ := hv
  have hk : k % zSg.size < 8 := Nat.mod_lt _ (by decide)
  match h : k % zSg.size, hk with
  | 0, _ => rfl
  | 1, _ => rfl
  | 2, _ => rfl
  | 3, _ => rfl
  | 4, _ => rfl
  | 5, _ => rfl
  | 6, _ => rfl
  | 7, _ => rfl
def clrS (cur : Array Value) (i n : Nat) : Array Value := (cur.toList.take (i * 8) ++ (Builtin.zeroCells zSg n).toList ++ cur.toList.drop (i * 8 + (Builtin.zeroCells zSg n).toList.length)).toArray
theorem clrS_size (cur : Array Value) (i n : Nat) (h : i * 8 + n * 8 ≤ cur.size) : (clrS cur i n).size = cur.size := by
  have h2 := zSg_size n
  unfold clrS
  simp only [List.size_toArray, List.length_append, List.length_take, List.length_drop, h2]
  rw [Array.length_toList]
  omega
theorem clrS_take (cur : Array Value) (i n : Nat) (h : i * 8 ≤ cur.size) : (clrS cur i n).toList.take (i * 8) = cur.toList.take (i * 8) := by
  unfold clrS
  rw [List.append_assoc, List.take_append_of_le_length (by rw [List.length_take, Array.length_toList]; omega), List.take_take, Nat.min_self]
theorem segCells_flat {cur : Array Value} {l : List SegR} (h : SegCells cur l) (hs : cur.size = l.length * 8) (k : Nat) (hk : k ≤ l.length) : cur.toList.take (k * 8) = flatSegs (l.take k) := by
  apply List.ext_getElem?
  intro j
  have hl : (flatSegs (l.take k)).length = k * 8 := by rw [flatSegs_len, List.length_take]; omega
  rcases Nat.lt_or_ge j (k * 8) with h1 | h1
  · obtain ⟨v, hv⟩ : ∃ v, (flatSegs (l.take k))[j]? = some v := ⟨_, List.getElem?_eq_getElem (by omega)⟩
    obtain ⟨i, r, m, h2, h3, rfl, h4⟩ := flat_of _ 8 (by omega) segRA_len (l.take k) j v hv
    rw [hv, List.getElem?_take, if_pos h1]
    rw [List.getElem?_take] at h2
    split at h2
    · have := h i r h2 m v (by simpa using h4)
      simpa using this
    · cases h2
  · rw [List.getElem?_take, if_neg (by omega), List.getElem?_eq_none (by omega)]
def dsRel (w : World) (gp : Nat) (l : List SegR) (o6 : Nat) (fl : Int) (a' : Act) (W : World) : Prop :=
  Rex [gp] w W ∧ Blk W o6 #[.int .i64 fl] 2 ∧ ∃ (i j : Nat) (cur : Array Value), (∃ u : Nat → Value, a' = { tmps := #[.slice (some ⟨gp, 0, none⟩) l.length l.length, .func (.func 63) #[] #[.pointer (some ⟨o6, 0, none⟩)], u 2, u 3, .slice none 0 0, .int .i64 (i : Int), .int .i64 (j : Int), u 7, u 8, u 9, u 10, u 11, u 12, u 13, u 14, u 15, u 16, u 17, u 18, u 19, u 20, u 21, u 22, u 23, u 24, u 25, u 26, u 27, u 28, u 29, u 30, u 31, u 32, u 33, u 34, u 35, u 36, u 37, u 38, u 39, u 40, u 41], defers := [] }) ∧ Blk W gp cur 49 ∧ DsInv fl l cur i j ∧ i < j ∧ j ≤ l.length
set_option maxRecDepth 100000 in
set_option maxHeartbeats 2000000 in
theorem c_delSegs (gp g9 : Nat) (hg9 : gp ≤ g9) (l : List SegR) (cu0 : Array Value) (o6 : Nat) (fl : Int) (w : World) (hb0 : Blk w gp cu0 49) (hs0 : cu0.size = l.length * 8) (hsc : SegCells cu0 l) (h6 : Blk w o6 #[.int .i64 fl] 2) (hmx : l.length ≤ 3000) (hin : ∀ x, x ∈ l → RdR w g9 x ∧ segB x.s = true) :
    Calls Tryz.prog 62 #[.slice (some ⟨gp, 0, none⟩) l.length l.length, .func (.func 63) #[] #[.pointer (some ⟨o6, 0, none⟩)]] w fun e w' => e = .returned (.slice (some ⟨gp, 0, none⟩) (keepR fl l).length l.length) ∧ Rex [gp] w w' ∧ ∃ cur, Blk w' gp cur 49 ∧ SegCells cur (keepR fl l) := by
  have hne : o6 ≠ gp := by
    rintro rfl
    have e1 : w.heap[o6]? = some (.cells #[.int .i64 fl] 2 (0, 0)) := h6
    have e2 : w.heap[o6]? = some (.cells cu0 49 (0, 0)) := hb0
    rw [e1] at e2
    injection e2 with e2
    injection e2 with _ e2 _
    revert e2
    decide
  go_enter Tryz.func62, Tryz.ntmps62
  go_wp2_with fail
  refine (c_idxSegs gp l.length g9 l cu0 o6 fl w hb0 hsc h6 hmx hin).mono ?_
  rintro e w1 ⟨iv, rfl, hB1, hiv⟩
  rcases hiv with ⟨rfl, hall⟩ | ⟨k, rfl, hk, hall, x, hkt, htf⟩
  · have hkl := Lib.hid (keepR_all hall)
    have hR := Lib.hid (Rex.of_below (L := [gp]) hB1)
    have hb1 := Lib.hid (hb0.below hB1)
    replace hsc := Lib.hid hsc
    replace hin := Lib.hid hin
    clear hall hB1
    go_wp2
    go_ret
    exact ⟨by rw [hkl.out]; rfl, hR.out, cu0, hb1.out, by rw [hkl.out]; exact hsc.out⟩
  have hb1 := hb0.below hB1
  have h61 := h6.below hB1
  have hR := Rex.of_below (L := [gp]) hB1
  have hk0 : keepR fl (l.take k) = l.take k := keepR_all hall
  have hinv : DsInv fl l cu0 k (k + 1) := by
    have e : keepR fl (l.take (k + 1)) = l.take k := by rw [keepR_next hkt, if_pos htf, hk0]
    exact ⟨hs0, by rw [e, List.length_take]; omega, by rw [e]; exact segCells_flat hsc hs0 k (by omega), fun m y hm hr => hsc m y hr⟩
  have hne1 : (((k : Nat) : Int) == -1) = false := beq_eq_false_iff_ne.2 (by omega)
  replace hinv := Lib.hid hinv
  replace hb1 := Lib.hid hb1
  replace hR := Lib.hid hR
  replace hin := Lib.hid hin
  clear hB1 hall hkt hk0 hb0 hs0 hsc h6 htf
  go_wp2
  refine wp_loop (dsRel w gp l o6 fl) (fun a' _ => l.length - (intAt (a'.tmps.getD 6 undef)).toNat) ?_ ?_
  · unfold dsRel
    exact ⟨hR.out, h61, k, k + 1, cu0, frame_ex rfl, hb1.out, hinv.out, by omega, by omega⟩
  clear hR h61 hb1 hinv hne1
  rintro a' W ⟨hR0, b1, i, j, cur, ⟨u, rfl⟩, hG, hinv, hij, hj'⟩
  have hz := hR0.size
  have yb1 := b1.lt
  have yG := hG.lt
  replace hinv := Lib.hid hinv
  rcases Nat.lt_or_ge j l.length with hlt | hge
  · obtain ⟨x, tr⟩ : ∃ x, l[j]? = some x := ⟨l[j]'(by omega), List.getElem?_eq_getElem (by omega)⟩
    obtain ⟨hx8, hxb⟩ := hin.out x (List.mem_of_getElem? tr)
    have hxr := Lib.hid ((hx8.rex hR0 (by simp; omega)).inn)
    have q0 : W.cell? ⟨gp, j * 8, none⟩ = some (.int .i64 x.s.K) := (hG.cell _).trans (hinv.out.rest j x (Nat.le_refl _) tr 0 _ rfl)
    have q1 : W.cell? ⟨gp, j * 8 + 1, none⟩ = some (.slice x.p x.s.runs.length x.cap) := (hG.cell _).trans (hinv.out.rest j x (Nat.le_refl _) tr 1 _ rfl)
    have q2 : W.cell? ⟨gp, j * 8 + 2, none⟩ = some (.int .i64 x.s.A) := (hG.cell _).trans (hinv.out.rest j x (Nat.le_refl _) tr 2 _ rfl)
    have q3 : W.cell? ⟨gp, j * 8 + 3, none⟩ = some (.int .i64 x.s.R) := (hG.cell _).trans (hinv.out.rest j x (Nat.le_refl _) tr 3 _ rfl)
    have q4 : W.cell? ⟨gp, j * 8 + 4, none⟩ = some (.int .i64 x.s.n) := (hG.cell _).trans (hinv.out.rest j x (Nat.le_refl _) tr 4 _ rfl)
    have q5 : W.cell? ⟨gp, j * 8 + 5, none⟩ = some (.int .i64 x.s.d) := (hG.cell _).trans (hinv.out.rest j x (Nat.le_refl _) tr 5 _ rfl)
    have q6 : W.cell? ⟨gp, j * 8 + 6, none⟩ = some (.slice x.q x.s.raw.length x.vc) := (hG.cell _).trans (hinv.out.rest j x (Nat.le_refl _) tr 6 _ rfl)
    have q7 : W.cell? ⟨gp, j * 8 + 7, none⟩ = some (.int .i64 x.s.E) := (hG.cell _).trans (hinv.out.rest j x (Nat.le_refl _) tr 7 _ rfl)
    have c1 := Lib.hid (fun W (hb : Blk W o6 #[.int .i64 fl] 2) (hx : SegIn W x.s x.p x.q) => c_retSeg x fl fl o6 W hb hx hxb)
    unfold segRA segA at c1
    have hxc := Lib.hid (fun m (hm : m < 8) => (show cur[i * 8 + m]? = some (cur.getD (i * 8 + m) undef) by
      have h9 : i * 8 + m < cur.size := by rw [hinv.out.size]; omega
      rw [Array.getElem?_eq_getElem h9, Array.getD, dif_pos h9]; rfl))
    clear hx8
    by_cases hd : lastT x.s.runs < fl
    · have c1 := Lib.hid (fun W hb hx => decide_eq_true hd ▸ c1.out W hb hx)
      have hst := Lib.hid (hinv.out.del tr hd)
      clear tr hxc
      have b2 := hG
      clear hG
      have k1 := b1.cell
      have f1 := b1.frozen
      go_upto_region 8 with (fail)
      clear k1 f1
      refine wp_cutB W (Bc o6 #[.int .i64 fl] 2 <| Rc (fun W' => Blk W' gp cur 49) <| Bc W.heap.size #[.int .i64 x.s.K, .slice x.p x.s.runs.length x.cap, .int .i64 x.s.A, .int .i64 x.s.R, .int .i64 x.s.n, .int .i64 x.s.d, .slice x.q x.s.raw.length x.vc, .int .i64 x.s.E] 49 <| Bz) ?_ (hI := by exact belowAny) (hR := (Bc.mk (by exact blkAny2) <| Rc.mk (by first | exact b2 | exact b2.below (by exact belowAny)) <| Bc.mk (by exact blkAny2) <| trivial))
      clear b1 b2
      rintro W21 hW z22 ⟨⟨b1, yb1, k1, f1⟩, b2, ⟨b3, yb3, k3, f3⟩, -⟩
      clear q0 q1 q2 q3 q4 q5 q6 q7
      have hx9 := hxr.out.below hW
      go_wp2_with fail
      refine (c1.out W21 b1 hx9).mono ?_
      rintro e w9 ⟨rfl, hB9⟩
      have d1 := b1.below hB9
      have d2 := b2.below hB9
      have d3 := b3.below hB9
      have hz9 := hB9.size
      have e1 := hR0.trans (Rex.of_below (L := [gp]) (hW.trans (hB9.mono hW.size)))
      clear b1 b2 b3 k1 f1 k3 f3 hB9 hW hx9
      clear d3
      replace d2 := Lib.hid d2
      replace e1 := Lib.hid e1
      go_wp2
      rw [show (j : Int) + 1 = ((j + 1 : Nat) : Int) by omega]
      refine ⟨?_, by simp [intAt]; omega⟩
      unfold dsRel
      exact ⟨e1.out, d1, i, j + 1, cur, frame_ex rfl, d2.out, hst.out, by omega, by omega⟩
    · have c1 := Lib.hid (fun W hb hx => decide_eq_false hd ▸ c1.out W hb hx)
      have hst := Lib.hid (hinv.out.keep tr hd hij)
      unfold set8 at hst
      clear tr
      have b2 := hG
      clear hG
      have k1 := b1.cell
      have f1 := b1.frozen
      go_upto_region 8 with (fail)
      clear k1 f1
      refine wp_cutB W (Bc o6 #[.int .i64 fl] 2 <| Rc (fun W' => Blk W' gp cur 49) <| Bc W.heap.size #[.int .i64 x.s.K, .slice x.p x.s.runs.length x.cap, .int .i64 x.s.A, .int .i64 x.s.R, .int .i64 x.s.n, .int .i64 x.s.d, .slice x.q x.s.raw.length x.vc, .int .i64 x.s.E] 49 <| Bz) ?_ (hI := by exact belowAny) (hR := (Bc.mk (by exact blkAny2) <| Rc.mk (by first | exact b2 | exact b2.below (by exact belowAny)) <| Bc.mk (by exact blkAny2) <| trivial))
      clear b1 b2
      rintro W21 hW z22 ⟨⟨b1, yb1, k1, f1⟩, b2, ⟨b3, yb3, k3, f3⟩, -⟩
      clear q0 q1 q2 q3 q4 q5 q6 q7
      have hx9 := hxr.out.below hW
      go_wp2_with fail
      refine (c1.out W21 b1 hx9).mono ?_
      rintro e w9 ⟨rfl, hB9⟩
      have d1 := b1.below hB9
      have d2 := b2.below hB9
      have d3 := b3.below hB9
      have hz9 := hB9.size
      have e1 := hR0.trans (Rex.of_below (L := [gp]) (hW.trans (hB9.mono hW.size)))
      clear b1 b2 b3 k1 f1 k3 f3 hB9 hW hx9
      have k3 := d3.cell
      have f3 := d3.frozen
      have x0 := (d2.cell (i * 8 + 0)).trans (hxc.out 0 (by omega))
      have g0 := d2.frozen (i * 8 + 0)
      have x1 := (d2.cell (i * 8 + 1)).trans (hxc.out 1 (by omega))
      have g1 := d2.frozen (i * 8 + 1)
      have x2 := (d2.cell (i * 8 + 2)).trans (hxc.out 2 (by omega))
      have g2 := d2.frozen (i * 8 + 2)
      have x3 := (d2.cell (i * 8 + 3)).trans (hxc.out 3 (by omega))
      have g3 := d2.frozen (i * 8 + 3)
      have x4 := (d2.cell (i * 8 + 4)).trans (hxc.out 4 (by omega))
      have g4 := d2.frozen (i * 8 + 4)
      have x5 := (d2.cell (i * 8 + 5)).trans (hxc.out 5 (by omega))
      have g5 := d2.frozen (i * 8 + 5)
      have x6 := (d2.cell (i * 8 + 6)).trans (hxc.out 6 (by omega))
      have g6 := d2.frozen (i * 8 + 6)
      have x7 := (d2.cell (i * 8 + 7)).trans (hxc.out 7 (by omega))
      have g7 := d2.frozen (i * 8 + 7)
      simp only [Nat.add_zero] at x0 g0
      have yd2 := d2.lt
      have hH := Lib.hid (And.intro e1 (And.intro d1 d2))
      clear e1 d1 d2
      go_wp2
      obtain ⟨e1, d1, d2⟩ := hH.out
      rw [show (i : Int) + 1 = ((i + 1 : Nat) : Int) by omega, show (j : Int) + 1 = ((j + 1 : Nat) : Int) by omega]
      refine ⟨?_, by simp [intAt]; omega⟩
      unfold dsRel
      have a0 := d2.set (i * 8) (.int .i64 x.s.K)
      have a1 := a0.set (i * 8 + 1) (.slice x.p x.s.runs.length x.cap)
      have a2 := a1.set (i * 8 + 2) (.int .i64 x.s.A)
      have a3 := a2.set (i * 8 + 3) (.int .i64 x.s.R)
      have a4 := a3.set (i * 8 + 4) (.int .i64 x.s.n)
      have a5 := a4.set (i * 8 + 5) (.int .i64 x.s.d)
      have a6 := a5.set (i * 8 + 6) (.slice x.q x.s.raw.length x.vc)
      have a7 := a6.set (i * 8 + 7) (.int .i64 x.s.E)
      exact ⟨((((((((e1.setOwn d2 (by simp) _ _).setOwn a0 (by simp) _ _).setOwn a1 (by simp) _ _).setOwn a2 (by simp) _ _).setOwn a3 (by simp) _ _).setOwn a4 (by simp) _ _).setOwn a5 (by simp) _ _).setOwn a6 (by simp) _ _), ((((((((d1.setO hne _ _).setO hne _ _).setO hne _ _).setO hne _ _).setO hne _ _).setO hne _ _).setO hne _ _).setO hne _ _), i + 1, j + 1, _, frame_ex rfl, a7, hst.out, by omega, by omega⟩
  · obtain rfl : j = l.length := by omega
    have h1 := hinv.out.len
    have h2 := hinv.out.pre
    have h3 := hinv.out.size
    rw [List.take_length] at h1 h2
    have hcl0 := fun ty => run_clear_row (P := Tryz.prog) 23 ty 49 zSg (by kernel_rfl) zero_sg W gp (i * 8) (l.length - i) (l.length - i) cur hG (by omega) (by rw [zSg_size, h3]; omega) (zSg_one _)
    have hR9 := hR0.trans (Rex.setRow hG (clrS_size cur i (l.length - i) (by rw [h3]; omega)))
    have hB9 := setRow_heap W gp _ (clrS cur i (l.length - i)) 49 (0, 0) hG
    obtain ⟨w9, hw9⟩ : ∃ w9, w9 = W.setRow gp (clrS cur i (l.length - i)) := ⟨_, rfl⟩
    rw [← hw9] at hR9 hB9
    have hcl : ∀ ty, (Builtin.clear_ #[23] ty #[.slice (some ⟨gp, i * 8, none⟩) (l.length - i) (l.length - i)]).run Tryz.prog W = .ok (.tuple #[]) w9 := fun ty => by rw [hw9]; exact hcl0 ty
    have hfin := Lib.hid (show (keepR fl l).length = i ∧ Rex [gp] w w9 ∧ ∃ cur, Blk w9 gp cur 49 ∧ SegCells cur (keepR fl l) from ⟨h1, hR9, _, hB9, segCells_of (n := i) (by rw [clrS_take cur i _ (by rw [h3]; omega)]; exact h2) h1⟩)
    have hci : ¬l.length = i := by omega
    have hic : i ≤ l.length := by omega
    clear hcl0 hw9 hR9 hB9 h1 h2 h3 hinv hR0 hin
    go_wp2
    go_ret
    exact ⟨by rw [hfin.out.1]; rfl, hfin.out.2⟩
end Go.Proofs.YtpdhdjlhicceoaaGreatDoor
