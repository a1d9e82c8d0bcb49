/- Parts of the proof that follows: SegFar, walked. | The last step of a law, for every law: an argument that came in is opened; behind the call each reads as it did. No condition. -/
import Derived.Laws.AppendOwnNone
import Derived.Test.YtgblmlefmohgnaaGreatRows
import Derived.ProofKit
import Derived.Deep.Slices
import Derived.OpenShut
import Derived.Test.YtgblmlefmohgnaaGreatFar14
set_option linter.unusedSimpArgs false
set_option linter.unusedVariables false
namespace Go.Proofs.YtgblmlefmohgnaaGreat
open Go.RowKit
theorem flatPts_mem : ∀ (l : List (Int × Int)) (v : Value), v ∈ flatPts l → ∃ x, v = .int .i64 x
  | [], v, h => by simp [flatPts] at h
  | r :: l, v, h => by
    rw [show flatPts (r :: l) = [.int .i64 r.1, .int .i64 r.2] ++ flatPts l from rfl] at h
    simp only [List.mem_append, List.mem_cons, List.not_mem_nil, or_false] at h
    rcases h with (rfl | rfl) | h
    · exact ⟨_, rfl⟩
    · exact ⟨_, rfl⟩
    · exact flatPts_mem l v h
theorem flatPts_one (l : List (Int × Int)) (v : Value) (h : v ∈ flatPts l) : v.oneCell' = true := by
  obtain ⟨x, rfl⟩ := flatPts_mem l v h
  rfl
theorem flatPts_from : ∀ (l : List (Int × Int)) (j : Nat) (v : Value), (flatPts l)[j]? = some v → ∃ i x, l[i]? = some x ∧ ((j = i * 2 ∧ v = .int .i64 x.1) ∨ (j = i * 2 + 1 ∧ v = .int .i64 x.2))
  | [], j, v, h => by simp [flatPts] at h
  | r :: l, 0, v, h => by
    rw [show flatPts (r :: l) = .int .i64 r.1 :: .int .i64 r.2 :: flatPts l from rfl] at h
    simp at h
    exact ⟨0, r, rfl, .inl ⟨rfl, h.symm⟩⟩
  | r :: l, 1, v, h => by
    rw [show flatPts (r :: l) = .int .i64 r.1 :: .int .i64 r.2 :: flatPts l from rfl] at h
    simp at h
    exact ⟨0, r, rfl, .inr ⟨rfl, h.symm⟩⟩
  | r :: l, j + 2, v, h => by
    rw [show flatPts (r :: l) = .int .i64 r.1 :: .int .i64 r.2 :: flatPts l from rfl] at h
    simp at h
    obtain ⟨i, x, hx, h'⟩ := flatPts_from l j v h
    refine ⟨i + 1, x, by simpa using hx, ?_⟩
    rcases h' with ⟨e, ev⟩ | ⟨e, ev⟩
    · exact .inl ⟨by omega, ev⟩
    · exact .inr ⟨by omega, ev⟩
theorem PtsIn.flatP {w : World} {a : Addr} {l : List (Int × Int)} (h : PtsIn w (some a) l) (j : Nat) (v : Value) (hv : (flatPts l)[j]? = some v) : w.cell? (a.add j) = some v := by
  obtain ⟨i, r, hr, h'⟩ := flatPts_from l j v hv
  obtain ⟨b, o, e, c0, c1⟩ := h.at' i r hr
  simp at e
  subst e
  have hadd : (⟨b, o, none⟩ : Addr).add j = ⟨b, o + j, none⟩ := by unfold Addr.add; split <;> simp_all
  rw [hadd]
  rcases h' with ⟨rfl, rfl⟩ | ⟨rfl, rfl⟩
  · exact c0
  · exact c1
theorem own_pts {w : World} {base n : Nat} {e : TypeId} {v : Value} {l : List (Int × Int)} (h : w.ownsRow base e 2 v n (flatPts l)) (hn : n = l.length) : ∃ p' cap', v = .slice p' l.length cap' ∧ PtsIn w p' l := by
  subst hn
  obtain ⟨_, h2 | ⟨g, cap', cur, rfl, hg, hb, hn, _, hc, ht⟩⟩ := h
  · obtain ⟨rfl, h0⟩ := h2
    exact ⟨none, 0, by rw [h0], ⟨fun i r hr => by rw [List.getElem?_eq_none_iff.2 (by omega)] at hr; cases hr⟩⟩
  · exact ⟨some ⟨g, 0, none⟩, cap', rfl, pts_in hb ht⟩
set_option maxRecDepth 100000 in
set_option maxHeartbeats 8000000 in
theorem far_nil_no (K A R n d E : Int) (p q : Option Addr) (len cap m vc : Nat) (w : World) (len2 m2 : Nat) (s' : SegT)
    (c1 : ∀ W, Below w.heap.size w W → Calls Tryz.prog 10 #[] W fun e w' => e = .returned (.bool true) ∧ Below W.heap.size W w')
    (c2 : ∀ W, Below w.heap.size w W → Calls Tryz.prog 11 #[.agg #[.int .i64 K, .slice p len cap, .int .i64 A, .int .i64 R, .int .i64 n, .int .i64 d, .slice q m vc, .int .i64 E]] W fun e w' => ∃ p' cap' q' vc', e = .returned (.agg #[.int .i64 K, .slice p' len2 cap', .int .i64 A, .int .i64 R, .int .i64 n, .int .i64 d, .slice q' m2 vc', .int .i64 E]) ∧ Below W.heap.size W w' ∧ SegIn w' s' p' q' ∧ m2 ≤ vc')
    (c3 : ∀ (W : World) (p' q' : Option Addr) (cap' vc' : Nat) (p9 : Option Addr) (cap9 : Nat), SegIn W s' p' q' → m2 ≤ vc' → PtsIn W p9 ([] : List (Int × Int)) → Calls Tryz.prog 28 #[.agg #[.int .i64 K, .slice p' len2 cap', .int .i64 A, .int .i64 R, .int .i64 n, .int .i64 d, .slice q' m2 vc', .int .i64 E], .slice p9 0 cap9] W fun e w' => e = .returned (.tuple #[.int .i64 0, .int .i64 210]) ∧ Below W.heap.size W w')
    (c4 : ∀ (W : World) (p' q' : Option Addr) (cap' vc' : Nat) (p9 : Option Addr) (cap9 : Nat), SegIn W s' p' q' → m2 ≤ vc' → PtsIn W p9 ([] : List (Int × Int)) → Calls Tryz.prog 29 #[.agg #[.int .i64 K, .slice p' len2 cap', .int .i64 A, .int .i64 R, .int .i64 n, .int .i64 d, .slice q' m2 vc', .int .i64 E], .slice p9 0 cap9] W fun e w' => e = .returned (.bool false) ∧ Below W.heap.size W w')
    (c5 : ∀ (W : World) (p' q' : Option Addr) (cap' vc' : Nat), SegIn W s' p' q' → m2 ≤ vc' → Calls Tryz.prog 13 #[.agg #[.int .i64 K, .slice p' len2 cap', .int .i64 A, .int .i64 R, .int .i64 n, .int .i64 d, .slice q' m2 vc', .int .i64 E]] W fun e w' => e = .returned (.bool false) ∧ Below W.heap.size W w') :
    Calls Tryz.prog 7 #[.agg #[.int .i64 K, .slice p len cap, .int .i64 A, .int .i64 R, .int .i64 n, .int .i64 d, .slice q m vc, .int .i64 E], .slice none 0 0] w fun e w' => e = .returned (.bool true) ∧ Below w.heap.size w w' := by
  have H_c1 := Lib.hid c1
  clear c1
  have H_c2 := Lib.hid c2
  clear c2
  have H_c3 := Lib.hid c3
  clear c3
  have H_c4 := Lib.hid c4
  clear c4
  have H_c5 := Lib.hid c5
  clear c5
  go_enter Tryz.func7, Tryz.ntmps7
  go_upto_region 1 with (fail)
  refine wp_facts (fun W' => Below w.heap.size w W' ∧ Blk W' w.heap.size #[.int .i64 K, .slice p len cap, .int .i64 A, .int .i64 R, .int .i64 n, .int .i64 d, .slice q m vc, .int .i64 E] 27) ⟨by exact belowAny, by exact blkAny2⟩ ?_
  rintro W1 ⟨hW, b1⟩
  have z2 := hW.size
  have z3 := b1.lt
  have k1 := b1.cell
  have f1 := b1.frozen
  have c1 := H_c1.out
  go_wp2_with fail
  refine (c1 _ (belowAny)).mono ?_
  rintro e w4 ⟨rfl, hb4⟩
  clear c1
  have z5 := hb4.size
  try simp at z5
  clear k1 f1
  have b1 : Blk w4 w.heap.size #[.int .i64 K, .slice p len cap, .int .i64 A, .int .i64 R, .int .i64 n, .int .i64 d, .slice q m vc, .int .i64 E] 27 := by exact blkAny2
  have hW : Below w.heap.size w w4 := by exact belowAny
  have z6 := b1.lt
  clear hb4
  have k1 := b1.cell
  have f1 := b1.frozen
  have c2 := H_c2.out
  go_wp2_with fail
  refine (c2 _ (belowAny)).mono ?_
  rintro e w7 ⟨p', cap', q', vc', rfl, hb7, hS, hvc⟩
  clear c2
  have z8 := hb7.size
  try simp at z8
  clear k1 f1
  have b1 : Blk w7 w.heap.size #[.int .i64 K, .slice p len cap, .int .i64 A, .int .i64 R, .int .i64 n, .int .i64 d, .slice q m vc, .int .i64 E] 27 := by exact blkAny2
  have hW : Below w.heap.size w w7 := by exact belowAny
  have z9 := b1.lt
  have k1 := b1.cell
  have f1 := b1.frozen
  have b2 : SegP _ _ _ _ := ⟨hS⟩
  clear hS
  go_upto_region 4 with (fail)
  clear k1 f1
  refine wp_facts (fun W' => Below w.heap.size w W' ∧ Blk W' w.heap.size #[.int .i64 K, .slice p len cap, .int .i64 A, .int .i64 R, .int .i64 n, .int .i64 d, .slice q m vc, .int .i64 E] 27 ∧ Blk W' w7.heap.size #[.int .i64 K, .slice p' len2 cap', .int .i64 A, .int .i64 R, .int .i64 n, .int .i64 d, .slice q' m2 vc', .int .i64 E] 27 ∧ SegP W' s' p' q') ⟨by exact belowAny, by exact blkAny2, by exact blkAny2, by exact segPAny⟩ ?_
  clear b1 b2 hW
  rintro W10 ⟨hW, b1, b2, b3⟩
  have z11 := hW.size
  have z12 := b1.lt
  have z13 := b2.lt
  have k1 := b1.cell
  have f1 := b1.frozen
  have k2 := b2.cell
  have f2 := b2.frozen
  have hmk : ∀ W, (Instr.buildSlice 39 0 #[]).run Tryz.prog W = .ok (.slice (some ⟨W.heap.size, 0, none⟩) 0 0) (W.alloc (.cells #[] 58)) := fun W => by kernel_rfl
  obtain ⟨i, hi, hz0, hz1, hz2⟩ := info_parts Tryz.infoPoint
  have hown0 := World.ownsRow_made (e := 58) (size := 2) (base := W10.heap.size) W10 #[] 0 (Nat.le_refl _) (by simp [maxLen]) (by simp)
  go_upto_region 5 with (at_builtin; refine wpList_append_own_none rfl (.tmp 16) (.tmp 21) 39 rfl W10.heap.size 58 i 2 (by kernel_rfl) hi _ 0 [] rfl hown0 rfl ?_)
  try clear k1 f1 k2 f2
  try clear i hi hz0 hz1 hz2
  refine wp_facts (fun W' => Below w.heap.size w W' ∧ Blk W' w.heap.size #[.int .i64 K, .slice p len cap, .int .i64 A, .int .i64 R, .int .i64 n, .int .i64 d, .slice q m vc, .int .i64 E] 27 ∧ Blk W' w7.heap.size #[.int .i64 K, .slice p' len2 cap', .int .i64 A, .int .i64 R, .int .i64 n, .int .i64 d, .slice q' m2 vc', .int .i64 E] 27 ∧ SegP W' s' p' q' ∧ PtsIn W' (some ⟨W10.heap.size, 0, none⟩) ([] : List (Int × Int))) ⟨by exact belowAny, by exact blkAny2, by exact blkAny2, by exact segPAny, by exact ⟨fun i r hr => by simp at hr⟩⟩ ?_
  clear b1 b2 b3 hW
  rintro W14 ⟨hW, b1, b2, b3, b4⟩
  have z15 := hW.size
  have z16 := b1.lt
  have z17 := b2.lt
  have k1 := b1.cell
  have f1 := b1.frozen
  have k2 := b2.cell
  have f2 := b2.frozen
  have c3 := H_c3.out
  go_wp2_with fail
  refine (c3 _ p' q' cap' vc' (some ⟨W10.heap.size, 0, none⟩) 0 segNow hvc ptsAny).mono ?_
  rintro e w18 ⟨rfl, hb18⟩
  clear c3
  have z19 := hb18.size
  try simp at z19
  clear k1 f1 k2 f2
  have b1 : Blk w18 w.heap.size #[.int .i64 K, .slice p len cap, .int .i64 A, .int .i64 R, .int .i64 n, .int .i64 d, .slice q m vc, .int .i64 E] 27 := by exact blkAny2
  have b2 : Blk w18 w7.heap.size #[.int .i64 K, .slice p' len2 cap', .int .i64 A, .int .i64 R, .int .i64 n, .int .i64 d, .slice q' m2 vc', .int .i64 E] 27 := by exact blkAny2
  have b3 : SegP w18 s' p' q' := by exact segPAny
  have b4 : PtsIn w18 (some ⟨W10.heap.size, 0, none⟩) ([] : List (Int × Int)) := by exact ptsAny
  have hW : Below w.heap.size w w18 := by exact belowAny
  have z20 := b1.lt
  have z21 := b2.lt
  clear hb18
  have k1 := b1.cell
  have f1 := b1.frozen
  have k2 := b2.cell
  have f2 := b2.frozen
  have c4 := H_c4.out
  go_wp2_with fail
  refine (c4 _ p' q' cap' vc' (some ⟨W10.heap.size, 0, none⟩) 0 segNow hvc ptsAny).mono ?_
  rintro e w22 ⟨rfl, hb22⟩
  clear c4
  have z23 := hb22.size
  try simp at z23
  clear k1 f1 k2 f2
  have b1 : Blk w22 w.heap.size #[.int .i64 K, .slice p len cap, .int .i64 A, .int .i64 R, .int .i64 n, .int .i64 d, .slice q m vc, .int .i64 E] 27 := by exact blkAny2
  have b2 : Blk w22 w7.heap.size #[.int .i64 K, .slice p' len2 cap', .int .i64 A, .int .i64 R, .int .i64 n, .int .i64 d, .slice q' m2 vc', .int .i64 E] 27 := by exact blkAny2
  have b3 : SegP w22 s' p' q' := by exact segPAny
  have b4 : PtsIn w22 (some ⟨W10.heap.size, 0, none⟩) ([] : List (Int × Int)) := by exact ptsAny
  have hW : Below w.heap.size w w22 := by exact belowAny
  have z24 := b1.lt
  have z25 := b2.lt
  clear hb22
  have k1 := b1.cell
  have f1 := b1.frozen
  have k2 := b2.cell
  have f2 := b2.frozen
  have c5 := H_c5.out
  go_wp2_with fail
  refine (c5 _ p' q' cap' vc' segNow hvc).mono ?_
  rintro e w26 ⟨rfl, hb26⟩
  clear c5
  have z27 := hb26.size
  try simp at z27
  clear k1 f1 k2 f2
  have b1 : Blk w26 w.heap.size #[.int .i64 K, .slice p len cap, .int .i64 A, .int .i64 R, .int .i64 n, .int .i64 d, .slice q m vc, .int .i64 E] 27 := by exact blkAny2
  have b2 : Blk w26 w7.heap.size #[.int .i64 K, .slice p' len2 cap', .int .i64 A, .int .i64 R, .int .i64 n, .int .i64 d, .slice q' m2 vc', .int .i64 E] 27 := by exact blkAny2
  have b3 : SegP w26 s' p' q' := by exact segPAny
  have b4 : PtsIn w26 (some ⟨W10.heap.size, 0, none⟩) ([] : List (Int × Int)) := by exact ptsAny
  have hW : Below w.heap.size w w26 := by exact belowAny
  have z28 := b1.lt
  have z29 := b2.lt
  clear hb26
  have k1 := b1.cell
  have f1 := b1.frozen
  have k2 := b2.cell
  have f2 := b2.frozen
  go_wp2
  have y_1 := b1.lt
  have y_2 := b2.lt
  refine bodyPost_ret (v := .bool true) (by simp [results, Tryz.results7, go_sem, k1, f1, k2, f2, y_1, y_2]) rfl ⟨rfl, by exact belowAny⟩
set_option maxRecDepth 100000 in
set_option maxHeartbeats 8000000 in
theorem far_nil_bad (K A R n d E : Int) (p q : Option Addr) (len cap m vc : Nat) (w : World) (len2 m2 : Nat) (s' : SegT)
    (c1 : ∀ W, Below w.heap.size w W → Calls Tryz.prog 10 #[] W fun e w' => e = .returned (.bool true) ∧ Below W.heap.size W w')
    (c2 : ∀ W, Below w.heap.size w W → Calls Tryz.prog 11 #[.agg #[.int .i64 K, .slice p len cap, .int .i64 A, .int .i64 R, .int .i64 n, .int .i64 d, .slice q m vc, .int .i64 E]] W fun e w' => ∃ p' cap' q' vc', e = .returned (.agg #[.int .i64 K, .slice p' len2 cap', .int .i64 A, .int .i64 R, .int .i64 n, .int .i64 d, .slice q' m2 vc', .int .i64 E]) ∧ Below W.heap.size W w' ∧ SegIn w' s' p' q' ∧ m2 ≤ vc')
    (c3 : ∀ (W : World) (p' q' : Option Addr) (cap' vc' : Nat) (p9 : Option Addr) (cap9 : Nat), SegIn W s' p' q' → m2 ≤ vc' → PtsIn W p9 ([] : List (Int × Int)) → Calls Tryz.prog 28 #[.agg #[.int .i64 K, .slice p' len2 cap', .int .i64 A, .int .i64 R, .int .i64 n, .int .i64 d, .slice q' m2 vc', .int .i64 E], .slice p9 0 cap9] W fun e w' => e = .returned (.tuple #[.int .i64 0, .int .i64 2]) ∧ Below W.heap.size W w')
    (c4 : ∀ (W : World) (p' q' : Option Addr) (cap' vc' : Nat) (p9 : Option Addr) (cap9 : Nat), SegIn W s' p' q' → m2 ≤ vc' → PtsIn W p9 ([] : List (Int × Int)) → Calls Tryz.prog 29 #[.agg #[.int .i64 K, .slice p' len2 cap', .int .i64 A, .int .i64 R, .int .i64 n, .int .i64 d, .slice q' m2 vc', .int .i64 E], .slice p9 0 cap9] W fun e w' => e = .returned (.bool false) ∧ Below W.heap.size W w')
    (c5 : ∀ (W : World) (p' q' : Option Addr) (cap' vc' : Nat), SegIn W s' p' q' → m2 ≤ vc' → Calls Tryz.prog 13 #[.agg #[.int .i64 K, .slice p' len2 cap', .int .i64 A, .int .i64 R, .int .i64 n, .int .i64 d, .slice q' m2 vc', .int .i64 E]] W fun e w' => e = .returned (.bool true) ∧ Below W.heap.size W w')
    (c6 : ∀ (W : World) (p' q' : Option Addr) (cap' vc' : Nat) (p9 : Option Addr) (cap9 : Nat), SegIn W s' p' q' → m2 ≤ vc' → PtsIn W p9 ([] : List (Int × Int)) → Calls Tryz.prog 30 #[.agg #[.int .i64 K, .slice p' len2 cap', .int .i64 A, .int .i64 R, .int .i64 n, .int .i64 d, .slice q' m2 vc', .int .i64 E], .slice p9 0 cap9] W fun e w' => e = .returned (.tuple #[.int .i64 0, .bool false]) ∧ Below W.heap.size W w') :
    Calls Tryz.prog 7 #[.agg #[.int .i64 K, .slice p len cap, .int .i64 A, .int .i64 R, .int .i64 n, .int .i64 d, .slice q m vc, .int .i64 E], .slice none 0 0] w fun e w' => e = .returned (.bool true) ∧ Below w.heap.size w w' := by
  have H_c1 := Lib.hid c1
  clear c1
  have H_c2 := Lib.hid c2
  clear c2
  have H_c3 := Lib.hid c3
  clear c3
  have H_c4 := Lib.hid c4
  clear c4
  have H_c5 := Lib.hid c5
  clear c5
  have H_c6 := Lib.hid c6
  clear c6
  go_enter Tryz.func7, Tryz.ntmps7
  go_upto_region 1 with (fail)
  refine wp_facts (fun W' => Below w.heap.size w W' ∧ Blk W' w.heap.size #[.int .i64 K, .slice p len cap, .int .i64 A, .int .i64 R, .int .i64 n, .int .i64 d, .slice q m vc, .int .i64 E] 27) ⟨by exact belowAny, by exact blkAny2⟩ ?_
  rintro W1 ⟨hW, b1⟩
  have z2 := hW.size
  have z3 := b1.lt
  have k1 := b1.cell
  have f1 := b1.frozen
  have c1 := H_c1.out
  go_wp2_with fail
  refine (c1 _ (belowAny)).mono ?_
  rintro e w4 ⟨rfl, hb4⟩
  clear c1
  have z5 := hb4.size
  try simp at z5
  clear k1 f1
  have b1 : Blk w4 w.heap.size #[.int .i64 K, .slice p len cap, .int .i64 A, .int .i64 R, .int .i64 n, .int .i64 d, .slice q m vc, .int .i64 E] 27 := by exact blkAny2
  have hW : Below w.heap.size w w4 := by exact belowAny
  have z6 := b1.lt
  clear hb4
  have k1 := b1.cell
  have f1 := b1.frozen
  have c2 := H_c2.out
  go_wp2_with fail
  refine (c2 _ (belowAny)).mono ?_
  rintro e w7 ⟨p', cap', q', vc', rfl, hb7, hS, hvc⟩
  clear c2
  have z8 := hb7.size
  try simp at z8
  clear k1 f1
  have b1 : Blk w7 w.heap.size #[.int .i64 K, .slice p len cap, .int .i64 A, .int .i64 R, .int .i64 n, .int .i64 d, .slice q m vc, .int .i64 E] 27 := by exact blkAny2
  have hW : Below w.heap.size w w7 := by exact belowAny
  have z9 := b1.lt
  have k1 := b1.cell
  have f1 := b1.frozen
  have b2 : SegP _ _ _ _ := ⟨hS⟩
  clear hS
  go_upto_region 4 with (fail)
  clear k1 f1
  refine wp_facts (fun W' => Below w.heap.size w W' ∧ Blk W' w.heap.size #[.int .i64 K, .slice p len cap, .int .i64 A, .int .i64 R, .int .i64 n, .int .i64 d, .slice q m vc, .int .i64 E] 27 ∧ Blk W' w7.heap.size #[.int .i64 K, .slice p' len2 cap', .int .i64 A, .int .i64 R, .int .i64 n, .int .i64 d, .slice q' m2 vc', .int .i64 E] 27 ∧ SegP W' s' p' q') ⟨by exact belowAny, by exact blkAny2, by exact blkAny2, by exact segPAny⟩ ?_
  clear b1 b2 hW
  rintro W10 ⟨hW, b1, b2, b3⟩
  have z11 := hW.size
  have z12 := b1.lt
  have z13 := b2.lt
  have k1 := b1.cell
  have f1 := b1.frozen
  have k2 := b2.cell
  have f2 := b2.frozen
  have hmk : ∀ W, (Instr.buildSlice 39 0 #[]).run Tryz.prog W = .ok (.slice (some ⟨W.heap.size, 0, none⟩) 0 0) (W.alloc (.cells #[] 58)) := fun W => by kernel_rfl
  obtain ⟨i, hi, hz0, hz1, hz2⟩ := info_parts Tryz.infoPoint
  have hown0 := World.ownsRow_made (e := 58) (size := 2) (base := W10.heap.size) W10 #[] 0 (Nat.le_refl _) (by simp [maxLen]) (by simp)
  go_upto_region 5 with (at_builtin; refine wpList_append_own_none rfl (.tmp 16) (.tmp 21) 39 rfl W10.heap.size 58 i 2 (by kernel_rfl) hi _ 0 [] rfl hown0 rfl ?_)
  try clear k1 f1 k2 f2
  try clear i hi hz0 hz1 hz2
  refine wp_facts (fun W' => Below w.heap.size w W' ∧ Blk W' w.heap.size #[.int .i64 K, .slice p len cap, .int .i64 A, .int .i64 R, .int .i64 n, .int .i64 d, .slice q m vc, .int .i64 E] 27 ∧ Blk W' w7.heap.size #[.int .i64 K, .slice p' len2 cap', .int .i64 A, .int .i64 R, .int .i64 n, .int .i64 d, .slice q' m2 vc', .int .i64 E] 27 ∧ SegP W' s' p' q' ∧ PtsIn W' (some ⟨W10.heap.size, 0, none⟩) ([] : List (Int × Int))) ⟨by exact belowAny, by exact blkAny2, by exact blkAny2, by exact segPAny, by exact ⟨fun i r hr => by simp at hr⟩⟩ ?_
  clear b1 b2 b3 hW
  rintro W14 ⟨hW, b1, b2, b3, b4⟩
  have z15 := hW.size
  have z16 := b1.lt
  have z17 := b2.lt
  have k1 := b1.cell
  have f1 := b1.frozen
  have k2 := b2.cell
  have f2 := b2.frozen
  have c3 := H_c3.out
  go_wp2_with fail
  refine (c3 _ p' q' cap' vc' (some ⟨W10.heap.size, 0, none⟩) 0 segNow hvc ptsAny).mono ?_
  rintro e w18 ⟨rfl, hb18⟩
  clear c3
  have z19 := hb18.size
  try simp at z19
  clear k1 f1 k2 f2
  have b1 : Blk w18 w.heap.size #[.int .i64 K, .slice p len cap, .int .i64 A, .int .i64 R, .int .i64 n, .int .i64 d, .slice q m vc, .int .i64 E] 27 := by exact blkAny2
  have b2 : Blk w18 w7.heap.size #[.int .i64 K, .slice p' len2 cap', .int .i64 A, .int .i64 R, .int .i64 n, .int .i64 d, .slice q' m2 vc', .int .i64 E] 27 := by exact blkAny2
  have b3 : SegP w18 s' p' q' := by exact segPAny
  have b4 : PtsIn w18 (some ⟨W10.heap.size, 0, none⟩) ([] : List (Int × Int)) := by exact ptsAny
  have hW : Below w.heap.size w w18 := by exact belowAny
  have z20 := b1.lt
  have z21 := b2.lt
  clear hb18
  have k1 := b1.cell
  have f1 := b1.frozen
  have k2 := b2.cell
  have f2 := b2.frozen
  have c4 := H_c4.out
  go_wp2_with fail
  refine (c4 _ p' q' cap' vc' (some ⟨W10.heap.size, 0, none⟩) 0 segNow hvc ptsAny).mono ?_
  rintro e w22 ⟨rfl, hb22⟩
  clear c4
  have z23 := hb22.size
  try simp at z23
  clear k1 f1 k2 f2
  have b1 : Blk w22 w.heap.size #[.int .i64 K, .slice p len cap, .int .i64 A, .int .i64 R, .int .i64 n, .int .i64 d, .slice q m vc, .int .i64 E] 27 := by exact blkAny2
  have b2 : Blk w22 w7.heap.size #[.int .i64 K, .slice p' len2 cap', .int .i64 A, .int .i64 R, .int .i64 n, .int .i64 d, .slice q' m2 vc', .int .i64 E] 27 := by exact blkAny2
  have b3 : SegP w22 s' p' q' := by exact segPAny
  have b4 : PtsIn w22 (some ⟨W10.heap.size, 0, none⟩) ([] : List (Int × Int)) := by exact ptsAny
  have hW : Below w.heap.size w w22 := by exact belowAny
  have z24 := b1.lt
  have z25 := b2.lt
  clear hb22
  have k1 := b1.cell
  have f1 := b1.frozen
  have k2 := b2.cell
  have f2 := b2.frozen
  have c5 := H_c5.out
  go_wp2_with fail
  refine (c5 _ p' q' cap' vc' segNow hvc).mono ?_
  rintro e w26 ⟨rfl, hb26⟩
  clear c5
  have z27 := hb26.size
  try simp at z27
  clear k1 f1 k2 f2
  have b1 : Blk w26 w.heap.size #[.int .i64 K, .slice p len cap, .int .i64 A, .int .i64 R, .int .i64 n, .int .i64 d, .slice q m vc, .int .i64 E] 27 := by exact blkAny2
  have b2 : Blk w26 w7.heap.size #[.int .i64 K, .slice p' len2 cap', .int .i64 A, .int .i64 R, .int .i64 n, .int .i64 d, .slice q' m2 vc', .int .i64 E] 27 := by exact blkAny2
  have b3 : SegP w26 s' p' q' := by exact segPAny
  have b4 : PtsIn w26 (some ⟨W10.heap.size, 0, none⟩) ([] : List (Int × Int)) := by exact ptsAny
  have hW : Below w.heap.size w w26 := by exact belowAny
  have z28 := b1.lt
  have z29 := b2.lt
  clear hb26
  have k1 := b1.cell
  have f1 := b1.frozen
  have k2 := b2.cell
  have f2 := b2.frozen
  have c6 := H_c6.out
  go_wp2_with fail
  refine (c6 _ p' q' cap' vc' (some ⟨W10.heap.size, 0, none⟩) 0 segNow hvc ptsAny).mono ?_
  rintro e w30 ⟨rfl, hb30⟩
  clear c6
  have z31 := hb30.size
  try simp at z31
  clear k1 f1 k2 f2
  have b1 : Blk w30 w.heap.size #[.int .i64 K, .slice p len cap, .int .i64 A, .int .i64 R, .int .i64 n, .int .i64 d, .slice q m vc, .int .i64 E] 27 := by exact blkAny2
  have b2 : Blk w30 w7.heap.size #[.int .i64 K, .slice p' len2 cap', .int .i64 A, .int .i64 R, .int .i64 n, .int .i64 d, .slice q' m2 vc', .int .i64 E] 27 := by exact blkAny2
  have b3 : SegP w30 s' p' q' := by exact segPAny
  have b4 : PtsIn w30 (some ⟨W10.heap.size, 0, none⟩) ([] : List (Int × Int)) := by exact ptsAny
  have hW : Below w.heap.size w w30 := by exact belowAny
  have z32 := b1.lt
  have z33 := b2.lt
  clear hb30
  have k1 := b1.cell
  have f1 := b1.frozen
  have k2 := b2.cell
  have f2 := b2.frozen
  go_wp2
  have y_1 := b1.lt
  have y_2 := b2.lt
  refine bodyPost_ret (v := .bool true) (by simp [results, Tryz.results7, go_sem, k1, f1, k2, f2, y_1, y_2]) rfl ⟨rfl, by exact belowAny⟩
set_option maxRecDepth 100000 in
set_option maxHeartbeats 8000000 in
theorem far_short_no (K A R n d E : Int) (p q : Option Addr) (len cap m vc : Nat) (w : World) (len2 m2 : Nat) (s' : SegT) (l : List (Int × Int)) (pa : Addr) (cl : Nat) (hl0 : l.length ≤ 300) (hl1 : l.length ≤ cl) (hl : PtsIn w (some pa) l)
    (c1 : ∀ W, Below w.heap.size w W → Calls Tryz.prog 10 #[] W fun e w' => e = .returned (.bool true) ∧ Below W.heap.size W w')
    (c2 : ∀ W, Below w.heap.size w W → Calls Tryz.prog 11 #[.agg #[.int .i64 K, .slice p len cap, .int .i64 A, .int .i64 R, .int .i64 n, .int .i64 d, .slice q m vc, .int .i64 E]] W fun e w' => ∃ p' cap' q' vc', e = .returned (.agg #[.int .i64 K, .slice p' len2 cap', .int .i64 A, .int .i64 R, .int .i64 n, .int .i64 d, .slice q' m2 vc', .int .i64 E]) ∧ Below W.heap.size W w' ∧ SegIn w' s' p' q' ∧ m2 ≤ vc')
    (c3 : ∀ (W : World) (p' q' : Option Addr) (cap' vc' : Nat) (p9 : Option Addr) (cap9 : Nat), SegIn W s' p' q' → m2 ≤ vc' → PtsIn W p9 l → Calls Tryz.prog 28 #[.agg #[.int .i64 K, .slice p' len2 cap', .int .i64 A, .int .i64 R, .int .i64 n, .int .i64 d, .slice q' m2 vc', .int .i64 E], .slice p9 l.length cap9] W fun e w' => e = .returned (.tuple #[.int .i64 0, .int .i64 210]) ∧ Below W.heap.size W w')
    (c4 : ∀ (W : World) (p' q' : Option Addr) (cap' vc' : Nat) (p9 : Option Addr) (cap9 : Nat), SegIn W s' p' q' → m2 ≤ vc' → PtsIn W p9 l → Calls Tryz.prog 29 #[.agg #[.int .i64 K, .slice p' len2 cap', .int .i64 A, .int .i64 R, .int .i64 n, .int .i64 d, .slice q' m2 vc', .int .i64 E], .slice p9 l.length cap9] W fun e w' => e = .returned (.bool false) ∧ Below W.heap.size W w')
    (c5 : ∀ (W : World) (p' q' : Option Addr) (cap' vc' : Nat), SegIn W s' p' q' → m2 ≤ vc' → Calls Tryz.prog 13 #[.agg #[.int .i64 K, .slice p' len2 cap', .int .i64 A, .int .i64 R, .int .i64 n, .int .i64 d, .slice q' m2 vc', .int .i64 E]] W fun e w' => e = .returned (.bool false) ∧ Below W.heap.size W w') :
    Calls Tryz.prog 7 #[.agg #[.int .i64 K, .slice p len cap, .int .i64 A, .int .i64 R, .int .i64 n, .int .i64 d, .slice q m vc, .int .i64 E], .slice (some pa) l.length cl] w fun e w' => e = .returned (.bool true) ∧ Below w.heap.size w w' := by
  have H_c1 := Lib.hid c1
  clear c1
  have H_c2 := Lib.hid c2
  clear c2
  have H_c3 := Lib.hid c3
  clear c3
  have H_c4 := Lib.hid c4
  clear c4
  have H_c5 := Lib.hid c5
  clear c5
  go_enter Tryz.func7, Tryz.ntmps7
  go_upto_region 1 with (fail)
  refine wp_facts (fun W' => Below w.heap.size w W' ∧ Blk W' w.heap.size #[.int .i64 K, .slice p len cap, .int .i64 A, .int .i64 R, .int .i64 n, .int .i64 d, .slice q m vc, .int .i64 E] 27) ⟨by exact belowAny, by exact blkAny2⟩ ?_
  rintro W1 ⟨hW, b1⟩
  have z2 := hW.size
  have z3 := b1.lt
  have k1 := b1.cell
  have f1 := b1.frozen
  have c1 := H_c1.out
  go_wp2_with fail
  refine (c1 _ (belowAny)).mono ?_
  rintro e w4 ⟨rfl, hb4⟩
  clear c1
  have z5 := hb4.size
  try simp at z5
  clear k1 f1
  have b1 : Blk w4 w.heap.size #[.int .i64 K, .slice p len cap, .int .i64 A, .int .i64 R, .int .i64 n, .int .i64 d, .slice q m vc, .int .i64 E] 27 := by exact blkAny2
  have hW : Below w.heap.size w w4 := by exact belowAny
  have z6 := b1.lt
  clear hb4
  have k1 := b1.cell
  have f1 := b1.frozen
  have c2 := H_c2.out
  go_wp2_with fail
  refine (c2 _ (belowAny)).mono ?_
  rintro e w7 ⟨p', cap', q', vc', rfl, hb7, hS, hvc⟩
  clear c2
  have z8 := hb7.size
  try simp at z8
  clear k1 f1
  have b1 : Blk w7 w.heap.size #[.int .i64 K, .slice p len cap, .int .i64 A, .int .i64 R, .int .i64 n, .int .i64 d, .slice q m vc, .int .i64 E] 27 := by exact blkAny2
  have hW : Below w.heap.size w w7 := by exact belowAny
  have z9 := b1.lt
  have k1 := b1.cell
  have f1 := b1.frozen
  have b2 : SegP _ _ _ _ := ⟨hS⟩
  clear hS
  go_upto_region 4 with (fail)
  clear k1 f1
  refine wp_facts (fun W' => Below w.heap.size w W' ∧ Blk W' w.heap.size #[.int .i64 K, .slice p len cap, .int .i64 A, .int .i64 R, .int .i64 n, .int .i64 d, .slice q m vc, .int .i64 E] 27 ∧ Blk W' w7.heap.size #[.int .i64 K, .slice p' len2 cap', .int .i64 A, .int .i64 R, .int .i64 n, .int .i64 d, .slice q' m2 vc', .int .i64 E] 27 ∧ SegP W' s' p' q') ⟨by exact belowAny, by exact blkAny2, by exact blkAny2, by exact segPAny⟩ ?_
  clear b1 b2 hW
  rintro W10 ⟨hW, b1, b2, b3⟩
  have z11 := hW.size
  have z12 := b1.lt
  have z13 := b2.lt
  have k1 := b1.cell
  have f1 := b1.frozen
  have k2 := b2.cell
  have f2 := b2.frozen
  have hmk : ∀ W, (Instr.buildSlice 39 0 #[]).run Tryz.prog W = .ok (.slice (some ⟨W.heap.size, 0, none⟩) 0 0) (W.alloc (.cells #[] 58)) := fun W => by kernel_rfl
  obtain ⟨i, hi, hz0, hz1, hz2⟩ := info_parts Tryz.infoPoint
  have hown0 := World.ownsRow_made (e := 58) (size := 2) (base := W10.heap.size) W10 #[] 0 (Nat.le_refl _) (by simp [maxLen]) (by simp)
  go_upto_region 5 with (at_builtin; refine wpList_append_own _ rfl (.tmp 16) (.tmp 21) 39 rfl W10.heap.size 58 i _ 2 16 (by kernel_rfl) hi hz0 hz1 hz2 rfl (by omega) _ 0 [] rfl hown0 pa l.length cl (flatPts l) rfl (by rw [length_flatPts]) ((hl.below (hW.trans ((Below.refl _ _).alloc (Nat.le_refl _) _ |>.mono hW.size)))).flatP (fun v hv => flatPts_one l v hv) (by simp [maxLen] <;> omega) (by omega) (by simp) ?_)
  intro v' w' hown hgr _
  have hB := clone_below hgr
  obtain ⟨p9, cap9, rfl, hP9⟩ := own_pts (l := l) hown (by simp)
  clear hown hgr hown0 hmk
  have hz9 := hB.size
  clear k1 f1 k2 f2
  have b1 : Blk w' w.heap.size #[.int .i64 K, .slice p len cap, .int .i64 A, .int .i64 R, .int .i64 n, .int .i64 d, .slice q m vc, .int .i64 E] 27 := by exact blkAny2
  have b2 : Blk w' w7.heap.size #[.int .i64 K, .slice p' len2 cap', .int .i64 A, .int .i64 R, .int .i64 n, .int .i64 d, .slice q' m2 vc', .int .i64 E] 27 := by exact blkAny2
  have b3 : SegP w' s' p' q' := by exact segPAny
  have hW : Below w.heap.size w w' := belowAny
  clear hB
  have k1 := b1.cell
  have f1 := b1.frozen
  have k2 := b2.cell
  have f2 := b2.frozen
  go_upto_region 5 with (fail)
  try clear i hi hz0 hz1 hz2
  clear k1 f1 k2 f2
  refine wp_facts (fun W' => Below w.heap.size w W' ∧ Blk W' w.heap.size #[.int .i64 K, .slice p len cap, .int .i64 A, .int .i64 R, .int .i64 n, .int .i64 d, .slice q m vc, .int .i64 E] 27 ∧ Blk W' w7.heap.size #[.int .i64 K, .slice p' len2 cap', .int .i64 A, .int .i64 R, .int .i64 n, .int .i64 d, .slice q' m2 vc', .int .i64 E] 27 ∧ SegP W' s' p' q' ∧ PtsIn W' p9 l) ⟨by exact belowAny, by exact blkAny2, by exact blkAny2, by exact segPAny, by exact ptsAny⟩ ?_
  clear b1 b2 b3 hW
  rintro W14 ⟨hW, b1, b2, b3, b4⟩
  have z15 := hW.size
  have z16 := b1.lt
  have z17 := b2.lt
  clear hP9
  have k1 := b1.cell
  have f1 := b1.frozen
  have k2 := b2.cell
  have f2 := b2.frozen
  have c3 := H_c3.out
  go_wp2_with fail
  refine (c3 _ p' q' cap' vc' p9 cap9 segNow hvc ptsAny).mono ?_
  rintro e w18 ⟨rfl, hb18⟩
  clear c3
  have z19 := hb18.size
  try simp at z19
  clear k1 f1 k2 f2
  have b1 : Blk w18 w.heap.size #[.int .i64 K, .slice p len cap, .int .i64 A, .int .i64 R, .int .i64 n, .int .i64 d, .slice q m vc, .int .i64 E] 27 := by exact blkAny2
  have b2 : Blk w18 w7.heap.size #[.int .i64 K, .slice p' len2 cap', .int .i64 A, .int .i64 R, .int .i64 n, .int .i64 d, .slice q' m2 vc', .int .i64 E] 27 := by exact blkAny2
  have b3 : SegP w18 s' p' q' := by exact segPAny
  have b4 : PtsIn w18 p9 l := by exact ptsAny
  have hW : Below w.heap.size w w18 := by exact belowAny
  have z20 := b1.lt
  have z21 := b2.lt
  clear hb18
  have k1 := b1.cell
  have f1 := b1.frozen
  have k2 := b2.cell
  have f2 := b2.frozen
  have c4 := H_c4.out
  go_wp2_with fail
  refine (c4 _ p' q' cap' vc' p9 cap9 segNow hvc ptsAny).mono ?_
  rintro e w22 ⟨rfl, hb22⟩
  clear c4
  have z23 := hb22.size
  try simp at z23
  clear k1 f1 k2 f2
  have b1 : Blk w22 w.heap.size #[.int .i64 K, .slice p len cap, .int .i64 A, .int .i64 R, .int .i64 n, .int .i64 d, .slice q m vc, .int .i64 E] 27 := by exact blkAny2
  have b2 : Blk w22 w7.heap.size #[.int .i64 K, .slice p' len2 cap', .int .i64 A, .int .i64 R, .int .i64 n, .int .i64 d, .slice q' m2 vc', .int .i64 E] 27 := by exact blkAny2
  have b3 : SegP w22 s' p' q' := by exact segPAny
  have b4 : PtsIn w22 p9 l := by exact ptsAny
  have hW : Below w.heap.size w w22 := by exact belowAny
  have z24 := b1.lt
  have z25 := b2.lt
  clear hb22
  have k1 := b1.cell
  have f1 := b1.frozen
  have k2 := b2.cell
  have f2 := b2.frozen
  have c5 := H_c5.out
  go_wp2_with fail
  refine (c5 _ p' q' cap' vc' segNow hvc).mono ?_
  rintro e w26 ⟨rfl, hb26⟩
  clear c5
  have z27 := hb26.size
  try simp at z27
  clear k1 f1 k2 f2
  have b1 : Blk w26 w.heap.size #[.int .i64 K, .slice p len cap, .int .i64 A, .int .i64 R, .int .i64 n, .int .i64 d, .slice q m vc, .int .i64 E] 27 := by exact blkAny2
  have b2 : Blk w26 w7.heap.size #[.int .i64 K, .slice p' len2 cap', .int .i64 A, .int .i64 R, .int .i64 n, .int .i64 d, .slice q' m2 vc', .int .i64 E] 27 := by exact blkAny2
  have b3 : SegP w26 s' p' q' := by exact segPAny
  have b4 : PtsIn w26 p9 l := by exact ptsAny
  have hW : Below w.heap.size w w26 := by exact belowAny
  have z28 := b1.lt
  have z29 := b2.lt
  clear hb26
  have k1 := b1.cell
  have f1 := b1.frozen
  have k2 := b2.cell
  have f2 := b2.frozen
  go_wp2
  have y_1 := b1.lt
  have y_2 := b2.lt
  refine bodyPost_ret (v := .bool true) (by simp [results, Tryz.results7, go_sem, k1, f1, k2, f2, y_1, y_2]) rfl ⟨rfl, by exact belowAny⟩
set_option maxRecDepth 100000 in
set_option maxHeartbeats 8000000 in
theorem far_short_bad (K A R n d E : Int) (p q : Option Addr) (len cap m vc : Nat) (w : World) (len2 m2 : Nat) (s' : SegT) (l : List (Int × Int)) (pa : Addr) (cl : Nat) (hl0 : l.length ≤ 300) (hl1 : l.length ≤ cl) (hl : PtsIn w (some pa) l)
    (c1 : ∀ W, Below w.heap.size w W → Calls Tryz.prog 10 #[] W fun e w' => e = .returned (.bool true) ∧ Below W.heap.size W w')
    (c2 : ∀ W, Below w.heap.size w W → Calls Tryz.prog 11 #[.agg #[.int .i64 K, .slice p len cap, .int .i64 A, .int .i64 R, .int .i64 n, .int .i64 d, .slice q m vc, .int .i64 E]] W fun e w' => ∃ p' cap' q' vc', e = .returned (.agg #[.int .i64 K, .slice p' len2 cap', .int .i64 A, .int .i64 R, .int .i64 n, .int .i64 d, .slice q' m2 vc', .int .i64 E]) ∧ Below W.heap.size W w' ∧ SegIn w' s' p' q' ∧ m2 ≤ vc')
    (c3 : ∀ (W : World) (p' q' : Option Addr) (cap' vc' : Nat) (p9 : Option Addr) (cap9 : Nat), SegIn W s' p' q' → m2 ≤ vc' → PtsIn W p9 l → Calls Tryz.prog 28 #[.agg #[.int .i64 K, .slice p' len2 cap', .int .i64 A, .int .i64 R, .int .i64 n, .int .i64 d, .slice q' m2 vc', .int .i64 E], .slice p9 l.length cap9] W fun e w' => e = .returned (.tuple #[.int .i64 0, .int .i64 2]) ∧ Below W.heap.size W w')
    (c4 : ∀ (W : World) (p' q' : Option Addr) (cap' vc' : Nat) (p9 : Option Addr) (cap9 : Nat), SegIn W s' p' q' → m2 ≤ vc' → PtsIn W p9 l → Calls Tryz.prog 29 #[.agg #[.int .i64 K, .slice p' len2 cap', .int .i64 A, .int .i64 R, .int .i64 n, .int .i64 d, .slice q' m2 vc', .int .i64 E], .slice p9 l.length cap9] W fun e w' => e = .returned (.bool false) ∧ Below W.heap.size W w')
    (c5 : ∀ (W : World) (p' q' : Option Addr) (cap' vc' : Nat), SegIn W s' p' q' → m2 ≤ vc' → Calls Tryz.prog 13 #[.agg #[.int .i64 K, .slice p' len2 cap', .int .i64 A, .int .i64 R, .int .i64 n, .int .i64 d, .slice q' m2 vc', .int .i64 E]] W fun e w' => e = .returned (.bool true) ∧ Below W.heap.size W w')
    (c6 : ∀ (W : World) (p' q' : Option Addr) (cap' vc' : Nat) (p9 : Option Addr) (cap9 : Nat), SegIn W s' p' q' → m2 ≤ vc' → PtsIn W p9 l → Calls Tryz.prog 30 #[.agg #[.int .i64 K, .slice p' len2 cap', .int .i64 A, .int .i64 R, .int .i64 n, .int .i64 d, .slice q' m2 vc', .int .i64 E], .slice p9 l.length cap9] W fun e w' => e = .returned (.tuple #[.int .i64 0, .bool false]) ∧ Below W.heap.size W w') :
    Calls Tryz.prog 7 #[.agg #[.int .i64 K, .slice p len cap, .int .i64 A, .int .i64 R, .int .i64 n, .int .i64 d, .slice q m vc, .int .i64 E], .slice (some pa) l.length cl] w fun e w' => e = .returned (.bool true) ∧ Below w.heap.size w w' := by
  have H_c1 := Lib.hid c1
  clear c1
  have H_c2 := Lib.hid c2
  clear c2
  have H_c3 := Lib.hid c3
  clear c3
  have H_c4 := Lib.hid c4
  clear c4
  have H_c5 := Lib.hid c5
  clear c5
  have H_c6 := Lib.hid c6
  clear c6
  go_enter Tryz.func7, Tryz.ntmps7
  go_upto_region 1 with (fail)
  refine wp_facts (fun W' => Below w.heap.size w W' ∧ Blk W' w.heap.size #[.int .i64 K, .slice p len cap, .int .i64 A, .int .i64 R, .int .i64 n, .int .i64 d, .slice q m vc, .int .i64 E] 27) ⟨by exact belowAny, by exact blkAny2⟩ ?_
  rintro W1 ⟨hW, b1⟩
  have z2 := hW.size
  have z3 := b1.lt
  have k1 := b1.cell
  have f1 := b1.frozen
  have c1 := H_c1.out
  go_wp2_with fail
  refine (c1 _ (belowAny)).mono ?_
  rintro e w4 ⟨rfl, hb4⟩
  clear c1
  have z5 := hb4.size
  try simp at z5
  clear k1 f1
  have b1 : Blk w4 w.heap.size #[.int .i64 K, .slice p len cap, .int .i64 A, .int .i64 R, .int .i64 n, .int .i64 d, .slice q m vc, .int .i64 E] 27 := by exact blkAny2
  have hW : Below w.heap.size w w4 := by exact belowAny
  have z6 := b1.lt
  clear hb4
  have k1 := b1.cell
  have f1 := b1.frozen
  have c2 := H_c2.out
  go_wp2_with fail
  refine (c2 _ (belowAny)).mono ?_
  rintro e w7 ⟨p', cap', q', vc', rfl, hb7, hS, hvc⟩
  clear c2
  have z8 := hb7.size
  try simp at z8
  clear k1 f1
  have b1 : Blk w7 w.heap.size #[.int .i64 K, .slice p len cap, .int .i64 A, .int .i64 R, .int .i64 n, .int .i64 d, .slice q m vc, .int .i64 E] 27 := by exact blkAny2
  have hW : Below w.heap.size w w7 := by exact belowAny
  have z9 := b1.lt
  have k1 := b1.cell
  have f1 := b1.frozen
  have b2 : SegP _ _ _ _ := ⟨hS⟩
  clear hS
  go_upto_region 4 with (fail)
  clear k1 f1
  refine wp_facts (fun W' => Below w.heap.size w W' ∧ Blk W' w.heap.size #[.int .i64 K, .slice p len cap, .int .i64 A, .int .i64 R, .int .i64 n, .int .i64 d, .slice q m vc, .int .i64 E] 27 ∧ Blk W' w7.heap.size #[.int .i64 K, .slice p' len2 cap', .int .i64 A, .int .i64 R, .int .i64 n, .int .i64 d, .slice q' m2 vc', .int .i64 E] 27 ∧ SegP W' s' p' q') ⟨by exact belowAny, by exact blkAny2, by exact blkAny2, by exact segPAny⟩ ?_
  clear b1 b2 hW
  rintro W10 ⟨hW, b1, b2, b3⟩
  have z11 := hW.size
  have z12 := b1.lt
  have z13 := b2.lt
  have k1 := b1.cell
  have f1 := b1.frozen
  have k2 := b2.cell
  have f2 := b2.frozen
  have hmk : ∀ W, (Instr.buildSlice 39 0 #[]).run Tryz.prog W = .ok (.slice (some ⟨W.heap.size, 0, none⟩) 0 0) (W.alloc (.cells #[] 58)) := fun W => by kernel_rfl
  obtain ⟨i, hi, hz0, hz1, hz2⟩ := info_parts Tryz.infoPoint
  have hown0 := World.ownsRow_made (e := 58) (size := 2) (base := W10.heap.size) W10 #[] 0 (Nat.le_refl _) (by simp [maxLen]) (by simp)
  go_upto_region 5 with (at_builtin; refine wpList_append_own _ rfl (.tmp 16) (.tmp 21) 39 rfl W10.heap.size 58 i _ 2 16 (by kernel_rfl) hi hz0 hz1 hz2 rfl (by omega) _ 0 [] rfl hown0 pa l.length cl (flatPts l) rfl (by rw [length_flatPts]) ((hl.below (hW.trans ((Below.refl _ _).alloc (Nat.le_refl _) _ |>.mono hW.size)))).flatP (fun v hv => flatPts_one l v hv) (by simp [maxLen] <;> omega) (by omega) (by simp) ?_)
  intro v' w' hown hgr _
  have hB := clone_below hgr
  obtain ⟨p9, cap9, rfl, hP9⟩ := own_pts (l := l) hown (by simp)
  clear hown hgr hown0 hmk
  have hz9 := hB.size
  clear k1 f1 k2 f2
  have b1 : Blk w' w.heap.size #[.int .i64 K, .slice p len cap, .int .i64 A, .int .i64 R, .int .i64 n, .int .i64 d, .slice q m vc, .int .i64 E] 27 := by exact blkAny2
  have b2 : Blk w' w7.heap.size #[.int .i64 K, .slice p' len2 cap', .int .i64 A, .int .i64 R, .int .i64 n, .int .i64 d, .slice q' m2 vc', .int .i64 E] 27 := by exact blkAny2
  have b3 : SegP w' s' p' q' := by exact segPAny
  have hW : Below w.heap.size w w' := belowAny
  clear hB
  have k1 := b1.cell
  have f1 := b1.frozen
  have k2 := b2.cell
  have f2 := b2.frozen
  go_upto_region 5 with (fail)
  try clear i hi hz0 hz1 hz2
  clear k1 f1 k2 f2
  refine wp_facts (fun W' => Below w.heap.size w W' ∧ Blk W' w.heap.size #[.int .i64 K, .slice p len cap, .int .i64 A, .int .i64 R, .int .i64 n, .int .i64 d, .slice q m vc, .int .i64 E] 27 ∧ Blk W' w7.heap.size #[.int .i64 K, .slice p' len2 cap', .int .i64 A, .int .i64 R, .int .i64 n, .int .i64 d, .slice q' m2 vc', .int .i64 E] 27 ∧ SegP W' s' p' q' ∧ PtsIn W' p9 l) ⟨by exact belowAny, by exact blkAny2, by exact blkAny2, by exact segPAny, by exact ptsAny⟩ ?_
  clear b1 b2 b3 hW
  rintro W14 ⟨hW, b1, b2, b3, b4⟩
  have z15 := hW.size
  have z16 := b1.lt
  have z17 := b2.lt
  clear hP9
  have k1 := b1.cell
  have f1 := b1.frozen
  have k2 := b2.cell
  have f2 := b2.frozen
  have c3 := H_c3.out
  go_wp2_with fail
  refine (c3 _ p' q' cap' vc' p9 cap9 segNow hvc ptsAny).mono ?_
  rintro e w18 ⟨rfl, hb18⟩
  clear c3
  have z19 := hb18.size
  try simp at z19
  clear k1 f1 k2 f2
  have b1 : Blk w18 w.heap.size #[.int .i64 K, .slice p len cap, .int .i64 A, .int .i64 R, .int .i64 n, .int .i64 d, .slice q m vc, .int .i64 E] 27 := by exact blkAny2
  have b2 : Blk w18 w7.heap.size #[.int .i64 K, .slice p' len2 cap', .int .i64 A, .int .i64 R, .int .i64 n, .int .i64 d, .slice q' m2 vc', .int .i64 E] 27 := by exact blkAny2
  have b3 : SegP w18 s' p' q' := by exact segPAny
  have b4 : PtsIn w18 p9 l := by exact ptsAny
  have hW : Below w.heap.size w w18 := by exact belowAny
  have z20 := b1.lt
  have z21 := b2.lt
  clear hb18
  have k1 := b1.cell
  have f1 := b1.frozen
  have k2 := b2.cell
  have f2 := b2.frozen
  have c4 := H_c4.out
  go_wp2_with fail
  refine (c4 _ p' q' cap' vc' p9 cap9 segNow hvc ptsAny).mono ?_
  rintro e w22 ⟨rfl, hb22⟩
  clear c4
  have z23 := hb22.size
  try simp at z23
  clear k1 f1 k2 f2
  have b1 : Blk w22 w.heap.size #[.int .i64 K, .slice p len cap, .int .i64 A, .int .i64 R, .int .i64 n, .int .i64 d, .slice q m vc, .int .i64 E] 27 := by exact blkAny2
  have b2 : Blk w22 w7.heap.size #[.int .i64 K, .slice p' len2 cap', .int .i64 A, .int .i64 R, .int .i64 n, .int .i64 d, .slice q' m2 vc', .int .i64 E] 27 := by exact blkAny2
  have b3 : SegP w22 s' p' q' := by exact segPAny
  have b4 : PtsIn w22 p9 l := by exact ptsAny
  have hW : Below w.heap.size w w22 := by exact belowAny
  have z24 := b1.lt
  have z25 := b2.lt
  clear hb22
  have k1 := b1.cell
  have f1 := b1.frozen
  have k2 := b2.cell
  have f2 := b2.frozen
  have c5 := H_c5.out
  go_wp2_with fail
  refine (c5 _ p' q' cap' vc' segNow hvc).mono ?_
  rintro e w26 ⟨rfl, hb26⟩
  clear c5
  have z27 := hb26.size
  try simp at z27
  clear k1 f1 k2 f2
  have b1 : Blk w26 w.heap.size #[.int .i64 K, .slice p len cap, .int .i64 A, .int .i64 R, .int .i64 n, .int .i64 d, .slice q m vc, .int .i64 E] 27 := by exact blkAny2
  have b2 : Blk w26 w7.heap.size #[.int .i64 K, .slice p' len2 cap', .int .i64 A, .int .i64 R, .int .i64 n, .int .i64 d, .slice q' m2 vc', .int .i64 E] 27 := by exact blkAny2
  have b3 : SegP w26 s' p' q' := by exact segPAny
  have b4 : PtsIn w26 p9 l := by exact ptsAny
  have hW : Below w.heap.size w w26 := by exact belowAny
  have z28 := b1.lt
  have z29 := b2.lt
  clear hb26
  have k1 := b1.cell
  have f1 := b1.frozen
  have k2 := b2.cell
  have f2 := b2.frozen
  have c6 := H_c6.out
  go_wp2_with fail
  refine (c6 _ p' q' cap' vc' p9 cap9 segNow hvc ptsAny).mono ?_
  rintro e w30 ⟨rfl, hb30⟩
  clear c6
  have z31 := hb30.size
  try simp at z31
  clear k1 f1 k2 f2
  have b1 : Blk w30 w.heap.size #[.int .i64 K, .slice p len cap, .int .i64 A, .int .i64 R, .int .i64 n, .int .i64 d, .slice q m vc, .int .i64 E] 27 := by exact blkAny2
  have b2 : Blk w30 w7.heap.size #[.int .i64 K, .slice p' len2 cap', .int .i64 A, .int .i64 R, .int .i64 n, .int .i64 d, .slice q' m2 vc', .int .i64 E] 27 := by exact blkAny2
  have b3 : SegP w30 s' p' q' := by exact segPAny
  have b4 : PtsIn w30 p9 l := by exact ptsAny
  have hW : Below w.heap.size w w30 := by exact belowAny
  have z32 := b1.lt
  have z33 := b2.lt
  clear hb30
  have k1 := b1.cell
  have f1 := b1.frozen
  have k2 := b2.cell
  have f2 := b2.frozen
  go_wp2
  have y_1 := b1.lt
  have y_2 := b2.lt
  refine bodyPost_ret (v := .bool true) (by simp [results, Tryz.results7, go_sem, k1, f1, k2, f2, y_1, y_2]) rfl ⟨rfl, by exact belowAny⟩
set_option maxRecDepth 100000 in
set_option maxHeartbeats 8000000 in
theorem far_short_ok (K A R n d E : Int) (p q : Option Addr) (len cap m vc : Nat) (w : World) (len2 m2 : Nat) (s' : SegT) (v : Int) (l : List (Int × Int)) (pa : Addr) (cl : Nat) (hl0 : l.length ≤ 300) (hl1 : l.length ≤ cl) (hl : PtsIn w (some pa) l)
    (c1 : ∀ W, Below w.heap.size w W → Calls Tryz.prog 10 #[] W fun e w' => e = .returned (.bool true) ∧ Below W.heap.size W w')
    (c2 : ∀ W, Below w.heap.size w W → Calls Tryz.prog 11 #[.agg #[.int .i64 K, .slice p len cap, .int .i64 A, .int .i64 R, .int .i64 n, .int .i64 d, .slice q m vc, .int .i64 E]] W fun e w' => ∃ p' cap' q' vc', e = .returned (.agg #[.int .i64 K, .slice p' len2 cap', .int .i64 A, .int .i64 R, .int .i64 n, .int .i64 d, .slice q' m2 vc', .int .i64 E]) ∧ Below W.heap.size W w' ∧ SegIn w' s' p' q' ∧ m2 ≤ vc')
    (c3 : ∀ (W : World) (p' q' : Option Addr) (cap' vc' : Nat) (p9 : Option Addr) (cap9 : Nat), SegIn W s' p' q' → m2 ≤ vc' → PtsIn W p9 l → Calls Tryz.prog 28 #[.agg #[.int .i64 K, .slice p' len2 cap', .int .i64 A, .int .i64 R, .int .i64 n, .int .i64 d, .slice q' m2 vc', .int .i64 E], .slice p9 l.length cap9] W fun e w' => e = .returned (.tuple #[.int .i64 v, .int .i64 0]) ∧ Below W.heap.size W w')
    (c4 : ∀ (W : World) (p' q' : Option Addr) (cap' vc' : Nat) (p9 : Option Addr) (cap9 : Nat), SegIn W s' p' q' → m2 ≤ vc' → PtsIn W p9 l → Calls Tryz.prog 29 #[.agg #[.int .i64 K, .slice p' len2 cap', .int .i64 A, .int .i64 R, .int .i64 n, .int .i64 d, .slice q' m2 vc', .int .i64 E], .slice p9 l.length cap9] W fun e w' => e = .returned (.bool (decide (v ≤ E))) ∧ Below W.heap.size W w')
    (c5 : ∀ (W : World) (p' q' : Option Addr) (cap' vc' : Nat), SegIn W s' p' q' → m2 ≤ vc' → Calls Tryz.prog 13 #[.agg #[.int .i64 K, .slice p' len2 cap', .int .i64 A, .int .i64 R, .int .i64 n, .int .i64 d, .slice q' m2 vc', .int .i64 E]] W fun e w' => e = .returned (.bool true) ∧ Below W.heap.size W w')
    (c6 : ∀ (W : World) (p' q' : Option Addr) (cap' vc' : Nat) (p9 : Option Addr) (cap9 : Nat), SegIn W s' p' q' → m2 ≤ vc' → PtsIn W p9 l → Calls Tryz.prog 30 #[.agg #[.int .i64 K, .slice p' len2 cap', .int .i64 A, .int .i64 R, .int .i64 n, .int .i64 d, .slice q' m2 vc', .int .i64 E], .slice p9 l.length cap9] W fun e w' => e = .returned (.tuple #[.int .i64 v, .bool true]) ∧ Below W.heap.size W w') :
    Calls Tryz.prog 7 #[.agg #[.int .i64 K, .slice p len cap, .int .i64 A, .int .i64 R, .int .i64 n, .int .i64 d, .slice q m vc, .int .i64 E], .slice (some pa) l.length cl] w fun e w' => e = .returned (.bool true) ∧ Below w.heap.size w w' := by
  have H_c1 := Lib.hid c1
  clear c1
  have H_c2 := Lib.hid c2
  clear c2
  have H_c3 := Lib.hid c3
  clear c3
  have H_c4 := Lib.hid c4
  clear c4
  have H_c5 := Lib.hid c5
  clear c5
  have H_c6 := Lib.hid c6
  clear c6
  go_enter Tryz.func7, Tryz.ntmps7
  go_upto_region 1 with (fail)
  refine wp_facts (fun W' => Below w.heap.size w W' ∧ Blk W' w.heap.size #[.int .i64 K, .slice p len cap, .int .i64 A, .int .i64 R, .int .i64 n, .int .i64 d, .slice q m vc, .int .i64 E] 27) ⟨by exact belowAny, by exact blkAny2⟩ ?_
  rintro W1 ⟨hW, b1⟩
  have z2 := hW.size
  have z3 := b1.lt
  have k1 := b1.cell
  have f1 := b1.frozen
  have c1 := H_c1.out
  go_wp2_with fail
  refine (c1 _ (belowAny)).mono ?_
  rintro e w4 ⟨rfl, hb4⟩
  clear c1
  have z5 := hb4.size
  try simp at z5
  clear k1 f1
  have b1 : Blk w4 w.heap.size #[.int .i64 K, .slice p len cap, .int .i64 A, .int .i64 R, .int .i64 n, .int .i64 d, .slice q m vc, .int .i64 E] 27 := by exact blkAny2
  have hW : Below w.heap.size w w4 := by exact belowAny
  have z6 := b1.lt
  clear hb4
  have k1 := b1.cell
  have f1 := b1.frozen
  have c2 := H_c2.out
  go_wp2_with fail
  refine (c2 _ (belowAny)).mono ?_
  rintro e w7 ⟨p', cap', q', vc', rfl, hb7, hS, hvc⟩
  clear c2
  have z8 := hb7.size
  try simp at z8
  clear k1 f1
  have b1 : Blk w7 w.heap.size #[.int .i64 K, .slice p len cap, .int .i64 A, .int .i64 R, .int .i64 n, .int .i64 d, .slice q m vc, .int .i64 E] 27 := by exact blkAny2
  have hW : Below w.heap.size w w7 := by exact belowAny
  have z9 := b1.lt
  have k1 := b1.cell
  have f1 := b1.frozen
  have b2 : SegP _ _ _ _ := ⟨hS⟩
  clear hS
  go_upto_region 4 with (fail)
  clear k1 f1
  refine wp_facts (fun W' => Below w.heap.size w W' ∧ Blk W' w.heap.size #[.int .i64 K, .slice p len cap, .int .i64 A, .int .i64 R, .int .i64 n, .int .i64 d, .slice q m vc, .int .i64 E] 27 ∧ Blk W' w7.heap.size #[.int .i64 K, .slice p' len2 cap', .int .i64 A, .int .i64 R, .int .i64 n, .int .i64 d, .slice q' m2 vc', .int .i64 E] 27 ∧ SegP W' s' p' q') ⟨by exact belowAny, by exact blkAny2, by exact blkAny2, by exact segPAny⟩ ?_
  clear b1 b2 hW
  rintro W10 ⟨hW, b1, b2, b3⟩
  have z11 := hW.size
  have z12 := b1.lt
  have z13 := b2.lt
  have k1 := b1.cell
  have f1 := b1.frozen
  have k2 := b2.cell
  have f2 := b2.frozen
  have hmk : ∀ W, (Instr.buildSlice 39 0 #[]).run Tryz.prog W = .ok (.slice (some ⟨W.heap.size, 0, none⟩) 0 0) (W.alloc (.cells #[] 58)) := fun W => by kernel_rfl
  obtain ⟨i, hi, hz0, hz1, hz2⟩ := info_parts Tryz.infoPoint
  have hown0 := World.ownsRow_made (e := 58) (size := 2) (base := W10.heap.size) W10 #[] 0 (Nat.le_refl _) (by simp [maxLen]) (by simp)
  go_upto_region 5 with (at_builtin; refine wpList_append_own _ rfl (.tmp 16) (.tmp 21) 39 rfl W10.heap.size 58 i _ 2 16 (by kernel_rfl) hi hz0 hz1 hz2 rfl (by omega) _ 0 [] rfl hown0 pa l.length cl (flatPts l) rfl (by rw [length_flatPts]) ((hl.below (hW.trans ((Below.refl _ _).alloc (Nat.le_refl _) _ |>.mono hW.size)))).flatP (fun v hv => flatPts_one l v hv) (by simp [maxLen] <;> omega) (by omega) (by simp) ?_)
  intro v' w' hown hgr _
  have hB := clone_below hgr
  obtain ⟨p9, cap9, rfl, hP9⟩ := own_pts (l := l) hown (by simp)
  clear hown hgr hown0 hmk
  have hz9 := hB.size
  clear k1 f1 k2 f2
  have b1 : Blk w' w.heap.size #[.int .i64 K, .slice p len cap, .int .i64 A, .int .i64 R, .int .i64 n, .int .i64 d, .slice q m vc, .int .i64 E] 27 := by exact blkAny2
  have b2 : Blk w' w7.heap.size #[.int .i64 K, .slice p' len2 cap', .int .i64 A, .int .i64 R, .int .i64 n, .int .i64 d, .slice q' m2 vc', .int .i64 E] 27 := by exact blkAny2
  have b3 : SegP w' s' p' q' := by exact segPAny
  have hW : Below w.heap.size w w' := belowAny
  clear hB
  have k1 := b1.cell
  have f1 := b1.frozen
  have k2 := b2.cell
  have f2 := b2.frozen
  go_upto_region 5 with (fail)
  try clear i hi hz0 hz1 hz2
  clear k1 f1 k2 f2
  refine wp_facts (fun W' => Below w.heap.size w W' ∧ Blk W' w.heap.size #[.int .i64 K, .slice p len cap, .int .i64 A, .int .i64 R, .int .i64 n, .int .i64 d, .slice q m vc, .int .i64 E] 27 ∧ Blk W' w7.heap.size #[.int .i64 K, .slice p' len2 cap', .int .i64 A, .int .i64 R, .int .i64 n, .int .i64 d, .slice q' m2 vc', .int .i64 E] 27 ∧ SegP W' s' p' q' ∧ PtsIn W' p9 l) ⟨by exact belowAny, by exact blkAny2, by exact blkAny2, by exact segPAny, by exact ptsAny⟩ ?_
  clear b1 b2 b3 hW
  rintro W14 ⟨hW, b1, b2, b3, b4⟩
  have z15 := hW.size
  have z16 := b1.lt
  have z17 := b2.lt
  clear hP9
  have k1 := b1.cell
  have f1 := b1.frozen
  have k2 := b2.cell
  have f2 := b2.frozen
  have c3 := H_c3.out
  go_wp2_with fail
  refine (c3 _ p' q' cap' vc' p9 cap9 segNow hvc ptsAny).mono ?_
  rintro e w18 ⟨rfl, hb18⟩
  clear c3
  have z19 := hb18.size
  try simp at z19
  clear k1 f1 k2 f2
  have b1 : Blk w18 w.heap.size #[.int .i64 K, .slice p len cap, .int .i64 A, .int .i64 R, .int .i64 n, .int .i64 d, .slice q m vc, .int .i64 E] 27 := by exact blkAny2
  have b2 : Blk w18 w7.heap.size #[.int .i64 K, .slice p' len2 cap', .int .i64 A, .int .i64 R, .int .i64 n, .int .i64 d, .slice q' m2 vc', .int .i64 E] 27 := by exact blkAny2
  have b3 : SegP w18 s' p' q' := by exact segPAny
  have b4 : PtsIn w18 p9 l := by exact ptsAny
  have hW : Below w.heap.size w w18 := by exact belowAny
  have z20 := b1.lt
  have z21 := b2.lt
  clear hb18
  have k1 := b1.cell
  have f1 := b1.frozen
  have k2 := b2.cell
  have f2 := b2.frozen
  have c4 := H_c4.out
  go_wp2_with fail
  refine (c4 _ p' q' cap' vc' p9 cap9 segNow hvc ptsAny).mono ?_
  rintro e w22 ⟨rfl, hb22⟩
  clear c4
  have z23 := hb22.size
  try simp at z23
  clear k1 f1 k2 f2
  have b1 : Blk w22 w.heap.size #[.int .i64 K, .slice p len cap, .int .i64 A, .int .i64 R, .int .i64 n, .int .i64 d, .slice q m vc, .int .i64 E] 27 := by exact blkAny2
  have b2 : Blk w22 w7.heap.size #[.int .i64 K, .slice p' len2 cap', .int .i64 A, .int .i64 R, .int .i64 n, .int .i64 d, .slice q' m2 vc', .int .i64 E] 27 := by exact blkAny2
  have b3 : SegP w22 s' p' q' := by exact segPAny
  have b4 : PtsIn w22 p9 l := by exact ptsAny
  have hW : Below w.heap.size w w22 := by exact belowAny
  have z24 := b1.lt
  have z25 := b2.lt
  clear hb22
  have k1 := b1.cell
  have f1 := b1.frozen
  have k2 := b2.cell
  have f2 := b2.frozen
  have c5 := H_c5.out
  go_wp2_with fail
  refine (c5 _ p' q' cap' vc' segNow hvc).mono ?_
  rintro e w26 ⟨rfl, hb26⟩
  clear c5
  have z27 := hb26.size
  try simp at z27
  clear k1 f1 k2 f2
  have b1 : Blk w26 w.heap.size #[.int .i64 K, .slice p len cap, .int .i64 A, .int .i64 R, .int .i64 n, .int .i64 d, .slice q m vc, .int .i64 E] 27 := by exact blkAny2
  have b2 : Blk w26 w7.heap.size #[.int .i64 K, .slice p' len2 cap', .int .i64 A, .int .i64 R, .int .i64 n, .int .i64 d, .slice q' m2 vc', .int .i64 E] 27 := by exact blkAny2
  have b3 : SegP w26 s' p' q' := by exact segPAny
  have b4 : PtsIn w26 p9 l := by exact ptsAny
  have hW : Below w.heap.size w w26 := by exact belowAny
  have z28 := b1.lt
  have z29 := b2.lt
  clear hb26
  have k1 := b1.cell
  have f1 := b1.frozen
  have k2 := b2.cell
  have f2 := b2.frozen
  have c6 := H_c6.out
  go_wp2_with fail
  refine (c6 _ p' q' cap' vc' p9 cap9 segNow hvc ptsAny).mono ?_
  rintro e w30 ⟨rfl, hb30⟩
  clear c6
  have z31 := hb30.size
  try simp at z31
  clear k1 f1 k2 f2
  have b1 : Blk w30 w.heap.size #[.int .i64 K, .slice p len cap, .int .i64 A, .int .i64 R, .int .i64 n, .int .i64 d, .slice q m vc, .int .i64 E] 27 := by exact blkAny2
  have b2 : Blk w30 w7.heap.size #[.int .i64 K, .slice p' len2 cap', .int .i64 A, .int .i64 R, .int .i64 n, .int .i64 d, .slice q' m2 vc', .int .i64 E] 27 := by exact blkAny2
  have b3 : SegP w30 s' p' q' := by exact segPAny
  have b4 : PtsIn w30 p9 l := by exact ptsAny
  have hW : Below w.heap.size w w30 := by exact belowAny
  have z32 := b1.lt
  have z33 := b2.lt
  clear hb30
  have k1 := b1.cell
  have f1 := b1.frozen
  have k2 := b2.cell
  have f2 := b2.frozen
  go_wp2
  have y_1 := b1.lt
  have y_2 := b2.lt
  refine bodyPost_ret (v := .bool true) (by simp [results, Tryz.results7, go_sem, k1, f1, k2, f2, y_1, y_2]) rfl ⟨rfl, by exact belowAny⟩
set_option maxRecDepth 100000 in
set_option maxHeartbeats 8000000 in
theorem far_long_no (K A R n d E : Int) (p q : Option Addr) (len cap m vc : Nat) (w : World) (len2 m2 : Nat) (s' : SegT) (l l9 : List (Int × Int)) (pa : Addr) (cl : Nat) (hl0 : 300 < l.length) (hl1 : l.length ≤ cl) (hl2 : l.length ≤ 9223372036854775807) (hl8 : PtsIn w (some pa) l9) (h9 : l9.length = 300)
    (c1 : ∀ W, Below w.heap.size w W → Calls Tryz.prog 10 #[] W fun e w' => e = .returned (.bool true) ∧ Below W.heap.size W w')
    (c2 : ∀ W, Below w.heap.size w W → Calls Tryz.prog 11 #[.agg #[.int .i64 K, .slice p len cap, .int .i64 A, .int .i64 R, .int .i64 n, .int .i64 d, .slice q m vc, .int .i64 E]] W fun e w' => ∃ p' cap' q' vc', e = .returned (.agg #[.int .i64 K, .slice p' len2 cap', .int .i64 A, .int .i64 R, .int .i64 n, .int .i64 d, .slice q' m2 vc', .int .i64 E]) ∧ Below W.heap.size W w' ∧ SegIn w' s' p' q' ∧ m2 ≤ vc')
    (c3 : ∀ (W : World) (p' q' : Option Addr) (cap' vc' : Nat) (p9 : Option Addr) (cap9 : Nat), SegIn W s' p' q' → m2 ≤ vc' → PtsIn W p9 l9 → Calls Tryz.prog 28 #[.agg #[.int .i64 K, .slice p' len2 cap', .int .i64 A, .int .i64 R, .int .i64 n, .int .i64 d, .slice q' m2 vc', .int .i64 E], .slice p9 l9.length cap9] W fun e w' => e = .returned (.tuple #[.int .i64 0, .int .i64 210]) ∧ Below W.heap.size W w')
    (c4 : ∀ (W : World) (p' q' : Option Addr) (cap' vc' : Nat) (p9 : Option Addr) (cap9 : Nat), SegIn W s' p' q' → m2 ≤ vc' → PtsIn W p9 l9 → Calls Tryz.prog 29 #[.agg #[.int .i64 K, .slice p' len2 cap', .int .i64 A, .int .i64 R, .int .i64 n, .int .i64 d, .slice q' m2 vc', .int .i64 E], .slice p9 l9.length cap9] W fun e w' => e = .returned (.bool false) ∧ Below W.heap.size W w')
    (c5 : ∀ (W : World) (p' q' : Option Addr) (cap' vc' : Nat), SegIn W s' p' q' → m2 ≤ vc' → Calls Tryz.prog 13 #[.agg #[.int .i64 K, .slice p' len2 cap', .int .i64 A, .int .i64 R, .int .i64 n, .int .i64 d, .slice q' m2 vc', .int .i64 E]] W fun e w' => e = .returned (.bool false) ∧ Below W.heap.size W w') :
    Calls Tryz.prog 7 #[.agg #[.int .i64 K, .slice p len cap, .int .i64 A, .int .i64 R, .int .i64 n, .int .i64 d, .slice q m vc, .int .i64 E], .slice (some pa) l.length cl] w fun e w' => e = .returned (.bool true) ∧ Below w.heap.size w w' := by
  replace h9 := Lib.hid h9
  have H_c1 := Lib.hid c1
  clear c1
  have H_c2 := Lib.hid c2
  clear c2
  have H_c3 := Lib.hid c3
  clear c3
  have H_c4 := Lib.hid c4
  clear c4
  have H_c5 := Lib.hid c5
  clear c5
  go_enter Tryz.func7, Tryz.ntmps7
  go_upto_region 1 with (fail)
  refine wp_facts (fun W' => Below w.heap.size w W' ∧ Blk W' w.heap.size #[.int .i64 K, .slice p len cap, .int .i64 A, .int .i64 R, .int .i64 n, .int .i64 d, .slice q m vc, .int .i64 E] 27) ⟨by exact belowAny, by exact blkAny2⟩ ?_
  rintro W1 ⟨hW, b1⟩
  have z2 := hW.size
  have z3 := b1.lt
  have k1 := b1.cell
  have f1 := b1.frozen
  have c1 := H_c1.out
  go_wp2_with fail
  refine (c1 _ (belowAny)).mono ?_
  rintro e w4 ⟨rfl, hb4⟩
  clear c1
  have z5 := hb4.size
  try simp at z5
  clear k1 f1
  have b1 : Blk w4 w.heap.size #[.int .i64 K, .slice p len cap, .int .i64 A, .int .i64 R, .int .i64 n, .int .i64 d, .slice q m vc, .int .i64 E] 27 := by exact blkAny2
  have hW : Below w.heap.size w w4 := by exact belowAny
  have z6 := b1.lt
  clear hb4
  have k1 := b1.cell
  have f1 := b1.frozen
  have c2 := H_c2.out
  go_wp2_with fail
  refine (c2 _ (belowAny)).mono ?_
  rintro e w7 ⟨p', cap', q', vc', rfl, hb7, hS, hvc⟩
  clear c2
  have z8 := hb7.size
  try simp at z8
  clear k1 f1
  have b1 : Blk w7 w.heap.size #[.int .i64 K, .slice p len cap, .int .i64 A, .int .i64 R, .int .i64 n, .int .i64 d, .slice q m vc, .int .i64 E] 27 := by exact blkAny2
  have hW : Below w.heap.size w w7 := by exact belowAny
  have z9 := b1.lt
  have k1 := b1.cell
  have f1 := b1.frozen
  have b2 : SegP _ _ _ _ := ⟨hS⟩
  clear hS
  go_upto_region 4 with (fail)
  clear k1 f1
  refine wp_facts (fun W' => Below w.heap.size w W' ∧ Blk W' w.heap.size #[.int .i64 K, .slice p len cap, .int .i64 A, .int .i64 R, .int .i64 n, .int .i64 d, .slice q m vc, .int .i64 E] 27 ∧ Blk W' w7.heap.size #[.int .i64 K, .slice p' len2 cap', .int .i64 A, .int .i64 R, .int .i64 n, .int .i64 d, .slice q' m2 vc', .int .i64 E] 27 ∧ SegP W' s' p' q') ⟨by exact belowAny, by exact blkAny2, by exact blkAny2, by exact segPAny⟩ ?_
  clear b1 b2 hW
  rintro W10 ⟨hW, b1, b2, b3⟩
  have z11 := hW.size
  have z12 := b1.lt
  have z13 := b2.lt
  have k1 := b1.cell
  have f1 := b1.frozen
  have k2 := b2.cell
  have f2 := b2.frozen
  have hmk : ∀ W, (Instr.buildSlice 39 0 #[]).run Tryz.prog W = .ok (.slice (some ⟨W.heap.size, 0, none⟩) 0 0) (W.alloc (.cells #[] 58)) := fun W => by kernel_rfl
  obtain ⟨i, hi, hz0, hz1, hz2⟩ := info_parts Tryz.infoPoint
  have hown0 := World.ownsRow_made (e := 58) (size := 2) (base := W10.heap.size) W10 #[] 0 (Nat.le_refl _) (by simp [maxLen]) (by simp)
  go_upto_region 5 with (at_builtin; refine wpList_append_own _ rfl (.tmp 16) (.tmp 21) 39 rfl W10.heap.size 58 i _ 2 16 (by kernel_rfl) hi hz0 hz1 hz2 rfl (by omega) _ 0 [] rfl hown0 pa 300 cl (flatPts l9) rfl (by rw [length_flatPts, h9.out]) ((hl8.below (hW.trans ((Below.refl _ _).alloc (Nat.le_refl _) _ |>.mono hW.size)))).flatP (fun v hv => flatPts_one l9 v hv) (by simp [maxLen] <;> omega) (by omega) (by simp) ?_)
  intro v' w' hown hgr _
  have hB := clone_below hgr
  obtain ⟨p9, cap9, rfl, hP9⟩ := own_pts (l := l9) hown (by rw [h9.out])
  clear hown hgr hown0 hmk
  have hz9 := hB.size
  clear k1 f1 k2 f2
  have b1 : Blk w' w.heap.size #[.int .i64 K, .slice p len cap, .int .i64 A, .int .i64 R, .int .i64 n, .int .i64 d, .slice q m vc, .int .i64 E] 27 := by exact blkAny2
  have b2 : Blk w' w7.heap.size #[.int .i64 K, .slice p' len2 cap', .int .i64 A, .int .i64 R, .int .i64 n, .int .i64 d, .slice q' m2 vc', .int .i64 E] 27 := by exact blkAny2
  have b3 : SegP w' s' p' q' := by exact segPAny
  have hW : Below w.heap.size w w' := belowAny
  clear hB
  have k1 := b1.cell
  have f1 := b1.frozen
  have k2 := b2.cell
  have f2 := b2.frozen
  go_upto_region 5 with (fail)
  try clear i hi hz0 hz1 hz2
  clear k1 f1 k2 f2
  refine wp_facts (fun W' => Below w.heap.size w W' ∧ Blk W' w.heap.size #[.int .i64 K, .slice p len cap, .int .i64 A, .int .i64 R, .int .i64 n, .int .i64 d, .slice q m vc, .int .i64 E] 27 ∧ Blk W' w7.heap.size #[.int .i64 K, .slice p' len2 cap', .int .i64 A, .int .i64 R, .int .i64 n, .int .i64 d, .slice q' m2 vc', .int .i64 E] 27 ∧ SegP W' s' p' q' ∧ PtsIn W' p9 l9) ⟨by exact belowAny, by exact blkAny2, by exact blkAny2, by exact segPAny, by exact ptsAny⟩ ?_
  clear b1 b2 b3 hW
  rintro W14 ⟨hW, b1, b2, b3, b4⟩
  have z15 := hW.size
  have z16 := b1.lt
  have z17 := b2.lt
  clear hP9
  have k1 := b1.cell
  have f1 := b1.frozen
  have k2 := b2.cell
  have f2 := b2.frozen
  have c3 := H_c3.out
  go_wp2_with fail
  refine (c3 _ p' q' cap' vc' p9 cap9 segNow hvc ptsAny).mono ?_
  rintro e w18 ⟨rfl, hb18⟩
  clear c3
  have z19 := hb18.size
  try simp at z19
  clear k1 f1 k2 f2
  have b1 : Blk w18 w.heap.size #[.int .i64 K, .slice p len cap, .int .i64 A, .int .i64 R, .int .i64 n, .int .i64 d, .slice q m vc, .int .i64 E] 27 := by exact blkAny2
  have b2 : Blk w18 w7.heap.size #[.int .i64 K, .slice p' len2 cap', .int .i64 A, .int .i64 R, .int .i64 n, .int .i64 d, .slice q' m2 vc', .int .i64 E] 27 := by exact blkAny2
  have b3 : SegP w18 s' p' q' := by exact segPAny
  have b4 : PtsIn w18 p9 l9 := by exact ptsAny
  have hW : Below w.heap.size w w18 := by exact belowAny
  have z20 := b1.lt
  have z21 := b2.lt
  clear hb18
  have k1 := b1.cell
  have f1 := b1.frozen
  have k2 := b2.cell
  have f2 := b2.frozen
  have c4 := H_c4.out
  go_wp2_with fail
  refine (c4 _ p' q' cap' vc' p9 cap9 segNow hvc ptsAny).mono ?_
  rintro e w22 ⟨rfl, hb22⟩
  clear c4
  have z23 := hb22.size
  try simp at z23
  clear k1 f1 k2 f2
  have b1 : Blk w22 w.heap.size #[.int .i64 K, .slice p len cap, .int .i64 A, .int .i64 R, .int .i64 n, .int .i64 d, .slice q m vc, .int .i64 E] 27 := by exact blkAny2
  have b2 : Blk w22 w7.heap.size #[.int .i64 K, .slice p' len2 cap', .int .i64 A, .int .i64 R, .int .i64 n, .int .i64 d, .slice q' m2 vc', .int .i64 E] 27 := by exact blkAny2
  have b3 : SegP w22 s' p' q' := by exact segPAny
  have b4 : PtsIn w22 p9 l9 := by exact ptsAny
  have hW : Below w.heap.size w w22 := by exact belowAny
  have z24 := b1.lt
  have z25 := b2.lt
  clear hb22
  have k1 := b1.cell
  have f1 := b1.frozen
  have k2 := b2.cell
  have f2 := b2.frozen
  have c5 := H_c5.out
  go_wp2_with fail
  refine (c5 _ p' q' cap' vc' segNow hvc).mono ?_
  rintro e w26 ⟨rfl, hb26⟩
  clear c5
  have z27 := hb26.size
  try simp at z27
  clear k1 f1 k2 f2
  have b1 : Blk w26 w.heap.size #[.int .i64 K, .slice p len cap, .int .i64 A, .int .i64 R, .int .i64 n, .int .i64 d, .slice q m vc, .int .i64 E] 27 := by exact blkAny2
  have b2 : Blk w26 w7.heap.size #[.int .i64 K, .slice p' len2 cap', .int .i64 A, .int .i64 R, .int .i64 n, .int .i64 d, .slice q' m2 vc', .int .i64 E] 27 := by exact blkAny2
  have b3 : SegP w26 s' p' q' := by exact segPAny
  have b4 : PtsIn w26 p9 l9 := by exact ptsAny
  have hW : Below w.heap.size w w26 := by exact belowAny
  have z28 := b1.lt
  have z29 := b2.lt
  clear hb26
  have k1 := b1.cell
  have f1 := b1.frozen
  have k2 := b2.cell
  have f2 := b2.frozen
  go_wp2
  have y_1 := b1.lt
  have y_2 := b2.lt
  refine bodyPost_ret (v := .bool true) (by simp [results, Tryz.results7, go_sem, k1, f1, k2, f2, y_1, y_2]) rfl ⟨rfl, by exact belowAny⟩
set_option maxRecDepth 100000 in
set_option maxHeartbeats 8000000 in
theorem far_long_bad (K A R n d E : Int) (p q : Option Addr) (len cap m vc : Nat) (w : World) (len2 m2 : Nat) (s' : SegT) (l l9 : List (Int × Int)) (pa : Addr) (cl : Nat) (hl0 : 300 < l.length) (hl1 : l.length ≤ cl) (hl2 : l.length ≤ 9223372036854775807) (hl8 : PtsIn w (some pa) l9) (h9 : l9.length = 300)
    (c1 : ∀ W, Below w.heap.size w W → Calls Tryz.prog 10 #[] W fun e w' => e = .returned (.bool true) ∧ Below W.heap.size W w')
    (c2 : ∀ W, Below w.heap.size w W → Calls Tryz.prog 11 #[.agg #[.int .i64 K, .slice p len cap, .int .i64 A, .int .i64 R, .int .i64 n, .int .i64 d, .slice q m vc, .int .i64 E]] W fun e w' => ∃ p' cap' q' vc', e = .returned (.agg #[.int .i64 K, .slice p' len2 cap', .int .i64 A, .int .i64 R, .int .i64 n, .int .i64 d, .slice q' m2 vc', .int .i64 E]) ∧ Below W.heap.size W w' ∧ SegIn w' s' p' q' ∧ m2 ≤ vc')
    (c3 : ∀ (W : World) (p' q' : Option Addr) (cap' vc' : Nat) (p9 : Option Addr) (cap9 : Nat), SegIn W s' p' q' → m2 ≤ vc' → PtsIn W p9 l9 → Calls Tryz.prog 28 #[.agg #[.int .i64 K, .slice p' len2 cap', .int .i64 A, .int .i64 R, .int .i64 n, .int .i64 d, .slice q' m2 vc', .int .i64 E], .slice p9 l9.length cap9] W fun e w' => e = .returned (.tuple #[.int .i64 0, .int .i64 2]) ∧ Below W.heap.size W w')
    (c4 : ∀ (W : World) (p' q' : Option Addr) (cap' vc' : Nat) (p9 : Option Addr) (cap9 : Nat), SegIn W s' p' q' → m2 ≤ vc' → PtsIn W p9 l9 → Calls Tryz.prog 29 #[.agg #[.int .i64 K, .slice p' len2 cap', .int .i64 A, .int .i64 R, .int .i64 n, .int .i64 d, .slice q' m2 vc', .int .i64 E], .slice p9 l9.length cap9] W fun e w' => e = .returned (.bool false) ∧ Below W.heap.size W w')
    (c5 : ∀ (W : World) (p' q' : Option Addr) (cap' vc' : Nat), SegIn W s' p' q' → m2 ≤ vc' → Calls Tryz.prog 13 #[.agg #[.int .i64 K, .slice p' len2 cap', .int .i64 A, .int .i64 R, .int .i64 n, .int .i64 d, .slice q' m2 vc', .int .i64 E]] W fun e w' => e = .returned (.bool true) ∧ Below W.heap.size W w')
    (c6 : ∀ (W : World) (p' q' : Option Addr) (cap' vc' : Nat) (p9 : Option Addr) (cap9 : Nat), SegIn W s' p' q' → m2 ≤ vc' → PtsIn W p9 l9 → Calls Tryz.prog 30 #[.agg #[.int .i64 K, .slice p' len2 cap', .int .i64 A, .int .i64 R, .int .i64 n, .int .i64 d, .slice q' m2 vc', .int .i64 E], .slice p9 l9.length cap9] W fun e w' => e = .returned (.tuple #[.int .i64 0, .bool false]) ∧ Below W.heap.size W w') :
    Calls Tryz.prog 7 #[.agg #[.int .i64 K, .slice p len cap, .int .i64 A, .int .i64 R, .int .i64 n, .int .i64 d, .slice q m vc, .int .i64 E], .slice (some pa) l.length cl] w fun e w' => e = .returned (.bool true) ∧ Below w.heap.size w w' := by
  replace h9 := Lib.hid h9
  have H_c1 := Lib.hid c1
  clear c1
  have H_c2 := Lib.hid c2
  clear c2
  have H_c3 := Lib.hid c3
  clear c3
  have H_c4 := Lib.hid c4
  clear c4
  have H_c5 := Lib.hid c5
  clear c5
  have H_c6 := Lib.hid c6
  clear c6
  go_enter Tryz.func7, Tryz.ntmps7
  go_upto_region 1 with (fail)
  refine wp_facts (fun W' => Below w.heap.size w W' ∧ Blk W' w.heap.size #[.int .i64 K, .slice p len cap, .int .i64 A, .int .i64 R, .int .i64 n, .int .i64 d, .slice q m vc, .int .i64 E] 27) ⟨by exact belowAny, by exact blkAny2⟩ ?_
  rintro W1 ⟨hW, b1⟩
  have z2 := hW.size
  have z3 := b1.lt
  have k1 := b1.cell
  have f1 := b1.frozen
  have c1 := H_c1.out
  go_wp2_with fail
  refine (c1 _ (belowAny)).mono ?_
  rintro e w4 ⟨rfl, hb4⟩
  clear c1
  have z5 := hb4.size
  try simp at z5
  clear k1 f1
  have b1 : Blk w4 w.heap.size #[.int .i64 K, .slice p len cap, .int .i64 A, .int .i64 R, .int .i64 n, .int .i64 d, .slice q m vc, .int .i64 E] 27 := by exact blkAny2
  have hW : Below w.heap.size w w4 := by exact belowAny
  have z6 := b1.lt
  clear hb4
  have k1 := b1.cell
  have f1 := b1.frozen
  have c2 := H_c2.out
  go_wp2_with fail
  refine (c2 _ (belowAny)).mono ?_
  rintro e w7 ⟨p', cap', q', vc', rfl, hb7, hS, hvc⟩
  clear c2
  have z8 := hb7.size
  try simp at z8
  clear k1 f1
  have b1 : Blk w7 w.heap.size #[.int .i64 K, .slice p len cap, .int .i64 A, .int .i64 R, .int .i64 n, .int .i64 d, .slice q m vc, .int .i64 E] 27 := by exact blkAny2
  have hW : Below w.heap.size w w7 := by exact belowAny
  have z9 := b1.lt
  have k1 := b1.cell
  have f1 := b1.frozen
  have b2 : SegP _ _ _ _ := ⟨hS⟩
  clear hS
  go_upto_region 4 with (fail)
  clear k1 f1
  refine wp_facts (fun W' => Below w.heap.size w W' ∧ Blk W' w.heap.size #[.int .i64 K, .slice p len cap, .int .i64 A, .int .i64 R, .int .i64 n, .int .i64 d, .slice q m vc, .int .i64 E] 27 ∧ Blk W' w7.heap.size #[.int .i64 K, .slice p' len2 cap', .int .i64 A, .int .i64 R, .int .i64 n, .int .i64 d, .slice q' m2 vc', .int .i64 E] 27 ∧ SegP W' s' p' q') ⟨by exact belowAny, by exact blkAny2, by exact blkAny2, by exact segPAny⟩ ?_
  clear b1 b2 hW
  rintro W10 ⟨hW, b1, b2, b3⟩
  have z11 := hW.size
  have z12 := b1.lt
  have z13 := b2.lt
  have k1 := b1.cell
  have f1 := b1.frozen
  have k2 := b2.cell
  have f2 := b2.frozen
  have hmk : ∀ W, (Instr.buildSlice 39 0 #[]).run Tryz.prog W = .ok (.slice (some ⟨W.heap.size, 0, none⟩) 0 0) (W.alloc (.cells #[] 58)) := fun W => by kernel_rfl
  obtain ⟨i, hi, hz0, hz1, hz2⟩ := info_parts Tryz.infoPoint
  have hown0 := World.ownsRow_made (e := 58) (size := 2) (base := W10.heap.size) W10 #[] 0 (Nat.le_refl _) (by simp [maxLen]) (by simp)
  go_upto_region 5 with (at_builtin; refine wpList_append_own _ rfl (.tmp 16) (.tmp 21) 39 rfl W10.heap.size 58 i _ 2 16 (by kernel_rfl) hi hz0 hz1 hz2 rfl (by omega) _ 0 [] rfl hown0 pa 300 cl (flatPts l9) rfl (by rw [length_flatPts, h9.out]) ((hl8.below (hW.trans ((Below.refl _ _).alloc (Nat.le_refl _) _ |>.mono hW.size)))).flatP (fun v hv => flatPts_one l9 v hv) (by simp [maxLen] <;> omega) (by omega) (by simp) ?_)
  intro v' w' hown hgr _
  have hB := clone_below hgr
  obtain ⟨p9, cap9, rfl, hP9⟩ := own_pts (l := l9) hown (by rw [h9.out])
  clear hown hgr hown0 hmk
  have hz9 := hB.size
  clear k1 f1 k2 f2
  have b1 : Blk w' w.heap.size #[.int .i64 K, .slice p len cap, .int .i64 A, .int .i64 R, .int .i64 n, .int .i64 d, .slice q m vc, .int .i64 E] 27 := by exact blkAny2
  have b2 : Blk w' w7.heap.size #[.int .i64 K, .slice p' len2 cap', .int .i64 A, .int .i64 R, .int .i64 n, .int .i64 d, .slice q' m2 vc', .int .i64 E] 27 := by exact blkAny2
  have b3 : SegP w' s' p' q' := by exact segPAny
  have hW : Below w.heap.size w w' := belowAny
  clear hB
  have k1 := b1.cell
  have f1 := b1.frozen
  have k2 := b2.cell
  have f2 := b2.frozen
  go_upto_region 5 with (fail)
  try clear i hi hz0 hz1 hz2
  clear k1 f1 k2 f2
  refine wp_facts (fun W' => Below w.heap.size w W' ∧ Blk W' w.heap.size #[.int .i64 K, .slice p len cap, .int .i64 A, .int .i64 R, .int .i64 n, .int .i64 d, .slice q m vc, .int .i64 E] 27 ∧ Blk W' w7.heap.size #[.int .i64 K, .slice p' len2 cap', .int .i64 A, .int .i64 R, .int .i64 n, .int .i64 d, .slice q' m2 vc', .int .i64 E] 27 ∧ SegP W' s' p' q' ∧ PtsIn W' p9 l9) ⟨by exact belowAny, by exact blkAny2, by exact blkAny2, by exact segPAny, by exact ptsAny⟩ ?_
  clear b1 b2 b3 hW
  rintro W14 ⟨hW, b1, b2, b3, b4⟩
  have z15 := hW.size
  have z16 := b1.lt
  have z17 := b2.lt
  clear hP9
  have k1 := b1.cell
  have f1 := b1.frozen
  have k2 := b2.cell
  have f2 := b2.frozen
  have c3 := H_c3.out
  go_wp2_with fail
  refine (c3 _ p' q' cap' vc' p9 cap9 segNow hvc ptsAny).mono ?_
  rintro e w18 ⟨rfl, hb18⟩
  clear c3
  have z19 := hb18.size
  try simp at z19
  clear k1 f1 k2 f2
  have b1 : Blk w18 w.heap.size #[.int .i64 K, .slice p len cap, .int .i64 A, .int .i64 R, .int .i64 n, .int .i64 d, .slice q m vc, .int .i64 E] 27 := by exact blkAny2
  have b2 : Blk w18 w7.heap.size #[.int .i64 K, .slice p' len2 cap', .int .i64 A, .int .i64 R, .int .i64 n, .int .i64 d, .slice q' m2 vc', .int .i64 E] 27 := by exact blkAny2
  have b3 : SegP w18 s' p' q' := by exact segPAny
  have b4 : PtsIn w18 p9 l9 := by exact ptsAny
  have hW : Below w.heap.size w w18 := by exact belowAny
  have z20 := b1.lt
  have z21 := b2.lt
  clear hb18
  have k1 := b1.cell
  have f1 := b1.frozen
  have k2 := b2.cell
  have f2 := b2.frozen
  have c4 := H_c4.out
  go_wp2_with fail
  refine (c4 _ p' q' cap' vc' p9 cap9 segNow hvc ptsAny).mono ?_
  rintro e w22 ⟨rfl, hb22⟩
  clear c4
  have z23 := hb22.size
  try simp at z23
  clear k1 f1 k2 f2
  have b1 : Blk w22 w.heap.size #[.int .i64 K, .slice p len cap, .int .i64 A, .int .i64 R, .int .i64 n, .int .i64 d, .slice q m vc, .int .i64 E] 27 := by exact blkAny2
  have b2 : Blk w22 w7.heap.size #[.int .i64 K, .slice p' len2 cap', .int .i64 A, .int .i64 R, .int .i64 n, .int .i64 d, .slice q' m2 vc', .int .i64 E] 27 := by exact blkAny2
  have b3 : SegP w22 s' p' q' := by exact segPAny
  have b4 : PtsIn w22 p9 l9 := by exact ptsAny
  have hW : Below w.heap.size w w22 := by exact belowAny
  have z24 := b1.lt
  have z25 := b2.lt
  clear hb22
  have k1 := b1.cell
  have f1 := b1.frozen
  have k2 := b2.cell
  have f2 := b2.frozen
  have c5 := H_c5.out
  go_wp2_with fail
  refine (c5 _ p' q' cap' vc' segNow hvc).mono ?_
  rintro e w26 ⟨rfl, hb26⟩
  clear c5
  have z27 := hb26.size
  try simp at z27
  clear k1 f1 k2 f2
  have b1 : Blk w26 w.heap.size #[.int .i64 K, .slice p len cap, .int .i64 A, .int .i64 R, .int .i64 n, .int .i64 d, .slice q m vc, .int .i64 E] 27 := by exact blkAny2
  have b2 : Blk w26 w7.heap.size #[.int .i64 K, .slice p' len2 cap', .int .i64 A, .int .i64 R, .int .i64 n, .int .i64 d, .slice q' m2 vc', .int .i64 E] 27 := by exact blkAny2
  have b3 : SegP w26 s' p' q' := by exact segPAny
  have b4 : PtsIn w26 p9 l9 := by exact ptsAny
  have hW : Below w.heap.size w w26 := by exact belowAny
  have z28 := b1.lt
  have z29 := b2.lt
  clear hb26
  have k1 := b1.cell
  have f1 := b1.frozen
  have k2 := b2.cell
  have f2 := b2.frozen
  have c6 := H_c6.out
  go_wp2_with fail
  refine (c6 _ p' q' cap' vc' p9 cap9 segNow hvc ptsAny).mono ?_
  rintro e w30 ⟨rfl, hb30⟩
  clear c6
  have z31 := hb30.size
  try simp at z31
  clear k1 f1 k2 f2
  have b1 : Blk w30 w.heap.size #[.int .i64 K, .slice p len cap, .int .i64 A, .int .i64 R, .int .i64 n, .int .i64 d, .slice q m vc, .int .i64 E] 27 := by exact blkAny2
  have b2 : Blk w30 w7.heap.size #[.int .i64 K, .slice p' len2 cap', .int .i64 A, .int .i64 R, .int .i64 n, .int .i64 d, .slice q' m2 vc', .int .i64 E] 27 := by exact blkAny2
  have b3 : SegP w30 s' p' q' := by exact segPAny
  have b4 : PtsIn w30 p9 l9 := by exact ptsAny
  have hW : Below w.heap.size w w30 := by exact belowAny
  have z32 := b1.lt
  have z33 := b2.lt
  clear hb30
  have k1 := b1.cell
  have f1 := b1.frozen
  have k2 := b2.cell
  have f2 := b2.frozen
  go_wp2
  have y_1 := b1.lt
  have y_2 := b2.lt
  refine bodyPost_ret (v := .bool true) (by simp [results, Tryz.results7, go_sem, k1, f1, k2, f2, y_1, y_2]) rfl ⟨rfl, by exact belowAny⟩
set_option maxRecDepth 100000 in
set_option maxHeartbeats 8000000 in
theorem far_long_ok (K A R n d E : Int) (p q : Option Addr) (len cap m vc : Nat) (w : World) (len2 m2 : Nat) (s' : SegT) (v : Int) (l l9 : List (Int × Int)) (pa : Addr) (cl : Nat) (hl0 : 300 < l.length) (hl1 : l.length ≤ cl) (hl2 : l.length ≤ 9223372036854775807) (hl8 : PtsIn w (some pa) l9) (h9 : l9.length = 300)
    (c1 : ∀ W, Below w.heap.size w W → Calls Tryz.prog 10 #[] W fun e w' => e = .returned (.bool true) ∧ Below W.heap.size W w')
    (c2 : ∀ W, Below w.heap.size w W → Calls Tryz.prog 11 #[.agg #[.int .i64 K, .slice p len cap, .int .i64 A, .int .i64 R, .int .i64 n, .int .i64 d, .slice q m vc, .int .i64 E]] W fun e w' => ∃ p' cap' q' vc', e = .returned (.agg #[.int .i64 K, .slice p' len2 cap', .int .i64 A, .int .i64 R, .int .i64 n, .int .i64 d, .slice q' m2 vc', .int .i64 E]) ∧ Below W.heap.size W w' ∧ SegIn w' s' p' q' ∧ m2 ≤ vc')
    (c3 : ∀ (W : World) (p' q' : Option Addr) (cap' vc' : Nat) (p9 : Option Addr) (cap9 : Nat), SegIn W s' p' q' → m2 ≤ vc' → PtsIn W p9 l9 → Calls Tryz.prog 28 #[.agg #[.int .i64 K, .slice p' len2 cap', .int .i64 A, .int .i64 R, .int .i64 n, .int .i64 d, .slice q' m2 vc', .int .i64 E], .slice p9 l9.length cap9] W fun e w' => e = .returned (.tuple #[.int .i64 v, .int .i64 0]) ∧ Below W.heap.size W w')
    (c4 : ∀ (W : World) (p' q' : Option Addr) (cap' vc' : Nat) (p9 : Option Addr) (cap9 : Nat), SegIn W s' p' q' → m2 ≤ vc' → PtsIn W p9 l9 → Calls Tryz.prog 29 #[.agg #[.int .i64 K, .slice p' len2 cap', .int .i64 A, .int .i64 R, .int .i64 n, .int .i64 d, .slice q' m2 vc', .int .i64 E], .slice p9 l9.length cap9] W fun e w' => e = .returned (.bool (decide (v ≤ E))) ∧ Below W.heap.size W w')
    (c5 : ∀ (W : World) (p' q' : Option Addr) (cap' vc' : Nat), SegIn W s' p' q' → m2 ≤ vc' → Calls Tryz.prog 13 #[.agg #[.int .i64 K, .slice p' len2 cap', .int .i64 A, .int .i64 R, .int .i64 n, .int .i64 d, .slice q' m2 vc', .int .i64 E]] W fun e w' => e = .returned (.bool true) ∧ Below W.heap.size W w')
    (c6 : ∀ (W : World) (p' q' : Option Addr) (cap' vc' : Nat) (p9 : Option Addr) (cap9 : Nat), SegIn W s' p' q' → m2 ≤ vc' → PtsIn W p9 l9 → Calls Tryz.prog 30 #[.agg #[.int .i64 K, .slice p' len2 cap', .int .i64 A, .int .i64 R, .int .i64 n, .int .i64 d, .slice q' m2 vc', .int .i64 E], .slice p9 l9.length cap9] W fun e w' => e = .returned (.tuple #[.int .i64 v, .bool true]) ∧ Below W.heap.size W w') :
    Calls Tryz.prog 7 #[.agg #[.int .i64 K, .slice p len cap, .int .i64 A, .int .i64 R, .int .i64 n, .int .i64 d, .slice q m vc, .int .i64 E], .slice (some pa) l.length cl] w fun e w' => e = .returned (.bool true) ∧ Below w.heap.size w w' := by
  replace h9 := Lib.hid h9
  have H_c1 := Lib.hid c1
  clear c1
  have H_c2 := Lib.hid c2
  clear c2
  have H_c3 := Lib.hid c3
  clear c3
  have H_c4 := Lib.hid c4
  clear c4
  have H_c5 := Lib.hid c5
  clear c5
  have H_c6 := Lib.hid c6
  clear c6
  go_enter Tryz.func7, Tryz.ntmps7
  go_upto_region 1 with (fail)
  refine wp_facts (fun W' => Below w.heap.size w W' ∧ Blk W' w.heap.size #[.int .i64 K, .slice p len cap, .int .i64 A, .int .i64 R, .int .i64 n, .int .i64 d, .slice q m vc, .int .i64 E] 27) ⟨by exact belowAny, by exact blkAny2⟩ ?_
  rintro W1 ⟨hW, b1⟩
  have z2 := hW.size
  have z3 := b1.lt
  have k1 := b1.cell
  have f1 := b1.frozen
  have c1 := H_c1.out
  go_wp2_with fail
  refine (c1 _ (belowAny)).mono ?_
  rintro e w4 ⟨rfl, hb4⟩
  clear c1
  have z5 := hb4.size
  try simp at z5
  clear k1 f1
  have b1 : Blk w4 w.heap.size #[.int .i64 K, .slice p len cap, .int .i64 A, .int .i64 R, .int .i64 n, .int .i64 d, .slice q m vc, .int .i64 E] 27 := by exact blkAny2
  have hW : Below w.heap.size w w4 := by exact belowAny
  have z6 := b1.lt
  clear hb4
  have k1 := b1.cell
  have f1 := b1.frozen
  have c2 := H_c2.out
  go_wp2_with fail
  refine (c2 _ (belowAny)).mono ?_
  rintro e w7 ⟨p', cap', q', vc', rfl, hb7, hS, hvc⟩
  clear c2
  have z8 := hb7.size
  try simp at z8
  clear k1 f1
  have b1 : Blk w7 w.heap.size #[.int .i64 K, .slice p len cap, .int .i64 A, .int .i64 R, .int .i64 n, .int .i64 d, .slice q m vc, .int .i64 E] 27 := by exact blkAny2
  have hW : Below w.heap.size w w7 := by exact belowAny
  have z9 := b1.lt
  have k1 := b1.cell
  have f1 := b1.frozen
  have b2 : SegP _ _ _ _ := ⟨hS⟩
  clear hS
  go_upto_region 4 with (fail)
  clear k1 f1
  refine wp_facts (fun W' => Below w.heap.size w W' ∧ Blk W' w.heap.size #[.int .i64 K, .slice p len cap, .int .i64 A, .int .i64 R, .int .i64 n, .int .i64 d, .slice q m vc, .int .i64 E] 27 ∧ Blk W' w7.heap.size #[.int .i64 K, .slice p' len2 cap', .int .i64 A, .int .i64 R, .int .i64 n, .int .i64 d, .slice q' m2 vc', .int .i64 E] 27 ∧ SegP W' s' p' q') ⟨by exact belowAny, by exact blkAny2, by exact blkAny2, by exact segPAny⟩ ?_
  clear b1 b2 hW
  rintro W10 ⟨hW, b1, b2, b3⟩
  have z11 := hW.size
  have z12 := b1.lt
  have z13 := b2.lt
  have k1 := b1.cell
  have f1 := b1.frozen
  have k2 := b2.cell
  have f2 := b2.frozen
  have hmk : ∀ W, (Instr.buildSlice 39 0 #[]).run Tryz.prog W = .ok (.slice (some ⟨W.heap.size, 0, none⟩) 0 0) (W.alloc (.cells #[] 58)) := fun W => by kernel_rfl
  obtain ⟨i, hi, hz0, hz1, hz2⟩ := info_parts Tryz.infoPoint
  have hown0 := World.ownsRow_made (e := 58) (size := 2) (base := W10.heap.size) W10 #[] 0 (Nat.le_refl _) (by simp [maxLen]) (by simp)
  go_upto_region 5 with (at_builtin; refine wpList_append_own _ rfl (.tmp 16) (.tmp 21) 39 rfl W10.heap.size 58 i _ 2 16 (by kernel_rfl) hi hz0 hz1 hz2 rfl (by omega) _ 0 [] rfl hown0 pa 300 cl (flatPts l9) rfl (by rw [length_flatPts, h9.out]) ((hl8.below (hW.trans ((Below.refl _ _).alloc (Nat.le_refl _) _ |>.mono hW.size)))).flatP (fun v hv => flatPts_one l9 v hv) (by simp [maxLen] <;> omega) (by omega) (by simp) ?_)
  intro v' w' hown hgr _
  have hB := clone_below hgr
  obtain ⟨p9, cap9, rfl, hP9⟩ := own_pts (l := l9) hown (by rw [h9.out])
  clear hown hgr hown0 hmk
  have hz9 := hB.size
  clear k1 f1 k2 f2
  have b1 : Blk w' w.heap.size #[.int .i64 K, .slice p len cap, .int .i64 A, .int .i64 R, .int .i64 n, .int .i64 d, .slice q m vc, .int .i64 E] 27 := by exact blkAny2
  have b2 : Blk w' w7.heap.size #[.int .i64 K, .slice p' len2 cap', .int .i64 A, .int .i64 R, .int .i64 n, .int .i64 d, .slice q' m2 vc', .int .i64 E] 27 := by exact blkAny2
  have b3 : SegP w' s' p' q' := by exact segPAny
  have hW : Below w.heap.size w w' := belowAny
  clear hB
  have k1 := b1.cell
  have f1 := b1.frozen
  have k2 := b2.cell
  have f2 := b2.frozen
  go_upto_region 5 with (fail)
  try clear i hi hz0 hz1 hz2
  clear k1 f1 k2 f2
  refine wp_facts (fun W' => Below w.heap.size w W' ∧ Blk W' w.heap.size #[.int .i64 K, .slice p len cap, .int .i64 A, .int .i64 R, .int .i64 n, .int .i64 d, .slice q m vc, .int .i64 E] 27 ∧ Blk W' w7.heap.size #[.int .i64 K, .slice p' len2 cap', .int .i64 A, .int .i64 R, .int .i64 n, .int .i64 d, .slice q' m2 vc', .int .i64 E] 27 ∧ SegP W' s' p' q' ∧ PtsIn W' p9 l9) ⟨by exact belowAny, by exact blkAny2, by exact blkAny2, by exact segPAny, by exact ptsAny⟩ ?_
  clear b1 b2 b3 hW
  rintro W14 ⟨hW, b1, b2, b3, b4⟩
  have z15 := hW.size
  have z16 := b1.lt
  have z17 := b2.lt
  clear hP9
  have k1 := b1.cell
  have f1 := b1.frozen
  have k2 := b2.cell
  have f2 := b2.frozen
  have c3 := H_c3.out
  go_wp2_with fail
  refine (c3 _ p' q' cap' vc' p9 cap9 segNow hvc ptsAny).mono ?_
  rintro e w18 ⟨rfl, hb18⟩
  clear c3
  have z19 := hb18.size
  try simp at z19
  clear k1 f1 k2 f2
  have b1 : Blk w18 w.heap.size #[.int .i64 K, .slice p len cap, .int .i64 A, .int .i64 R, .int .i64 n, .int .i64 d, .slice q m vc, .int .i64 E] 27 := by exact blkAny2
  have b2 : Blk w18 w7.heap.size #[.int .i64 K, .slice p' len2 cap', .int .i64 A, .int .i64 R, .int .i64 n, .int .i64 d, .slice q' m2 vc', .int .i64 E] 27 := by exact blkAny2
  have b3 : SegP w18 s' p' q' := by exact segPAny
  have b4 : PtsIn w18 p9 l9 := by exact ptsAny
  have hW : Below w.heap.size w w18 := by exact belowAny
  have z20 := b1.lt
  have z21 := b2.lt
  clear hb18
  have k1 := b1.cell
  have f1 := b1.frozen
  have k2 := b2.cell
  have f2 := b2.frozen
  have c4 := H_c4.out
  go_wp2_with fail
  refine (c4 _ p' q' cap' vc' p9 cap9 segNow hvc ptsAny).mono ?_
  rintro e w22 ⟨rfl, hb22⟩
  clear c4
  have z23 := hb22.size
  try simp at z23
  clear k1 f1 k2 f2
  have b1 : Blk w22 w.heap.size #[.int .i64 K, .slice p len cap, .int .i64 A, .int .i64 R, .int .i64 n, .int .i64 d, .slice q m vc, .int .i64 E] 27 := by exact blkAny2
  have b2 : Blk w22 w7.heap.size #[.int .i64 K, .slice p' len2 cap', .int .i64 A, .int .i64 R, .int .i64 n, .int .i64 d, .slice q' m2 vc', .int .i64 E] 27 := by exact blkAny2
  have b3 : SegP w22 s' p' q' := by exact segPAny
  have b4 : PtsIn w22 p9 l9 := by exact ptsAny
  have hW : Below w.heap.size w w22 := by exact belowAny
  have z24 := b1.lt
  have z25 := b2.lt
  clear hb22
  have k1 := b1.cell
  have f1 := b1.frozen
  have k2 := b2.cell
  have f2 := b2.frozen
  have c5 := H_c5.out
  go_wp2_with fail
  refine (c5 _ p' q' cap' vc' segNow hvc).mono ?_
  rintro e w26 ⟨rfl, hb26⟩
  clear c5
  have z27 := hb26.size
  try simp at z27
  clear k1 f1 k2 f2
  have b1 : Blk w26 w.heap.size #[.int .i64 K, .slice p len cap, .int .i64 A, .int .i64 R, .int .i64 n, .int .i64 d, .slice q m vc, .int .i64 E] 27 := by exact blkAny2
  have b2 : Blk w26 w7.heap.size #[.int .i64 K, .slice p' len2 cap', .int .i64 A, .int .i64 R, .int .i64 n, .int .i64 d, .slice q' m2 vc', .int .i64 E] 27 := by exact blkAny2
  have b3 : SegP w26 s' p' q' := by exact segPAny
  have b4 : PtsIn w26 p9 l9 := by exact ptsAny
  have hW : Below w.heap.size w w26 := by exact belowAny
  have z28 := b1.lt
  have z29 := b2.lt
  clear hb26
  have k1 := b1.cell
  have f1 := b1.frozen
  have k2 := b2.cell
  have f2 := b2.frozen
  have c6 := H_c6.out
  go_wp2_with fail
  refine (c6 _ p' q' cap' vc' p9 cap9 segNow hvc ptsAny).mono ?_
  rintro e w30 ⟨rfl, hb30⟩
  clear c6
  have z31 := hb30.size
  try simp at z31
  clear k1 f1 k2 f2
  have b1 : Blk w30 w.heap.size #[.int .i64 K, .slice p len cap, .int .i64 A, .int .i64 R, .int .i64 n, .int .i64 d, .slice q m vc, .int .i64 E] 27 := by exact blkAny2
  have b2 : Blk w30 w7.heap.size #[.int .i64 K, .slice p' len2 cap', .int .i64 A, .int .i64 R, .int .i64 n, .int .i64 d, .slice q' m2 vc', .int .i64 E] 27 := by exact blkAny2
  have b3 : SegP w30 s' p' q' := by exact segPAny
  have b4 : PtsIn w30 p9 l9 := by exact ptsAny
  have hW : Below w.heap.size w w30 := by exact belowAny
  have z32 := b1.lt
  have z33 := b2.lt
  clear hb30
  have k1 := b1.cell
  have f1 := b1.frozen
  have k2 := b2.cell
  have f2 := b2.frozen
  go_wp2
  have y_1 := b1.lt
  have y_2 := b2.lt
  refine bodyPost_ret (v := .bool true) (by simp [results, Tryz.results7, go_sem, k1, f1, k2, f2, y_1, y_2]) rfl ⟨rfl, by exact belowAny⟩
end Go.Proofs.YtgblmlefmohgnaaGreat
namespace Go.Proofs.YtgblmlefmohgnaaGreat
open Go.ChangeShapes Go.WideShapes Go.ChangeAt Go.RowKit Go.Deep

section
variable {H : Type} {enc : TypeId × Value → H} {P : Program}
theorem trodAll_stays (hl : laidOutB P = true) {W W' : World} (hb : Below W.heap.size W W') {sp : Nat → Bool} : ∀ (ts : List TypeId) (vs : List Value) (ds : List (DataW H)) (ps : List MemPlace), (∀ t, t ∈ ts → P.readableRec t = true ∧ t < P.types.size) →
    DataW.TrodAll enc P W 0 (fun _ => true) true ts vs ds ps → (∀ p ∈ ps, p.block < W.heap.size) → (∀ p ∈ ps, sp p.block = true) → DataW.TrodAll enc P W' 0 sp true ts vs ds ps
  | [], vs, ds, ps, _, h, _, _ => by
    obtain ⟨rfl, rfl, rfl⟩ := trodAll_nil h
    rfl
  | t :: ts, vs, ds, ps, hr, h, hlt, hs => by
    obtain ⟨v, vs', d, ds', p, q, rfl, rfl, rfl, h1, h2⟩ := trodAll_cons h
    exact ⟨p, q, WideElems.Trod_stays hl (hr t (by simp)).1 (hr t (by simp)).2 h1 (fun x hx => hb.same (hlt x (by simp [hx]))) (fun x hx => hs x (by simp [hx])),
      trodAll_stays hl hb ts vs' ds' q (fun u hu => hr u (by simp [hu])) h2 (fun x hx => hlt x (by simp [hx])) (fun x hx => hs x (by simp [hx])), rfl⟩
theorem law_post {f : Func} {s : ChangeSpec} {apart fresh handsOn again : Bool} {W W' : World} {args : Array Value} {ds : List (DataW H)} {before : List MemPlace} {tb : TypeId} (hl : laidOutB P = true)
    (hpar : ∀ t, t ∈ f.params.toList → P.readableRec t = true ∧ t < P.types.size) (hres : f.resultTypes = #[tb]) (htb : P.underlying tb = some .bool) (hv : s.vars = [])
    (hW : DataW.Whole enc P f.params.toList s.vars apart W args.toList ds [] before) (hb : Below W.heap.size W W') (hfn : s.fn H ds = { results := [.lit (.bool true)], args := ds }) :
    s.post enc P f apart fresh handsOn again W args (.bool true) W' := by
  have hlt : ∀ p ∈ before, p.block < W.heap.size := fun p hp => hW.lt p hp
  have hold : ∀ p ∈ before, (fun b => decide (b < W.heap.size)) p.block = true := fun p hp => by simpa using hlt p hp
  have hW' := hW
  obtain ⟨p, q, hA, hV, rfl, hz, hn⟩ := hW
  rw [hv] at hV
  obtain ⟨_, rfl⟩ := trodVars_none hV
  have hR : ∀ (b : Nat) (sp : Nat → Bool) (hd : Bool), DataW.TrodAll enc P W' b sp hd f.resultTypes.toList ((Value.bool true).resultList f.resultTypes.size) (s.fn H (ds ++ [])).results [] := fun b sp hd => by
    rw [hres, List.append_nil, hfn]
    exact trodAll_mk1 (shut_bool htb _)
  have hargs : ∀ sp : Nat → Bool, (∀ x ∈ p ++ [], sp x.block = true) → DataW.TrodAll enc P W' 0 sp true f.params.toList args.toList (s.fn H (ds ++ [])).args p := fun sp hsp => by
    rw [List.append_nil, hfn]
    exact trodAll_stays hl hb _ _ _ _ hpar hA (fun x hx => hlt x (by simp [hx])) (fun x hx => hsp x (by simp [hx]))
  have hvars : ∀ sp : Nat → Bool, (∀ x ∈ p ++ [], sp x.block = true) → DataW.TrodVars enc P W' sp s.vars (s.fn H (ds ++ [])).vars [] := fun sp _ => by
    rw [hv, List.append_nil, hfn]
    rfl
  refine ⟨ds, [], p ++ [], [], p, [], hW', hR _ _ _, hargs _ hold, hvars _ hold, World.keptBut_mono (fun x hx => ⟨hx, ?_⟩) (hb.frame (· ∈ p ++ [])), fun _ => ?_⟩
  · exact Or.inr (by simpa using hx)
  · refine ⟨?_, _, _, ([] ++ p) ++ [], ⟨[] ++ p, [], trodAll_append (hargs _ (fun _ _ => rfl)) (hR _ _ _), hvars _ (fun _ _ => rfl), rfl, ?_, ?_⟩, ?_⟩
    · exact ok_one hres rfl (okWide_bool_mk htb _)
    · intro b off hx
      have hin : MemPlace.cell b off ∈ p ++ [] := by simpa using hx
      rw [hb.frozen (hlt _ hin)]
      exact hz b off hin
    · intro ha
      simpa using hn ha
    · intro x hx _
      simpa using hx
end

/-- The fields of a struct: type and place. -/
def fieldsOf (P : Program) (t : TypeId) : Array (TypeId × Nat) := match P.underlying t with | some (.struct fs) => fs.map fun f => (f.type, f.offset) | _ => #[]
section
variable {H : Type} {enc : TypeId × Value → H} {P : Program} {w : World} {base : Nat} {spare : Nat → Bool} {held : Bool}
theorem open_struct {t : TypeId} {fl : Array (TypeId × Nat)} {fuel : Nat} {cs : List Value} {x : DataW H × List MemPlace} (hf : fieldsOf P t = fl) (hne : fl.size ≠ 0) (h : DataW.trod enc P w base spare held fuel t cs = some x) :
    cs.length = P.cellsOf t ∧ ∀ (i : Nat) (ty : TypeId) (off : Nat), fl[i]? = some (ty, off) → ∃ n y, DataW.trod enc P w base spare held n ty ((cs.drop off).take (P.cellsOf ty)) = some y := by
  unfold fieldsOf at hf
  split at hf
  · rename_i fs hu
    obtain ⟨xs, n, _, _, hl, hxl, hat⟩ := DataW.trod_struct hu h
    refine ⟨hl, fun i ty off hi => ?_⟩
    subst hf
    simp only [Array.getElem?_map, Option.map_eq_some_iff, Prod.mk.injEq] at hi
    obtain ⟨f, h1, h2, h3⟩ := hi
    have hh := hat i f h1
    have hlt : i < xs.length := by have := (Array.getElem?_eq_some_iff.1 h1).1; omega
    rw [List.getElem?_eq_getElem hlt] at hh
    subst h2; subst h3
    exact ⟨n, _, hh⟩
  · subst hf; simp at hne
theorem struct_of {t : TypeId} {fl : Array (TypeId × Nat)} (hf : fieldsOf P t = fl) (hne : fl.size ≠ 0) : ∃ fs, P.underlying t = some (.struct fs) := by
  unfold fieldsOf at hf
  split at hf
  · rename_i fs hu
    exact ⟨fs, hu⟩
  · subst hf; simp at hne
/-- A struct whose fields are all numbers of 64 bits. -/
theorem open_ints_struct {t : TypeId} {fl : Array (TypeId × Nat)} {fuel : Nat} {cs : List Value} {x : DataW H × List MemPlace} (hf : fieldsOf P t = fl) (hne : fl.size ≠ 0) (hn : P.cellsOf t = fl.size)
    (ha : ∀ i, i < fl.size → ∃ ty, fl[i]? = some (ty, i) ∧ P.underlying ty = some (.int .i64) ∧ P.cellsOf ty = 1) (h : DataW.trod enc P w base spare held fuel t cs = some x) :
    cs.length = fl.size ∧ ∀ i, i < fl.size → ∃ z : Int, cs[i]? = some (.int .i64 z) ∧ I64 z := by
  obtain ⟨hl, hat⟩ := open_struct hf hne h
  refine ⟨by omega, fun i hi => ?_⟩
  obtain ⟨ty, h1, h2, h3⟩ := ha i hi
  obtain ⟨n, y, hy⟩ := hat i ty i h1
  obtain ⟨z, hz, _, hw⟩ := DataW.trod_int h2 hy
  refine ⟨z, ?_, ?_⟩
  · rw [h3] at hz
    have : ((cs.drop i).take 1)[0]? = some (.int .i64 z) := by rw [hz]; rfl
    simpa using this
  · simp [Lit.wf, IntKind.min, IntKind.max, IntKind.signed, IntKind.bits] at hw
    exact ⟨by omega, by omega⟩
theorem list_of {α : Type} {Q : Nat → α → Prop} : ∀ n, (∀ i, i < n → ∃ x, Q i x) → ∃ l : List α, l.length = n ∧ ∀ i x, l[i]? = some x → Q i x
  | 0, _ => ⟨[], rfl, fun i x h => by simp at h⟩
  | n + 1, h => by
    obtain ⟨l, hl, hq⟩ := list_of n fun i hi => h i (by omega)
    obtain ⟨x, hx⟩ := h n (by omega)
    refine ⟨l ++ [x], by simp [hl], fun i y hy => ?_⟩
    rcases Nat.lt_or_ge i l.length with hlt | hge
    · rw [List.getElem?_append_left hlt] at hy
      exact hq i y hy
    · rw [List.getElem?_append_right hge] at hy
      have : i = l.length := by
        rcases Nat.eq_or_lt_of_le hge with e | e
        · exact e.symm
        · rw [List.getElem?_eq_none (by simp; omega)] at hy; cases hy
      subst this
      simp at hy
      rw [hl, ← hy]
      exact hx
theorem spot_none {a : Addr} {v : Value} (h : w.cell? a = some v) : a = ⟨a.block, a.off, none⟩ := by
  obtain ⟨b, o, s⟩ := a
  cases s with
  | none => rfl
  | some k =>
    unfold World.cell? at h
    simp at h
    split at h <;> cases h
theorem add_at {b o n : Nat} : (⟨b, o, none⟩ : Addr).add n = ⟨b, o + n, none⟩ := by unfold Addr.add; split <;> simp_all
/-- A slice of structs of n numbers each. -/
theorem open_rows {t e : TypeId} {n fuel : Nat} {fl : Array (TypeId × Nat)} {cs : List Value} {x : DataW H × List MemPlace} (ht : P.underlying t = some (.slice e)) (hf : fieldsOf P e = fl) (hfl : fl.size = n) (hn0 : n ≠ 0) (hn : P.cellsOf e = n)
    (ha : ∀ i, i < fl.size → ∃ ty, fl[i]? = some (ty, i) ∧ P.underlying ty = some (.int .i64) ∧ P.cellsOf ty = 1) (h : DataW.trod enc P w base spare held fuel t cs = some x) :
    ∃ (p : Option Addr) (len cap : Nat), cs = [.slice p len cap] ∧ (p = none → len = 0 ∧ cap = 0) ∧ len ≤ cap ∧ cap ≤ maxLen ∧
      ∀ i, i < len → ∃ b o, p = some ⟨b, o, none⟩ ∧ ∀ j, j < n → ∃ z : Int, w.cell? ⟨b, o + i * n + j, none⟩ = some (.int .i64 z) ∧ I64 z := by
  rcases open_slice ht h with ⟨rfl, rfl⟩ | ⟨a, len, cap, m, k, D, Pl, rfl, hb, hl, hm, hmm, hx, hi⟩
  · exact ⟨none, 0, 0, rfl, fun _ => ⟨rfl, rfl⟩, Nat.le_refl _, Nat.zero_le _, fun i hi => by omega⟩
  · refine ⟨some a, len, cap, rfl, (fun e => by cases e), hl, hm, fun i hilt => ?_⟩
    have hlm : len ≤ m := by rw [hmm]; split <;> omega
    have key : ∀ i, i < len → ∀ j, j < n → ∃ z : Int, w.cell? (a.add (i * n + j)) = some (.int .i64 z) ∧ I64 z := by
      intro i hilt j hj
      obtain ⟨cs', hc, ht'⟩ := hi i (by omega)
      obtain ⟨_, hcl, hat⟩ := World.cells?_some hc
      obtain ⟨hl', hz⟩ := open_ints_struct hf (by omega) (by omega) ha ht'
      obtain ⟨z, hz1, hz2⟩ := hz j (by omega)
      have := hat j (by omega)
      rw [add_add, hn, hz1] at this
      exact ⟨z, this, hz2⟩
    obtain ⟨z0, hz0, _⟩ := key 0 (by omega) 0 (by omega)
    simp [Addr.add] at hz0
    have hs := spot_none hz0
    refine ⟨a.block, a.off, by rw [← hs], fun j hj => ?_⟩
    obtain ⟨z, h1, h2⟩ := key i hilt j hj
    rw [hs, add_at] at h1
    exact ⟨z, by rw [Nat.add_assoc]; exact h1, h2⟩
/-- A slice of numbers. -/
theorem open_nums {t e : TypeId} {fuel : Nat} {cs : List Value} {x : DataW H × List MemPlace} (ht : P.underlying t = some (.slice e)) (he : P.underlying e = some (.int .i64)) (hc : P.cellsOf e = 1) (h : DataW.trod enc P w base spare held fuel t cs = some x) :
    ∃ (p : Option Addr) (l : List Int) (cap : Nat), cs = [.slice p l.length cap] ∧ (p = none → l = [] ∧ cap = 0) ∧ l.length ≤ cap ∧ cap ≤ maxLen ∧ IntsIn w p l ∧ ∀ z, z ∈ l → I64 z := by
  rcases open_ints ht he hc h with ⟨rfl, _⟩ | ⟨a, len, cap, zs, rfl, hb, hl, hm, hzl, _, hz, hw⟩
  · exact ⟨none, [], 0, rfl, fun _ => ⟨rfl, rfl⟩, Nat.le_refl _, Nat.zero_le _, ⟨fun i x h => by simp at h⟩, fun z h => by simp at h⟩
  · have hle : len ≤ zs.length := by rw [hzl]; split <;> omega
    refine ⟨some a, zs.take len, cap, by simp [hle], (fun e => by cases e), by simp; omega, hm, ⟨fun i x hx => ?_⟩, fun z hz' => ?_⟩
    · rw [List.getElem?_take] at hx
      split at hx
      · rename_i hil
        have h0 := hz 0 (by omega)
        simp [Addr.add] at h0
        have hs := spot_none h0
        have hi := hz i (by omega)
        rw [hs, add_at] at hi
        refine ⟨a.block, a.off, by rw [← hs], ?_⟩
        rw [hi, List.getD_eq_getElem?_getD, hx]
        rfl
      · cases hx
    · have := hw z (List.mem_of_mem_take hz')
      simp [Lit.wf, IntKind.min, IntKind.max, IntKind.signed, IntKind.bits] at this
      exact ⟨by omega, by omega⟩
theorem wf_I64 {z : Int} (hw : (Lit.int .i64 z).wf = true) : I64 z := by
  simp [Lit.wf, IntKind.min, IntKind.max, IntKind.signed, IntKind.bits] at hw
  exact ⟨by omega, by omega⟩
end
section
variable {H : Type} {enc : TypeId × Value → H} {w : World} {base : Nat} {spare : Nat → Bool} {held : Bool}
theorem Tryz.fieldsRun : fieldsOf Tryz.prog 51 = #[(2, 0), (2, 1), (3, 2)] := by kernel_rfl
theorem Tryz.fieldsLine : fieldsOf Tryz.prog 24 = #[(2, 0), (2, 1), (2, 2), (2, 3)] := by kernel_rfl
theorem Tryz.fieldsSeg : fieldsOf Tryz.prog 27 = #[(3, 0), (22, 1), (24, 2), (25, 6), (2, 7)] := by kernel_rfl
theorem Tryz.isInt : Tryz.prog.underlying 3 = some (.int .i64) ∧ Tryz.prog.cellsOf 3 = 1 := ⟨by kernel_rfl, by kernel_rfl⟩
theorem Tryz.isInt64 : Tryz.prog.underlying 2 = some (.int .i64) ∧ Tryz.prog.cellsOf 2 = 1 := ⟨by kernel_rfl, by kernel_rfl⟩
set_option maxRecDepth 100000 in
theorem open_run_list {fuel : Nat} {cs : List Value} {x : DataW H × List MemPlace} (h : DataW.trod enc Tryz.prog w base spare held fuel 22 cs = some x) :
    ∃ (p : Option Addr) (l : List RunT) (cap : Nat), cs = [.slice p l.length cap] ∧ (p = none → l = [] ∧ cap = 0) ∧ l.length ≤ cap ∧ cap ≤ maxLen ∧ RunsIn w p l ∧ ∀ r, r ∈ l → I64 r.f ∧ I64 r.s ∧ I64 r.c := by
  obtain ⟨p, len, cap, rfl, hn, hl, hm, hi⟩ := open_rows (n := 3) (by kernel_rfl) Tryz.fieldsRun rfl (by omega) (by kernel_rfl) (fun i hi => by
    match i, hi with
    | 0, _ => exact ⟨_, rfl, Tryz.isInt64⟩
    | 1, _ => exact ⟨_, rfl, Tryz.isInt64⟩
    | 2, _ => exact ⟨_, rfl, Tryz.isInt⟩) h
  obtain ⟨l, rfl, hq⟩ := list_of (Q := fun i (r : RunT) => (∃ b o, p = some ⟨b, o, none⟩ ∧ w.cell? ⟨b, o + i * 3, none⟩ = some (.int .i64 r.f) ∧ w.cell? ⟨b, o + i * 3 + 1, none⟩ = some (.int .i64 r.s) ∧ w.cell? ⟨b, o + i * 3 + 2, none⟩ = some (.int .i64 r.c)) ∧ I64 r.f ∧ I64 r.s ∧ I64 r.c) len (fun i hilt => by
    obtain ⟨b, o, e, hj⟩ := hi i hilt
    obtain ⟨f, f1, f2⟩ := hj 0 (by omega)
    obtain ⟨s, s1, s2⟩ := hj 1 (by omega)
    obtain ⟨c, c1, c2⟩ := hj 2 (by omega)
    exact ⟨⟨f, s, c⟩, ⟨b, o, e, by simpa using f1, s1, c1⟩, f2, s2, c2⟩)
  refine ⟨p, l, cap, rfl, fun e => ⟨List.length_eq_zero_iff.1 (hn e).1, (hn e).2⟩, hl, hm, ⟨fun i r hr => (hq i r hr).1⟩, fun r hr => ?_⟩
  obtain ⟨i, hi⟩ := List.getElem?_of_mem hr
  exact (hq i r hi).2
set_option maxRecDepth 100000 in
/-- A segment that came in. -/
theorem open_seg {r : Reach} {b0 : Nat} {v : Value} {d : DataW H} {ps : List MemPlace} (hv : Value.okWide Tryz.prog w r b0 27 v) (h : DataW.Trod enc Tryz.prog w base spare held 27 v d ps) :
    ∃ s p q cap vc, v = .agg (segA s p q cap vc) ∧ Came w s p q cap vc ∧ (I64 s.K ∧ I64 s.A ∧ I64 s.R ∧ I64 s.n ∧ I64 s.d ∧ I64 s.E) ∧ (∀ r, r ∈ s.runs → I64 r.f ∧ I64 r.s ∧ I64 r.c) ∧ ∀ z, z ∈ s.raw → I64 z := by
  obtain ⟨fs, hfs⟩ : ∃ fs, Tryz.prog.underlying 27 = some (.struct fs) := struct_of Tryz.fieldsSeg (by simp)
  obtain ⟨cs, rfl, hsz⟩ := okWide_struct hfs hv
  have hC : Tryz.prog.cellsOf 27 = 8 := by kernel_rfl
  have hR : Tryz.prog.cellsOf 22 = 1 := by kernel_rfl
  have hV : Tryz.prog.cellsOf 25 = 1 := by kernel_rfl
  have hL : Tryz.prog.cellsOf 24 = 4 := by kernel_rfl
  obtain ⟨fuel, hf⟩ := h
  obtain ⟨l⟩ := cs
  obtain ⟨_, hat⟩ := open_struct Tryz.fieldsSeg (by simp) hf
  rw [hC] at hsz
  match l, hsz with
  | [c0, c1, c2, c3, c4, c5, c6, c7], _ =>
    obtain ⟨n0, y0, h0⟩ := hat 0 _ _ rfl
    obtain ⟨n1, y1, h1⟩ := hat 1 _ _ rfl
    obtain ⟨n2, y2, h2⟩ := hat 2 _ _ rfl
    obtain ⟨n3, y3, h3⟩ := hat 3 _ _ rfl
    obtain ⟨n4, y4, h4⟩ := hat 4 _ _ rfl
    rw [Tryz.isInt.2] at h0
    rw [hR] at h1
    rw [hL] at h2
    rw [hV] at h3
    rw [Tryz.isInt64.2] at h4
    obtain ⟨K, eK, _, wK⟩ := DataW.trod_int Tryz.isInt.1 h0
    obtain ⟨p, l, cap, e1, r1, r2, r3, r4, r5⟩ := open_run_list h1
    obtain ⟨_, hln⟩ := open_ints_struct Tryz.fieldsLine (by simp) (by rw [hL]; rfl) (fun i hi => by
      match i, hi with
      | 0, _ => exact ⟨_, rfl, Tryz.isInt64⟩
      | 1, _ => exact ⟨_, rfl, Tryz.isInt64⟩
      | 2, _ => exact ⟨_, rfl, Tryz.isInt64⟩
      | 3, _ => exact ⟨_, rfl, Tryz.isInt64⟩) h2
    obtain ⟨A, a1, a2⟩ := hln 0 (by simp)
    obtain ⟨R, b1, b2⟩ := hln 1 (by simp)
    obtain ⟨N, g1, g2⟩ := hln 2 (by simp)
    obtain ⟨D, d1, d2⟩ := hln 3 (by simp)
    obtain ⟨q, v, vc, e3, q1, q2, q3, q4, q5⟩ := open_nums (by kernel_rfl) Tryz.isInt64.1 Tryz.isInt64.2 h3
    obtain ⟨E, eE, _, wE⟩ := DataW.trod_int Tryz.isInt64.1 h4
    simp [Value.cells] at eK e1 a1 b1 g1 d1 e3 eE
    subst eK; subst e1; subst a1; subst b1; subst g1; subst d1; subst e3; subst eE
    unfold maxLen at r3 q3
    exact ⟨⟨K, l, A, R, N, D, v, E⟩, p, q, cap, vc, rfl, ⟨r4, q4, r1, q1, r2, q2, by show l.length ≤ _; omega, by show v.length ≤ _; omega⟩, ⟨wf_I64 wK, a2, b2, g2, d2, wf_I64 wE⟩, r5, q5⟩
end
theorem pars_ok {P : Program} {ts : List TypeId} (h : (ts.all fun t => P.readableRec t && decide (t < P.types.size)) = true) : ∀ t, t ∈ ts → P.readableRec t = true ∧ t < P.types.size := fun t ht => by
  have := List.all_eq_true.1 h t ht
  simpa using this
theorem Tryz.ownKnob : ownKnob Tryz.prog.godebug = none := by kernel_rfl
theorem Tryz.laidOut : laidOutB Tryz.prog = true := by kernel_rfl
end Go.Proofs.YtgblmlefmohgnaaGreat
