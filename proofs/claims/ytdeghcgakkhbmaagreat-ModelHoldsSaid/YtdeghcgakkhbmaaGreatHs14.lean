/- Parts of the proof that follows: Layer wide: Neg. Layer model: whether a value is near what is told. No condition but the numbers' bounds. | Layer model: whether a scan holds. No condition but the numbers' bounds. | The laws of chapter 28: ModelStrict's walk. No condition. | The laws of chapter 25: AnswerParted's walks. No condition. | The laws of chapter 25: AnswerParted, at every series. No condition. | The last step of a law, for every law: an argument that came in is opened; behind the call each reads as it did. No condition. | For every series that comes in, whatever is in it, and all a, mid, b: AnswerParted returns true; the arguments read as before. No condition. -/
import Derived.Test.YtdeghcgakkhbmaaGreatRows
import Derived.ProofKit
import Derived.Deep.Slices
import Derived.OpenShut
import Derived.Test.YtdeghcgakkhbmaaGreatHs13
set_option linter.unusedSimpArgs false
set_option linter.unusedVariables false
namespace Go.Proofs.YtdeghcgakkhbmaaGreat
open Go.RowKit
set_option maxRecDepth 100000 in
set_option maxHeartbeats 2000000 in
theorem c_Neg (a : Int) (w : World) (ha : W128 a) :
    Calls Tryz.prog 117 #[wideV a] w fun e w' => e = .returned (.tuple #[wideV (wv (inW (-a)) (wrapW (-a))), .int .i64 (we (inW (-a)))]) ∧ Below w.heap.size w w' := by
  have c1 := fun w => c_difference 0 a w (by unfold W128; omega) ha
  have c2 := fun f w => c_told (wrapW (-a)) f w
  simp only [Int.zero_sub] at c1
  have e1 : hiW 0 = 0 := by decide
  have e2 : loW 0 = 0 := by decide
  clear ha
  unfold wideV at *
  rw [e1, e2] at c1
  generalize inW (-a) = f at *
  clear e1 e2
  go_enter Tryz.func117, Tryz.ntmps117
  go_wp2_with fail
  refine (c1 _).mono ?_
  rintro e w1 ⟨rfl, hb1⟩
  obtain ⟨hc1, hf1⟩ := bcell hb1
  have hz1 := hb1.size
  simp at hz1
  go_wp2_with fail
  refine (c2 _ _).mono ?_
  rintro e w2 ⟨rfl, hb2⟩
  obtain ⟨hc2, hf2⟩ := bcell hb2
  have hz2 := hb2.size
  clear c1 c2
  have z0 : w.heap.size < w2.heap.size := by omega
  have z1 : w.heap.size + 1 < w2.heap.size := by omega
  have y0 : w.heap.size < w1.heap.size := by omega
  have y1 : w.heap.size + 1 < w1.heap.size := by omega
  go_wp2
  refine bodyPost_ret (v := .tuple #[.agg #[.int .i64 (hiW (wv f (wrapW (-a)))), .int .u64 (loW (wv f (wrapW (-a))))], .int .i64 (we f)]) (by simp [results, Tryz.results117, go_sem, hc1, hc2, z0, z1, y0, y1]) rfl ⟨rfl, ?_⟩
  have h0 : Below w.heap.size w w1 := (((Below.refl _ _).alloc (Nat.le_refl _) _).alloc (by simp) _).trans (hb1.mono (by simp; omega))
  exact (((h0.trans (hb2.mono (by omega))).setCell (by first | (simp; done) | (simp; omega)) _).setCell (by first | (simp; done) | (simp; omega)) _)
theorem c_NegOk (a : Int) (w : World) (ha : W128 a) (hn : W128 (-a)) :
    Calls Tryz.prog 117 #[wideV a] w fun e w' => e = .returned (.tuple #[wideV (-a), .int .i64 0]) ∧ Below w.heap.size w w' := by
  have := c_Neg a w ha
  rw [inW_in hn, wrapW_in hn] at this
  exact this
set_option maxRecDepth 100000 in
set_option maxHeartbeats 2000000 in
theorem near_w (xt xv xe v o1 o2 p1 p2 d1 d2 e3 n1 n2 e4 r1 r2 C6 C7 : Int) (w : World)
    (c1 : ∀ W, Calls Tryz.prog 88 #[.int .i64 xv] W fun e w' => e = .returned (.agg #[.int .i64 o1, .int .u64 o2]) ∧ Below W.heap.size W w')
    (c2 : ∀ W, Calls Tryz.prog 88 #[.int .i64 v] W fun e w' => e = .returned (.agg #[.int .i64 p1, .int .u64 p2]) ∧ Below W.heap.size W w')
    (c3 : ∀ W, Calls Tryz.prog 90 #[.agg #[.int .i64 o1, .int .u64 o2], .agg #[.int .i64 p1, .int .u64 p2]] W fun e w' => e = .returned (.tuple #[.agg #[.int .i64 d1, .int .u64 d2], .int .i64 e3]) ∧ Below W.heap.size W w')
    (c4 : ∀ W, Calls Tryz.prog 117 #[.agg #[.int .i64 d1, .int .u64 d2]] W fun e w' => e = .returned (.tuple #[.agg #[.int .i64 n1, .int .u64 n2], .int .i64 e4]) ∧ Below W.heap.size W w')
    (c5 : ∀ W, Calls Tryz.prog 88 #[.int .i64 xe] W fun e w' => e = .returned (.agg #[.int .i64 r1, .int .u64 r2]) ∧ Below W.heap.size W w')
    (c6 : ∀ W, Calls Tryz.prog 93 #[.agg #[.int .i64 d1, .int .u64 d2], .agg #[.int .i64 r1, .int .u64 r2]] W fun e w' => e = .returned (.int .i64 C6) ∧ Below W.heap.size W w')
    (c7 : ∀ W, Calls Tryz.prog 93 #[.agg #[.int .i64 n1, .int .u64 n2], .agg #[.int .i64 r1, .int .u64 r2]] W fun e w' => e = .returned (.int .i64 C7) ∧ Below W.heap.size W w') :
    Calls Tryz.prog 70 #[.agg #[.int .i64 xt, .int .i64 xv, .int .i64 xe], .int .i64 v] w fun e w' => e = .returned (.bool (decide (C6 ≤ 0) && decide (C7 ≤ 0))) ∧ Below w.heap.size w w' := by
  have H_c1 := Lib.hid c1
  clear c1
  have H_c2 := Lib.hid c2
  clear c2
  have H_c3 := Lib.hid c3
  clear c3
  have H_c4 := Lib.hid c4
  clear c4
  have H_c5 := Lib.hid c5
  clear c5
  have H_c6 := Lib.hid c6
  clear c6
  have H_c7 := Lib.hid c7
  clear c7
  go_enter Tryz.func70, Tryz.ntmps70
  go_upto_region 1 with (fail)
  refine wp_cutB w (Bc w.heap.size #[.int .i64 xt, .int .i64 xv, .int .i64 xe] 64 <| Bz) ?_
  rintro W1 hW z2 hL
  obtain ⟨⟨b1, yb1, k1, f1⟩, -⟩ := id hL
  clear k1 f1
  refine wp_regS 10 37 hW hL ?_
  iterate 2 refine dA ?_
  refine cA (fun W' hC => H_c1.out W') ?_
  refine dA ?_
  refine cA (fun W' hC => H_c2.out W') ?_
  refine cA (fun W' hC => H_c3.out W') ?_
  iterate 3 refine dA ?_
  apply nd_alloc W1.heap.size #[.int .i64 0, .int .u64 0] 89 rfl rfl
  · exact fun W' hC => hC.1.size
  · simp [others] <;> omega
  · intro w; kernel_rfl
  clear hW hL b1
  rintro W3 hW z4 hL
  simp only [ndR]
  intros
  simp only [ndS]
  obtain ⟨⟨b1, yb1, k1, f1⟩, -⟩ := hL
  obtain ⟨o5, rfl, hg5, b2⟩ := ‹NewVar _ _ _ _ _›
  have yb2 := b2.lt
  have k2 := b2.cell
  have f2 := b2.frozen
  go_upto_region 2 with (fail)
  clear k1 f1 k2 f2
  refine wp_cutB w (Bc w.heap.size #[.int .i64 xt, .int .i64 xv, .int .i64 xe] 64 <| Bc o5 #[.int .i64 d1, .int .u64 d2] 89 <| Bz) ?_
  clear b1 b2 hW
  rintro W5 hW z6 ⟨⟨b1, yb1, k1, f1⟩, ⟨b2, yb2, k2, f2⟩, -⟩
  go_wp2_with fail
  refine (H_c4.out _).mono ?_
  rintro e w7 ⟨rfl, hb7⟩
  have z8 := hb7.size
  try simp at z8
  clear k1 f1 k2 f2
  refine haveB w w7 (Bc w.heap.size #[.int .i64 xt, .int .i64 xv, .int .i64 xe] 64 <| Bc o5 #[.int .i64 d1, .int .u64 d2] 89 <| Bz) ?_
  clear b1 b2 hW
  rintro hW z9 ⟨⟨b1, yb1, k1, f1⟩, ⟨b2, yb2, k2, f2⟩, -⟩
  clear hb7
  go_upto_region 3 with (fail)
  clear k1 f1 k2 f2
  refine wp_cutB w (Bc w.heap.size #[.int .i64 xt, .int .i64 xv, .int .i64 xe] 64 <| Bc o5 #[.int .i64 d1, .int .u64 d2] 89 <| Bc w7.heap.size #[.int .i64 n1, .int .u64 n2] 89 <| Bz) ?_
  clear b1 b2 hW
  rintro W10 hW z11 hL
  refine wp_regD 15 37 hW hL ?_
  iterate 3 refine dA ?_
  refine cA (fun W' hC => H_c5.out W') ?_
  refine cA (fun W' hC => H_c6.out W') ?_
  iterate 2 refine dA ?_
  iterate 3 refine gA ?_
  refine cG (fun hp hx W' hC => H_c5.out W') ?_
  refine cG (fun hp hx W' hC => H_c7.out W') ?_
  refine gA ?_
  refine pA ?_
  refine dA ?_
  clear hW hL
  rintro W12 hW z13 hL
  simp only [ndR]
  intros
  repeat (rename GDet _ _ _ _ => hgd; clear hgd)
  simp only [ndS]
  refine wpList_nil ?_
  obtain ⟨⟨b1, yb1, k1, f1⟩, ⟨b2, yb2, k2, f2⟩, ⟨b3, yb3, k3, f3⟩, -⟩ := hL
  go_wp2
  refine bodyPost_ret (by simp [results, Tryz.results70, go_sem, k1, f1, k2, f2, k3, f3, yb1, yb2, yb3]) rfl ⟨rfl, by exact belowAny⟩
/-- Is a value no further from what is told than that says? -/
def nearB (xv xe v : Int) : Bool := decide (cmpI (xv - v) xe ≤ 0) && decide (cmpI (-(xv - v)) xe ≤ 0)
theorem c_mdNear (xt xv xe v : Int) (w : World) (h1 : I64 xv) (h2 : I64 xe) (h3 : I64 v) : Calls Tryz.prog 70 #[.agg #[.int .i64 xt, .int .i64 xv, .int .i64 xe], .int .i64 v] w fun e w' => e = .returned (.bool (nearB xv xe v)) ∧ Below w.heap.size w w' := by
  have w1 : W128 xv := by unfold W128; unfold I64 at h1; omega
  have w2 : W128 v := by unfold W128; unfold I64 at h3; omega
  have w3 : W128 (xv - v) := by unfold W128; unfold I64 at h1 h3; omega
  have w4 : W128 (-(xv - v)) := by unfold W128; unfold I64 at h1 h3; omega
  have c3 := fun W => c_Sub xv v W w1 w2
  rw [inW_in w3, wrapW_in w3] at c3
  exact near_w xt xv xe v _ _ _ _ _ _ _ _ _ _ _ _ _ _ w (fun W => c_Of xv W h1) (fun W => c_Of v W h3) c3 (fun W => c_NegOk _ W w3 w4) (fun W => c_Of xe W h2) (fun W => c_Compare _ _ W) (fun W => c_Compare _ _ W)
end Go.Proofs.YtdeghcgakkhbmaaGreat
namespace Go.Proofs.YtdeghcgakkhbmaaGreat
open Go.RowKit Go.Shelf
attribute [local go_sem] Oper.semAt_some
def backOK (eps : Int) (p : Int × Int) (x : Int × Int × Int) : Bool := (x.1 == p.1) && (btw x.2.2 0 eps && nearB x.2.1 x.2.2 p.2)
/-- Does a scan hold, of some points? -/
def scanB (eps e : Int) (L : List (Int × Int)) (l : List (Int × Int × Int)) : Bool :=
  if l.length = 0 then decide (L.length = 0) && (e == 9) else (decide (L.length = l.length) && ((L.zip l).all fun q => backOK eps q.1 q.2)) && (e == 0)
theorem all_pre {eps : Int} {pre L : List (Int × Int)} {l : List (Int × Int × Int)} (h : pre <+: L) (ha : ((pre.zip l).all fun q => backOK eps q.1 q.2) = false) : ((L.zip l).all fun q => backOK eps q.1 q.2) = false := by
  obtain ⟨t, rfl⟩ := h
  induction pre generalizing l with
  | nil => simp at ha
  | cons x pre ih =>
    cases l with
    | nil => simp at ha
    | cons y l =>
      simp only [List.cons_append, List.zip_cons_cons, List.all_cons] at ha ⊢
      cases h1 : backOK eps x y with
      | false => rfl
      | true =>
        rw [h1, Bool.true_and] at ha
        rw [Bool.true_and]
        exact ih ha
theorem all_snoc {eps : Int} {pre : List (Int × Int)} {l : List (Int × Int × Int)} {x : Int × Int} {y : Int × Int × Int} (hy : l[pre.length]? = some y) : (((pre ++ [x]).zip l).all fun q => backOK eps q.1 q.2) = (((pre.zip l).all fun q => backOK eps q.1 q.2) && backOK eps x y) := by
  induction pre generalizing l with
  | nil =>
    cases l with
    | nil => simp at hy
    | cons z l => simp at hy; subst hy; simp
  | cons q pre ih =>
    cases l with
    | nil => simp at hy
    | cons z l =>
      simp only [List.cons_append, List.zip_cons_cons, List.all_cons]
      rw [ih (by simpa using hy), Bool.and_assoc]
set_option maxRecDepth 100000 in
set_option maxHeartbeats 8000000 in
theorem holdsScan_nil (r : RawT) (p : Option Addr) (cap : Nat) (a b e : Int) (sp : Option Addr) (scap : Nat) (w : World) (hp : PtsIn w p r.pts) (hl : r.pts.length ≤ 2000) (hv : ∀ x, x ∈ r.pts → ptB x = true)
    (c1 : ∀ W, Below w.heap.size w W → Calls Tryz.prog 32 #[.agg #[.string r.name, .int .i64 r.eps, .int .i64 r.floor, .int .i64 r.last, .int .i64 r.scale, .slice p r.pts.length cap]] W fun e w' => e = .returned (.int .i64 0) ∧ Below W.heap.size W w') :
    CallsIn Fence.wide 4 Tryz.prog 27 #[.agg #[.string r.name, .int .i64 r.eps, .int .i64 r.floor, .int .i64 r.last, .int .i64 r.scale, .slice p r.pts.length cap], .int .i64 a, .int .i64 b, .slice sp ([] : List (Int × Int × Int)).length scap, .int .i64 e] w fun e' w' => e' = .returned (.bool (scanB r.eps e (tellG a b r.pts) [])) ∧ Below w.heap.size w w' := by
  have hmf : ∀ (fn : Fn) (first cap : Array Value) (w : World), (Instr.makeFunc fn first cap).run Tryz.prog w = .ok (.func fn first cap) w := fun _ _ _ _ => rfl
  obtain ⟨l, hl0⟩ : ∃ l : List (Int × Int × Int), l = [] := ⟨_, rfl⟩
  refine callsIn_of_wp_marks Tryz.func27 rfl trivial ?_ rfl
  simp only [Tryz.ntmps27, List.size_toArray, List.length_cons, List.length_nil, Nat.reduceAdd, Nat.reduceSub, Array.replicate_succ, Array.replicate_zero, List.push_toArray, List.append_toArray, List.nil_append, List.cons_append]
  refine wpIn_wide.2 ?_
  replace c1 := Lib.hid c1
  go_upto_region 1 with (fail)
  refine wp_cutB w (Bc w.heap.size #[.string r.name, .int .i64 r.eps, .int .i64 r.floor, .int .i64 r.last, .int .i64 r.scale, .slice p r.pts.length cap] 35 <| Bc (w.heap.size + 1) #[.bool false] 4 <| Bz) ?_
  rintro W1 hW z2 ⟨⟨b1, yb1, k1, f1⟩, ⟨b2, yb2, k2, f2⟩, -⟩
  go_wp2_with fail
  refine (c1.out _ belowAny).mono ?_
  rintro e w3 ⟨rfl, hb3⟩
  have z4 := hb3.size
  try simp at z4
  clear k1 f1 k2 f2
  refine haveB w w3 (Bc w.heap.size #[.string r.name, .int .i64 r.eps, .int .i64 r.floor, .int .i64 r.last, .int .i64 r.scale, .slice p r.pts.length cap] 35 <| Bc (w.heap.size + 1) #[.bool false] 4 <| Bz) ?_
  clear b1 b2 hW
  rintro hW z5 ⟨⟨b1, yb1, k1, f1⟩, ⟨b2, yb2, k2, f2⟩, -⟩
  clear hb3
  go_wp2_with fail
  refine (some_w r p cap a b _).mono ?_
  rintro e w' ⟨rfl, rfl⟩
  have c9 : Below w.heap.size w ((((w3.alloc (.cells #[.slice sp 0 scap] 45)).alloc (.cells #[.string r.name, .int .i64 r.eps, .int .i64 r.floor, .int .i64 r.last, .int .i64 r.scale, .slice p r.pts.length cap] 35)).alloc (.cells #[.int .i64 a] 2)).alloc (.cells #[.int .i64 b] 2)) := belowAny
  have d1 : Blk ((((w3.alloc (.cells #[.slice sp 0 scap] 45)).alloc (.cells #[.string r.name, .int .i64 r.eps, .int .i64 r.floor, .int .i64 r.last, .int .i64 r.scale, .slice p r.pts.length cap] 35)).alloc (.cells #[.int .i64 a] 2)).alloc (.cells #[.int .i64 b] 2)) w.heap.size #[.string r.name, .int .i64 r.eps, .int .i64 r.floor, .int .i64 r.last, .int .i64 r.scale, .slice p r.pts.length cap] 35 := by exact blkAny2
  have d2 : Blk ((((w3.alloc (.cells #[.slice sp 0 scap] 45)).alloc (.cells #[.string r.name, .int .i64 r.eps, .int .i64 r.floor, .int .i64 r.last, .int .i64 r.scale, .slice p r.pts.length cap] 35)).alloc (.cells #[.int .i64 a] 2)).alloc (.cells #[.int .i64 b] 2)) (w.heap.size + 1) #[.bool false] 4 := by exact blkAny2
  have d3 : Blk ((((w3.alloc (.cells #[.slice sp 0 scap] 45)).alloc (.cells #[.string r.name, .int .i64 r.eps, .int .i64 r.floor, .int .i64 r.last, .int .i64 r.scale, .slice p r.pts.length cap] 35)).alloc (.cells #[.int .i64 a] 2)).alloc (.cells #[.int .i64 b] 2)) w3.heap.size #[.slice sp 0 scap] 45 := by exact blkAny2
  have s1 : Blk ((((w3.alloc (.cells #[.slice sp 0 scap] 45)).alloc (.cells #[.string r.name, .int .i64 r.eps, .int .i64 r.floor, .int .i64 r.last, .int .i64 r.scale, .slice p r.pts.length cap] 35)).alloc (.cells #[.int .i64 a] 2)).alloc (.cells #[.int .i64 b] 2)) (w3.heap.size + 1) #[.string r.name, .int .i64 r.eps, .int .i64 r.floor, .int .i64 r.last, .int .i64 r.scale, .slice p r.pts.length cap] 35 := by exact blkAny2
  have s2 : Blk ((((w3.alloc (.cells #[.slice sp 0 scap] 45)).alloc (.cells #[.string r.name, .int .i64 r.eps, .int .i64 r.floor, .int .i64 r.last, .int .i64 r.scale, .slice p r.pts.length cap] 35)).alloc (.cells #[.int .i64 a] 2)).alloc (.cells #[.int .i64 b] 2)) (w3.heap.size + 1 + 1) #[.int .i64 a] 2 := by exact blkAny2
  have s3 : Blk ((((w3.alloc (.cells #[.slice sp 0 scap] 45)).alloc (.cells #[.string r.name, .int .i64 r.eps, .int .i64 r.floor, .int .i64 r.last, .int .i64 r.scale, .slice p r.pts.length cap] 35)).alloc (.cells #[.int .i64 a] 2)).alloc (.cells #[.int .i64 b] 2)) (w3.heap.size + 1 + 1 + 1) #[.int .i64 b] 2 := by exact blkAny2
  have hsz : ((((w3.alloc (.cells #[.slice sp 0 scap] 45)).alloc (.cells #[.string r.name, .int .i64 r.eps, .int .i64 r.floor, .int .i64 r.last, .int .i64 r.scale, .slice p r.pts.length cap] 35)).alloc (.cells #[.int .i64 a] 2)).alloc (.cells #[.int .i64 b] 2)).heap.size = w3.heap.size + 1 + 1 + 1 + 1 := by simp
  simp only [World.size_alloc]
  obtain ⟨W0, hWe⟩ : ∃ W0, W0 = ((((w3.alloc (.cells #[.slice sp 0 scap] 45)).alloc (.cells #[.string r.name, .int .i64 r.eps, .int .i64 r.floor, .int .i64 r.last, .int .i64 r.scale, .slice p r.pts.length cap] 35)).alloc (.cells #[.int .i64 a] 2)).alloc (.cells #[.int .i64 b] 2)) := ⟨_, rfl⟩
  rw [← hWe] at c9 d1 d2 d3 s1 s2 s3 hsz ⊢
  have hn0 : w.heap.size + 1 < w3.heap.size := b2.lt
  clear hWe b1 b2 hW k1 f1 k2 f2
  go_wp2
  refine (wpIn_wide (n := 4)).1 ?_
  have hlt := tellG_length a b r.pts
  have hQ : ∀ x, x ∈ tellG a b r.pts → ptB x = true := fun x hx => hv x (tellG_mem hx)
  refine wpIn_rangeFunc_ownH rfl (by omega) (gf := 116) (lb := #[.pointer (some ⟨w3.heap.size + 1, 0, none⟩), .pointer (some ⟨w3.heap.size + 1 + 1, 0, none⟩), .pointer (some ⟨w3.heap.size + 1 + 1 + 1, 0, none⟩)]) rfl trivial (enters_of Tryz.func116 (by kernel_rfl) rfl)
    (encs := fun x : {x : Int × Int // ptB x = true} => #[Value.agg #[.int .i64 x.1.1, .int .i64 x.1.2]]) (Kp := KF w.heap.size (w3.heap.size + 1)) (S := fun ys => ys.map (·.1) = tellG a b r.pts) (Sp := fun pre => pre.map (·.1) <+: tellG a b r.pts) (N := (tellG a b r.pts).length) (w0 := W0)
    (fun lr J Jx W hWW hJ _ hY h0 => some1_in 3 (by omega) lr (w3.heap.size + 1) (w3.heap.size + 1 + 1) (w3.heap.size + 1 + 1 + 1) r p cap a b (fun x => ptB x = true) hQ hl (KF w.heap.size (w3.heap.size + 1)) (fun hk => ⟨hk.below.size, fun ha => hp.keep hk.below ha, fun ha => hk.rest _ _ _ _ (by omega) ha, fun ha => hk.rest _ _ _ _ (by omega) ha, fun ha => hk.rest _ _ _ _ (by omega) ha⟩) J Jx _ hJ hY W (s1.below hWW) (s2.below hWW) (s3.below hWW) ((hp.below c9).below hWW) h0)
    (fun h k => h.trans k) (KF.putObj (by omega)) (Below.refl _ _) (fun _ => rfl)
    (fun pre W => ((Blk W w.heap.size #[.string r.name, .int .i64 r.eps, .int .i64 r.floor, .int .i64 r.last, .int .i64 r.scale, .slice p r.pts.length cap] 35 ∧ Blk W (w.heap.size + 1) #[.bool false] 4) ∧ Blk W w3.heap.size #[.slice sp 0 scap] 45) ∧ (pre = []) ∧ Below w.heap.size w W)
    (fun c pre W => Blk W (w.heap.size + 1) #[.bool false] 4 ∧ (c = .ret ∧ (pre ≠ [])) ∧ Below w.heap.size w W)
    (OwnFrom.and (OwnFrom.and (OwnFrom.and (Own.from (blk_own _ _ _) _) (Own.from (blk_own _ _ _) _)) (Own.from (blk_own _ _ (fun pre : List {x : Int × Int // ptB x = true} => #[.slice sp 0 scap])) _)) (OwnFrom.and (ownFrom_pure _ _) (ownFrom_below (Nat.le_refl _) (by omega))))
    (fun c => OwnFrom.and (Own.from (blk_own _ _ _) _) (OwnFrom.and (ownFrom_pure _ _) (ownFrom_below (Nat.le_refl _) (by omega))))
    ⟨⟨⟨d1, d2⟩, by simpa using d3⟩, ?start, c9⟩
    (fun x a' W => ∃ Bx, w3.heap.size < Bx ∧ Blk W Bx #[.int .i64 x.1.1, .int .i64 x.1.2] 58 ∧ ∃ u : Nat → Value, a' = { tmps := #[u 0, u 1, u 2, .slice sp ([] : List (Int × Int × Int)).length scap, .int .i64 e, .pointer (some ⟨w.heap.size, 0, none⟩), u 6, u 7, u 8, u 9, .pointer (some ⟨(w.heap.size + 1), 0, none⟩), .pointer (some ⟨w3.heap.size, 0, none⟩), .pointer (some ⟨Bx, 0, none⟩), u 13, u 14, u 15, u 16, u 17, u 18, u 19, u 20, u 21, u 22, u 23, u 24, u 25, u 26, u 27, u 28, u 29, u 30, u 31, u 32, u 33, u 34, u 35, u 36, u 37, u 38, u 39, u 40, u 41, u 42, u 43, u 44, u 45, u 46, u 47, u 48, u 49, u 50, u 51, u 52, u 53, u 54, u 55, u 56, u 57, u 58, u 59, u 60, u 61, u 62], defers := [] })
    (fun x a' _ X Y row hs hg hr => by obtain ⟨Bx, h1, h2, h3⟩ := hs; exact ⟨Bx, h1, blk_own Bx 58 (fun (_ : Unit) => #[Value.int .i64 x.1.1, Value.int .i64 x.1.2]) () X Y row h2 hg (fun r e => (hr r e).2), h3⟩) ?assign ?body ?done ?stop
  case start => rfl
  case assign =>
    rintro l9 pre x W K ⟨⟨⟨i1, i2⟩, i3⟩, i5, i6⟩ hK
    have hlt4 := i3.lt
    gi_wp2
    exact hK _ _ ((KeepsOthers.alloc _ _).from _) ((KF.refl _ _ _).alloc i6.size _) ⟨⟨⟨i1.alloc _, i2.alloc _⟩, i3.alloc _⟩, i5, i6.alloc i6.size _⟩ ⟨W.heap.size, hlt4, Blk.new' rfl, frame_ex rfl⟩
  case body =>
    rintro l9 pre ⟨⟨t, v⟩, hx⟩ a' W hl' ⟨r', hr⟩ ⟨⟨⟨i1, i2⟩, i3⟩, i5, i6⟩ ⟨Bx, hBx, bX, u, rfl⟩ hlt3
    have k1 := i1.cell
    have k2 := i2.cell
    have f2 := i2.frozen
    have kx := bX.cell
    have yx := bX.lt
    have hz6 := i6.size
    have y1 := i1.lt
    have y2 := i2.lt
    have y3 := i3.lt
    have k3 := i3.cell
    subst i5
    gi_wp2
    exact ⟨KeepsOthers.from (keepsAny) _, ⟨blkAny2, ⟨rfl, by simp⟩, belowAny⟩⟩
  case done =>
    rintro D ys W hD hys ⟨⟨⟨i1, i2⟩, i3⟩, i5, i6⟩ hK
    have hz6 := i6.size
    have y1 := i1.lt
    have y2 := i2.lt
    have y3 := i3.lt
    have f2 := i2.frozen
    simp only [Exit.inBlock, Exit.then]
    have hKX := Lib.hid (show DefK D W from hK)
    clear hK d1 d2 d3 s1 s2 s3 c9 hp hv
    subst i5
    have hT := Lib.hid (show scanB r.eps e (tellG a b r.pts) [] = (e == 9) by rw [← hys]; rfl)
    clear hys
    have b1 := i1
    have b2 := i2
    have b3 := i3
    have hW := i6
    clear i1 i2 i3 i6
    have k1 := b1.cell
    have f1 := b1.frozen
    have k2 := b2.cell
    have f2 := b2.frozen
    have k3 := b3.cell
    have f3 := b3.frozen
    go_upto_region 13 with (fail)
    clear k1 f1 k2 f2 k3 f3
    refine wp_cutB w (Bc w.heap.size #[.string r.name, .int .i64 r.eps, .int .i64 r.floor, .int .i64 r.last, .int .i64 r.scale, .slice p r.pts.length cap] 35 <| Bc (w.heap.size + 1) #[.bool false] 4 <| Bc w3.heap.size #[.slice sp 0 scap] 45 <| Rc (fun W' => DefK D W') <| Bz) ?_ (hI := by exact belowAny) (hR := (Bc.mk (by exact blkAny2) <| Bc.mk (by exact blkAny2) <| Bc.mk (by exact blkAny2) <| Rc.mk (by exact hKX.out) <| trivial))
    clear b1 b2 b3 hW
    rintro W41 hW z42 hL
    obtain ⟨⟨b1, yb1, k1, f1⟩, ⟨b2, yb2, k2, f2⟩, ⟨b3, yb3, k3, f3⟩, b4, -⟩ := id hL
    clear k1 f1 k2 f2 k3 f3
    refine wp_regS 2 63 hW hL ?_
    iterate 2 refine dA ?_
    clear hW hL b1 b2 b3 b4
    rintro W43 hW z44 hL
    simp only [ndR]
    intros
    simp only [ndS]
    obtain ⟨⟨b1, yb1, k1, f1⟩, ⟨b2, yb2, k2, f2⟩, ⟨b3, yb3, k3, f3⟩, b4, -⟩ := hL
    go_wp2
    have b9 : Blk (W43.setCell ⟨w.heap.size + 1, 0, none⟩ (.bool (e == 9))) (w.heap.size + 1) #[.bool (e == 9)] 4 := blkAny2
    have hK9 : (W43.setCell ⟨w.heap.size + 1, 0, none⟩ (.bool (e == 9))).heap[D]? = some (.deferred (some [])) := (keepsAny : KeepsOthers _ (W43.setCell ⟨w.heap.size + 1, 0, none⟩ (.bool (e == 9)))).same D _ b4 rfl
    simp only [bodyPostM]
    have hB9 : Below w.heap.size w (W43.setCell ⟨w.heap.size + 1, 0, none⟩ (.bool (e == 9))) := by exact belowAny
    refine ⟨by simp, .inl ⟨_, _, rfl, run_takeDeferred hK9, ?_⟩⟩
    have hc9 := cell_kept (by simpa using b9.cell 0) (grownBy_putObj' (W43.setCell ⟨w.heap.size + 1, 0, none⟩ (.bool (e == 9))) D (.deferred none)) (fun r e => by cases e; exact ⟨_, hK9, rfl⟩)
    refine ⟨.bool (e == 9), by simp [results, Tryz.f27, go_sem, hc9], ?_, hB9.trans (belowK_b (w := w) (Nat.le_refl _) (W43.setCell ⟨w.heap.size + 1, 0, none⟩ (.bool (e == 9))) D _ _ (by omega) hK9 rfl rfl)⟩
    rw [hT.out]
  case stop =>
    rintro D c pre W hD hpre ⟨i4, ⟨rfl, i5⟩, i6⟩ hK
    have hz6 := i6.size
    have y4 := i4.lt
    have hT := Lib.hid (show scanB r.eps e (tellG a b r.pts) [] = false by obtain ⟨q, hq⟩ := hpre; rw [← hq]; cases pre with | nil => exact absurd rfl i5 | cons x m => rfl)
    clear i5 hpre
    gi_wp2
    have b9 := i4
    have hK9 := hK
    have hB9 : Below w.heap.size w W := by exact belowAny
    refine ⟨by simp, .inl ⟨_, _, rfl, run_takeDeferred hK9, ?_⟩⟩
    have hc9 := cell_kept (by simpa using b9.cell 0) (grownBy_putObj' W D (.deferred none)) (fun r e => by cases e; exact ⟨_, hK9, rfl⟩)
    refine ⟨.bool false, by simp [results, Tryz.f27, go_sem, hc9], ?_, hB9.trans (belowK_b (w := w) (Nat.le_refl _) W D _ _ (by omega) hK9 rfl rfl)⟩
    rw [hT.out]
set_option maxRecDepth 100000 in
set_option maxHeartbeats 4000000 in
theorem holdsScan_no (r : RawT) (p : Option Addr) (cap : Nat) (a b e : Int) (sp : Option Addr) (n scap : Nat) (w : World)
    (c1 : ∀ W, Below w.heap.size w W → Calls Tryz.prog 32 #[.agg #[.string r.name, .int .i64 r.eps, .int .i64 r.floor, .int .i64 r.last, .int .i64 r.scale, .slice p r.pts.length cap]] W fun e w' => e = .returned (.int .i64 380) ∧ Below W.heap.size W w') :
    CallsIn Fence.wide 4 Tryz.prog 27 #[.agg #[.string r.name, .int .i64 r.eps, .int .i64 r.floor, .int .i64 r.last, .int .i64 r.scale, .slice p r.pts.length cap], .int .i64 a, .int .i64 b, .slice sp n scap, .int .i64 e] w fun e' w' => e' = .returned (.bool false) ∧ Below w.heap.size w w' := by
  refine callsIn_of_wp_marks Tryz.func27 rfl trivial ?_ rfl
  simp only [Tryz.ntmps27, List.size_toArray, List.length_cons, List.length_nil, Nat.reduceAdd, Nat.reduceSub, Array.replicate_succ, Array.replicate_zero, List.push_toArray, List.append_toArray, List.nil_append, List.cons_append]
  refine wpIn_wide.2 ?_
  replace c1 := Lib.hid c1
  go_upto_region 1 with (fail)
  refine wp_cutB w (Bc w.heap.size #[.string r.name, .int .i64 r.eps, .int .i64 r.floor, .int .i64 r.last, .int .i64 r.scale, .slice p r.pts.length cap] 35 <| Bc (w.heap.size + 1) #[.bool false] 4 <| Bz) ?_
  rintro W1 hW z2 ⟨⟨b1, yb1, k1, f1⟩, ⟨b2, yb2, k2, f2⟩, -⟩
  go_wp2_with fail
  refine (c1.out _ belowAny).mono ?_
  rintro e w3 ⟨rfl, hb3⟩
  have z4 := hb3.size
  try simp at z4
  clear k1 f1 k2 f2
  refine haveB w w3 (Bc w.heap.size #[.string r.name, .int .i64 r.eps, .int .i64 r.floor, .int .i64 r.last, .int .i64 r.scale, .slice p r.pts.length cap] 35 <| Bc (w.heap.size + 1) #[.bool false] 4 <| Bz) ?_
  clear b1 b2 hW
  rintro hW z5 ⟨⟨b1, yb1, k1, f1⟩, ⟨b2, yb2, k2, f2⟩, -⟩
  clear hb3
  go_wp2
  simp only [bodyPostM]
  have b9 : Blk (w3.setCell ⟨w.heap.size + 1, 0, none⟩ (.bool false)) (w.heap.size + 1) #[.bool false] 4 := blkAny2
  have k9 := b9.cell
  refine ⟨.bool false, by simp [results, Tryz.f27, go_sem, k9], rfl, by exact belowAny⟩
end Go.Proofs.YtdeghcgakkhbmaaGreat
namespace Go.Proofs.YtdeghcgakkhbmaaGreat
open Go.RowKit
end Go.Proofs.YtdeghcgakkhbmaaGreat
namespace Go.Proofs.YtdeghcgakkhbmaaGreat
open Go.RowKit
end Go.Proofs.YtdeghcgakkhbmaaGreat
namespace Go.Proofs.YtdeghcgakkhbmaaGreat
open Go.RowKit
/-- What own leaves of a series. -/
def ownSer (nm : ByteArray) (ep fl la sc : Int) (rows : List SegR) (pts : List (Int × Int)) : SerT := ⟨nm, ep, fl, la, sc, (rows.take (min rows.length 60)).map fun r => ownG r.s, pts.take (min pts.length 60)⟩
/-- A series that came in. -/
structure SerCame (w : World) (ps po : Option Addr) (cs co : Nat) (rows : List SegR) (pts : List (Int × Int)) : Prop where
  segs : SegsCame w ps rows
  opn : PtsIn w po pts
  nilS : ps = none → rows.length = 0 ∧ cs = 0
  nilO : po = none → pts.length = 0 ∧ co = 0
  capS : rows.length ≤ cs
  capO : pts.length ≤ co
theorem SerCame.below {w w' : World} {ps po : Option Addr} {cs co : Nat} {rows : List SegR} {pts : List (Int × Int)} (h : SerCame w ps po cs co rows pts) (hb : Below w.heap.size w w') : SerCame w' ps po cs co rows pts := ⟨h.segs.below hb, h.opn.below hb, h.nilS, h.nilO, h.capS, h.capO⟩
end Go.Proofs.YtdeghcgakkhbmaaGreat
namespace Go.Proofs.YtdeghcgakkhbmaaGreat
open Go.ChangeShapes Go.WideShapes Go.ChangeAt Go.RowKit Go.Deep

section
variable {H : Type} {enc : TypeId × Value → H} {P : Program}
theorem trodAll_stays (hl : laidOutB P = true) {W W' : World} (hb : Below W.heap.size W W') {sp : Nat → Bool} : ∀ (ts : List TypeId) (vs : List Value) (ds : List (DataW H)) (ps : List MemPlace), (∀ t, t ∈ ts → P.readableRec t = true ∧ t < P.types.size) →
    DataW.TrodAll enc P W 0 (fun _ => true) true ts vs ds ps → (∀ p ∈ ps, p.block < W.heap.size) → (∀ p ∈ ps, sp p.block = true) → DataW.TrodAll enc P W' 0 sp true ts vs ds ps
  | [], vs, ds, ps, _, h, _, _ => by
    obtain ⟨rfl, rfl, rfl⟩ := trodAll_nil h
    rfl
  | t :: ts, vs, ds, ps, hr, h, hlt, hs => by
    obtain ⟨v, vs', d, ds', p, q, rfl, rfl, rfl, h1, h2⟩ := trodAll_cons h
    exact ⟨p, q, WideElems.Trod_stays hl (hr t (by simp)).1 (hr t (by simp)).2 h1 (fun x hx => hb.same (hlt x (by simp [hx]))) (fun x hx => hs x (by simp [hx])),
      trodAll_stays hl hb ts vs' ds' q (fun u hu => hr u (by simp [hu])) h2 (fun x hx => hlt x (by simp [hx])) (fun x hx => hs x (by simp [hx])), rfl⟩
theorem law_post {f : Func} {s : ChangeSpec} {apart fresh handsOn again : Bool} {W W' : World} {args : Array Value} {ds : List (DataW H)} {before : List MemPlace} {tb : TypeId} (hl : laidOutB P = true)
    (hpar : ∀ t, t ∈ f.params.toList → P.readableRec t = true ∧ t < P.types.size) (hres : f.resultTypes = #[tb]) (htb : P.underlying tb = some .bool) (hv : s.vars = [])
    (hW : DataW.Whole enc P f.params.toList s.vars apart W args.toList ds [] before) (hb : Below W.heap.size W W') (hfn : s.fn H ds = { results := [.lit (.bool true)], args := ds }) :
    s.post enc P f apart fresh handsOn again W args (.bool true) W' := by
  have hlt : ∀ p ∈ before, p.block < W.heap.size := fun p hp => hW.lt p hp
  have hold : ∀ p ∈ before, (fun b => decide (b < W.heap.size)) p.block = true := fun p hp => by simpa using hlt p hp
  have hW' := hW
  obtain ⟨p, q, hA, hV, rfl, hz, hn⟩ := hW
  rw [hv] at hV
  obtain ⟨_, rfl⟩ := trodVars_none hV
  have hR : ∀ (b : Nat) (sp : Nat → Bool) (hd : Bool), DataW.TrodAll enc P W' b sp hd f.resultTypes.toList ((Value.bool true).resultList f.resultTypes.size) (s.fn H (ds ++ [])).results [] := fun b sp hd => by
    rw [hres, List.append_nil, hfn]
    exact trodAll_mk1 (shut_bool htb _)
  have hargs : ∀ sp : Nat → Bool, (∀ x ∈ p ++ [], sp x.block = true) → DataW.TrodAll enc P W' 0 sp true f.params.toList args.toList (s.fn H (ds ++ [])).args p := fun sp hsp => by
    rw [List.append_nil, hfn]
    exact trodAll_stays hl hb _ _ _ _ hpar hA (fun x hx => hlt x (by simp [hx])) (fun x hx => hsp x (by simp [hx]))
  have hvars : ∀ sp : Nat → Bool, (∀ x ∈ p ++ [], sp x.block = true) → DataW.TrodVars enc P W' sp s.vars (s.fn H (ds ++ [])).vars [] := fun sp _ => by
    rw [hv, List.append_nil, hfn]
    rfl
  refine ⟨ds, [], p ++ [], [], p, [], hW', hR _ _ _, hargs _ hold, hvars _ hold, World.keptBut_mono (fun x hx => ⟨hx, ?_⟩) (hb.frame (· ∈ p ++ [])), fun _ => ?_⟩
  · exact Or.inr (by simpa using hx)
  · refine ⟨?_, _, _, ([] ++ p) ++ [], ⟨[] ++ p, [], trodAll_append (hargs _ (fun _ _ => rfl)) (hR _ _ _), hvars _ (fun _ _ => rfl), rfl, ?_, ?_⟩, ?_⟩
    · exact ok_one hres rfl (okWide_bool_mk htb _)
    · intro b off hx
      have hin : MemPlace.cell b off ∈ p ++ [] := by simpa using hx
      rw [hb.frozen (hlt _ hin)]
      exact hz b off hin
    · intro ha
      simpa using hn ha
    · intro x hx _
      simpa using hx
end

/-- The fields of a struct: type and place. -/
def fieldsOf (P : Program) (t : TypeId) : Array (TypeId × Nat) := match P.underlying t with | some (.struct fs) => fs.map fun f => (f.type, f.offset) | _ => #[]
section
variable {H : Type} {enc : TypeId × Value → H} {P : Program} {w : World} {base : Nat} {spare : Nat → Bool} {held : Bool}
theorem open_struct {t : TypeId} {fl : Array (TypeId × Nat)} {fuel : Nat} {cs : List Value} {x : DataW H × List MemPlace} (hf : fieldsOf P t = fl) (hne : fl.size ≠ 0) (h : DataW.trod enc P w base spare held fuel t cs = some x) :
    cs.length = P.cellsOf t ∧ ∀ (i : Nat) (ty : TypeId) (off : Nat), fl[i]? = some (ty, off) → ∃ n y, DataW.trod enc P w base spare held n ty ((cs.drop off).take (P.cellsOf ty)) = some y := by
  unfold fieldsOf at hf
  split at hf
  · rename_i fs hu
    obtain ⟨xs, n, _, _, hl, hxl, hat⟩ := DataW.trod_struct hu h
    refine ⟨hl, fun i ty off hi => ?_⟩
    subst hf
    simp only [Array.getElem?_map, Option.map_eq_some_iff, Prod.mk.injEq] at hi
    obtain ⟨f, h1, h2, h3⟩ := hi
    have hh := hat i f h1
    have hlt : i < xs.length := by have := (Array.getElem?_eq_some_iff.1 h1).1; omega
    rw [List.getElem?_eq_getElem hlt] at hh
    subst h2; subst h3
    exact ⟨n, _, hh⟩
  · subst hf; simp at hne
theorem struct_of {t : TypeId} {fl : Array (TypeId × Nat)} (hf : fieldsOf P t = fl) (hne : fl.size ≠ 0) : ∃ fs, P.underlying t = some (.struct fs) := by
  unfold fieldsOf at hf
  split at hf
  · rename_i fs hu
    exact ⟨fs, hu⟩
  · subst hf; simp at hne
/-- A struct whose fields are all numbers of 64 bits. -/
theorem open_ints_struct {t : TypeId} {fl : Array (TypeId × Nat)} {fuel : Nat} {cs : List Value} {x : DataW H × List MemPlace} (hf : fieldsOf P t = fl) (hne : fl.size ≠ 0) (hn : P.cellsOf t = fl.size)
    (ha : ∀ i, i < fl.size → ∃ ty, fl[i]? = some (ty, i) ∧ P.underlying ty = some (.int .i64) ∧ P.cellsOf ty = 1) (h : DataW.trod enc P w base spare held fuel t cs = some x) :
    cs.length = fl.size ∧ ∀ i, i < fl.size → ∃ z : Int, cs[i]? = some (.int .i64 z) ∧ I64 z := by
  obtain ⟨hl, hat⟩ := open_struct hf hne h
  refine ⟨by omega, fun i hi => ?_⟩
  obtain ⟨ty, h1, h2, h3⟩ := ha i hi
  obtain ⟨n, y, hy⟩ := hat i ty i h1
  obtain ⟨z, hz, _, hw⟩ := DataW.trod_int h2 hy
  refine ⟨z, ?_, ?_⟩
  · rw [h3] at hz
    have : ((cs.drop i).take 1)[0]? = some (.int .i64 z) := by rw [hz]; rfl
    simpa using this
  · simp [Lit.wf, IntKind.min, IntKind.max, IntKind.signed, IntKind.bits] at hw
    exact ⟨by omega, by omega⟩
theorem list_of {α : Type} {Q : Nat → α → Prop} : ∀ n, (∀ i, i < n → ∃ x, Q i x) → ∃ l : List α, l.length = n ∧ ∀ i x, l[i]? = some x → Q i x
  | 0, _ => ⟨[], rfl, fun i x h => by simp at h⟩
  | n + 1, h => by
    obtain ⟨l, hl, hq⟩ := list_of n fun i hi => h i (by omega)
    obtain ⟨x, hx⟩ := h n (by omega)
    refine ⟨l ++ [x], by simp [hl], fun i y hy => ?_⟩
    rcases Nat.lt_or_ge i l.length with hlt | hge
    · rw [List.getElem?_append_left hlt] at hy
      exact hq i y hy
    · rw [List.getElem?_append_right hge] at hy
      have : i = l.length := by
        rcases Nat.eq_or_lt_of_le hge with e | e
        · exact e.symm
        · rw [List.getElem?_eq_none (by simp; omega)] at hy; cases hy
      subst this
      simp at hy
      rw [hl, ← hy]
      exact hx
theorem spot_none {a : Addr} {v : Value} (h : w.cell? a = some v) : a = ⟨a.block, a.off, none⟩ := by
  obtain ⟨b, o, s⟩ := a
  cases s with
  | none => rfl
  | some k =>
    unfold World.cell? at h
    simp at h
    split at h <;> cases h
theorem add_at {b o n : Nat} : (⟨b, o, none⟩ : Addr).add n = ⟨b, o + n, none⟩ := by unfold Addr.add; split <;> simp_all
/-- A slice of structs of n numbers each. -/
theorem open_rows {t e : TypeId} {n fuel : Nat} {fl : Array (TypeId × Nat)} {cs : List Value} {x : DataW H × List MemPlace} (ht : P.underlying t = some (.slice e)) (hf : fieldsOf P e = fl) (hfl : fl.size = n) (hn0 : n ≠ 0) (hn : P.cellsOf e = n)
    (ha : ∀ i, i < fl.size → ∃ ty, fl[i]? = some (ty, i) ∧ P.underlying ty = some (.int .i64) ∧ P.cellsOf ty = 1) (h : DataW.trod enc P w base spare held fuel t cs = some x) :
    ∃ (p : Option Addr) (len cap : Nat), cs = [.slice p len cap] ∧ (p = none → len = 0 ∧ cap = 0) ∧ len ≤ cap ∧ cap ≤ maxLen ∧
      ∀ i, i < len → ∃ b o, p = some ⟨b, o, none⟩ ∧ ∀ j, j < n → ∃ z : Int, w.cell? ⟨b, o + i * n + j, none⟩ = some (.int .i64 z) ∧ I64 z := by
  rcases open_slice ht h with ⟨rfl, rfl⟩ | ⟨a, len, cap, m, k, D, Pl, rfl, hb, hl, hm, hmm, hx, hi⟩
  · exact ⟨none, 0, 0, rfl, fun _ => ⟨rfl, rfl⟩, Nat.le_refl _, Nat.zero_le _, fun i hi => by omega⟩
  · refine ⟨some a, len, cap, rfl, (fun e => by cases e), hl, hm, fun i hilt => ?_⟩
    have hlm : len ≤ m := by rw [hmm]; split <;> omega
    have key : ∀ i, i < len → ∀ j, j < n → ∃ z : Int, w.cell? (a.add (i * n + j)) = some (.int .i64 z) ∧ I64 z := by
      intro i hilt j hj
      obtain ⟨cs', hc, ht'⟩ := hi i (by omega)
      obtain ⟨_, hcl, hat⟩ := World.cells?_some hc
      obtain ⟨hl', hz⟩ := open_ints_struct hf (by omega) (by omega) ha ht'
      obtain ⟨z, hz1, hz2⟩ := hz j (by omega)
      have := hat j (by omega)
      rw [add_add, hn, hz1] at this
      exact ⟨z, this, hz2⟩
    obtain ⟨z0, hz0, _⟩ := key 0 (by omega) 0 (by omega)
    simp [Addr.add] at hz0
    have hs := spot_none hz0
    refine ⟨a.block, a.off, by rw [← hs], fun j hj => ?_⟩
    obtain ⟨z, h1, h2⟩ := key i hilt j hj
    rw [hs, add_at] at h1
    exact ⟨z, by rw [Nat.add_assoc]; exact h1, h2⟩
theorem wf_I64 {z : Int} (hw : (Lit.int .i64 z).wf = true) : I64 z := by
  simp [Lit.wf, IntKind.min, IntKind.max, IntKind.signed, IntKind.bits] at hw
  exact ⟨by omega, by omega⟩
end
section
variable {H : Type} {enc : TypeId × Value → H} {w : World} {base : Nat} {spare : Nat → Bool} {held : Bool}
theorem Tryz.isInt : Tryz.prog.underlying 3 = some (.int .i64) ∧ Tryz.prog.cellsOf 3 = 1 := ⟨by kernel_rfl, by kernel_rfl⟩
theorem Tryz.isInt64 : Tryz.prog.underlying 2 = some (.int .i64) ∧ Tryz.prog.cellsOf 2 = 1 := ⟨by kernel_rfl, by kernel_rfl⟩
end
theorem pars_ok {P : Program} {ts : List TypeId} (h : (ts.all fun t => P.readableRec t && decide (t < P.types.size)) = true) : ∀ t, t ∈ ts → P.readableRec t = true ∧ t < P.types.size := fun t ht => by
  have := List.all_eq_true.1 h t ht
  simpa using this
theorem Tryz.ownKnob : ownKnob Tryz.prog.godebug = none := by kernel_rfl
theorem Tryz.laidOut : laidOutB Tryz.prog = true := by kernel_rfl
end Go.Proofs.YtdeghcgakkhbmaaGreat
namespace Go.Proofs.YtdeghcgakkhbmaaGreat
open Go.ChangeShapes Go.WideShapes Go.ChangeAt Go.RowKit Go.Deep
section
variable {H : Type} {enc : TypeId × Value → H} {w : World} {base : Nat} {spare : Nat → Bool} {held : Bool}
theorem Tryz.fieldsPoint : fieldsOf Tryz.prog 58 = #[(2, 0), (2, 1)] := by kernel_rfl
theorem open_pts {fuel : Nat} {cs : List Value} {x : DataW H × List MemPlace} (h : DataW.trod enc Tryz.prog w base spare held fuel 33 cs = some x) :
    ∃ (p : Option Addr) (l : List (Int × Int)) (cap : Nat), cs = [.slice p l.length cap] ∧ (p = none → l.length = 0 ∧ cap = 0) ∧ l.length ≤ cap ∧ PtsIn w p l := by
  obtain ⟨p, len, cap, rfl, hn, hl, hm, hi⟩ := open_rows (n := 2) (by kernel_rfl) Tryz.fieldsPoint rfl (by omega) (by kernel_rfl) (fun i hi => by
    match i, hi with
    | 0, _ => exact ⟨_, rfl, Tryz.isInt64⟩
    | 1, _ => exact ⟨_, rfl, Tryz.isInt64⟩) h
  obtain ⟨l, rfl, hq⟩ := list_of (Q := fun i (r : Int × Int) => ∃ b o, p = some ⟨b, o, none⟩ ∧ w.cell? ⟨b, o + i * 2, none⟩ = some (.int .i64 r.1) ∧ w.cell? ⟨b, o + i * 2 + 1, none⟩ = some (.int .i64 r.2)) len (fun i hilt => by
    obtain ⟨b, o, e, hj⟩ := hi i hilt
    obtain ⟨f, f1, f2⟩ := hj 0 (by omega)
    obtain ⟨s, s1, s2⟩ := hj 1 (by omega)
    exact ⟨(f, s), b, o, e, by simpa using f1, s1⟩)
  exact ⟨p, l, cap, rfl, hn, hl, ⟨fun i r hr => hq i r hr⟩⟩
end
end Go.Proofs.YtdeghcgakkhbmaaGreat
