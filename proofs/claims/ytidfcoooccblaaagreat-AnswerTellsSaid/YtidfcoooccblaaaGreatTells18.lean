/- Parts of the proof that follows: Reference 25: Back, Sheet, Mean, Sum of what is told, plainly. No condition but bounds. | answer.Scan's inner function put: one more is told, or not. No condition but bounds. | answer.Scan's function: what is told at each time. No condition but that the segments may be. | answer.Scan, plainly. No condition. | slices.Equal, of what is told. No condition. | The laws of chapter 25: AnswerParted's walks. No condition. -/
import Derived.Test.YtidfcoooccblaaaGreatTells17
set_option maxRecDepth 100000
set_option maxHeartbeats 8000000
set_option linter.unusedSimpArgs false
set_option linter.unusedVariables false
namespace Go.Proofs.YtidfcoooccblaaaGreat
open Go.RowKit
theorem c_refBack25 (s : SerT) (ps : Option Addr) (cs : Nat) (po : Option Addr) (co : Nat) (a b : Int) (w : World) (hin : SerIn w s ps po) (hc : checkB s = true) :
  Calls Tryz.prog 21 #[.agg (serA s ps cs po co), a, b] w fun e w' => ∃ p k, e = .returned (.slice p (toldL s a b).length k) /\ RunsIn w' p ((toldL s a b).map bkT) /\ Below w.heap.size w w' := by
 refine (refBack_w s ps cs po co a b w hin (chk_segs hc)).mono ?_
 rintro e w' ⟨v, rfl, h, hB⟩
 obtain ⟨p, k, rfl, -⟩ := h.form
 exact ⟨p, k, rfl, h.runs, hB⟩
theorem own_ne {w : World} {B g : Nat} {cs : Array Value} {t e : TypeId} {s n : Nat} {v : Value} {xs : List Value} (hown : w.ownsRow B e s v n xs) (h : Blk w g cs t) (ht : t ≠ e) : ∀ k, v.ownBlock = some k -> k ≠ g := by
 intro k hk e1
 rcases hown.2 with ⟨rfl, _⟩ | ⟨g', cap, cur, rfl, _, hb, _⟩
 ·simp [Value.ownBlock] at hk
 ·have : g' = k := by simpa [Value.ownBlock] using hk
  subst this
  subst e1
  unfold Blk at h
  rw [h] at hb
  injection hb with hb
  injection hb with _ h2 _
  exact ht h2
def PutPost (B gO : Nat) (L : List (Int × Int × Int)) (w : World) (e : Ending) (w' : World) : Prop :=
 e = .returned (.tuple #[]) /\ Below B w w' /\ (∀ g cs t, g ≠ gO -> t ≠ 63 -> Blk w g cs t -> Blk w' g cs t) /\ ∃ v, Blk w' gO #[v] 52 /\ OwnR w' B 63 3 v L.length (flatCells (L.map bkT))
def putL (fr b t y far : Int) (L : List (Int × Int × Int)) : List (Int × Int × Int) := if selB fr b (t, y) then L ++ [(t, y, far)] else L
theorem c_put (gF gB gO B : Nat) (fr b t y far : Int) (L : List (Int × Int × Int)) (v : Value) (w : World) (b1 : Blk w gF #[.int .i64 fr] 2) (b2 : Blk w gB #[.int .i64 b] 2) (b3 : Blk w gO #[v] 52)
  (hown : OwnR w B 63 3 v L.length (flatCells (L.map bkT))) (hBO : B <= gO) (hBw : B <= w.heap.size) (hf : L.length <= 100000) :
  Calls Tryz.prog 71 #[.agg #[.int .i64 t, .int .i64 y], .int .i64 far, .pointer (some ⟨gF, 0, none⟩), .pointer (some ⟨gB, 0, none⟩), .pointer (some ⟨gO, 0, none⟩)] w (PutPost B gO (putL fr b t y far L) w) := by
 obtain ⟨i0, hi, hz0, hz1, hz2⟩ := info_parts Tryz.infoBack
 have y1 := b1.lt
 have y2 := b2.lt
 have y3 := b3.lt
 unfold putL selB PutPost
 by_cases g1 : fr <= t
 ·by_cases g2 : t <= b
  ·rw [decide_eq_true g1, decide_eq_true g2, Bool.and_self, if_pos rfl]
   go_enter Tryz.func71, Tryz.ntmps71
   have k1 := b1.cell
   have f1 := b1.frozen
   have k2 := b2.cell
   have f2 := b2.frozen
   have k3 := b3.cell
   have f3 := b3.frozen
   go_upto_region 2 with (fail)
   clear k1 f1 k2 f2 k3 f3
   refine wp_facts (fun W' => Below w.heap.size w W' /\ Blk W' gF #[.int .i64 fr] 2 /\ Blk W' gB #[.int .i64 b] 2 /\ Blk W' gO #[v] 52 /\ Blk W' w.heap.size #[.int .i64 t, .int .i64 y] 91) ⟨by exact belowAny, by exact blkAny2, by exact blkAny2, by exact blkAny2, by exact blkAny2⟩ ?_
   clear b1 b2 b3
   rintro W1 ⟨hW, b1, b2, b3, b4⟩
   have z2 := hW.size
   have z3 := b1.lt
   have z4 := b2.lt
   have z5 := b3.lt
   have z6 := b4.lt
   have k1 := b1.cell
   have f1 := b1.frozen
   have k2 := b2.cell
   have f2 := b2.frozen
   have k3 := b3.cell
   have f3 := b3.frozen
   have k4 := b4.cell
   have f4 := b4.frozen
   have hO := hown.below hW
   have zz := hW.size
   clear hown
   go_wp2_with (at_builtin; refine wpList_append_own _ rfl (.tmp 17) (.tmp 24) 52 rfl B 63 i0 (.agg #[.int .i64 0, .int .i64 0, .int .i64 0]) 3 24 (by kernel_rfl) hi hz0 hz1 hz2 rfl (by decide) _ _ _ rfl (hO.own.alloc _) ⟨W1.heap.size, 0, none⟩ 1 1 [.int .i64 t, .int .i64 y, .int .i64 far] rfl rfl (cell_three_new _ _ _ _ _) (by simp [Value.oneCell']) (by simp [maxLen]; omega) (by omega) (by simp; omega) ?_)
   intro v' w9 hown2 hgr _
   have hB := Lib.hid (below_append (hW.mono hBw) (by omega) hO.own hgr)
   have d3 := b3.grown hO.own (by decide) hgr
   have hoth := Lib.hid (show ∀ g cs t, g ≠ gO -> t ≠ 63 -> Blk w g cs t -> Blk w9 g cs t from fun g cs t _ ht hb => (hb.below hW).grown hO.own ht hgr)
   obtain ⟨pv, cv, rfl, -, -, -, -⟩ := (OwnR.mk hown2).form
   have hne := own_ne hown2 d3 (by decide)
   have y3 := d3.lt
   have k3 := d3.cell
   have f3 := d3.frozen
   replace hown2 := Lib.hid hown2
   replace hne := Lib.hid hne
   clear hgr hO b1 b2 b4 hW k1 f1 k2 f2 k4 f4
   go_wp2
   refine bodyPost_end (results_none rfl _ _ _) rfl ⟨rfl, ?_, ?_, .slice pv (L.length + 1) cv, ?_, ?_⟩
   ·exact hB.out.setCell (p := ⟨gO, 0, none⟩) (by simpa using hBO) _
   ·intro g cs t hg ht hb
    exact (hoth.out g cs t hg ht hb).setO hg 0 _
   ·exact blkAny2
   ·rw [List.length_append]
    exact ⟨ownsRow_setCell_new (own_cast hown2.out rfl (by rw [bk_snoc])) hne.out 0 _⟩
  ·rw [decide_eq_false g2, Bool.and_false, if_neg (by decide)]
   go_enter Tryz.func71, Tryz.ntmps71
   have k1 := b1.cell
   have f1 := b1.frozen
   have k2 := b2.cell
   have f2 := b2.frozen
   have k3 := b3.cell
   have f3 := b3.frozen
   go_wp2
   have hA : Below w.heap.size w (w.alloc (.cells #[.int .i64 t, .int .i64 y] 91)) := belowAny
   refine bodyPost_end (results_none rfl _ _ _) rfl ⟨rfl, hA.mono hBw, fun g cs t _ _ hb => hb.below hA, v, b3.below hA, hown.below hA⟩
 ·rw [decide_eq_false g1, Bool.false_and, if_neg (by decide)]
  go_enter Tryz.func71, Tryz.ntmps71
  have k1 := b1.cell
  have f1 := b1.frozen
  have k2 := b2.cell
  have f2 := b2.frozen
  have k3 := b3.cell
  have f3 := b3.frozen
  go_wp2
  have hA : Below w.heap.size w (w.alloc (.cells #[.int .i64 t, .int .i64 y] 91)) := belowAny
  refine bodyPost_end (results_none rfl _ _ _) rfl ⟨rfl, hA.mono hBw, fun g cs t _ _ hb => hb.below hA, v, b3.below hA, hown.below hA⟩
def sc1Rel (w : World) (s : SerT) (ps : Option Addr) (cs : Nat) (po : Option Addr) (co : Nat) (a b : Int) (gs ga gb : Nat) (a' : Act) (W : World) : Prop :=
 Below w.heap.size w W /\ Blk W gb #[.int .i64 b] 2 /\ Blk W (w.heap.size + 1) #[.int .i64 (mx a s.floor)] 2 /\ ∃ (k : Nat) (L : List (Int × Int × Int)) (v : Value), (∃ u : Nat -> Value, a' = { tmps := #[.pointer (some ⟨ga, 0, none⟩), .pointer (some ⟨gs, 0, none⟩), .pointer (some ⟨gb, 0, none⟩), .slice none 0 0, .int .i64 0, .pointer (some ⟨w.heap.size, 0, none⟩), .pointer (some ⟨w.heap.size + 1, 0, none⟩), .func (.func 71) #[] #[.pointer (some ⟨w.heap.size + 1, 0, none⟩), .pointer (some ⟨gb, 0, none⟩), .pointer (some ⟨w.heap.size, 0, none⟩)], u 8, u 9, u 10, u 11, u 12, u 13, u 14, u 15, u 16, u 17, u 18, u 19, u 20, u 21, u 22, .slice ps s.segs.length cs, .int .i64 (s.segs.length : Int), .int .i64 (k : Int), u 26, u 27, u 28, u 29, u 30, u 31, u 32, u 33, u 34, u 35, u 36, u 37, u 38, u 39, u 40, u 41, u 42, u 43, u 44, u 45, u 46, u 47, u 48, u 49, u 50, u 51, u 52, u 53, u 54, u 55, u 56, u 57, u 58, u 59, u 60, u 61, u 62, u 63, u 64, u 65, u 66, u 67], defers := [] }) /\
  Blk W w.heap.size #[v] 52 /\ OwnR W w.heap.size 63 3 v L.length (flatCells (L.map bkT)) /\ L = (s.segs.take k).flatMap (segBk (mx a s.floor) b) /\ k <= s.segs.length /\ L.length <= 256 * k
def sc2Rel (w : World) (s : SerT) (ps : Option Addr) (cs : Nat) (po : Option Addr) (co : Nat) (a b : Int) (gs ga gb : Nat) (k g gx cp : Nat) (p' q' : Option Addr) (cps vc : Nat) (cur : Array Value) (x : SegT) (L : List (Int × Int × Int)) (a' : Act) (W : World) : Prop :=
 Below w.heap.size w W /\ Blk W gb #[.int .i64 b] 2 /\ Blk W (w.heap.size + 1) #[.int .i64 (mx a s.floor)] 2 /\ Blk W gx #[.int .i64 x.K, .slice p' x.runs.length cps, .int .i64 x.A, .int .i64 x.R, .int .i64 x.n, .int .i64 x.d, .slice q' x.raw.length vc, .int .i64 x.E] 98 /\ Blk W g cur 91 /\ ∃ (m : Nat) (M : List (Int × Int × Int)) (v : Value), (∃ u : Nat -> Value, a' = { tmps := #[.pointer (some ⟨ga, 0, none⟩), .pointer (some ⟨gs, 0, none⟩), .pointer (some ⟨gb, 0, none⟩), .slice none 0 0, .int .i64 0, .pointer (some ⟨w.heap.size, 0, none⟩), .pointer (some ⟨w.heap.size + 1, 0, none⟩), .func (.func 71) #[] #[.pointer (some ⟨w.heap.size + 1, 0, none⟩), .pointer (some ⟨gb, 0, none⟩), .pointer (some ⟨w.heap.size, 0, none⟩)], u 8, .pointer (some ⟨gx, 0, none⟩), u 10, u 11, u 12, u 13, u 14, u 15, u 16, u 17, u 18, u 19, u 20, u 21, u 22, .slice ps s.segs.length cs, .int .i64 (s.segs.length : Int), .int .i64 (k : Int), u 26, u 27, u 28, u 29, u 30, u 31, u 32, u 33, .slice (some ⟨g, 0, none⟩) (ptsL x).length cp, .int .i64 ((ptsL x).length : Int), .int .i64 (m : Int), u 37, u 38, u 39, u 40, u 41, u 42, u 43, u 44, u 45, u 46, u 47, u 48, u 49, u 50, u 51, u 52, u 53, u 54, u 55, u 56, u 57, u 58, u 59, u 60, u 61, u 62, u 63, u 64, u 65, u 66, u 67], defers := [] }) /\
  Blk W w.heap.size #[v] 52 /\ OwnR W w.heap.size 63 3 v (L ++ M).length (flatCells ((L ++ M).map bkT)) /\ M = (((ptsL x).take m).filter (selB (mx a s.floor) b)).map (fun p => (p.1, p.2, x.E)) /\ m <= (ptsL x).length /\ M.length <= m
def sc3Rel (w : World) (s : SerT) (ps : Option Addr) (cs : Nat) (po : Option Addr) (co : Nat) (a b : Int) (gs ga gb : Nat) (L : List (Int × Int × Int)) (a' : Act) (W : World) : Prop :=
 Below w.heap.size w W /\ Blk W gb #[.int .i64 b] 2 /\ Blk W (w.heap.size + 1) #[.int .i64 (mx a s.floor)] 2 /\ ∃ (m : Nat) (M : List (Int × Int × Int)) (v : Value), (∃ u : Nat -> Value, a' = { tmps := #[.pointer (some ⟨ga, 0, none⟩), .pointer (some ⟨gs, 0, none⟩), .pointer (some ⟨gb, 0, none⟩), .slice none 0 0, .int .i64 0, .pointer (some ⟨w.heap.size, 0, none⟩), .pointer (some ⟨w.heap.size + 1, 0, none⟩), .func (.func 71) #[] #[.pointer (some ⟨w.heap.size + 1, 0, none⟩), .pointer (some ⟨gb, 0, none⟩), .pointer (some ⟨w.heap.size, 0, none⟩)], u 8, u 9, u 10, u 11, u 12, u 13, u 14, u 15, u 16, u 17, u 18, u 19, u 20, u 21, u 22, u 23, u 24, u 25, u 26, u 27, u 28, u 29, u 30, u 31, u 32, u 33, u 34, u 35, u 36, u 37, u 38, u 39, u 40, u 41, u 42, u 43, u 44, u 45, u 46, u 47, .slice po s.opn.length co, .int .i64 (s.opn.length : Int), .int .i64 (m : Int), u 51, u 52, u 53, u 54, u 55, u 56, u 57, u 58, u 59, u 60, u 61, u 62, u 63, u 64, u 65, u 66, u 67], defers := [] }) /\
  Blk W w.heap.size #[v] 52 /\ OwnR W w.heap.size 63 3 v (L ++ M).length (flatCells ((L ++ M).map bkT)) /\ M = ((s.opn.take m).filter (selB (mx a s.floor) b)).map (fun p => (p.1, p.2, 0)) /\ m <= s.opn.length /\ M.length <= m
theorem make_backs (n : Nat) (hn : n <= 100000) : ∃ C : Array Value, C.size = n * 3 /\ ∀ W, (Instr.makeSlice 52 (.int .i64 (n : Int)) (.int .i64 (n : Int))).run Tryz.prog W = .ok (.slice (some ⟨W.heap.size, 0, none⟩) n n) (W.alloc (.cells C 63)) := by
 obtain ⟨i, hi, hz0, hz1, hz2⟩ := info_parts Tryz.infoBack
 refine ⟨madeCells #[.int .i64 0, .int .i64 0, .int .i64 0] (n * 3), ?_, fun W => ?_⟩
 rotate_left
 ·have := run_make (P := Tryz.prog) W 52 63 i _ rfl hi hz0 .i64 .i64 (n : Int) (n : Int) (by omega) (by omega) (by rw [hz2]; omega) (by omega)
  simpa [hz1, Value.cells] using this
 ·simp [size_madeCells]
def scanE (s : SerT) (a b : Int) : Int := if toldL s a b = [] then 9 else 0
def BackPost (L : List (Int × Int × Int)) (er : Int) (w : World) (e : Ending) (w' : World) : Prop :=
 ∃ p k, e = .returned (.tuple #[.slice p L.length k, .int .i64 er]) /\ RunsIn w' p (L.map bkT) /\ Below w.heap.size w w'
theorem scan1_w (s : SerT) (ps : Option Addr) (cs : Nat) (po : Option Addr) (co : Nat) (a b : Int) (gs ga gb : Nat) (w : World) (hin : SerIn w s ps po) (hv : ∀ x, x ∈ s.segs -> segB x = true)
  (kS : Blk w gs #[.string s.name, .int .i64 s.eps, .int .i64 s.floor, .int .i64 s.last, .int .i64 s.scale, .slice ps s.segs.length cs, .slice po s.opn.length co] 25) (kA : Blk w ga #[.int .i64 a] 2) (kB : Blk w gb #[.int .i64 b] 2) :
  Calls Tryz.prog 70 #[.pointer (some ⟨ga, 0, none⟩), .pointer (some ⟨gs, 0, none⟩), .pointer (some ⟨gb, 0, none⟩)] w (BackPost (toldL s a b) (scanE s a b) w) := by
 have hfS := hin.fewS
 have hfO := hin.fewO
 have b1 := kA
 have b2 := kB
 have b3 := kS
 have y1 := b1.lt
 have y2 := b2.lt
 have y3 := b3.lt
 have hmax : ∀ ts t x y w, (Builtin.max_ ts t #[.int .i64 x, .int .i64 y]).run Tryz.prog w = .ok (.int .i64 (mx x y)) w := fun ts t x y w => by simp [Builtin.max_, Builtin.max2, mx]
 go_enter Tryz.func70, Tryz.ntmps70
 have hmf : ∀ (fn : Fn) (first cap : Array Value) (w : World), (Instr.makeFunc fn first cap).run Tryz.prog w = .ok (.func fn first cap) w := fun _ _ _ _ => rfl
 have k1 := b1.cell
 have f1 := b1.frozen
 have k2 := b2.cell
 have f2 := b2.frozen
 have k3 := b3.cell
 have f3 := b3.frozen
 go_upto_region 3 with (fail)
 clear k1 f1 k2 f2 k3 f3
 refine wp_facts (fun W' => Below w.heap.size w W' /\ Blk W' gb #[.int .i64 b] 2 /\ Blk W' gs #[.string s.name, .int .i64 s.eps, .int .i64 s.floor, .int .i64 s.last, .int .i64 s.scale, .slice ps s.segs.length cs, .slice po s.opn.length co] 25 /\ Blk W' w.heap.size #[.slice none 0 0] 52 /\ Blk W' (w.heap.size + 1) #[.int .i64 (mx a s.floor)] 2) ⟨by exact belowAny, by exact blkAny2, by exact blkAny2, by exact blkAny2, by exact blkAny2⟩ ?_
 clear b1 b2 b3
 rintro W1 ⟨hW, b1, b2, b3, b4⟩
 have z2 := hW.size
 have z3 := b1.lt
 have z4 := b2.lt
 have z5 := b3.lt
 have z6 := b4.lt
 have k1 := b1.cell
 have f1 := b1.frozen
 have k2 := b2.cell
 have f2 := b2.frozen
 have k3 := b3.cell
 have f3 := b3.frozen
 have k4 := b4.cell
 have f4 := b4.frozen
 clear hmax
 go_wp2
 refine wp_loop (sc1Rel w s ps cs po co a b gs ga gb) (fun a' _ => s.segs.length - (intAt (a'.tmps.getD 25 undef)).toNat) ?_ ?_
 ·unfold sc1Rel
  exact ⟨hW, b1, b4, 0, [], .slice none 0 0, frame_ex rfl, b3, OwnR.nil _ _ _ _, by simp, by omega, by simp⟩
 rintro a' W ⟨hW0, b1, b2, k, L, v, ⟨u, rfl⟩, b3, hown, hL, hk, hL6⟩
 have hz := hW0.size
 have zb1 := b1.lt
 have zb2 := b2.lt
 rcases Nat.lt_or_ge k s.segs.length with hlk | hge
 ·obtain ⟨x, tr⟩ : ∃ r, s.segs[k]? = some r := ⟨s.segs[k]'(by omega), List.getElem?_eq_getElem (by omega)⟩
  have hsx := hv x (List.mem_of_getElem? tr)
  have hin' := hin.below hW0
  obtain ⟨bs, os, p', q', cps, vc, rfl, hs, hvc, q0, q1, q2, q3, q4, q5, q6, q7⟩ := hin'.segs.one tr
  have cP := Lib.hid (fun W' (hW' : Below W.heap.size W W') => c_Points x p' q' cps vc W' (hs.below hW') hsx)
  unfold segA at cP
  have hln := length_pts hsx
  have hcn := cnt_pos (segB_runs hsx)
  have hp0 : 0 < (ptsL x).length := by omega
  have hp1 : (ptsL x).length <= 256 := by omega
  clear hln hcn
  have zc := cell_lt q0
  try simp only at zc
  replace hL := Lib.hid hL
  replace tr := Lib.hid tr
  have k1 := b1.cell
  have f1 := b1.frozen
  have k2 := b2.cell
  have f2 := b2.frozen
  have k3 := b3.cell
  have f3 := b3.frozen
  go_wp2_with fail
  refine (cP.out _ belowAny).mono ?_
  rintro e w21 ⟨v1, rfl, hv1, hb21⟩
  have z22 := hb21.size
  try simp at z22
  clear k1 f1 k2 f2 k3 f3
  have b1 : Blk w21 gb #[.int .i64 b] 2 := blkAny2
  have b2 : Blk w21 (w.heap.size + 1) #[.int .i64 (mx a s.floor)] 2 := blkAny2
  have b3 : Blk w21 w.heap.size #[v] 52 := blkAny2
  have b4 : Blk w21 W.heap.size #[.int .i64 x.K, .slice p' x.runs.length cps, .int .i64 x.A, .int .i64 x.R, .int .i64 x.n, .int .i64 x.d, .slice q' x.raw.length vc, .int .i64 x.E] 98 := blkAny2
  have hW : Below W.heap.size W w21 := belowAny
  have z23 := b1.lt
  have z24 := b2.lt
  have z25 := b3.lt
  have z26 := b4.lt
  have k1 := b1.cell
  have f1 := b1.frozen
  have k2 := b2.cell
  have f2 := b2.frozen
  have k3 := b3.cell
  have f3 := b3.frozen
  have k4 := b4.cell
  have f4 := b4.frozen
  obtain ⟨g, cp, cur, rfl, hgB, -, -, b5, -, htk⟩ := pts_is hv1 (by omega)
  try simp at hgB
  have hW1 := hW0.trans (hW.mono hz)
  have hown1 := hown.below hW
  have zg := b4.lt
  replace htk := Lib.hid htk
  clear hv1 hown cP hW q0 q1 q2 q3 q4 q5 q6 q7 k1 f1 k2 f2 k3 f3 k4 f4
  go_wp2
  refine wp_loop (sc2Rel w s (some ⟨bs, os, none⟩) cs po co a b gs ga gb k g W.heap.size cp p' q' cps vc cur x L) (fun a' _ => (ptsL x).length - (intAt (a'.tmps.getD 36 undef)).toNat) ?_ ?_
  ·unfold sc2Rel
   exact ⟨hW1, b1, b2, b4, b5, 0, [], v, frame_ex rfl, b3, by rw [List.append_nil]; exact hown1, by simp, by omega, by simp⟩
  rintro a' V ⟨hV0, b1, b2, b4, b5, m, M, v, ⟨u, rfl⟩, b3, hown, hM, hm, hMl⟩
  have hzv := hV0.size
  have zb1 := b1.lt
  have zb2 := b2.lt
  have zb4 := b4.lt
  have zb5 := b5.lt
  rcases Nat.lt_or_ge m (ptsL x).length with hlt | hge
  ·obtain ⟨⟨t, y⟩, tm⟩ : ∃ r, (ptsL x)[m]? = some r := ⟨(ptsL x)[m]'(by omega), List.getElem?_eq_getElem (by omega)⟩
   have hst := sel_step (selB (mx a s.floor) b) (fun p => (p.1, p.2, x.E)) tm
   rw [<- hM] at hst
   clear hM
   simp only at hst
   replace hst := Lib.hid hst
   replace tm := Lib.hid tm
   have k1 := b1.cell
   have f1 := b1.frozen
   have k2 := b2.cell
   have f2 := b2.frozen
   have k3 := b3.cell
   have f3 := b3.frozen
   have k4 := b4.cell
   have f4 := b4.frozen
   have k5 := b5.cell
   have f5 := b5.frozen
   clear k5 f5
   obtain ⟨b', o', e9, r1, r2⟩ := (pts_in b5 htk.out).at' m (t, y) tm.out
   obtain ⟨rfl, rfl⟩ : g = b' /\ 0 = o' := (by injection e9 with e9; injection e9 with e1 e2; exact ⟨e1, e2⟩)
   simp only [Nat.zero_add] at r1 r2
   try simp only at r1 r2
   go_upto_region 11 with (fail)
   clear k1 f1 k2 f2 k3 f3 k4 f4
   refine wp_facts (fun W' => Below V.heap.size V W' /\ Blk W' gb #[.int .i64 b] 2 /\ Blk W' (w.heap.size + 1) #[.int .i64 (mx a s.floor)] 2 /\ Blk W' w.heap.size #[v] 52 /\ Blk W' W.heap.size #[.int .i64 x.K, .slice p' x.runs.length cps, .int .i64 x.A, .int .i64 x.R, .int .i64 x.n, .int .i64 x.d, .slice q' x.raw.length vc, .int .i64 x.E] 98 /\ Blk W' g cur 91 /\ Blk W' V.heap.size #[.int .i64 t, .int .i64 y] 91) ⟨by exact belowAny, by exact blkAny2, by exact blkAny2, by exact blkAny2, by exact blkAny2, by exact blkAny2, by exact blkAny2⟩ ?_
   clear b1 b2 b3 b4 b5
   rintro W41 ⟨hW, b1, b2, b3, b4, b5, b6⟩
   have z42 := hW.size
   have z43 := b1.lt
   have z44 := b2.lt
   have z45 := b3.lt
   have z46 := b4.lt
   have z47 := b5.lt
   have z48 := b6.lt
   have k1 := b1.cell
   have f1 := b1.frozen
   have k2 := b2.cell
   have f2 := b2.frozen
   have k3 := b3.cell
   have f3 := b3.frozen
   have k4 := b4.cell
   have f4 := b4.frozen
   have k5 := b5.cell
   have f5 := b5.frozen
   have k6 := b6.cell
   have f6 := b6.frozen
   clear r1 r2
   have hown1 := hown.below hW
   have hV1 := hV0.trans (hW.mono hzv)
   clear hown
   go_wp2_with fail
   refine (c_put (w.heap.size + 1) gb w.heap.size w.heap.size (mx a s.floor) b t y x.E (L ++ M) v _ b2 b1 b3 hown1 (by omega) (by have := hV1.size; omega) (by simp only [List.length_append]; omega)).mono ?_
   rintro e w9 ⟨rfl, hB, hoth, v', d3, hown2⟩
   have d1 := hoth _ _ _ (by omega) (by decide) b1
   have d2 := hoth _ _ _ (by omega) (by decide) b2
   have d4 := hoth _ _ _ (by omega) (by decide) b4
   have d5 := hoth _ _ _ (by omega) (by decide) b5
   have hB9 := hV1.trans hB
   replace hown2 := Lib.hid hown2
   clear hoth b1 b2 b3 b4 b5 b6 hown1 hB k1 f1 k2 f2 k3 f3 k4 f4 k5 f5 k6 f6
   go_wp2
   rw [show (m : Int) + 1 = ((m + 1 : Nat) : Int) by omega]
   refine ⟨?_, by simp [intAt]; omega⟩
   cases hc : selB (mx a s.floor) b (t, y) with
   | false =>
    rw [hc] at hst
    have hP : putL (mx a s.floor) b t y x.E (L ++ M) = L ++ M := by unfold putL; rw [hc]; rfl
    rw [hP] at hown2
    exact ⟨hB9, d1, d2, d4, d5, m + 1, M, v', frame_ex rfl, d3, hown2.out, by rw [hst]; simp, by omega, by omega⟩
   | true =>
    rw [hc] at hst
    have hP : putL (mx a s.floor) b t y x.E (L ++ M) = L ++ (M ++ [(t, y, x.E)]) := by unfold putL; rw [hc, if_pos rfl, List.append_assoc]
    rw [hP] at hown2
    exact ⟨hB9, d1, d2, d4, d5, m + 1, M ++ [(t, y, x.E)], v', frame_ex rfl, d3, hown2.out, by rw [hst]; simp, by omega, by simp; omega⟩
  ·obtain rfl : m = (ptsL x).length := by omega
   have hx := Lib.hid (show L ++ M = (s.segs.take (k + 1)).flatMap (segBk (mx a s.floor) b) by rw [flat_step _ tr.out, <- hL.out, hM, List.take_length]; rfl)
   clear hM
   go_wp2
   rw [show (k : Int) + 1 = ((k + 1 : Nat) : Int) by omega]
   refine ⟨?_, by simp [intAt]; omega⟩
   unfold sc1Rel
   exact ⟨hV0, b1, b2, k + 1, L ++ M, v, frame_ex rfl, b3, hown, hx.out, by omega, by simp only [List.length_append]; omega⟩
 ·obtain rfl : k = s.segs.length := by omega
  rw [List.take_length] at hL
  replace hL := Lib.hid hL
  have bS := kS.below hW0
  have kS1 := bS.cell
  have zS := bS.lt
  go_wp2
  refine wp_loop (sc3Rel w s ps cs po co a b gs ga gb L) (fun a' _ => s.opn.length - (intAt (a'.tmps.getD 50 undef)).toNat) ?_ ?_
  ·unfold sc3Rel
   exact ⟨hW0, b1, b2, 0, [], v, frame_ex rfl, b3, by rw [List.append_nil]; exact hown, by simp, by omega, by simp⟩
  rintro a' V ⟨hV0, b1, b2, m, M, v, ⟨u, rfl⟩, b3, hown, hM, hm, hMl⟩
  have hzv := hV0.size
  have zb1 := b1.lt
  have zb2 := b2.lt
  rcases Nat.lt_or_ge m s.opn.length with hlt | hge
  ·obtain ⟨⟨t, y⟩, tm⟩ : ∃ r, s.opn[m]? = some r := ⟨s.opn[m]'(by omega), List.getElem?_eq_getElem (by omega)⟩
   obtain ⟨bo, oo, rfl, q0, q1⟩ := (hin.below hV0).opn.at' m _ tm
   simp only at q0 q1
   have zc := cell_lt q0
   try simp only at zc
   have hst := sel_step (selB (mx a s.floor) b) (fun p => (p.1, p.2, (0 : Int))) tm
   rw [<- hM] at hst
   clear hM tm
   simp only at hst
   replace hst := Lib.hid hst
   have k1 := b1.cell
   have f1 := b1.frozen
   have k2 := b2.cell
   have f2 := b2.frozen
   have k3 := b3.cell
   have f3 := b3.frozen
   go_upto_region 17 with (fail)
   clear k1 f1 k2 f2 k3 f3
   refine wp_facts (fun W' => Below V.heap.size V W' /\ Blk W' gb #[.int .i64 b] 2 /\ Blk W' (w.heap.size + 1) #[.int .i64 (mx a s.floor)] 2 /\ Blk W' w.heap.size #[v] 52 /\ Blk W' V.heap.size #[.int .i64 t, .int .i64 y] 91) ⟨by exact belowAny, by exact blkAny2, by exact blkAny2, by exact blkAny2, by exact blkAny2⟩ ?_
   clear b1 b2 b3
   rintro W41 ⟨hW, b1, b2, b3, b4⟩
   have z42 := hW.size
   have z43 := b1.lt
   have z44 := b2.lt
   have z45 := b3.lt
   have z46 := b4.lt
   have k1 := b1.cell
   have f1 := b1.frozen
   have k2 := b2.cell
   have f2 := b2.frozen
   have k3 := b3.cell
   have f3 := b3.frozen
   have k4 := b4.cell
   have f4 := b4.frozen
   clear q0 q1
   have hown1 := hown.below hW
   have hV1 := hV0.trans (hW.mono hzv)
   clear hown
   go_wp2_with fail
   refine (c_put (w.heap.size + 1) gb w.heap.size w.heap.size (mx a s.floor) b t y 0 (L ++ M) v _ b2 b1 b3 hown1 (by omega) (by have := hV1.size; omega) (by simp only [List.length_append]; omega)).mono ?_
   rintro e w9 ⟨rfl, hB, hoth, v', d3, hown2⟩
   have d1 := hoth _ _ _ (by omega) (by decide) b1
   have d2 := hoth _ _ _ (by omega) (by decide) b2
   have hB9 := hV1.trans hB
   replace hown2 := Lib.hid hown2
   clear hoth b1 b2 b3 b4 hown1 hB k1 f1 k2 f2 k3 f3 k4 f4
   go_wp2
   rw [show (m : Int) + 1 = ((m + 1 : Nat) : Int) by omega]
   refine ⟨?_, by simp [intAt]; omega⟩
   cases hc : selB (mx a s.floor) b (t, y) with
   | false =>
    rw [hc] at hst
    have hP : putL (mx a s.floor) b t y 0 (L ++ M) = L ++ M := by unfold putL; rw [hc]; rfl
    rw [hP] at hown2
    exact ⟨hB9, d1, d2, m + 1, M, v', frame_ex rfl, d3, hown2.out, by rw [hst]; simp, by omega, by omega⟩
   | true =>
    rw [hc] at hst
    have hP : putL (mx a s.floor) b t y 0 (L ++ M) = L ++ (M ++ [(t, y, 0)]) := by unfold putL; rw [hc, if_pos rfl, List.append_assoc]
    rw [hP] at hown2
    exact ⟨hB9, d1, d2, m + 1, M ++ [(t, y, 0)], v', frame_ex rfl, d3, hown2.out, by rw [hst]; simp, by omega, by simp; omega⟩
  ·obtain rfl : m = s.opn.length := by omega
   rw [List.take_length] at hM
   have hT := Lib.hid (show toldL s a b = L ++ M by rw [hL.out, hM]; rfl)
   clear hM hL
   obtain ⟨p, cp, rfl, -⟩ := hown.form
   have k3 := b3.cell
   have hrn := hown.runs
   have hfew : (L ++ M).length <= 100000 := by simp only [List.length_append]; omega
   have hlen : (toldL s a b).length = (L ++ M).length := by rw [hT.out]
   replace hlen := Lib.hid hlen
   clear hL6 hMl
   obtain ⟨N, hN⟩ : ∃ N, L ++ M = N := ⟨_, rfl⟩
   rw [hN] at hown hrn hfew hT k3 b3 hlen
   clear hN
   by_cases hne : N.length = 0
   ·have hnil := Lib.hid (List.length_eq_zero_iff.1 hne)
    rw [hne] at k3 b3
    clear hne
    go_wp2
    refine bodyPost_ret (v := .tuple #[.slice none 0 0, .int .i64 9]) (by simp [results, Tryz.results70, go_sem]) rfl ⟨none, 0, ?_, ?_, hV0⟩
    ·unfold scanE
     rw [if_pos (by rw [hT.out, hnil.out]), hT.out, hnil.out]
     rfl
    ·(rw [hT.out, hnil.out]; exact ⟨fun i r hr => by simp at hr⟩)
   ·obtain ⟨r0, hr0⟩ : ∃ r, (N.map bkT)[0]? = some r := ⟨_, List.getElem?_eq_getElem (by rw [List.length_map]; omega)⟩
    obtain ⟨bp, op, rfl, -⟩ := hrn.at' 0 r0 hr0
    clear hr0
    have hfl := Lib.hid hrn.flat
    have hn0 : ((N.length : Int) == 0) = false := by simpa using hne
    obtain ⟨C, hC, hmk⟩ := make_backs N.length hfew
    replace hC := Lib.hid hC
    have hcr := Lib.hid hrn
    have hpos : 0 < N.length := by omega
    have hzz := b3.lt
    clear hne hown hrn
    go_upto_region 22 with (fail)
    refine wp_facts (fun W' => Below V.heap.size V W' /\ Blk W' w.heap.size #[.slice (some ⟨bp, op, none⟩) N.length cp] 52 /\ Blk W' V.heap.size C 63) ⟨belowAny, by exact blkAny2, by exact blkAny2⟩ ?_
    rintro W9 ⟨hW9, c3, c4⟩
    have kk3 := c3.cell
    have zz9 := hW9.size
    have hr9 := hcr.out.below hW9
    have hV9 := hV0.trans (hW9.mono hzv)
    clear k3 b3 b1 b2 hmk hW9
    have hcp := run_copyK Tryz.prog W9 52 52 3 63 3 V.heap.size N.length N.length ⟨bp, op, none⟩ N.length cp C 63 (flatCells (N.map bkT)) (by kernel_rfl) (by kernel_rfl) c4 (by rw [length_flatCells, List.length_map, show Nat.min N.length N.length = N.length from Nat.min_self _]) hr9.flat (by rw [length_flatCells, List.length_map, hC.out]) (fun v hv => by obtain ⟨x, rfl⟩ := flat_mem _ v hv; rfl)
    rw [show Nat.min N.length N.length = N.length from Nat.min_self _] at hcp
    go_upto_region 23 with (fail)
    clear hcp
    refine wp_facts (fun W' => Below w.heap.size w W' /\ Blk W' V.heap.size (flatCells (N.map bkT)).toArray 63) ⟨below_setRow hV9 hzv _, setRow_heap W9 _ _ _ _ (0, 0) c4⟩ ?_
    clear hV9 c3 c4 hr9 kk3
    rintro w99 ⟨hBB, e4⟩
    replace hBB := Lib.hid hBB
    have hRR := Lib.hid (show RunsIn w99 (some ⟨V.heap.size, 0, none⟩) (N.map bkT) from cloneRun_in (k := (flatCells (N.map bkT)).length) e4 (by simp))
    clear e4
    go_wp2
    refine bodyPost_ret (v := .tuple #[.slice (some ⟨V.heap.size, 0, none⟩) N.length N.length, .int .i64 0]) (by simp [results, Tryz.results70, go_sem]) rfl ⟨some ⟨V.heap.size, 0, none⟩, N.length, ?_, ?_, hBB.out⟩
    ·unfold scanE
     rw [if_neg (fun e => by rw [hT.out] at e; rw [e] at hpos; simp at hpos), hlen.out]
    ·rw [hT.out]; exact hRR.out
theorem btold_bad (nm : ByteArray) (ep fl la sc : Int) (ps po : Option Addr) (ns cs no co : Nat) (gs ga gb : Nat) (w : World)
  (c1 : ∀ W, Below w.heap.size w W -> Calls Tryz.prog 14 #[.agg #[.string nm, ep, fl, la, sc, .slice ps ns cs, .slice po no co]] W fun e w' => e = .returned (.int .i64 340) /\ Below W.heap.size W w') :
  Calls Tryz.prog 69 #[.agg #[.string nm, ep, fl, la, sc, .slice ps ns cs, .slice po no co], .func (.func 70) #[] #[.pointer (some ⟨ga, 0, none⟩), .pointer (some ⟨gs, 0, none⟩), .pointer (some ⟨gb, 0, none⟩)]] w (BackPost [] 340 w) := by
 have H_c1 := Lib.hid c1
 clear c1
 go_enter Tryz.func69, Tryz.ntmps69
 have c1 := H_c1.out
 go_wp2_with fail
 refine (c1 _ belowAny).mono ?_
 rintro e w1 ⟨rfl, hb1⟩
 clear c1
 have z2 := hb1.size
 try simp at z2
 have b1 : Blk w1 w.heap.size #[.string nm, ep, fl, la, sc, .slice ps ns cs, .slice po no co] 25 := blkAny2
 have hW : Below w.heap.size w w1 := belowAny
 have z3 := b1.lt
 clear hb1
 have k1 := b1.cell
 have f1 := b1.frozen
 go_wp2
 refine bodyPost_ret (v := .tuple #[.slice none 0 0, .int .i64 340]) (by simp [results, Tryz.results69, go_sem]) rfl ⟨none, 0, rfl, ⟨fun i r hr => by simp at hr⟩, belowAny⟩
theorem btold_ok (nm : ByteArray) (ep fl la sc : Int) (ps po : Option Addr) (ns cs no co : Nat) (gs ga gb : Nat) (L : List (Int × Int × Int)) (er : Int) (w : World)
  (c1 : ∀ W, Below w.heap.size w W -> Calls Tryz.prog 14 #[.agg #[.string nm, ep, fl, la, sc, .slice ps ns cs, .slice po no co]] W fun e w' => e = .returned (.int .i64 0) /\ Below W.heap.size W w')
  (c2 : ∀ W, Below w.heap.size w W -> Calls Tryz.prog 70 #[.pointer (some ⟨ga, 0, none⟩), .pointer (some ⟨gs, 0, none⟩), .pointer (some ⟨gb, 0, none⟩)] W (BackPost L er W)) :
  Calls Tryz.prog 69 #[.agg #[.string nm, ep, fl, la, sc, .slice ps ns cs, .slice po no co], .func (.func 70) #[] #[.pointer (some ⟨ga, 0, none⟩), .pointer (some ⟨gs, 0, none⟩), .pointer (some ⟨gb, 0, none⟩)]] w (BackPost L er w) := by
 have H_c1 := Lib.hid c1
 clear c1
 have H_c2 := Lib.hid c2
 clear c2
 go_enter Tryz.func69, Tryz.ntmps69
 have c1 := H_c1.out
 go_wp2_with fail
 refine (c1 _ belowAny).mono ?_
 rintro e w1 ⟨rfl, hb1⟩
 clear c1
 have z2 := hb1.size
 try simp at z2
 have b1 : Blk w1 w.heap.size #[.string nm, ep, fl, la, sc, .slice ps ns cs, .slice po no co] 25 := blkAny2
 have hW : Below w.heap.size w w1 := belowAny
 have z3 := b1.lt
 clear hb1
 have k1 := b1.cell
 have f1 := b1.frozen
 have c2 := H_c2.out
 go_wp2_with fail
 refine (c2 _ belowAny).mono ?_
 rintro e w4 ⟨p, k, rfl, hR, hb4⟩
 clear c2
 have z5 := hb4.size
 try simp at z5
 clear k1 f1
 have b1 : Blk w4 w.heap.size #[.string nm, ep, fl, la, sc, .slice ps ns cs, .slice po no co] 25 := blkAny2
 have hW : Below w.heap.size w w4 := belowAny
 have z6 := b1.lt
 have k1 := b1.cell
 have f1 := b1.frozen
 replace hR := Lib.hid hR
 go_wp2
 refine bodyPost_ret (v := .tuple #[.slice p L.length k, er]) (by simp [results, Tryz.results69, go_sem]) rfl ⟨p, k, rfl, hR.out, belowAny⟩
theorem scan_w (nm : ByteArray) (ep fl la sc : Int) (ps po : Option Addr) (ns cs no co : Nat) (a b : Int) (L : List (Int × Int × Int)) (er : Int) (w : World)
  (c1 : ∀ W, Below w.heap.size w W -> Blk W w.heap.size #[.string nm, ep, fl, la, sc, .slice ps ns cs, .slice po no co] 25 -> Blk W (w.heap.size + 1) #[a] 2 -> Blk W (w.heap.size + 1 + 1) #[b] 2 -> Calls Tryz.prog 69 #[.agg #[.string nm, ep, fl, la, sc, .slice ps ns cs, .slice po no co], .func (.func 70) #[] #[.pointer (some ⟨w.heap.size + 1, 0, none⟩), .pointer (some ⟨w.heap.size, 0, none⟩), .pointer (some ⟨w.heap.size + 1 + 1, 0, none⟩)]] W (BackPost L er W)) :
  Calls Tryz.prog 26 #[.agg #[.string nm, ep, fl, la, sc, .slice ps ns cs, .slice po no co], a, b] w (BackPost L er w) := by
 have H_c1 := Lib.hid c1
 clear c1
 go_enter Tryz.func26, Tryz.ntmps26
 have hmf : ∀ (fn : Fn) (first cap : Array Value) (w : World), (Instr.makeFunc fn first cap).run Tryz.prog w = .ok (.func fn first cap) w := fun _ _ _ _ => rfl
 go_upto_region 1 with (fail)
 refine wp_facts (fun W' => Below w.heap.size w W' /\ Blk W' w.heap.size #[.string nm, ep, fl, la, sc, .slice ps ns cs, .slice po no co] 25 /\ Blk W' (w.heap.size + 1) #[a] 2 /\ Blk W' (w.heap.size + 1 + 1) #[b] 2) ⟨by exact belowAny, by exact blkAny2, by exact blkAny2, by exact blkAny2⟩ ?_
 rintro W1 ⟨hW, b1, b2, b3⟩
 have z2 := hW.size
 have z3 := b1.lt
 have z4 := b2.lt
 have z5 := b3.lt
 have k1 := b1.cell
 have f1 := b1.frozen
 have k2 := b2.cell
 have f2 := b2.frozen
 have k3 := b3.cell
 have f3 := b3.frozen
 have c1 := H_c1.out
 go_wp2_with fail
 refine (c1 W1 hW b1 b2 b3).mono ?_
 rintro e w6 ⟨p, k, rfl, hR, hb6⟩
 clear c1
 have z7 := hb6.size
 try simp at z7
 clear k1 f1 k2 f2 k3 f3
 have b1 : Blk w6 w.heap.size #[.string nm, ep, fl, la, sc, .slice ps ns cs, .slice po no co] 25 := blkAny2
 have b2 : Blk w6 (w.heap.size + 1) #[a] 2 := blkAny2
 have b3 : Blk w6 (w.heap.size + 1 + 1) #[b] 2 := blkAny2
 have hW : Below w.heap.size w w6 := belowAny
 have z8 := b1.lt
 have z9 := b2.lt
 have z10 := b3.lt
 have k1 := b1.cell
 have f1 := b1.frozen
 have k2 := b2.cell
 have f2 := b2.frozen
 have k3 := b3.cell
 have f3 := b3.frozen
 replace hR := Lib.hid hR
 go_wp2
 refine bodyPost_ret (v := .tuple #[.slice p L.length k, er]) (by simp [results, Tryz.results26, go_sem]) rfl ⟨p, k, rfl, hR.out, belowAny⟩
def scanL (s : SerT) (a b : Int) : List (Int × Int × Int) := if checkB s then toldL s a b else []
theorem c_anScan (s : SerT) (ps po : Option Addr) (cs co : Nat) (a b : Int) (w : World) (hin : SerIn w s ps po) :
  Calls Tryz.prog 26 #[.agg (serA s ps cs po co), a, b] w (BackPost (scanL s a b) (wholeE s a b) w) := by
 unfold serA
 refine scan_w _ _ _ _ _ _ _ _ _ _ _ a b _ _ w fun W hW k1 k2 k3 => ?_
 have hin' := hin.below hW
 have ck := c_srCheck s ps po cs co
 unfold serA checkE at ck
 unfold wholeE scanL
 cases hc : checkB s with
 | false =>
  rw [hc] at ck
  exact btold_bad s.name s.eps s.floor s.last s.scale ps po s.segs.length cs s.opn.length co _ _ _ W (fun W' hW' => ck W' (hin'.below hW'))
 | true =>
  rw [hc] at ck
  simp only [if_true]
  exact btold_ok s.name s.eps s.floor s.last s.scale ps po s.segs.length cs s.opn.length co _ _ _ _ _ W (fun W' hW' => ck W' (hin'.below hW')) fun W' hW' => scan1_w s ps cs po co a b _ _ _ W' (hin'.below hW') (chk_segs hc) (k1.below hW') (k2.below hW') (k3.below hW')
attribute [local simp] Oper.looksAt Op.operands Call.operands envOf Det GDet
def eqBackRel (w : World) (p : Option Addr) (cap : Nat) (p' : Option Addr) (cap' : Nat) (A B : List RunT) (a' : Act) (W : World) : Prop :=
 Below w.heap.size w W /\ ∃ (i : Nat), (∃ u : Nat -> Value, a' = { tmps := #[.slice p A.length cap, .slice p' A.length cap', u 2, u 3, .bool false, u 5, u 6, u 7, u 8, u 9, u 10, u 11, .int .i64 (A.length : Int), .int .i64 (i : Int), u 14, u 15, u 16, u 17, u 18, u 19, u 20, u 21, u 22, u 23, u 24, u 25], defers := [] }) /\ i <= A.length /\ ∀ k, k < i -> A[k]? = B[k]?
theorem eqBack_w (p : Option Addr) (cap : Nat) (p' : Option Addr) (cap' : Nat) (A B : List RunT) (w : World) (hl : A.length = B.length) (hlen : A.length <= 1000000) (hA0 : RunsIn w p A) (hB0 : RunsIn w p' B) :
  Calls Tryz.prog 27 #[.slice p A.length cap, .slice p' A.length cap'] w fun e w' => e = .returned (.bool (decide (A = B))) /\ Below w.heap.size w w' := by
 go_enter Tryz.func27, Tryz.ntmps27
 replace hl := Lib.hid hl
 go_wp2
 refine wp_loop (eqBackRel w p cap p' cap' A B) (fun a' _ => A.length - (intAt (a'.tmps.getD 13 undef)).toNat) ?_ ?_
 ·unfold eqBackRel
  exact ⟨Below.refl _ _, 0, frame_ex rfl, by omega, fun k hk => by omega⟩
 ·rintro a' W ⟨hW0, i, ⟨u, rfl⟩, hi', hall⟩
  have hz := hW0.size
  replace hall := Lib.hid hall
  rcases Nat.lt_or_ge i A.length with hlt | hge
  ·obtain ⟨r, tr⟩ : ∃ r, A[i]? = some r := ⟨A[i]'(by omega), List.getElem?_eq_getElem (by omega)⟩
   obtain ⟨q, tq⟩ : ∃ q, B[i]? = some q := ⟨B[i]'(by have := hl.out; omega), List.getElem?_eq_getElem (by have := hl.out; omega)⟩
   obtain ⟨b, o, rfl, -⟩ := hA0.at' i r tr
   obtain ⟨b', o', rfl, -⟩ := hB0.at' i q tq
   have hA : RunsP W b o A := ⟨hA0.below hW0⟩
   have hB : RunsP W b' o' B := ⟨hB0.below hW0⟩
   replace tr := Lib.hid tr
   replace tq := Lib.hid tq
   have l1 := hlt
   have l2 : i < B.length := by have := hl.out; omega
   go_upto_region 6 with (fail)
   refine wp_facts (fun W' => Below W.heap.size W W' /\ RunsP W' b o A /\ RunsP W' b' o' B) ⟨by exact belowAny, by exact hA.below belowAny, by exact hB.below belowAny⟩ ?_
   rintro W1 ⟨hW, b1, b2⟩
   have z2 := hW.size
   refine wp_region_ndQ 9 26 [] (fun W' => Rex [] W1 W' /\ RunsP W' b o A /\ RunsP W' b' o' B) mixed (by kernel_rfl) rfl ⟨(Rex.refl _ _).drew, b1.drew, b2.drew⟩ (fun w w' ⟨h0, h1, h2⟩ hr => ⟨h0.trans hr, h1.rex hr (by simp <;> omega), h2.rex hr (by simp <;> omega)⟩) rfl ?_
   iterate 9
    apply nd_det (hg := rfl) (hal := rfl)
    ·intro a W' hC hE
     obtain ⟨_, k1, k2⟩ := hC
     obtain ⟨q0, q1, q2⟩ := k1.cellAt tr.out; obtain ⟨q3, q4, q5⟩ := k2.cellAt tq.out
     first
      | (simp at hE; simp [go_sem, Act.eval, IntWalk.i64_left, hE, k1, k2, q0, q1, q2, q3, q4, q5, l1, l2, ite_eq3]; try rfl)
      | (clear hE; simp [go_sem, Act.eval, IntWalk.i64_left, k1, k2, q0, q1, q2, q3, q4, q5, l1, l2, ite_eq3]; try rfl)
   rintro W3 ⟨hR, d1, d2⟩
   simp only [ndFinR, Det, forall_eq]
   intros
   repeat (rename GDet _ _ _ _ => hgd; clear hgd)
   simp only [Act.put, List.setIfInBounds_toArray, List.set_cons_zero, List.set_cons_succ]
   refine wpList_nil ?_
   replace hW := hW.trans (hR.of_priv hW.size)
   clear hR
   try clear b1 b2
   have b1 := d1
   clear d1
   have b2 := d2
   clear d2
   by_cases hrq : r = q
   ·have hall' := Lib.hid (show ∀ k, k < i + 1 -> A[k]? = B[k]? from fun k hk => by
     rcases Nat.lt_or_ge k i with h | h
     ·exact hall.out k h
     ·obtain rfl : k = i := by omega
      rw [tr.out, tq.out, hrq])
    rw [show (!decide (r.f = q.f) || !decide (r.s = q.s) || !decide (r.c = q.c)) = false by subst hrq; simp]
    clear hrq
    go_wp2
    rw [show (i : Int) + 1 = ((i + 1 : Nat) : Int) by omega]
    refine ⟨?_, by simp [intAt]; omega⟩
    unfold eqBackRel
    exact ⟨hW0.trans (hW.mono hz), i + 1, frame_ex rfl, by omega, hall'.out⟩
   ·have hne := Lib.hid (show decide (A = B) = false by
     rw [decide_eq_false_iff_not]
     rintro rfl
     rw [tr.out] at tq
     exact hrq (Option.some.inj tq.out))
    rw [show (!decide (r.f = q.f) || !decide (r.s = q.s) || !decide (r.c = q.c)) = true by
     obtain ⟨r1, r2, r3⟩ := r
     obtain ⟨q1, q2, q3⟩ := q
     simp at hrq
     simp
     by_cases h1 : r1 = q1 <;> by_cases h2 : r2 = q2 <;> simp [h1, h2] at hrq ⊢
     exact hrq]
    clear hrq
    go_wp2
    go_ret
    exact ⟨by rw [hne.out]; rfl, hW0.trans (hW.mono hz)⟩
  ·obtain rfl : i = A.length := by omega
   have heq := Lib.hid (show decide (A = B) = true by
    rw [decide_eq_true_eq]
    apply List.ext_getElem?
    intro k
    rcases Nat.lt_or_ge k A.length with h | h
    ·exact hall.out k h
    ·rw [List.getElem?_eq_none h, List.getElem?_eq_none (by have := hl.out; omega)])
   go_wp2
   go_ret
   exact ⟨by rw [heq.out]; rfl, hW0⟩
theorem eqBack_len (p : Option Addr) (n cap : Nat) (p' : Option Addr) (m cap' : Nat) (w : World) (hl : ¬ n = m) :
  Calls Tryz.prog 27 #[.slice p n cap, .slice p' m cap'] w fun e w' => e = .returned (.bool false) /\ Below w.heap.size w w' := by
 go_enter Tryz.func27, Tryz.ntmps27
 go_wp2
 go_ret
 exact ⟨rfl, Below.refl _ _⟩
theorem c_eqBack (p : Option Addr) (cap : Nat) (p' : Option Addr) (cap' : Nat) (A B : List RunT) (w : World) (hlen : A.length <= 1000000) (hA0 : RunsIn w p A) (hB0 : RunsIn w p' B) :
  Calls Tryz.prog 27 #[.slice p A.length cap, .slice p' B.length cap'] w fun e w' => e = .returned (.bool (decide (A = B))) /\ Below w.heap.size w w' := by
 by_cases h : A.length = B.length
 ·rw [<- h]; exact eqBack_w p cap p' cap' A B w h hlen hA0 hB0
 ·rw [show decide (A = B) = false by rw [decide_eq_false_iff_not]; rintro rfl; exact h rfl]
  exact eqBack_len p _ cap p' _ cap' w h
end Go.Proofs.YtidfcoooccblaaaGreat
namespace Go.Proofs.YtidfcoooccblaaaGreat
open Go.RowKit

end Go.Proofs.YtidfcoooccblaaaGreat
