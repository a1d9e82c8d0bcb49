/- Parts of the proof that follows: Append to a row of one's own: the row stays in its block or is in a new one. No condition. | Reference 25: Bounds. No condition but that they are few. | Reference 25: Back: what is told at each kept time. No condition but that the segments may be. | The laws of chapter 25: AnswerTells' walks. No condition. | Of one time a series tells one reading at most: its times rise. No condition. | Reference 25: Sheet. No condition but that there is one at least, that they are few and in their bounds. | Reference 25: Mixed, Mean, Sum walked. No condition but bounds. -/
import Derived.Test.YtidfcoooccblaaaGreatTells16
set_option maxRecDepth 100000
set_option maxHeartbeats 8000000
set_option linter.unusedSimpArgs false
set_option linter.unusedVariables false
namespace Go.Proofs.YtidfcoooccblaaaGreat
open Go.RowKit
section
variable {P : Program} {w : World}
theorem run_append_own2 (base : Nat) (t ty e : TypeId) (i : TypeInfo) (z : Value) (size bytes : Nat) (ht : P.underlying t = some (.slice e)) (hi : P.info? e = some i) (hz : i.zero = some z)
  (hsize : i.size = size) (hby : i.bytes = bytes) (hzs : z.cells.size = size) (hsz : 0 < size)
  (v : Value) (n : Nat) (xs : List Value) (hown : w.ownsRow base e size v n xs)
  (a : Addr) (m c : Nat) (news : List Value) (hl : news.length = m * size) (hnews : ∀ j u, news[j]? = some u -> w.cell? (a.add j) = some u) (h1 : ∀ u ∈ news, u.oneCell' = true)
  (h63 : n + m <= maxLen) (hbytes : (n + m) * bytes <= 140737488355328) (hbase : base <= w.heap.size) :
  ∃ v' w', (Builtin.append_ #[t, t] ty #[v, .slice (some a) m c]).run P w = .ok v' w' /\ w'.ownsRow base e size v' (n + m) (xs ++ news) /\ w.grownBy w' v.ownBlock /\
   (v' = .slice none 0 0 ↔ v = .slice none 0 0 /\ m = 0) /\ (v'.ownBlock = v.ownBlock ∨ v'.ownBlock = some w.heap.size) := by
 obtain ⟨v', w', hr, h2, h3, h4⟩ := run_append_own (P := P) w base t ty e i z size bytes ht hi hz hsize hby hzs hsz v n xs hown a m c news hl hnews h1 h63 hbytes hbase
 refine ⟨v', w', hr, h2, h3, h4, ?_⟩
 subst hsize
 subst hby
 have hsmall : n + m <= 9223372036854775807 := by simp only [maxLen] at h63; omega
 rcases hown.2 with ⟨rfl, rfl⟩ | ⟨g, cap, cur, rfl, hbg, hg, hnc, hcm, hcs, htake⟩
 ·by_cases hm : m = 0
  ·left
   rw [h4.2 ⟨rfl, hm⟩]
  ·have hr2 := run_append_nil (P := P) w t ty e i z ht hi hz a m c news hl hnews (by omega) (by omega) (by have hb := hbytes; simp only [Nat.zero_add] at hb; omega)
   rw [hr2] at hr
   injection hr with hr _
   subst hr
   right; rfl
 ·by_cases hroom : n + m <= cap
  ·have hfit : n * i.size + news.length <= cur.size := by rw [hl, hcs, <- Nat.add_mul]; exact Nat.mul_le_mul_right _ hroom
   have hr2 := run_append_room (P := P) w t ty e i ht hi g n cap cur hg a m c news hl hnews h1 hroom hfit
   rw [hr2] at hr
   injection hr with hr _
   subst hr
   left; rfl
  ·have holds : ∀ j u, xs[j]? = some u -> w.cell? ((⟨g, 0, none⟩ : Addr).add j) = some u := hown.cells (g := g) rfl
   have hr2 := run_append_grow (P := P) w t ty e i z ht hi hz ⟨g, 0, none⟩ n cap xs hown.1 holds a m c news hl hnews (by omega) (by omega) (growslice_fits (by omega) hbytes)
   rw [hr2] at hr
   injection hr with hr _
   subst hr
   right; rfl
theorem wpList_append_own2 {ops : Array Oper} {rest : List Oper} {o : Oper} {a : Act} {Q : Exit -> Act -> World -> Prop} (hgd : o.guard = none) (s x : Operand) (t : TypeId)
  (ho : o.op = .call { callee := .builtin .append, args := #[s, x], argTypes := #[t, t] })
  (base : Nat) (e : TypeId) (i : TypeInfo) (z : Value) (size bytes : Nat) (ht : P.underlying t = some (.slice e)) (hi : P.info? e = some i) (hz : i.zero = some z)
  (hsize : i.size = size) (hby : i.bytes = bytes) (hzs : z.cells.size = size) (hsz : 0 < size)
  (v : Value) (n : Nat) (xs : List Value) (hs : a.eval s = v) (hown : w.ownsRow base e size v n xs)
  (ad : Addr) (m c : Nat) (news : List Value) (hx : a.eval x = .slice (some ad) m c) (hl : news.length = m * size) (hnews : ∀ j u, news[j]? = some u -> w.cell? (ad.add j) = some u) (h1 : ∀ u ∈ news, u.oneCell' = true)
  (h63 : n + m <= maxLen) (hbytes : (n + m) * bytes <= 140737488355328) (hbase : base <= w.heap.size)
  (h : ∀ v' w', w'.ownsRow base e size v' (n + m) (xs ++ news) -> w.grownBy w' v.ownBlock -> (v'.ownBlock = v.ownBlock ∨ v'.ownBlock = some w.heap.size) -> wpList P ops Q rest (a.put o.dst v') w') : wpList P ops Q (o :: rest) a w := by
 refine wpList_plain hgd fun K hK => ?_
 obtain ⟨v', w', hr, h2, h3, _, h4⟩ := run_append_own2 (P := P) (w := w) base t o.type e i z size bytes ht hi hz hsize hby hzs hsz v n xs hown ad m c news hl hnews h1 h63 hbytes hbase
 unfold Oper.wp
 simp [execOp, ho, resolve, invoke, builtin, hs, hx, hr, Result.andThen]
 exact hK _ _ (h v' w' h2 h3 h4)
end
def OneV (B : Nat) (d : Int) : Spec := fun v w => ∃ g, v = .slice (some ⟨g, 0, none⟩) 1 1 /\ B <= g /\ Blk w g #[d] 2
theorem OneV.closed (B : Nat) (d : Int) : Closed [] (OneV B d) := fun _ _ _ hr ⟨g, e1, h1, h⟩ => ⟨g, e1, h1, h.rex hr (by simp)⟩
def Apart2 (v1 v2 : Value) : Prop := ∀ g, v1.ownBlock = some g -> v2.ownBlock = some g -> False
theorem Apart2.symm {v1 v2 : Value} (h : Apart2 v1 v2) : Apart2 v2 v1 := fun g a b => h g b a
theorem grown_below {B : Nat} {w0 w w' : World} {r : Option Nat} (h : Below B w0 w) (hB : B <= w.heap.size) (hg : w.grownBy w' r) (hr : ∀ g, r = some g -> B <= g) : Below B w0 w' :=
 h.trans ⟨hg.os, hg.tape, hg.output, hg.size, fun k hk => hg.block k (by omega) fun e => by have := hr k e.symm; omega⟩
def loB (x : RunT) : Int := x.s - x.c
def hiB (x : RunT) : Int := x.s + x.c
def boRel (w : World) (p : Option Addr) (cap : Nat) (l : List RunT) (a' : Act) (W : World) : Prop :=
 Below w.heap.size w W /\ ∃ (i : Nat) (v1 v2 : Value), (∃ u : Nat -> Value, a' = { tmps := #[.slice p l.length cap, u 1, .slice none 0 0, .slice none 0 0, v1, v2, .int .i64 (i : Int), u 7, u 8, u 9, u 10, u 11, u 12, u 13, u 14, u 15, u 16, u 17, u 18, u 19, u 20, u 21, u 22, u 23, u 24, u 25, u 26, u 27, u 28, u 29, u 30, u 31, u 32, u 33, u 34, u 35, u 36, u 37, u 38, u 39, u 40, u 41, u 42], defers := [] }) /\ i <= l.length /\
  OwnR W w.heap.size 2 1 v1 i (((l.take i).map loB).map (Value.int .i64)) /\ OwnR W w.heap.size 2 1 v2 i (((l.take i).map hiB).map (Value.int .i64)) /\ Apart2 v1 v2
attribute [local simp] Oper.looksAt Op.operands Call.operands envOf Det GDet
theorem OwnR.ptsB {w : World} {B n : Nat} {t : TypeId} {v : Value} {l : List (Int × Int)} (h : OwnR w B t 2 v n (flatPts l)) (hn : 0 < n) : ∃ g cp cur, v = .slice (some ⟨g, 0, none⟩) n cp /\ Blk w g cur t /\ cur.toList.take (n * 2) = flatPts l := by
 rcases h.own.2 with ⟨_, h0⟩ | ⟨g, cap, cur, rfl, _, hb, _, _, _, ht⟩
 ·omega
 ·exact ⟨g, cap, cur, rfl, hb, ht⟩
theorem Blk.grown0 {W w1 : World} {B g : Nat} {cs : Array Value} {t e : TypeId} {s n : Nat} {v : Value} {xs : List Value} (h : Blk W g cs t) (hown : W.ownsRow B e s v n xs) (ht : t ≠ e) (hgr : W.grownBy w1 v.ownBlock) : Blk w1 g cs t := by
 have hlt := h.lt
 have h' : W.heap[g]? = some (.cells cs t (0, 0)) := h
 refine (hgr.block g (by omega) fun e1 => ?_).trans h'
 rcases hown.2 with ⟨rfl, _⟩ | ⟨g', cap, cur, rfl, _, hb, _⟩
 ·simp [Value.ownBlock] at e1
 ·have : g = g' := by simpa [Value.ownBlock] using e1
  subst this
  unfold Blk at h
  rw [h] at hb
  injection hb with hb
  injection hb with _ h2 _
  exact ht h2
theorem SerIn.rex {L : List Nat} {w w' : World} {s : SerT} {ps po : Option Addr} (h : SerIn w s ps po) (hr : Rex L w w') (hL : L = []) : SerIn w' s ps po := by subst hL; exact h.below hr.below
theorem SerIn.drew {w : World} {s : SerT} {ps po : Option Addr} (h : SerIn w s ps po) : SerIn w.drew s ps po :=
 ⟨⟨fun i r hr => by
  obtain ⟨b, o, p', q', cap, vc, e, h1, h2, h3⟩ := h.segs.at' i r hr
  exact ⟨b, o, p', q', cap, vc, e, h1, ⟨⟨h2.runs.at'⟩, ⟨h2.raw.at'⟩, h2.fewR, h2.fewV⟩, h3⟩⟩, h.opn.drew, h.fewS, h.fewO⟩
theorem own_cast {w : World} {B : Nat} {e : TypeId} {s n n' : Nat} {v : Value} {xs xs' : List Value} (h : w.ownsRow B e s v n xs) (e1 : n = n') (e2 : xs = xs') : w.ownsRow B e s v n' xs' := by subst e1; subst e2; exact h
theorem three_news {W : World} {g : Nat} {x y z : Int} {t : TypeId} (h : Blk W g #[.int .i64 x, .int .i64 y, .int .i64 z] t) {j : Nat} {u : Value} (hu : [Value.int .i64 x, .int .i64 y, .int .i64 z][j]? = some u) : W.cell? ((⟨g, 0, none⟩ : Addr).add j) = some u := by
 have hadd : (⟨g, 0, none⟩ : Addr).add j = ⟨g, j, none⟩ := by unfold Addr.add; split <;> simp_all
 rw [hadd, h.cell]
 simpa using hu
def OneB (B : Nat) (x y z : Int) : Spec := fun v w => ∃ g, v = .slice (some ⟨g, 0, none⟩) 1 1 /\ B <= g /\ Blk w g #[.int .i64 x, .int .i64 y, .int .i64 z] 63
theorem OneB.closed (B : Nat) (x y z : Int) : Closed [] (OneB B x y z) := fun _ _ _ hr ⟨g, e1, h1, h⟩ => ⟨g, e1, h1, h.rex hr (by simp)⟩
theorem Tryz.infoBack : (Tryz.prog.info? 63).map (fun i => (i.zero, i.size, i.bytes)) = some (some (.agg #[.int .i64 0, .int .i64 0, .int .i64 0]), 3, 24) := by kernel_rfl
def bkT (x : Int × Int × Int) : RunT := ⟨x.1, x.2.1, x.2.2⟩
theorem bk_snoc (L : List (Int × Int × Int)) (r : Int × Int × Int) : flatCells ((L ++ [r]).map bkT) = flatCells (L.map bkT) ++ [.int .i64 r.1, .int .i64 r.2.1, .int .i64 r.2.2] := by
 rw [List.map_append]; exact flatCells_snoc _ _
theorem sel_step {l : List (Int × Int)} {m : Nat} {x : Int × Int} (f : Int × Int -> Bool) (g : Int × Int -> Int × Int × Int) (h : l[m]? = some x) : ((l.take (m + 1)).filter f).map g = ((l.take m).filter f).map g ++ (if f x then [g x] else []) := by
 rw [List.take_add_one, h, List.filter_append, List.map_append]
 cases hf : f x <;> simp [hf]
theorem sel_is (a b fl : Int) (x : Int × Int) : selB (mx a fl) b x = (decide (fl <= x.1) && decide (a <= x.1) && decide (x.1 <= b)) := by
 have := mx_spec a fl
 rw [Bool.eq_iff_iff]
 simp only [selB, Bool.and_eq_true, decide_eq_true_eq]
 omega
def bk1Rel (w : World) (s : SerT) (ps : Option Addr) (cs : Nat) (po : Option Addr) (co : Nat) (a b : Int) (a' : Act) (W : World) : Prop :=
 Below w.heap.size w W /\ Blk W w.heap.size #[.string s.name, .int .i64 s.eps, .int .i64 s.floor, .int .i64 s.last, .int .i64 s.scale, .slice ps s.segs.length cs, .slice po s.opn.length co] 25 /\ ∃ (k : Nat) (L : List (Int × Int × Int)) (v : Value), (∃ u : Nat -> Value, a' = { tmps := #[.agg #[.string s.name, .int .i64 s.eps, .int .i64 s.floor, .int .i64 s.last, .int .i64 s.scale, .slice ps s.segs.length cs, .slice po s.opn.length co], .int .i64 a, .int .i64 b, .pointer (some ⟨w.heap.size, 0, none⟩), u 4, u 5, u 6, v, .int .i64 (k : Int), u 9, u 10, u 11, u 12, u 13, u 14, u 15, u 16, u 17, u 18, u 19, u 20, u 21, u 22, u 23, u 24, u 25, u 26, u 27, u 28, u 29, u 30, u 31, u 32, u 33, u 34, u 35, u 36, u 37, u 38, u 39, u 40, u 41, u 42, u 43, u 44, u 45, u 46, u 47, u 48, u 49, u 50, u 51, u 52, u 53, u 54, u 55, u 56, u 57, u 58, u 59, u 60, u 61, u 62, u 63, u 64, u 65, u 66, u 67, u 68, u 69, u 70, u 71, u 72, u 73, u 74, u 75, u 76, u 77, u 78, u 79, u 80, u 81, u 82, u 83, u 84, u 85, u 86, u 87, u 88, u 89, u 90, u 91, u 92, u 93, u 94, u 95, u 96, u 97, u 98, u 99, u 100, u 101, u 102, u 103, u 104, u 105, u 106, u 107, u 108, u 109, u 110, u 111, u 112, u 113, u 114, u 115, u 116, u 117, u 118, u 119], defers := [] }) /\
  OwnR W w.heap.size 63 3 v L.length (flatCells (L.map bkT)) /\ L = (s.segs.take k).flatMap (segBk (mx a s.floor) b) /\ k <= s.segs.length /\ L.length <= 256 * k
def bk2Rel (w : World) (s : SerT) (ps : Option Addr) (cs : Nat) (po : Option Addr) (co : Nat) (a b : Int) (k g cp : Nat) (cur : Array Value) (x : SegT) (L : List (Int × Int × Int)) (a' : Act) (W : World) : Prop :=
 Below w.heap.size w W /\ Blk W w.heap.size #[.string s.name, .int .i64 s.eps, .int .i64 s.floor, .int .i64 s.last, .int .i64 s.scale, .slice ps s.segs.length cs, .slice po s.opn.length co] 25 /\ Blk W g cur 91 /\ ∃ (m : Nat) (M : List (Int × Int × Int)) (v : Value), (∃ u : Nat -> Value, a' = { tmps := #[.agg #[.string s.name, .int .i64 s.eps, .int .i64 s.floor, .int .i64 s.last, .int .i64 s.scale, .slice ps s.segs.length cs, .slice po s.opn.length co], .int .i64 a, .int .i64 b, .pointer (some ⟨w.heap.size, 0, none⟩), u 4, u 5, u 6, v, .int .i64 (k : Int), .slice (some ⟨g, 0, none⟩) (ptsL x).length cp, .bool true, .int .i64 (m : Int), u 12, u 13, u 14, u 15, u 16, u 17, u 18, u 19, u 20, u 21, u 22, u 23, u 24, u 25, u 26, u 27, u 28, u 29, u 30, u 31, u 32, u 33, u 34, u 35, u 36, u 37, u 38, u 39, u 40, u 41, u 42, u 43, u 44, u 45, u 46, u 47, u 48, u 49, u 50, u 51, u 52, u 53, u 54, u 55, u 56, u 57, u 58, u 59, u 60, u 61, u 62, u 63, u 64, u 65, u 66, u 67, u 68, u 69, u 70, u 71, u 72, u 73, u 74, u 75, u 76, u 77, u 78, u 79, u 80, u 81, u 82, u 83, u 84, u 85, u 86, u 87, u 88, u 89, u 90, u 91, u 92, u 93, u 94, u 95, u 96, u 97, u 98, u 99, u 100, u 101, u 102, u 103, u 104, u 105, u 106, u 107, u 108, u 109, u 110, u 111, u 112, u 113, u 114, u 115, u 116, u 117, u 118, u 119], defers := [] }) /\
  OwnR W w.heap.size 63 3 v (L ++ M).length (flatCells ((L ++ M).map bkT)) /\ M = (((ptsL x).take m).filter (selB (mx a s.floor) b)).map (fun p => (p.1, p.2, x.E)) /\ m <= (ptsL x).length /\ M.length <= m
def bk3Rel (w : World) (s : SerT) (ps : Option Addr) (cs : Nat) (po : Option Addr) (co : Nat) (a b : Int) (L : List (Int × Int × Int)) (a' : Act) (W : World) : Prop :=
 Below w.heap.size w W /\ Blk W w.heap.size #[.string s.name, .int .i64 s.eps, .int .i64 s.floor, .int .i64 s.last, .int .i64 s.scale, .slice ps s.segs.length cs, .slice po s.opn.length co] 25 /\ ∃ (m : Nat) (M : List (Int × Int × Int)) (v : Value), (∃ u : Nat -> Value, a' = { tmps := #[.agg #[.string s.name, .int .i64 s.eps, .int .i64 s.floor, .int .i64 s.last, .int .i64 s.scale, .slice ps s.segs.length cs, .slice po s.opn.length co], .int .i64 a, .int .i64 b, .pointer (some ⟨w.heap.size, 0, none⟩), u 4, u 5, u 6, v, u 8, u 9, u 10, u 11, .int .i64 (m : Int), u 13, u 14, u 15, u 16, u 17, u 18, u 19, u 20, u 21, u 22, u 23, u 24, u 25, u 26, u 27, u 28, u 29, u 30, u 31, u 32, u 33, u 34, u 35, u 36, u 37, u 38, u 39, u 40, u 41, u 42, u 43, u 44, u 45, u 46, u 47, u 48, u 49, u 50, u 51, u 52, u 53, u 54, u 55, u 56, u 57, u 58, u 59, u 60, u 61, u 62, u 63, u 64, u 65, u 66, u 67, u 68, u 69, u 70, u 71, u 72, u 73, u 74, u 75, u 76, u 77, u 78, u 79, u 80, u 81, u 82, u 83, u 84, u 85, u 86, u 87, u 88, u 89, u 90, u 91, u 92, u 93, u 94, u 95, u 96, u 97, u 98, u 99, u 100, u 101, u 102, u 103, u 104, u 105, u 106, u 107, u 108, u 109, u 110, u 111, u 112, u 113, u 114, u 115, u 116, u 117, u 118, u 119], defers := [] }) /\
  OwnR W w.heap.size 63 3 v (L ++ M).length (flatCells ((L ++ M).map bkT)) /\ M = ((s.opn.take m).filter (selB (mx a s.floor) b)).map (fun p => (p.1, p.2, 0)) /\ m <= s.opn.length /\ M.length <= m
theorem refBack_w (s : SerT) (ps : Option Addr) (cs : Nat) (po : Option Addr) (co : Nat) (a b : Int) (w : World) (hin : SerIn w s ps po) (hv : ∀ x, x ∈ s.segs -> segB x = true) :
  Calls Tryz.prog 21 #[.agg #[.string s.name, .int .i64 s.eps, .int .i64 s.floor, .int .i64 s.last, .int .i64 s.scale, .slice ps s.segs.length cs, .slice po s.opn.length co], .int .i64 a, .int .i64 b] w fun e w' => ∃ v, e = .returned v /\ OwnR w' w.heap.size 63 3 v (toldL s a b).length (flatCells ((toldL s a b).map bkT)) /\ Below w.heap.size w w' := by
 obtain ⟨i0, hi, hz0, hz1, hz2⟩ := info_parts Tryz.infoBack
 have hfS := hin.fewS
 have hfO := hin.fewO
 go_enter Tryz.func21, Tryz.ntmps21
 go_wp2
 refine wp_loop (bk1Rel w s ps cs po co a b) (fun a' _ => s.segs.length - (intAt (a'.tmps.getD 8 undef)).toNat) ?_ ?_
 ·unfold bk1Rel
  exact ⟨belowAny, by exact blkAny2, 0, [], _, frame_ex rfl, OwnR.nil _ _ _ _, by simp, by omega, by simp⟩
 rintro a' W ⟨hW0, b1, k, L, v, ⟨u, rfl⟩, hown, hL, hk, hL6⟩
 have hz := hW0.size
 have zb1 := b1.lt
 rcases Nat.lt_or_ge k s.segs.length with hlk | hge
 ·obtain ⟨x, tr⟩ : ∃ r, s.segs[k]? = some r := ⟨s.segs[k]'(by omega), List.getElem?_eq_getElem (by omega)⟩
  have hsx := hv x (List.mem_of_getElem? tr)
  have hin' := hin.below hW0
  obtain ⟨bs, os, p', q', cps, vc, rfl, hs, hvc, q0, q1, q2, q3, q4, q5, q6, q7⟩ := hin'.segs.one tr
  have cP := Lib.hid (fun W' (hW' : Below W.heap.size W W') => c_refPoints x p' q' cps vc W' (hs.below hW') hsx)
  unfold segA at cP
  have hln := length_pts hsx
  have hcn := cnt_pos (segB_runs hsx)
  have zc := cell_lt q0
  try simp only at zc
  replace hL := Lib.hid hL
  replace tr := Lib.hid tr
  have k1 := b1.cell
  have f1 := b1.frozen
  go_wp2_with fail
  refine (cP.out _ belowAny).mono ?_
  rintro e w21 ⟨v1, rfl, hv1, hb21⟩
  have z22 := hb21.size
  try simp at z22
  clear k1 f1
  have b1 : Blk w21 w.heap.size #[.string s.name, .int .i64 s.eps, .int .i64 s.floor, .int .i64 s.last, .int .i64 s.scale, .slice (some ⟨bs, os, none⟩) s.segs.length cs, .slice po s.opn.length co] 25 := blkAny2
  have hW : Below W.heap.size W w21 := belowAny
  have z23 := b1.lt
  have k1 := b1.cell
  have f1 := b1.frozen
  obtain ⟨g, cp, cur, rfl, b2, htk⟩ := hv1.ptsB (by omega)
  have hW1 := hW0.trans (hW.mono hz)
  have hown1 := hown.below hW
  replace htk := Lib.hid htk
  clear hv1 hown cP hW q0 q1 q2 q3 q4 q5 q6 q7 k1 f1
  go_wp2
  refine wp_loop (bk2Rel w s (some ⟨bs, os, none⟩) cs po co a b k g cp cur x L) (fun a' _ => (ptsL x).length - (intAt (a'.tmps.getD 11 undef)).toNat) ?_ ?_
  ·unfold bk2Rel
   exact ⟨hW1, b1, b2, 0, [], _, frame_ex rfl, by rw [List.append_nil]; exact hown1, by simp, by omega, by simp⟩
  rintro a' V ⟨hV0, b1, b2, m, M, v, ⟨u, rfl⟩, hown, hM, hm, hMl⟩
  have hzv := hV0.size
  have zb1 := b1.lt
  have zb2 := b2.lt
  have hin' := hin.below hV0
  rcases Nat.lt_or_ge m (ptsL x).length with hlt | hge
  ·obtain ⟨⟨t, y⟩, tm⟩ : ∃ r, (ptsL x)[m]? = some r := ⟨(ptsL x)[m]'(by omega), List.getElem?_eq_getElem (by omega)⟩
   have hst := sel_step (selB (mx a s.floor) b) (fun p => (p.1, p.2, x.E)) tm
   rw [<- hM, sel_is] at hst
   replace tm := Lib.hid tm
   simp only at hst
   cases hc : (decide (s.floor <= t) && decide (a <= t) && decide (t <= b)) with
   | false =>
    rw [hc] at hst
    replace hc := Lib.hid hc
    replace hM := Lib.hid (show M = (((ptsL x).take (m + 1)).filter (selB (mx a s.floor) b)).map (fun p => (p.1, p.2, x.E)) by rw [hst]; simp)
    clear hst
    go_upto_region 9 with (fail)
    refine wp_facts (fun W' => Below V.heap.size V W' /\ Blk W' w.heap.size #[.string s.name, .int .i64 s.eps, .int .i64 s.floor, .int .i64 s.last, .int .i64 s.scale, .slice (some ⟨bs, os, none⟩) s.segs.length cs, .slice po s.opn.length co] 25 /\ PtsIn W' (some ⟨g, 0, none⟩) (ptsL x) /\ Blk W' g cur 91) ⟨by exact belowAny, by exact blkAny2, by first | exact pts_in b2 htk.out | exact b2, by exact blkAny2⟩ ?_
    rintro W41 ⟨hW, b1, b2, b3⟩
    have z42 := hW.size
    have z43 := b1.lt
    have z44 := b3.lt
    refine wp_region_ndQ 26 120 [] (fun W' => Rex [] W41 W' /\ Blk W' w.heap.size #[.string s.name, .int .i64 s.eps, .int .i64 s.floor, .int .i64 s.last, .int .i64 s.scale, .slice (some ⟨bs, os, none⟩) s.segs.length cs, .slice po s.opn.length co] 25 /\ PtsIn W' (some ⟨g, 0, none⟩) (ptsL x) /\ Blk W' g cur 91) mixed (by kernel_rfl) rfl ⟨(Rex.refl _ _).drew, b1, b2.drew, b3⟩ (fun w w' ⟨h0, h1, h2, h3⟩ hr => ⟨h0.trans hr, h1.rex hr (by simp <;> omega), h2.rex hr (by simp <;> omega), h3.rex hr (by simp <;> omega)⟩) rfl ?_
    iterate 26
     first
     | (
      apply nd_det (hg := rfl) (hal := rfl)
      ·intro a W' hC hE
       obtain ⟨_, k1, k2, k3⟩ := hC
       have k1 := k1.cell
       obtain ⟨b', o', e9, q1, q2⟩ := k2.at' m (t, y) tm.out; obtain ⟨rfl, rfl⟩ : g = b' /\ 0 = o' := (by injection e9 with e9; injection e9 with e1 e2; exact ⟨e1, e2⟩); simp only [Nat.zero_add] at q1 q2
       first
        | (simp at hE; simp [go_sem, Act.eval, IntWalk.i64_left, hE, k1, k2, k3, q1, q2, hlt]; try rfl)
        | (clear hE; simp [go_sem, Act.eval, IntWalk.i64_left, k1, k2, k3, q1, q2, hlt]; try rfl))
     | (
      apply nd_detg (p := true) (hg := rfl) (hd := rfl) (hal := rfl)
      ·intro v W' h
       simp at h
       simp
       exact h
      ·intro hp hx a W' hC hE
       obtain ⟨_, k1, k2, k3⟩ := hC
       have k1 := k1.cell
       obtain ⟨b', o', e9, q1, q2⟩ := k2.at' m (t, y) tm.out; obtain ⟨rfl, rfl⟩ : g = b' /\ 0 = o' := (by injection e9 with e9; injection e9 with e1 e2; exact ⟨e1, e2⟩); simp only [Nat.zero_add] at q1 q2
       simp [hx] at hE
       simp [go_sem, Act.eval, IntWalk.i64_left, hE, k1, k2, k3, q1, q2, hlt]
       try rfl)
     | (
      apply nd_pick_and (ho := rfl) (hg := rfl)
      ·intro v W' h
       simp at h
       exact h
      ·intro v W' h hx
       simp [hx] at h
       exact h)
    rintro W45 ⟨hR, d1, d2, d3⟩
    simp only [ndFinR, Det, forall_eq]
    intros
    repeat (rename GDet _ _ _ _ => hgd; clear hgd)
    simp only [Act.put, List.setIfInBounds_toArray, List.set_cons_zero, List.set_cons_succ]
    refine wpList_nil ?_
    replace hW := hW.trans (hR.of_priv hW.size)
    clear hR
    try clear b1 b2 b3
    have b1 := d1
    clear d1
    have b2 := d2
    clear d2
    have b3 := d3
    clear d3
    rw [hc.out]
    have hV1 := hV0.trans (hW.mono hzv)
    go_wp2
    rw [show (m : Int) + 1 = ((m + 1 : Nat) : Int) by omega]
    refine ⟨?_, by simp [intAt]; omega⟩
    exact ⟨hV1, b1, b3, m + 1, M, v, frame_ex rfl, hown.below hW, hM.out, by omega, by omega⟩
   | true =>
    rw [hc] at hst
    replace hc := Lib.hid hc
    replace hM := Lib.hid (show M ++ [(t, y, x.E)] = (((ptsL x).take (m + 1)).filter (selB (mx a s.floor) b)).map (fun p => (p.1, p.2, x.E)) by rw [hst]; simp)
    clear hst
    go_upto_region 9 with (fail)
    refine wp_facts (fun W' => Below V.heap.size V W' /\ Blk W' w.heap.size #[.string s.name, .int .i64 s.eps, .int .i64 s.floor, .int .i64 s.last, .int .i64 s.scale, .slice (some ⟨bs, os, none⟩) s.segs.length cs, .slice po s.opn.length co] 25 /\ PtsIn W' (some ⟨g, 0, none⟩) (ptsL x) /\ Blk W' g cur 91) ⟨by exact belowAny, by exact blkAny2, by first | exact pts_in b2 htk.out | exact b2, by exact blkAny2⟩ ?_
    rintro W41 ⟨hW, b1, b2, b3⟩
    have z42 := hW.size
    have z43 := b1.lt
    have z44 := b3.lt
    refine wp_region_ndQ 26 120 [] (fun W' => Rex [] W41 W' /\ Blk W' w.heap.size #[.string s.name, .int .i64 s.eps, .int .i64 s.floor, .int .i64 s.last, .int .i64 s.scale, .slice (some ⟨bs, os, none⟩) s.segs.length cs, .slice po s.opn.length co] 25 /\ PtsIn W' (some ⟨g, 0, none⟩) (ptsL x) /\ Blk W' g cur 91) mixed (by kernel_rfl) rfl ⟨(Rex.refl _ _).drew, b1, b2.drew, b3⟩ (fun w w' ⟨h0, h1, h2, h3⟩ hr => ⟨h0.trans hr, h1.rex hr (by simp <;> omega), h2.rex hr (by simp <;> omega), h3.rex hr (by simp <;> omega)⟩) rfl ?_
    iterate 26
     first
     | (
      apply nd_det (hg := rfl) (hal := rfl)
      ·intro a W' hC hE
       obtain ⟨_, k1, k2, k3⟩ := hC
       have k1 := k1.cell
       obtain ⟨b', o', e9, q1, q2⟩ := k2.at' m (t, y) tm.out; obtain ⟨rfl, rfl⟩ : g = b' /\ 0 = o' := (by injection e9 with e9; injection e9 with e1 e2; exact ⟨e1, e2⟩); simp only [Nat.zero_add] at q1 q2
       first
        | (simp at hE; simp [go_sem, Act.eval, IntWalk.i64_left, hE, k1, k2, k3, q1, q2, hlt]; try rfl)
        | (clear hE; simp [go_sem, Act.eval, IntWalk.i64_left, k1, k2, k3, q1, q2, hlt]; try rfl))
     | (
      apply nd_detg (p := true) (hg := rfl) (hd := rfl) (hal := rfl)
      ·intro v W' h
       simp at h
       simp
       exact h
      ·intro hp hx a W' hC hE
       obtain ⟨_, k1, k2, k3⟩ := hC
       have k1 := k1.cell
       obtain ⟨b', o', e9, q1, q2⟩ := k2.at' m (t, y) tm.out; obtain ⟨rfl, rfl⟩ : g = b' /\ 0 = o' := (by injection e9 with e9; injection e9 with e1 e2; exact ⟨e1, e2⟩); simp only [Nat.zero_add] at q1 q2
       simp [hx] at hE
       simp [go_sem, Act.eval, IntWalk.i64_left, hE, k1, k2, k3, q1, q2, hlt]
       try rfl)
     | (
      apply nd_pick_and (ho := rfl) (hg := rfl)
      ·intro v W' h
       simp at h
       exact h
      ·intro v W' h hx
       simp [hx] at h
       exact h)
    rintro W45 ⟨hR, d1, d2, d3⟩
    simp only [ndFinR, Det, forall_eq]
    intros
    repeat (rename GDet _ _ _ _ => hgd; clear hgd)
    simp only [Act.put, List.setIfInBounds_toArray, List.set_cons_zero, List.set_cons_succ]
    refine wpList_nil ?_
    replace hW := hW.trans (hR.of_priv hW.size)
    clear hR
    try clear b1 b2 b3
    have b1 := d1
    clear d1
    have b2 := d2
    clear d2
    have b3 := d3
    clear d3
    rw [hc.out]
    go_upto_region 10 with (fail)
    refine wp_facts (fun W' => Below V.heap.size V W' /\ Blk W' w.heap.size #[.string s.name, .int .i64 s.eps, .int .i64 s.floor, .int .i64 s.last, .int .i64 s.scale, .slice (some ⟨bs, os, none⟩) s.segs.length cs, .slice po s.opn.length co] 25 /\ PtsIn W' (some ⟨g, 0, none⟩) (ptsL x) /\ Blk W' g cur 91 /\ SerIn W' s (some ⟨bs, os, none⟩) po) ⟨by exact belowAny, by exact blkAny2, by first | exact pts_in b2 htk.out | exact b2, by exact blkAny2, by first | exact hin'.below (by assumption) | exact hin'⟩ ?_
    clear hW
    rintro W61 ⟨hW, b1, b2, b3, b4⟩
    have z62 := hW.size
    have z63 := b1.lt
    have z64 := b3.lt
    refine wp_region_nd 19 120 [] (fun W' => Rex [] W61 W' /\ Blk W' w.heap.size #[.string s.name, .int .i64 s.eps, .int .i64 s.floor, .int .i64 s.last, .int .i64 s.scale, .slice (some ⟨bs, os, none⟩) s.segs.length cs, .slice po s.opn.length co] 25 /\ PtsIn W' (some ⟨g, 0, none⟩) (ptsL x) /\ Blk W' g cur 91 /\ SerIn W' s (some ⟨bs, os, none⟩) po) mixed (by kernel_rfl) rfl ⟨(Rex.refl _ _).drew, b1, b2.drew, b3, b4.drew⟩ (fun w w' ⟨h0, h1, h2, h3, h4⟩ hr => ⟨h0.trans hr, h1.rex hr (by simp <;> omega), h2.rex hr (by simp <;> omega), h3.rex hr (by simp <;> omega), h4.rex hr (by simp <;> omega)⟩) (fun c a d v w h => by cases d <;> exact h) ?_
    iterate 18
     apply nd_det (hg := rfl) (hal := rfl)
     ·intro a W' hC hE
      obtain ⟨_, k1, k2, k3, k4⟩ := hC
      have k1 := k1.cell
      obtain ⟨b', o', e9, q1, q2⟩ := k2.at' m (t, y) tm.out; obtain ⟨rfl, rfl⟩ : g = b' /\ 0 = o' := (by injection e9 with e9; injection e9 with e1 e2; exact ⟨e1, e2⟩); simp only [Nat.zero_add] at q1 q2; obtain ⟨b2, o2, p2, q2', cp2, vc2, e10, -, -, r0, r1, r2, r3, r4, r5, r6, r7⟩ := k4.segs.one tr.out; obtain ⟨rfl, rfl⟩ : bs = b2 /\ os = o2 := (by injection e10 with e10; injection e10 with e1 e2; exact ⟨e1, e2⟩)
      first
       | (simp at hE; simp [go_sem, Act.eval, IntWalk.i64_left, hE, k1, k2, k3, k4, q1, q2, hlt, hlk, r7]; try rfl)
       | (clear hE; simp [go_sem, Act.eval, IntWalk.i64_left, k1, k2, k3, k4, q1, q2, hlt, hlk, r7]; try rfl)
    apply nd_mem (OneB W61.heap.size t y x.E) (hg := rfl) (hal := rfl)
    ·exact OneB.closed _ _ _ _
    ·intro a' W' hC hE
     simp at hE
     refine ⟨.slice (some ⟨W'.heap.size, 0, none⟩) 1 1, W'.alloc (.cells #[.int .i64 t, .int .i64 y, .int .i64 x.E] 63), ?_, (Below.refl _ _).alloc (Nat.le_refl _) _, W'.heap.size, rfl, hC.1.size, Blk.new' rfl⟩
     simp [go_sem, execOp, Act.eval, hE]
     try rfl
     done
    rintro W65 ⟨hR, d1, d2, d3, d4⟩
    simp only [ndFinR, Det, forall_eq]
    intros
    repeat (rename GDet _ _ _ _ => hgd; clear hgd)
    simp only [Act.put, List.setIfInBounds_toArray, List.set_cons_zero, List.set_cons_succ, List.drop_succ_cons, List.drop_zero]
    replace hW := hW.trans (hR.of_priv hW.size)
    clear hR
    try clear b1 b2 b3 b4
    have b1 := d1
    clear d1
    have b2 := d2
    clear d2
    have b3 := d3
    clear d3
    have b4 := d4
    clear d4
    rename OneB _ _ _ _ _ _ => ho
    obtain ⟨g1, rfl, hg1, bg⟩ := ho
    have y1 := bg.lt
    have hV1 := hV0.trans (hW.mono hzv)
    have hO := hown.below hW
    clear hown hW
    have zz := hV1.size
    have hlo := fun g e => hO.own.lt g e
    go_wp2_with (at_builtin; refine wpList_append_own2 rfl (.tmp 62) (.tmp 80) 52 rfl w.heap.size 63 i0 (.agg #[.int .i64 0, .int .i64 0, .int .i64 0]) 3 24 (by kernel_rfl) hi hz0 hz1 hz2 rfl (by decide) _ _ _ rfl hO.own ⟨g1, 0, none⟩ 1 1 [.int .i64 t, .int .i64 y, .int .i64 x.E] rfl rfl (fun j u hu => three_news bg hu) (by simp [Value.oneCell']) (by simp [maxLen]; omega) (by simp only [List.length_append]; omega) (by omega) ?_)
    intro v' w9 hown2 hgr hst
    have hB := Lib.hid (grown_below hV1 (by omega) hgr (fun g e => (hlo g e).1))
    have d1 := b1.grown0 hO.own (by decide) hgr
    have d2 := b3.grown0 hO.own (by decide) hgr
    replace hown2 := Lib.hid hown2
    clear hgr hst hO hlo b1 b2 b3 b4 bg
    go_wp2
    rw [show (m : Int) + 1 = ((m + 1 : Nat) : Int) by omega]
    refine ⟨?_, by simp [intAt]; omega⟩
    exact ⟨hB.out, d1, d2, m + 1, M ++ [(t, y, x.E)], v', frame_ex rfl, ⟨own_cast hown2.out (by simp only [List.length_append, List.length_cons, List.length_nil]; omega) (by rw [<- List.append_assoc, bk_snoc]; simp only [List.map_append])⟩, hM.out, by omega, by simp; omega⟩
  ·obtain rfl : m = (ptsL x).length := by omega
   have hx := Lib.hid (show L ++ M = (s.segs.take (k + 1)).flatMap (segBk (mx a s.floor) b) by rw [flat_step _ tr.out, <- hL.out, hM, List.take_length]; rfl)
   clear hM
   go_wp2
   rw [show (k : Int) + 1 = ((k + 1 : Nat) : Int) by omega]
   refine ⟨?_, by simp [intAt]; omega⟩
   unfold bk1Rel
   exact ⟨hV0, b1, k + 1, L ++ M, v, frame_ex rfl, hown, hx.out, by omega, by simp only [List.length_append]; omega⟩
 ·obtain rfl : k = s.segs.length := by omega
  rw [List.take_length] at hL
  replace hL := Lib.hid hL
  have k1 := b1.cell
  have f1 := b1.frozen
  go_wp2
  refine wp_loop (bk3Rel w s ps cs po co a b L) (fun a' _ => s.opn.length - (intAt (a'.tmps.getD 12 undef)).toNat) ?_ ?_
  ·unfold bk3Rel
   exact ⟨hW0, b1, 0, [], _, frame_ex rfl, by rw [List.append_nil]; exact hown, by simp, by omega, by simp⟩
  rintro a' V ⟨hV0, b1, m, M, v, ⟨u, rfl⟩, hown, hM, hm, hMl⟩
  have hzv := hV0.size
  have zb1 := b1.lt
  rcases Nat.lt_or_ge m s.opn.length with hlt | hge
  ·obtain ⟨⟨t, y⟩, tm⟩ : ∃ r, s.opn[m]? = some r := ⟨s.opn[m]'(by omega), List.getElem?_eq_getElem (by omega)⟩
   obtain ⟨bo, oo, rfl, q0, q1⟩ := (hin.below hV0).opn.at' m _ tm
   simp only at q0 q1
   have zc := cell_lt q0
   try simp only at zc
   have hst := sel_step (selB (mx a s.floor) b) (fun p => (p.1, p.2, (0 : Int))) tm
   rw [<- hM, sel_is] at hst
   simp only at hst
   by_cases g1 : s.floor <= t
   ·by_cases g2 : a <= t
    ·by_cases g3 : t <= b
     ·rw [decide_eq_true g1, decide_eq_true g2, decide_eq_true g3] at hst
      replace hM := Lib.hid (show M ++ [(t, y, 0)] = ((s.opn.take (m + 1)).filter (selB (mx a s.floor) b)).map (fun p => (p.1, p.2, 0)) by rw [hst]; simp)
      clear hst tm
      have k1 := b1.cell
      have f1 := b1.frozen
      go_upto_region 16 with (fail)
      clear k1 f1
      refine wp_facts (fun W' => Below V.heap.size V W' /\ Blk W' w.heap.size #[.string s.name, .int .i64 s.eps, .int .i64 s.floor, .int .i64 s.last, .int .i64 s.scale, .slice ps s.segs.length cs, .slice (some ⟨bo, oo, none⟩) s.opn.length co] 25 /\ Blk W' V.heap.size #[.int .i64 t, .int .i64 y] 91) ⟨by exact belowAny, by exact blkAny2, by exact blkAny2⟩ ?_
      clear b1
      rintro W81 ⟨hW, b1, b2⟩
      have z82 := hW.size
      have z83 := b1.lt
      have z84 := b2.lt
      have k1 := b1.cell
      have f1 := b1.frozen
      have k2 := b2.cell
      have f2 := b2.frozen
      have hV1 := hV0.trans (hW.mono hzv)
      have hO := hown.below hW
      clear hown hW
      have zz := hV1.size
      have zq := b2.lt
      go_wp2_with (at_builtin; refine wpList_append_own _ rfl (.tmp 111) (.tmp 117) 52 rfl w.heap.size 63 i0 (.agg #[.int .i64 0, .int .i64 0, .int .i64 0]) 3 24 (by kernel_rfl) hi hz0 hz1 hz2 rfl (by decide) _ _ _ rfl (hO.own.alloc _) ⟨W81.heap.size, 0, none⟩ 1 1 [.int .i64 t, .int .i64 y, .int .i64 0] rfl rfl (cell_three_new _ _ _ _ _) (by simp [Value.oneCell']) (by simp [maxLen]; omega) (by simp only [List.length_append]; omega) (by simp; omega) ?_)
      intro v' w9 hown2 hgr _
      have hB := Lib.hid (below_append hV1 zz hO.own hgr)
      have d1 := b1.grown hO.own (by decide) hgr
      replace hown2 := Lib.hid hown2
      clear hgr hO b1 b2 k1 k2 f1 f2
      go_wp2
      rw [show (m : Int) + 1 = ((m + 1 : Nat) : Int) by omega]
      refine ⟨?_, by simp [intAt]; omega⟩
      exact ⟨hB.out, d1, m + 1, M ++ [(t, y, 0)], v', frame_ex rfl, ⟨own_cast hown2.out (by simp only [List.length_append, List.length_cons, List.length_nil]; omega) (by rw [<- List.append_assoc, bk_snoc]; simp only [List.map_append])⟩, hM.out, by omega, by simp; omega⟩
     ·rw [decide_eq_false g3, Bool.and_false] at hst
      replace hM := Lib.hid (show M = ((s.opn.take (m + 1)).filter (selB (mx a s.floor) b)).map (fun p => (p.1, p.2, 0)) by rw [hst]; simp)
      clear hst tm
      have k1 := b1.cell
      have f1 := b1.frozen
      go_wp2
      rw [show (m : Int) + 1 = ((m + 1 : Nat) : Int) by omega]
      refine ⟨?_, by simp [intAt]; omega⟩
      have hA : Below V.heap.size V (V.alloc (.cells #[.int .i64 t, .int .i64 y] 91)) := belowAny
      exact ⟨hV0.trans (hA.mono hzv), by exact blkAny2, m + 1, M, v, frame_ex rfl, hown.below hA, hM.out, by omega, by omega⟩
    ·rw [decide_eq_false g2, Bool.and_false, Bool.false_and] at hst
     replace hM := Lib.hid (show M = ((s.opn.take (m + 1)).filter (selB (mx a s.floor) b)).map (fun p => (p.1, p.2, 0)) by rw [hst]; simp)
     clear hst tm
     have k1 := b1.cell
     have f1 := b1.frozen
     go_wp2
     rw [show (m : Int) + 1 = ((m + 1 : Nat) : Int) by omega]
     refine ⟨?_, by simp [intAt]; omega⟩
     have hA : Below V.heap.size V (V.alloc (.cells #[.int .i64 t, .int .i64 y] 91)) := belowAny
     exact ⟨hV0.trans (hA.mono hzv), by exact blkAny2, m + 1, M, v, frame_ex rfl, hown.below hA, hM.out, by omega, by omega⟩
   ·rw [decide_eq_false g1, Bool.false_and, Bool.false_and] at hst
    replace hM := Lib.hid (show M = ((s.opn.take (m + 1)).filter (selB (mx a s.floor) b)).map (fun p => (p.1, p.2, 0)) by rw [hst]; simp)
    clear hst tm
    have k1 := b1.cell
    have f1 := b1.frozen
    go_wp2
    rw [show (m : Int) + 1 = ((m + 1 : Nat) : Int) by omega]
    refine ⟨?_, by simp [intAt]; omega⟩
    have hA : Below V.heap.size V (V.alloc (.cells #[.int .i64 t, .int .i64 y] 91)) := belowAny
    exact ⟨hV0.trans (hA.mono hzv), by exact blkAny2, m + 1, M, v, frame_ex rfl, hown.below hA, hM.out, by omega, by omega⟩
  ·obtain rfl : m = s.opn.length := by omega
   rw [List.take_length] at hM
   have hT := Lib.hid (show toldL s a b = L ++ M by rw [hL.out, hM]; rfl)
   clear hM
   have k1 := b1.cell
   have f1 := b1.frozen
   go_wp2
   refine bodyPost_ret (v := v) (by simp [results, Tryz.results21, go_sem]) rfl ⟨v, rfl, ?_, hV0⟩
   rw [hT.out]
   exact hown
theorem tells_all (nm : ByteArray) (ep fl la sc : Int) (ps po : Option Addr) (ns cs no co M N : Nat) (s : SerT) (a b : Int) (T A : List RunT) (n1 n : Nat) (x1 x2 e1 er cn nn : Int) (w : World) (hnf : n <= 100000)
  (hcase : Hid ((nn = 340 /\ cn = 340 /\ e1 = 340 /\ er = 340 /\ n = 0 /\ x1 = 0 /\ x2 = 0) ∨ (nn = 0 /\ cn = 0 /\ e1 = 9 /\ n1 = 0 /\ x1 = 0 /\ x2 = 0 /\ Hid ((er = 0 /\ 0 < n) ∨ (er = 9 /\ n = 0))) ∨ (nn = 0 /\ cn = 0 /\ e1 = 0 /\ ∃ r0 : RunT, A[0]? = some r0 /\ 0 < n1 /\ wrap64 (r0.s - r0.c) = x1 /\ wrap64 (r0.s + r0.c) = x2 /\ Hid ((er = 0 /\ 0 < n) ∨ (er = 9 /\ n = 0)))))
  (c1 : ∀ W, Below w.heap.size w W -> Calls Tryz.prog 11 #[] W fun e w' => e = .returned (.bool true) /\ Below W.heap.size W w')
  (c2 : ∀ W, Below w.heap.size w W -> Calls Tryz.prog 12 #[.agg #[.string nm, ep, fl, la, sc, .slice ps ns cs, .slice po no co]] W fun e w' => ∃ gS capS gP capP, e = .returned (.agg #[.string nm, ep, fl, la, sc, .slice (some ⟨gS, 0, none⟩) M capS, .slice (some ⟨gP, 0, none⟩) N capP]) /\ Below W.heap.size W w' /\ SerIn w' s (some ⟨gS, 0, none⟩) (some ⟨gP, 0, none⟩))
  (cA : ∀ W gS capS gP capP, SerIn W s (some ⟨gS, 0, none⟩) (some ⟨gP, 0, none⟩) -> Calls Tryz.prog 25 #[.agg #[.string nm, ep, fl, la, sc, .slice (some ⟨gS, 0, none⟩) M capS, .slice (some ⟨gP, 0, none⟩) N capP], a] W fun e w' => e = .returned (.tuple #[.agg #[x1, x2], e1]) /\ Below W.heap.size W w')
  (cS : ∀ W gS capS gP capP, SerIn W s (some ⟨gS, 0, none⟩) (some ⟨gP, 0, none⟩) -> Calls Tryz.prog 26 #[.agg #[.string nm, ep, fl, la, sc, .slice (some ⟨gS, 0, none⟩) M capS, .slice (some ⟨gP, 0, none⟩) N capP], a, b] W fun e w' => ∃ p k, e = .returned (.tuple #[.slice p n k, er]) /\ RunsIn w' p T /\ Below W.heap.size W w')
  (cN : ∀ W gS capS gP capP, SerIn W s (some ⟨gS, 0, none⟩) (some ⟨gP, 0, none⟩) -> Calls Tryz.prog 13 #[.agg #[.string nm, ep, fl, la, sc, .slice (some ⟨gS, 0, none⟩) M capS, .slice (some ⟨gP, 0, none⟩) N capP], a, b] W fun e w' => e = .returned (.tuple #[.int .i64 (n : Int), cn]) /\ Below W.heap.size W w')
  (cC : ∀ W gS capS gP capP, SerIn W s (some ⟨gS, 0, none⟩) (some ⟨gP, 0, none⟩) -> Calls Tryz.prog 14 #[.agg #[.string nm, ep, fl, la, sc, .slice (some ⟨gS, 0, none⟩) M capS, .slice (some ⟨gP, 0, none⟩) N capP]] W fun e w' => e = .returned (nn) /\ Below W.heap.size W w')
  (cB1 : nn = 0 -> ∀ W gS capS gP capP, SerIn W s (some ⟨gS, 0, none⟩) (some ⟨gP, 0, none⟩) -> Calls Tryz.prog 21 #[.agg #[.string nm, ep, fl, la, sc, .slice (some ⟨gS, 0, none⟩) M capS, .slice (some ⟨gP, 0, none⟩) N capP], a, a] W fun e w' => ∃ p k, e = .returned (.slice p n1 k) /\ RunsIn w' p A /\ Below W.heap.size W w')
  (cB2 : nn = 0 -> ∀ W gS capS gP capP, SerIn W s (some ⟨gS, 0, none⟩) (some ⟨gP, 0, none⟩) -> Calls Tryz.prog 21 #[.agg #[.string nm, ep, fl, la, sc, .slice (some ⟨gS, 0, none⟩) M capS, .slice (some ⟨gP, 0, none⟩) N capP], a, b] W fun e w' => ∃ p k, e = .returned (.slice p n k) /\ RunsIn w' p T /\ Below W.heap.size W w')
  (cE : nn = 0 -> ∀ W p k p' k', RunsIn W p T -> RunsIn W p' T -> Calls Tryz.prog 27 #[.slice p n k, .slice p' n k'] W fun e w' => e = .returned (.bool true) /\ Below W.heap.size W w') :
  Calls Tryz.prog 5 #[.agg #[.string nm, ep, fl, la, sc, .slice ps ns cs, .slice po no co], a, b] w fun e w' => e = .returned (.bool true) /\ Below w.heap.size w w' := by
 have H_c1 := Lib.hid c1
 clear c1
 have H_c2 := Lib.hid c2
 clear c2
 have H_cA := Lib.hid cA
 clear cA
 have H_cS := Lib.hid cS
 clear cS
 have H_cN := Lib.hid cN
 clear cN
 have H_cC := Lib.hid cC
 clear cC
 have H_cB1 := Lib.hid cB1
 clear cB1
 have H_cB2 := Lib.hid cB2
 clear cB2
 have H_cE := Lib.hid cE
 clear cE
 go_enter Tryz.func5, Tryz.ntmps5
 have c1 := H_c1.out
 go_wp2_with fail
 refine (c1 _ belowAny).mono ?_
 rintro e w1 ⟨rfl, hb1⟩
 clear c1
 have z2 := hb1.size
 try simp at z2
 have b1 : Blk w1 w.heap.size #[.string nm, ep, fl, la, sc, .slice ps ns cs, .slice po no co] 25 := blkAny2
 have hW : Below w.heap.size w w1 := belowAny
 have z3 := b1.lt
 clear hb1
 have k1 := b1.cell
 have f1 := b1.frozen
 have c2 := H_c2.out
 go_wp2_with fail
 refine (c2 _ belowAny).mono ?_
 rintro e w4 ⟨gS, capS, gP, capP, rfl, hb4, hs⟩
 clear c2
 have z5 := hb4.size
 try simp at z5
 clear k1 f1
 have b1 : Blk w4 w.heap.size #[.string nm, ep, fl, la, sc, .slice ps ns cs, .slice po no co] 25 := blkAny2
 have hW : Below w.heap.size w w4 := belowAny
 have z6 := b1.lt
 have k1 := b1.cell
 have f1 := b1.frozen
 clear b1 k1 f1
 have b1 := hs
 clear hs
 have cA := H_cA.out
 go_wp2_with fail
 refine (cA _ gS capS gP capP (b1.alloc _)).mono ?_
 rintro e w7 ⟨rfl, hb7⟩
 clear cA
 have z8 := hb7.size
 try simp at z8
 have b1 : SerIn w7 s (some ⟨gS, 0, none⟩) (some ⟨gP, 0, none⟩) := by first | exact b1 | exact (SerIn.alloc b1 _).below (by assumption) | exact b1.below (by assumption) | exact b1.below belowAny
 have b2 : Blk w7 w4.heap.size #[.string nm, ep, fl, la, sc, .slice (some ⟨gS, 0, none⟩) M capS, .slice (some ⟨gP, 0, none⟩) N capP] 25 := blkAny2
 have hW : Below w.heap.size w w7 := belowAny
 have z9 := b2.lt
 clear hb7
 have k2 := b2.cell
 have f2 := b2.frozen
 have cS := H_cS.out
 go_wp2_with fail
 refine (cS _ gS capS gP capP (b1.alloc _)).mono ?_
 rintro e w10 ⟨pS, kS, rfl, hRS, hb10⟩
 clear cS
 have z11 := hb10.size
 try simp at z11
 clear k2 f2
 have b1 : SerIn w10 s (some ⟨gS, 0, none⟩) (some ⟨gP, 0, none⟩) := by first | exact b1 | exact (SerIn.alloc b1 _).below (by assumption) | exact b1.below (by assumption) | exact b1.below belowAny
 have b2 : Blk w10 w4.heap.size #[.string nm, ep, fl, la, sc, .slice (some ⟨gS, 0, none⟩) M capS, .slice (some ⟨gP, 0, none⟩) N capP] 25 := blkAny2
 have b3 : Blk w10 w7.heap.size #[x1, x2] 33 := blkAny2
 have hW : Below w.heap.size w w10 := belowAny
 have z12 := b2.lt
 have z13 := b3.lt
 have k2 := b2.cell
 have f2 := b2.frozen
 have k3 := b3.cell
 have f3 := b3.frozen
 have b4 := hRS
 clear hRS
 have cN := H_cN.out
 go_wp2_with fail
 refine (cN _ gS capS gP capP b1).mono ?_
 rintro e w14 ⟨rfl, hb14⟩
 clear cN
 have z15 := hb14.size
 try simp at z15
 clear k2 f2 k3 f3
 have b1 : SerIn w14 s (some ⟨gS, 0, none⟩) (some ⟨gP, 0, none⟩) := by first | exact b1 | exact (SerIn.alloc b1 _).below (by assumption) | exact b1.below (by assumption) | exact b1.below belowAny
 have b2 : Blk w14 w4.heap.size #[.string nm, ep, fl, la, sc, .slice (some ⟨gS, 0, none⟩) M capS, .slice (some ⟨gP, 0, none⟩) N capP] 25 := blkAny2
 have b3 : Blk w14 w7.heap.size #[x1, x2] 33 := blkAny2
 have b4 : RunsIn w14 pS T := by first | exact hRS | exact b4.below (by assumption) | exact b4.below belowAny
 have hW : Below w.heap.size w w14 := belowAny
 have z16 := b2.lt
 have z17 := b3.lt
 clear hb14
 have k2 := b2.cell
 have f2 := b2.frozen
 have k3 := b3.cell
 have f3 := b3.frozen
 have cC := H_cC.out
 go_wp2_with fail
 refine (cC _ gS capS gP capP b1).mono ?_
 rintro e w18 ⟨rfl, hb18⟩
 clear cC
 have z19 := hb18.size
 try simp at z19
 clear k2 f2 k3 f3
 have b1 : SerIn w18 s (some ⟨gS, 0, none⟩) (some ⟨gP, 0, none⟩) := by first | exact b1 | exact (SerIn.alloc b1 _).below (by assumption) | exact b1.below (by assumption) | exact b1.below belowAny
 have b2 : Blk w18 w4.heap.size #[.string nm, ep, fl, la, sc, .slice (some ⟨gS, 0, none⟩) M capS, .slice (some ⟨gP, 0, none⟩) N capP] 25 := blkAny2
 have b3 : Blk w18 w7.heap.size #[x1, x2] 33 := blkAny2
 have b4 : RunsIn w18 pS T := by first | exact hRS | exact b4.below (by assumption) | exact b4.below belowAny
 have hW : Below w.heap.size w w18 := belowAny
 have z20 := b2.lt
 have z21 := b3.lt
 clear hb18
 have k2 := b2.cell
 have f2 := b2.frozen
 have k3 := b3.cell
 have f3 := b3.frozen
 rcases hcase.out with ⟨rfl, rfl, rfl, rfl, rfl, rfl, rfl⟩ | ⟨rfl, rfl, rfl, rfl, rfl, rfl, hen⟩ | ⟨rfl, rfl, rfl, r0, hr0, hn1, E1, E2, hen⟩
 ·go_wp2
  have y_2 := b2.lt
  have y_3 := b3.lt
  refine bodyPost_ret (v := .bool true) (by simp [results, Tryz.results5, go_sem, k2, f2, k3, f3, y_2, y_3]) rfl ⟨rfl, by exact belowAny⟩
 ·have cB1 := H_cB1.out
  go_wp2_with fail
  refine (cB1 (by trivial) _ gS capS gP capP b1).mono ?_
  rintro e w22 ⟨pA, kA, rfl, hRA, hb22⟩
  clear cB1
  have z23 := hb22.size
  try simp at z23
  clear k2 f2 k3 f3
  have b1 : SerIn w22 s (some ⟨gS, 0, none⟩) (some ⟨gP, 0, none⟩) := by first | exact b1 | exact (SerIn.alloc b1 _).below (by assumption) | exact b1.below (by assumption) | exact b1.below belowAny
  have b2 : Blk w22 w4.heap.size #[.string nm, ep, fl, la, sc, .slice (some ⟨gS, 0, none⟩) M capS, .slice (some ⟨gP, 0, none⟩) N capP] 25 := blkAny2
  have b3 : Blk w22 w7.heap.size #[.int .i64 0, .int .i64 0] 33 := blkAny2
  have b4 : RunsIn w22 pS T := by first | exact hRS | exact b4.below (by assumption) | exact b4.below belowAny
  have hW : Below w.heap.size w w22 := belowAny
  have z24 := b2.lt
  have z25 := b3.lt
  have k2 := b2.cell
  have f2 := b2.frozen
  have k3 := b3.cell
  have f3 := b3.frozen
  have cB2 := H_cB2.out
  go_wp2_with fail
  refine (cB2 (by trivial) _ gS capS gP capP b1).mono ?_
  rintro e w26 ⟨pB, kB, rfl, hRB, hb26⟩
  clear cB2
  have z27 := hb26.size
  try simp at z27
  clear k2 f2 k3 f3
  have b1 : SerIn w26 s (some ⟨gS, 0, none⟩) (some ⟨gP, 0, none⟩) := by first | exact b1 | exact (SerIn.alloc b1 _).below (by assumption) | exact b1.below (by assumption) | exact b1.below belowAny
  have b2 : Blk w26 w4.heap.size #[.string nm, ep, fl, la, sc, .slice (some ⟨gS, 0, none⟩) M capS, .slice (some ⟨gP, 0, none⟩) N capP] 25 := blkAny2
  have b3 : Blk w26 w7.heap.size #[.int .i64 0, .int .i64 0] 33 := blkAny2
  have b4 : RunsIn w26 pS T := by first | exact hRS | exact b4.below (by assumption) | exact b4.below belowAny
  have hW : Below w.heap.size w w26 := belowAny
  have z28 := b2.lt
  have z29 := b3.lt
  have k2 := b2.cell
  have f2 := b2.frozen
  have k3 := b3.cell
  have f3 := b3.frozen
  have b5 := hRB
  clear hRB
  have cE := H_cE.out
  go_wp2_with fail
  refine (cE (by trivial) _ pS kS pB kB b4 b5).mono ?_
  rintro e w30 ⟨rfl, hb30⟩
  clear cE
  have z31 := hb30.size
  try simp at z31
  clear k2 f2 k3 f3
  have b1 : SerIn w30 s (some ⟨gS, 0, none⟩) (some ⟨gP, 0, none⟩) := by first | exact b1 | exact (SerIn.alloc b1 _).below (by assumption) | exact b1.below (by assumption) | exact b1.below belowAny
  have b2 : Blk w30 w4.heap.size #[.string nm, ep, fl, la, sc, .slice (some ⟨gS, 0, none⟩) M capS, .slice (some ⟨gP, 0, none⟩) N capP] 25 := blkAny2
  have b3 : Blk w30 w7.heap.size #[.int .i64 0, .int .i64 0] 33 := blkAny2
  have b4 : RunsIn w30 pS T := by first | exact hRS | exact b4.below (by assumption) | exact b4.below belowAny
  have b5 : RunsIn w30 pB T := by first | exact hRB | exact b5.below (by assumption) | exact b5.below belowAny
  have hW : Below w.heap.size w w30 := belowAny
  have z32 := b2.lt
  have z33 := b3.lt
  clear hb30
  have k2 := b2.cell
  have f2 := b2.frozen
  have k3 := b3.cell
  have f3 := b3.frozen
  rcases hen.out with ⟨rfl, hn⟩ | ⟨rfl, rfl⟩
  ·go_wp2
   have y_2 := b2.lt
   have y_3 := b3.lt
   refine bodyPost_ret (v := .bool true) (by simp [results, Tryz.results5, go_sem, k2, f2, k3, f3, y_2, y_3]) rfl ⟨rfl, by exact belowAny⟩
  ·go_wp2
   have y_2 := b2.lt
   have y_3 := b3.lt
   refine bodyPost_ret (v := .bool true) (by simp [results, Tryz.results5, go_sem, k2, f2, k3, f3, y_2, y_3]) rfl ⟨rfl, by exact belowAny⟩
 ·replace hr0 := Lib.hid hr0
  replace E1 := Lib.hid E1
  replace E2 := Lib.hid E2
  have cB1 := H_cB1.out
  go_wp2_with fail
  refine (cB1 (by trivial) _ gS capS gP capP b1).mono ?_
  rintro e w22 ⟨pA, kA, rfl, hRA, hb22⟩
  clear cB1
  have z23 := hb22.size
  try simp at z23
  clear k2 f2 k3 f3
  have b1 : SerIn w22 s (some ⟨gS, 0, none⟩) (some ⟨gP, 0, none⟩) := by first | exact b1 | exact (SerIn.alloc b1 _).below (by assumption) | exact b1.below (by assumption) | exact b1.below belowAny
  have b2 : Blk w22 w4.heap.size #[.string nm, ep, fl, la, sc, .slice (some ⟨gS, 0, none⟩) M capS, .slice (some ⟨gP, 0, none⟩) N capP] 25 := blkAny2
  have b3 : Blk w22 w7.heap.size #[x1, x2] 33 := blkAny2
  have b4 : RunsIn w22 pS T := by first | exact hRS | exact b4.below (by assumption) | exact b4.below belowAny
  have hW : Below w.heap.size w w22 := belowAny
  have z24 := b2.lt
  have z25 := b3.lt
  have k2 := b2.cell
  have f2 := b2.frozen
  have k3 := b3.cell
  have f3 := b3.frozen
  obtain ⟨ba, oa, rfl, -⟩ := hRA.at' 0 r0 hr0.out
  have hP : RunsP w22 ba oa A := ⟨hRA⟩
  clear hRA
  have b5 := hP
  clear hP
  go_upto_region 14 with (fail)
  clear k2 f2 k3 f3
  refine wp_facts (fun W' => Below w.heap.size w W' /\ SerIn W' s (some ⟨gS, 0, none⟩) (some ⟨gP, 0, none⟩) /\ Blk W' w4.heap.size #[.string nm, ep, fl, la, sc, .slice (some ⟨gS, 0, none⟩) M capS, .slice (some ⟨gP, 0, none⟩) N capP] 25 /\ Blk W' w7.heap.size #[x1, x2] 33 /\ RunsIn W' pS T /\ RunsP W' ba oa A) ⟨by exact belowAny, by first | exact b1 | exact (SerIn.alloc b1 _).below (by assumption) | exact b1.below (by assumption) | exact b1.below belowAny, by exact blkAny2, by exact blkAny2, by first | exact hRS | exact b4.below (by assumption) | exact b4.below belowAny, by first | exact hP | exact b5 | exact b5.below (by assumption) | exact b5.below belowAny⟩ ?_
  clear b1 b2 b3 b4 b5 hW
  rintro W26 ⟨hW, b1, b2, b3, b4, b5⟩
  have z27 := hW.size
  have z28 := b2.lt
  have z29 := b3.lt
  refine wp_region_ndQ 25 145 [] (fun W' => Rex [] W26 W' /\ SerIn W' s (some ⟨gS, 0, none⟩) (some ⟨gP, 0, none⟩) /\ Blk W' w4.heap.size #[.string nm, ep, fl, la, sc, .slice (some ⟨gS, 0, none⟩) M capS, .slice (some ⟨gP, 0, none⟩) N capP] 25 /\ Blk W' w7.heap.size #[x1, x2] 33 /\ RunsIn W' pS T /\ RunsP W' ba oa A) mixed (by kernel_rfl) rfl ⟨(Rex.refl _ _).drew, b1.drew, b2, b3, b4.drew, b5.drew⟩ (fun w w' ⟨h0, h1, h2, h3, h4, h5⟩ hr => ⟨h0.trans hr, h1.rex hr (by simp <;> omega), h2.rex hr (by simp <;> omega), h3.rex hr (by simp <;> omega), h4.rex hr (by simp <;> omega), h5.rex hr (by simp <;> omega)⟩) rfl ?_
  iterate 3
   apply nd_det (hg := rfl) (hal := rfl)
   ·intro a W' hC hE
    obtain ⟨_, k1, k2, k3, k4, k5⟩ := hC
    have k2 := k2.cell
    have k3 := k3.cell
    obtain ⟨q0, q1, q2⟩ := k5.cellAt hr0.out; simp only [Nat.zero_mul, Nat.add_zero] at q0 q1 q2
    first
     | (simp at hE; simp [go_sem, Act.eval, IntWalk.i64_left, hE, k1, k2, k3, k4, k5, q0, q1, q2, hn1, E1.out, E2.out]; try rfl)
     | (clear hE; simp [go_sem, Act.eval, IntWalk.i64_left, k1, k2, k3, k4, k5, q0, q1, q2, hn1, E1.out, E2.out]; try rfl)
  iterate 21
   apply nd_detg (p := true) (hg := rfl) (hd := rfl) (hal := rfl)
   ·intro v W' h
    simp at h
    simp
    exact h
   ·intro hp hx a W' hC hE
    obtain ⟨_, k1, k2, k3, k4, k5⟩ := hC
    have k2 := k2.cell
    have k3 := k3.cell
    obtain ⟨q0, q1, q2⟩ := k5.cellAt hr0.out; simp only [Nat.zero_mul, Nat.add_zero] at q0 q1 q2
    simp [hx] at hE
    simp [go_sem, Act.eval, IntWalk.i64_left, hE, k1, k2, k3, k4, k5, q0, q1, q2, hn1, E1.out, E2.out]
    try rfl
  apply nd_pick_or (ho := rfl) (hg := rfl)
  ·intro v W' h
   simp at h
   exact h
  ·intro v W' h hx
   simp [hx] at h
   exact h
  rintro W30 ⟨hR, d1, d2, d3, d4, d5⟩
  simp only [ndFinR, Det, forall_eq]
  intros
  repeat (rename GDet _ _ _ _ => hgd; clear hgd)
  simp only [Act.put, List.setIfInBounds_toArray, List.set_cons_zero, List.set_cons_succ]
  refine wpList_nil ?_
  replace hW := hW.trans (hR.of_priv hW.size)
  clear hR
  try clear b1 b2 b3 b4 b5
  have b1 := d1
  clear d1
  have b2 := d2
  clear d2
  have b3 := d3
  clear d3
  have b4 := d4
  clear d4
  have b5 := d5
  clear d5
  have z31 := hW.size
  clear b5
  have k2 := b2.cell
  have f2 := b2.frozen
  have k3 := b3.cell
  have f3 := b3.frozen
  have cB2 := H_cB2.out
  go_wp2_with fail
  refine (cB2 (by trivial) _ gS capS gP capP b1).mono ?_
  rintro e w32 ⟨pB, kB, rfl, hRB, hb32⟩
  clear cB2
  have z33 := hb32.size
  try simp at z33
  clear k2 f2 k3 f3
  have b1 : SerIn w32 s (some ⟨gS, 0, none⟩) (some ⟨gP, 0, none⟩) := by first | exact b1 | exact (SerIn.alloc b1 _).below (by assumption) | exact b1.below (by assumption) | exact b1.below belowAny
  have b2 : Blk w32 w4.heap.size #[.string nm, ep, fl, la, sc, .slice (some ⟨gS, 0, none⟩) M capS, .slice (some ⟨gP, 0, none⟩) N capP] 25 := blkAny2
  have b3 : Blk w32 w7.heap.size #[x1, x2] 33 := blkAny2
  have b4 : RunsIn w32 pS T := by first | exact hRS | exact b4.below (by assumption) | exact b4.below belowAny
  have hW : Below w.heap.size w w32 := belowAny
  have z34 := b2.lt
  have z35 := b3.lt
  have k2 := b2.cell
  have f2 := b2.frozen
  have k3 := b3.cell
  have f3 := b3.frozen
  have b5 := hRB
  clear hRB
  have cE := H_cE.out
  go_wp2_with fail
  refine (cE (by trivial) _ pS kS pB kB b4 b5).mono ?_
  rintro e w36 ⟨rfl, hb36⟩
  clear cE
  have z37 := hb36.size
  try simp at z37
  clear k2 f2 k3 f3
  have b1 : SerIn w36 s (some ⟨gS, 0, none⟩) (some ⟨gP, 0, none⟩) := by first | exact b1 | exact (SerIn.alloc b1 _).below (by assumption) | exact b1.below (by assumption) | exact b1.below belowAny
  have b2 : Blk w36 w4.heap.size #[.string nm, ep, fl, la, sc, .slice (some ⟨gS, 0, none⟩) M capS, .slice (some ⟨gP, 0, none⟩) N capP] 25 := blkAny2
  have b3 : Blk w36 w7.heap.size #[x1, x2] 33 := blkAny2
  have b4 : RunsIn w36 pS T := by first | exact hRS | exact b4.below (by assumption) | exact b4.below belowAny
  have b5 : RunsIn w36 pB T := by first | exact hRB | exact b5.below (by assumption) | exact b5.below belowAny
  have hW : Below w.heap.size w w36 := belowAny
  have z38 := b2.lt
  have z39 := b3.lt
  clear hb36
  have k2 := b2.cell
  have f2 := b2.frozen
  have k3 := b3.cell
  have f3 := b3.frozen
  rcases hen.out with ⟨rfl, hn⟩ | ⟨rfl, rfl⟩
  ·go_wp2
   have y_2 := b2.lt
   have y_3 := b3.lt
   refine bodyPost_ret (v := .bool true) (by simp [results, Tryz.results5, go_sem, k2, f2, k3, f3, y_2, y_3]) rfl ⟨rfl, by exact belowAny⟩
  ·go_wp2
   have y_2 := b2.lt
   have y_3 := b3.lt
   refine bodyPost_ret (v := .bool true) (by simp [results, Tryz.results5, go_sem, k2, f2, k3, f3, y_2, y_3]) rfl ⟨rfl, by exact belowAny⟩
end Go.Proofs.YtidfcoooccblaaaGreat
namespace Go.Proofs.YtidfcoooccblaaaGreat
open Go.RowKit
theorem riseB_pair : ∀ {l : List Int} {b : Int}, riseB b l = true -> l.Pairwise (· < ·) /\ ∀ t, t ∈ l -> b < t
 | [], _, _ => ⟨List.Pairwise.nil, fun t h => by simp at h⟩
 | y :: l, b, h => by
  simp only [riseB, Bool.and_eq_true, decide_eq_true_eq] at h
  obtain ⟨h1, h2⟩ := riseB_pair h.2
  refine ⟨List.Pairwise.cons h2 h1, fun t ht => ?_⟩
  rcases List.mem_cons.1 ht with rfl | ht
  ·exact h.1
  ·have := h2 t ht; omega
theorem map_pts1 {s : SegT} (hs : segB s = true) : (ptsL s).map (·.1) = timesL s.runs := by
 have h1 := length_times (segB_runs hs)
 have h2 := length_vals hs
 unfold ptsL
 rw [List.map_fst_zip]
 omega
def selT (a b t : Int) : Bool := decide (a <= t) && decide (t <= b)
theorem sel_times (a b : Int) (E : Int) (l : List (Int × Int)) : ((l.filter (selB a b)).map fun p => (p.1, p.2, E)).map (·.1) = (l.map (·.1)).filter (selT a b) := by
 rw [List.map_map, List.filter_map]
 rfl
theorem told_times {s : SerT} (hv : ∀ x, x ∈ s.segs -> segB x = true) (a b : Int) : (toldL s a b).map (·.1) = (timesS s).filter (selT (mx a s.floor) b) := by
 unfold toldL timesS
 rw [List.map_append, List.filter_append]
 congr 1
 ·rw [List.map_flatMap, List.filter_flatMap]
  have : ∀ l : List SegT, (∀ x, x ∈ l -> segB x = true) -> l.flatMap (fun x => (segBk (mx a s.floor) b x).map (·.1)) = l.flatMap fun x => (timesL x.runs).filter (selT (mx a s.floor) b) := by
   intro l
   induction l with
   | nil => intro _; rfl
   | cons x l ih =>
    intro h
    rw [List.flatMap_cons, List.flatMap_cons, ih (fun y hy => h y (List.mem_cons_of_mem _ hy))]
    congr 1
    unfold segBk
    rw [sel_times, map_pts1 (h x (List.mem_cons_self ..))]
  exact this _ hv
 ·unfold opnBk
  exact sel_times _ _ _ _
theorem told_one {s : SerT} (hc : checkB s = true) (a : Int) : (toldL s a a).length <= 1 := by
 have hv := chk_segs hc
 have hr : riseB (-1) (timesS s) = true := by
  unfold checkB at hc
  simp only [Bool.and_eq_true] at hc
  exact hc.2.2.2.2.2.1
 have h1 := ((riseB_pair hr).1.filter (selT (mx a s.floor) a))
 rw [<- told_times hv a a] at h1
 have h2 : ∀ t, t ∈ (toldL s a a).map (·.1) -> t = a := by
  intro t ht
  rw [told_times hv a a] at ht
  have := (List.mem_filter.1 ht).2
  simp only [selT, Bool.and_eq_true, decide_eq_true_eq] at this
  have := mx_spec a s.floor
  omega
 have h3 : ((toldL s a a).map (·.1)).length <= 1 := by
  revert h1 h2
  generalize (toldL s a a).map (·.1) = l
  intro h1 h2
  match l, h1, h2 with
  | [], _, _ => simp
  | [x], _, _ => simp
  | x :: y :: l, h1, h2 =>
   have e1 := h2 x (by simp)
   have e2 := h2 y (by simp)
   have := (List.pairwise_cons.1 h1).1 y (by simp)
   omega
 rw [List.length_map] at h3
 exact h3
structure Since (w W : World) : Prop where
 b : Below w.heap.size w W
theorem Since.on {w W W' : World} (h : Since w W) (hb : Below W.heap.size W W') : Since w W' := ⟨h.b.trans (hb.mono h.b.size)⟩
theorem Since.set {w W : World} (h : Since w W) {g i : Nat} (hg : w.heap.size <= g) (v : Value) : Since w (W.setCell ⟨g, i, none⟩ v) := ⟨h.b.setCell hg v⟩

end Go.Proofs.YtidfcoooccblaaaGreat
