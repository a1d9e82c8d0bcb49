/- Parts of the proof that follows: All points of a segment, collected. No condition. | seg.Points, told. No condition. | Points in memory; which of them lie within a span, plainly. No condition. | seg.Far$1, walked: how far a segment is from points. No condition. | seg.Far, Holds, told. No condition. | Binary digits, plainly, from the lowest on. No condition. | The references' numbers: Size, power. | The references' numbers: trim. | The references' numbers: plus. | The references' numbers: minus. -/
import Derived.Test.YtgblmlefmohgnaaGreatFar8
set_option linter.unusedSimpArgs false
set_option linter.unusedVariables false
namespace Go.Proofs.YtgblmlefmohgnaaGreat
open Go.RowKit Go.Shelf
attribute [local go_sem] Oper.semAt_some
def flatPts (l : List (Int × Int)) : List Value := l.flatMap fun x => [.int .i64 x.1, .int .i64 x.2]
theorem flatPts_snoc (l : List (Int × Int)) (x : Int × Int) : flatPts (l ++ [x]) = flatPts l ++ [.int .i64 x.1, .int .i64 x.2] := by simp [flatPts]
theorem Tryz.infoPoint : (Tryz.prog.info? 58).map (fun i => (i.zero, i.size, i.bytes)) = some (some (.agg #[.int .i64 0, .int .i64 0]), 2, 16) := by kernel_rfl
theorem cell_two_new (W : World) (a b : Value) (t : TypeId) (j : Nat) (u : Value) (h : [a, b][j]? = some u) : (W.alloc (.cells #[a, b] t)).cell? ((⟨W.heap.size, 0, none⟩ : Addr).add j) = some u := by
  have hb : Blk (W.alloc (.cells #[a, b] t)) W.heap.size #[a, b] t := Blk.new' rfl
  have hadd : (⟨W.heap.size, 0, none⟩ : Addr).add j = ⟨W.heap.size, j, none⟩ := by unfold Addr.add; split <;> simp_all
  rw [hadd, hb.cell]
  simpa using h
theorem blk_own {β : Type} (B : Nat) (t : TypeId) (f : β → Array Value) : Own (fun s W => Blk W B (f s) t) := fun s X Y row hs hg hrow => by
  refine (hg.block B hs.lt fun e => ?_).trans hs
  obtain ⟨o, ho, hc⟩ := hrow B e.symm
  rw [show X.heap[B]? = _ from hs] at ho; cases ho; cases hc
set_option maxRecDepth 100000 in
set_option maxHeartbeats 2000000 in
theorem points_w (K A R n d E : Int) (p q : Option Addr) (len cap m vc : Nat) (w : World) : Calls Tryz.prog 63 #[.agg #[.int .i64 K, .slice p len cap, .int .i64 A, .int .i64 R, .int .i64 n, .int .i64 d, .slice q m vc, .int .i64 E]] w fun e w' => e = .returned (.func (.func 106) #[] #[.pointer (some ⟨w.heap.size, 0, none⟩)]) ∧ w' = w.alloc (.cells #[.int .i64 K, .slice p len cap, .int .i64 A, .int .i64 R, .int .i64 n, .int .i64 d, .slice q m vc, .int .i64 E] 78) := by
  have hmf : ∀ (fn : Fn) (first cap : Array Value) (w : World), (Instr.makeFunc fn first cap).run Tryz.prog w = .ok (.func fn first cap) w := fun _ _ _ _ => rfl
  go_enter Tryz.func63, Tryz.ntmps63
  go_wp2
  go_ret
  exact ⟨rfl, rfl⟩
theorem RunsIn.keep {w A B : World} {p : Option Addr} {l : List RunT} (h : RunsIn w p l) (hb : Below w.heap.size A B) (ha : RunsIn A p l) : RunsIn B p l := ⟨fun i r hr => by
  obtain ⟨b, o, e, k0, k1, k2⟩ := ha.at' i r hr
  obtain ⟨b', o', e', q0, _⟩ := h.at' i r hr
  rw [e] at e'
  injection e' with e'
  injection e' with e1 e2
  subst e1
  have hlt := cell_lt q0
  exact ⟨b, o, e, (hb.cell (p := ⟨b, _, none⟩) hlt).trans k0, (hb.cell (p := ⟨b, _, none⟩) hlt).trans k1, (hb.cell (p := ⟨b, _, none⟩) hlt).trans k2⟩⟩
theorem IntsIn.keep {w A B : World} {p : Option Addr} {l : List Int} (h : IntsIn w p l) (hb : Below w.heap.size A B) (ha : IntsIn A p l) : IntsIn B p l := ⟨fun i r hr => by
  obtain ⟨b, o, e, k0⟩ := ha.at' i r hr
  obtain ⟨b', o', e', q0⟩ := h.at' i r hr
  rw [e] at e'
  injection e' with e'
  injection e' with e1 e2
  subst e1
  exact ⟨b, o, e, (hb.cell (p := ⟨b, _, none⟩) (cell_lt q0)).trans k0⟩⟩
theorem SegIn.keep {w A B : World} {s : SegT} {p q : Option Addr} (h : SegIn w s p q) (hb : Below w.heap.size A B) (ha : SegIn A s p q) : SegIn B s p q := ⟨h.runs.keep hb ha.runs, h.raw.keep hb ha.raw, h.fewR, h.fewV⟩
/-- All points, in an array of its own. -/
def PtsIs (s : SegT) (B : Nat) (v : Value) (w : World) : Prop := w.ownsRow B 58 2 v (ptsL s).length (flatPts (ptsL s))
end Go.Proofs.YtgblmlefmohgnaaGreat
namespace Go.Proofs.YtgblmlefmohgnaaGreat
open Go.RowKit
end Go.Proofs.YtgblmlefmohgnaaGreat
namespace Go.Proofs.YtgblmlefmohgnaaGreat
open Go.RowKit

/-- As blkAny, but quick where a great world has been written into. -/
theorem blkAny2 {w : World} {b : Nat} {cs : Array Value} {t : TypeId} (h : Blk w b cs t := by repeat (first | with_reducible assumption | with_reducible (apply Blk.set2) | with_reducible (apply Blk.setO) | ((with_reducible (show _ ≠ _)); omega) | with_reducible (refine Blk.new2 (by first | rfl | (simp; done) | (simp; omega) | omega) ?_) | with_reducible (refine Blk.alloc ?_ _) | with_reducible (refine Blk.calls ?_ (by assumption)) | with_reducible (refine Blk.rex ?_ (by assumption) (by first | (simp; done) | (simp; omega))) | ((with_reducible (show @Eq (Array Value) _ _)); rfl) | ((with_reducible (show @Eq Obj _ _)); rfl))) : Blk w b cs t := h
structure PtsIn (w : World) (p : Option Addr) (l : List (Int × Int)) : Prop where
  at' : ∀ (i : Nat) (x : Int × Int), l[i]? = some x → ∃ b o, p = some ⟨b, o, none⟩ ∧ w.cell? ⟨b, o + i * 2, none⟩ = some (.int .i64 x.1) ∧ w.cell? ⟨b, o + i * 2 + 1, none⟩ = some (.int .i64 x.2)
theorem PtsIn.below {w w' : World} {p : Option Addr} {l : List (Int × Int)} (h : PtsIn w p l) (hb : Below w.heap.size w w') : PtsIn w' p l := ⟨fun i r hr => by
  obtain ⟨b, o, e, h1, h2⟩ := h.at' i r hr
  exact ⟨b, o, e, (hb.cell (p := ⟨b, _, none⟩) (cell_lt h1)).trans h1, (hb.cell (p := ⟨b, _, none⟩) (cell_lt h1)).trans h2⟩⟩
theorem PtsIn.alloc {w : World} {p : Option Addr} {l : List (Int × Int)} (h : PtsIn w p l) (o : Obj) : PtsIn (w.alloc o) p l := h.below ((Below.refl _ _).alloc (Nat.le_refl _) o)
theorem PtsIn.calls {w w' : World} {p : Option Addr} {l : List (Int × Int)} (h : PtsIn w p l) (hb : Below w.heap.size w w') : PtsIn w' p l := h.below hb
theorem PtsIn.set' {w : World} {p : Option Addr} {o i : Nat} {v : Value} {l : List (Int × Int)} (h : PtsIn w p l) (hne : ∀ a, p = some a → a.block ≠ o) : PtsIn (w.setCell ⟨o, i, none⟩ v) p l := ⟨fun k r hr => by
  obtain ⟨b, y, e, h1, h2⟩ := h.at' k r hr
  have hc : ∀ z, (w.setCell ⟨o, i, none⟩ v).cell? ⟨b, z, none⟩ = w.cell? ⟨b, z, none⟩ := by
    intro z
    have := heap_setCell_other w ⟨o, i, none⟩ b v (hne _ e)
    simp only [World.cell?, this]
  exact ⟨b, y, e, (hc _).trans h1, (hc _).trans h2⟩⟩
theorem PtsIn.set {w : World} {g x o i : Nat} {v : Value} {l : List (Int × Int)} (h : PtsIn w (some ⟨g, x, none⟩) l) (hne : g ≠ o) : PtsIn (w.setCell ⟨o, i, none⟩ v) (some ⟨g, x, none⟩) l := h.set' fun a e => by cases e; exact hne
theorem PtsIn.drew {w : World} {p : Option Addr} {l : List (Int × Int)} (h : PtsIn w p l) : PtsIn w.drew p l := ⟨h.at'⟩
theorem PtsIn.rex {L : List Nat} {w w' : World} {p : Option Addr} {l : List (Int × Int)} (h : PtsIn w p l) (hr : Rex L w w') (hL : L = []) : PtsIn w' p l := by subst hL; exact h.below hr.below
theorem ptsAny {w : World} {p : Option Addr} {l : List (Int × Int)} (h : PtsIn w p l := by repeat (first | with_reducible assumption | with_reducible (refine PtsIn.alloc ?_ _) | with_reducible (refine PtsIn.set ?_ (by first | omega | (simp; done) | (simp; omega))) | with_reducible (refine PtsIn.calls ?_ (by assumption)))) : PtsIn w p l := h
theorem flatPts_at : ∀ (l : List (Int × Int)) (i : Nat) (x : Int × Int), l[i]? = some x → (flatPts l)[i * 2]? = some (.int .i64 x.1) ∧ (flatPts l)[i * 2 + 1]? = some (.int .i64 x.2)
  | [], i, x, h => by simp at h
  | y :: l, 0, x, h => by
    simp at h
    subst h
    exact ⟨rfl, rfl⟩
  | y :: l, i + 1, x, h => by
    obtain ⟨a, b⟩ := flatPts_at l i x (by simpa using h)
    have e : flatPts (y :: l) = .int .i64 y.1 :: .int .i64 y.2 :: flatPts l := rfl
    rw [e, show (i + 1) * 2 = i * 2 + 1 + 1 by omega]
    exact ⟨by simpa using a, by simpa using b⟩
theorem length_flatPts (l : List (Int × Int)) : (flatPts l).length = l.length * 2 := by
  induction l with
  | nil => rfl
  | cons x l ih => show (_ :: _ :: flatPts l).length = _; simp [ih]; omega
theorem pts_in {w : World} {g n : Nat} {t : TypeId} {cur : Array Value} {l : List (Int × Int)} (hb : Blk w g cur t) (ht : cur.toList.take n = flatPts l) : PtsIn w (some ⟨g, 0, none⟩) l := ⟨fun i x hx => by
  obtain ⟨a, b⟩ := flatPts_at l i x hx
  refine ⟨g, 0, rfl, ?_, ?_⟩
  · rw [hb.cell, Nat.zero_add]; exact row_take ht a
  · rw [hb.cell, Nat.zero_add]; exact row_take ht b⟩

/-- The values of the points from a to b. -/
def selB (a b : Int) (x : Int × Int) : Bool := decide (a ≤ x.1) && decide (x.1 ≤ b)
def selL (a b : Int) (l : List (Int × Int)) : List Int := (l.filter (selB a b)).map (·.2)
theorem map_pts {s : SegT} (hs : segB s = true) : (ptsL s).map (·.2) = vals s := by
  have h1 := length_times (segB_runs hs)
  have h2 := length_vals hs
  unfold ptsL
  rw [List.map_snd_zip]
  omega
end Go.Proofs.YtgblmlefmohgnaaGreat
namespace Go.Proofs.YtgblmlefmohgnaaGreat
open Go.RowKit Go.Shelf
attribute [local go_sem] Oper.semAt_some
set_option maxRecDepth 100000 in
set_option maxHeartbeats 2000000 in
theorem far1_len (K A R n d E : Int) (p q : Option Addr) (len cap m vc : Nat) (w : World) (gp len2 cp : Nat) (pp : Option Addr) (c : Int) (hne : ((len2 : Int) != c) = true) (hgp : Blk w gp #[.slice pp len2 cp] 39) (hl2 : len2 ≤ 9223372036854775807)
    (c1 : ∀ W, Below w.heap.size w W → Calls Tryz.prog 58 #[.slice p len cap] W fun e w' => e = .returned (.int .i64 c) ∧ Below W.heap.size W w') :
    Calls Tryz.prog 65 #[.agg #[.int .i64 K, .slice p len cap, .int .i64 A, .int .i64 R, .int .i64 n, .int .i64 d, .slice q m vc, .int .i64 E], .pointer (some ⟨gp, 0, none⟩)] w fun e w' => e = .returned (.tuple #[.int .i64 0, .int .i64 2]) ∧ Below w.heap.size w w' := by
  have H_c1 := Lib.hid c1
  clear c1
  go_enter Tryz.func65, Tryz.ntmps65
  go_upto_region 1 with (fail)
  refine wp_facts (fun W' => Below w.heap.size w W' ∧ Blk W' w.heap.size #[.int .i64 K, .slice p len cap, .int .i64 A, .int .i64 R, .int .i64 n, .int .i64 d, .slice q m vc, .int .i64 E] 78 ∧ Blk W' (w.heap.size + 1) #[.int .i64 0] 2 ∧ Blk W' (w.heap.size + 1 + 1) #[.int .i64 0] 35 ∧ Blk W' gp #[.slice pp len2 cp] 39) ⟨by exact belowAny, by exact blkAny2, by exact blkAny2, by exact blkAny2, by exact blkAny2⟩ ?_
  rintro W1 ⟨hW, b1, b2, b3, b4⟩
  have z2 := hW.size
  have z3 := b1.lt
  have z4 := b2.lt
  have z5 := b3.lt
  have z6 := b4.lt
  have c1 := H_c1.out
  refine wp_region_nd 7 49 [] (fun W' => Rex [] W1 W' ∧ Blk W' w.heap.size #[.int .i64 K, .slice p len cap, .int .i64 A, .int .i64 R, .int .i64 n, .int .i64 d, .slice q m vc, .int .i64 E] 78 ∧ Blk W' (w.heap.size + 1) #[.int .i64 0] 2 ∧ Blk W' (w.heap.size + 1 + 1) #[.int .i64 0] 35 ∧ Blk W' gp #[.slice pp len2 cp] 39) mixed (by kernel_rfl) rfl ⟨(Rex.refl _ _).drew, b1, b2, b3, b4⟩ (fun w w' ⟨h0, h1, h2, h3, h4⟩ hr => ⟨h0.trans hr, h1.rex hr (by simp <;> omega), h2.rex hr (by simp <;> omega), h3.rex hr (by simp <;> omega), h4.rex hr (by simp <;> omega)⟩) (fun c a d v w h => by cases d <;> exact h) ?_
  iterate 5
    apply nd_det (hg := rfl) (hal := rfl)
    · intro a W' hC hE
      obtain ⟨_, k1, k2, k3, k4⟩ := hC
      have k1 := k1.cell
      have k2 := k2.cell
      have k3 := k3.cell
      have k4 := k4.cell
      first
        | (simp [Oper.looksAt, Op.operands, Call.operands, envOf, Det] at hE; simp [go_sem, Act.eval, IntWalk.i64_left, hE, k1, k2, k3, k4]; try rfl)
        | (clear hE; simp [go_sem, Act.eval, IntWalk.i64_left, k1, k2, k3, k4]; try rfl)
  refine nd_callv2 rfl rfl (fun W' hC => c1 W' (hW.trans (hC.1.of_priv hW.size))) (fun a W' hC hE => ?_) ?_
  · obtain ⟨_, k1, k2, k3, k4⟩ := hC
    have k1 := k1.cell
    have k2 := k2.cell
    have k3 := k3.cell
    have k4 := k4.cell
    first
      | (simp [Oper.looksAt, Op.operands, Call.operands, envOf, Det] at hE; simp [go_sem, Act.eval, IntWalk.i64_left, hE, k1, k2, k3, k4]; try rfl)
      | (clear hE; simp [go_sem, Act.eval, IntWalk.i64_left, k1, k2, k3, k4]; try rfl)
  iterate 1
    apply nd_det (hg := rfl) (hal := rfl)
    · intro a W' hC hE
      obtain ⟨_, k1, k2, k3, k4⟩ := hC
      have k1 := k1.cell
      have k2 := k2.cell
      have k3 := k3.cell
      have k4 := k4.cell
      first
        | (simp [Oper.looksAt, Op.operands, Call.operands, envOf, Det] at hE; simp [go_sem, Act.eval, IntWalk.i64_left, hE, k1, k2, k3, k4]; try rfl)
        | (clear hE; simp [go_sem, Act.eval, IntWalk.i64_left, k1, k2, k3, k4]; try rfl)
  rintro W7 ⟨hR, d1, d2, d3, d4⟩
  simp only [ndFinR, Det, forall_eq]
  intros
  repeat (rename GDet _ _ _ _ => hgd; clear hgd)
  simp only [Act.put, List.setIfInBounds_toArray, List.set_cons_zero, List.set_cons_succ]
  refine wpList_nil ?_
  replace hW := hW.trans (hR.of_priv hW.size)
  clear hR
  clear c1
  try clear b1 b2 b3 b4
  have b1 := d1
  clear d1
  have b2 := d2
  clear d2
  have b3 := d3
  clear d3
  have b4 := d4
  clear d4
  have k1 := b1.cell
  have f1 := b1.frozen
  have k2 := b2.cell
  have f2 := b2.frozen
  have k3 := b3.cell
  have f3 := b3.frozen
  have k4 := b4.cell
  have f4 := b4.frozen
  go_wp2
  have y_1 := b1.lt
  have y_2 := b2.lt
  have y_3 := b3.lt
  have y_4 := b4.lt
  refine bodyPost_ret (v := .tuple #[.int .i64 0, .int .i64 2]) (by simp [results, Tryz.results65, go_sem, k1, f1, k2, f2, k3, f3, k4, f4, y_1, y_2, y_3, y_4]) rfl ⟨rfl, by exact belowAny⟩
/-- A point of a segment, and one that is held against it. -/
def okZ (z : (Int × Int) × (Int × Int)) : Bool := (z.2.1 == z.1.1) && isBack z.2.2
def farStep (f : Int) (z : (Int × Int) × (Int × Int)) : Int := mx (mx f (wrap64 (z.2.2 - z.1.2))) (wrap64 (z.1.2 - z.2.2))
def farOf (l : List ((Int × Int) × (Int × Int))) : Int := l.foldl farStep 0
theorem farOf_snoc (l : List ((Int × Int) × (Int × Int))) (z : (Int × Int) × (Int × Int)) : farOf (l ++ [z]) = mx (mx (farOf l) (wrap64 (z.2.2 - z.1.2))) (wrap64 (z.1.2 - z.2.2)) := by simp [farOf, farStep]
theorem zip_snoc {pre : List (Int × Int)} {x y : Int × Int} {pts : List (Int × Int)} (h : pts[pre.length]? = some y) : (pre ++ [x]).zip pts = pre.zip pts ++ [(x, y)] := by
  have hlt := (List.getElem?_eq_some_iff.1 h).1
  conv => lhs; rw [← List.take_append_drop pre.length pts]
  rw [List.zip_append (by simp; omega)]
  have e : pts.drop pre.length = y :: pts.drop (pre.length + 1) := by
    rw [List.drop_eq_getElem_cons hlt]
    congr 1
    rw [List.getElem?_eq_getElem hlt] at h
    injection h
  rw [e]
  simp
  conv => rhs; rw [← List.take_append_drop pre.length pts]
  conv => rhs; rw [show pre = pre ++ [] by simp]
  rw [List.zip_append (by simp; omega)]
  simp
/-- What a round of the loop keeps for the points' sake: what lay below, and all cells from a block on. -/
structure KF (B0 n₀ : Nat) (A B : World) : Prop where
  below : Below B0 A B
  rest : ∀ (b : Nat) (cs : Array Value) (t : TypeId) (f : Nat × Nat), n₀ ≤ b → A.heap[b]? = some (.cells cs t f) → B.heap[b]? = some (.cells cs t f)
theorem KF.refl (B0 n₀ : Nat) (A : World) : KF B0 n₀ A A := ⟨Below.refl _ _, fun _ _ _ _ _ h => h⟩
theorem KF.trans {B0 n₀ : Nat} {A B C : World} (h : KF B0 n₀ A B) (k : KF B0 n₀ B C) : KF B0 n₀ A C := ⟨h.below.trans k.below, fun b cs t f hb ha => k.rest b cs t f hb (h.rest b cs t f hb ha)⟩
theorem KF.alloc {B0 n₀ : Nat} {A B : World} (h : KF B0 n₀ A B) (hB : B0 ≤ B.heap.size) (o : Obj) : KF B0 n₀ A (B.alloc o) := ⟨h.below.alloc hB o, fun b cs t f hb ha => (Below.heap_alloc B o b (lt_of_heap (h.rest b cs t f hb ha))).trans (h.rest b cs t f hb ha)⟩
theorem KF.set {B0 n₀ : Nat} {A B : World} (h : KF B0 n₀ A B) {g i : Nat} (h1 : B0 ≤ g) (h2 : g < n₀) (v : Value) : KF B0 n₀ A (B.setCell ⟨g, i, none⟩ v) := ⟨h.below.setCell (p := ⟨g, i, none⟩) h1 v, fun b cs t f hb ha => (Below.heap_setCell B ⟨g, i, none⟩ v b (by simp; omega)).trans (h.rest b cs t f hb ha)⟩
theorem KF.calls {B0 n₀ : Nat} {A B C : World} (h : KF B0 n₀ A B) (hb : Below B.heap.size B C) (hB : B0 ≤ B.heap.size) : KF B0 n₀ A C := ⟨h.below.trans (hb.mono hB), fun b cs t f hn ha => (hb.block b (lt_of_heap (h.rest b cs t f hn ha))).trans (h.rest b cs t f hn ha)⟩
theorem KF.putObj {B0 n₀ : Nat} {w : World} (hB : B0 ≤ w.heap.size) (W : World) (l : Nat) (o o' : Obj) (hl : w.heap.size ≤ l) (h : W.heap[l]? = some o) (h1 : o.isCells = false) (h2 : o.isWalk = false) : KF B0 n₀ W (W.putObj l o') :=
  ⟨belowK_b hB W l o o' hl h h1 h2, fun b cs t f _ ha => keepsT_putObj o' h h1 b cs f ha⟩
theorem KeepsOthers.calls {A B C : World} (h : KeepsOthers A B) (hb : Below B.heap.size B C) : KeepsOthers A C := ⟨Nat.le_trans h.size hb.size, fun k o hk ho => by
  have e := h.same k o hk ho
  exact (hb.block k (lt_of_heap (e))).trans e⟩
def farR (s : SegT) (pts : List (Int × Int)) : Int × Int := if pts.length = (ptsL s).length then (if ((ptsL s).zip pts).all okZ then (farOf ((ptsL s).zip pts), 0) else (0, 2)) else (0, 2)
def FarOut (s : SegT) (pts : List (Int × Int)) (w : World) (e : Ending) (w' : World) : Prop := e = .returned (.tuple #[.int .i64 (farR s pts).1, .int .i64 (farR s pts).2]) ∧ Below w.heap.size w w'
theorem keepsAny {A B : World} (h : KeepsOthers A B := by repeat (first | with_reducible (exact KeepsOthers.refl _) | with_reducible (refine KeepsOthers.trans ?_ (KeepsOthers.setCell _ _ _)) | with_reducible (refine KeepsOthers.trans ?_ (KeepsOthers.alloc _ _)) | with_reducible (refine KeepsOthers.calls ?_ (by assumption)))) : KeepsOthers A B := h
theorem kfAny {B0 n₀ : Nat} {A B : World} (h : KF B0 n₀ A B := by repeat (first | with_reducible (exact KF.refl _ _ _) | with_reducible (refine KF.set ?_ (by omega) (by omega) _) | with_reducible (refine KF.alloc ?_ (by omega) _) | with_reducible (refine KF.calls ?_ (by assumption) (by first | omega | (simp; omega))))) : KF B0 n₀ A B := h
theorem all_prefix {pre l : List (Int × Int)} {pts : List (Int × Int)} (h : pre <+: l) (ha : (pre.zip pts).all okZ = false) : (l.zip pts).all okZ = false := by
  obtain ⟨t, rfl⟩ := h
  conv => lhs; rw [← List.take_append_drop pre.length pts]
  by_cases hlt : pre.length ≤ pts.length
  · rw [List.zip_append (by simp; omega), List.all_append]
    have : pre.zip (pts.take pre.length) = pre.zip pts := by
      conv => rhs; rw [← List.take_append_drop pre.length pts]
      conv => rhs; rw [show pre = pre ++ [] by simp]
      rw [List.zip_append (by simp; omega)]
      simp
    rw [this, ha]
    rfl
  · rw [List.take_of_length_le (by omega), List.drop_eq_nil_of_le (by omega), List.append_nil]
    have e : (pre ++ t).zip pts = pre.zip pts := by
      conv => lhs; rw [show pts = pts ++ [] by simp]
      have : (pre ++ t).zip pts = pre.zip pts := by
        clear ha
        induction pre generalizing pts with
        | nil => simp at hlt
        | cons a pre ih =>
          cases pts with
          | nil => simp
          | cons b pts => simp; exact ih (by simp at hlt; omega)
      simpa using this
    rw [e, ha]
set_option maxRecDepth 100000 in
set_option maxHeartbeats 8000000 in
theorem far1_w (s : SegT) (p q : Option Addr) (cap vc : Nat) (w : World) (hs : segB s = true) (hin : SegIn w s p q) (gp cp : Nat) (pp : Option Addr) (pts : List (Int × Int)) (hn : pts.length = (ptsL s).length) (hgp : Blk w gp #[.slice pp pts.length cp] 39) (hP : PtsIn w pp pts) (hI64 : ∀ x, x ∈ pts → I64 x.2) :
    CallsIn Fence.wide 4 Tryz.prog 65 #[.agg (segA s p q cap vc), .pointer (some ⟨gp, 0, none⟩)] w (FarOut s pts w) := by
  have hl := segB_runs hs
  have hcnt := cnt_pos hl
  have hlen := length_pts hs
  have H_c1 := Lib.hid (fun W (hW : Below w.heap.size w W) => c_rcount_ok p cap s.runs W hl (hin.runs.below hW))
  have hne : ((pts.length : Int) != cnt s.runs) = false := by rw [hn, hlen]; simp
  have HN := Lib.hid hn
  have HL := Lib.hid hlen
  replace hI64 := Lib.hid hI64
  clear hn hlen
  unfold segA
  refine callsIn_of_wp_marks Tryz.func65 rfl trivial ?_ rfl
  simp only [Tryz.ntmps65, List.size_toArray, List.length_cons, List.length_nil, Nat.reduceAdd, Nat.reduceSub, Array.replicate_succ, Array.replicate_zero, List.push_toArray, List.append_toArray, List.nil_append, List.cons_append]
  gi_wp2
  refine wpIn_wide.2 ?_
  refine wp_facts (fun W' => Below w.heap.size w W' ∧ Blk W' w.heap.size #[.int .i64 s.K, .slice p s.runs.length cap, .int .i64 s.A, .int .i64 s.R, .int .i64 s.n, .int .i64 s.d, .slice q s.raw.length vc, .int .i64 s.E] 78 ∧ Blk W' (w.heap.size + 1) #[.int .i64 0] 2 ∧ Blk W' (w.heap.size + 1 + 1) #[.int .i64 0] 35 ∧ Blk W' gp #[.slice pp pts.length cp] 39) ⟨by exact belowAny, by exact blkAny2, by exact blkAny2, by exact blkAny2, by exact blkAny2⟩ ?_
  rintro W1 ⟨hW, b1, b2, b3, b4⟩
  have z2 := hW.size
  have z3 := b1.lt
  have z4 := b2.lt
  have z5 := b3.lt
  have z6 := b4.lt
  have c1 := H_c1.out
  refine wp_region_ndQ 7 49 [] (fun W' => Rex [] W1 W' ∧ Blk W' w.heap.size #[.int .i64 s.K, .slice p s.runs.length cap, .int .i64 s.A, .int .i64 s.R, .int .i64 s.n, .int .i64 s.d, .slice q s.raw.length vc, .int .i64 s.E] 78 ∧ Blk W' (w.heap.size + 1) #[.int .i64 0] 2 ∧ Blk W' (w.heap.size + 1 + 1) #[.int .i64 0] 35 ∧ Blk W' gp #[.slice pp pts.length cp] 39) mixed (by kernel_rfl) rfl ⟨(Rex.refl _ _).drew, b1, b2, b3, b4⟩ (fun w w' ⟨h0, h1, h2, h3, h4⟩ hr => ⟨h0.trans hr, h1.rex hr (by simp <;> omega), h2.rex hr (by simp <;> omega), h3.rex hr (by simp <;> omega), h4.rex hr (by simp <;> omega)⟩) rfl ?_
  iterate 5
    apply nd_det (hg := rfl) (hal := rfl)
    · intro a W' hC hE
      obtain ⟨_, k1, k2, k3, k4⟩ := hC
      have k1 := k1.cell
      have k2 := k2.cell
      have k3 := k3.cell
      have k4 := k4.cell
      first
        | (simp [Oper.looksAt, Op.operands, Call.operands, envOf, Det] at hE; simp [go_sem, Act.eval, IntWalk.i64_left, hE, k1, k2, k3, k4]; try rfl)
        | (clear hE; simp [go_sem, Act.eval, IntWalk.i64_left, k1, k2, k3, k4]; try rfl)
  refine nd_callv2 rfl rfl (fun W' hC => c1 W' (hW.trans (hC.1.of_priv hW.size))) (fun a W' hC hE => ?_) ?_
  · obtain ⟨_, k1, k2, k3, k4⟩ := hC
    have k1 := k1.cell
    have k2 := k2.cell
    have k3 := k3.cell
    have k4 := k4.cell
    first
      | (simp [Oper.looksAt, Op.operands, Call.operands, envOf, Det] at hE; simp [go_sem, Act.eval, IntWalk.i64_left, hE, k1, k2, k3, k4]; try rfl)
      | (clear hE; simp [go_sem, Act.eval, IntWalk.i64_left, k1, k2, k3, k4]; try rfl)
  iterate 1
    apply nd_det (hg := rfl) (hal := rfl)
    · intro a W' hC hE
      obtain ⟨_, k1, k2, k3, k4⟩ := hC
      have k1 := k1.cell
      have k2 := k2.cell
      have k3 := k3.cell
      have k4 := k4.cell
      first
        | (simp [Oper.looksAt, Op.operands, Call.operands, envOf, Det] at hE; simp [go_sem, Act.eval, IntWalk.i64_left, hE, k1, k2, k3, k4]; try rfl)
        | (clear hE; simp [go_sem, Act.eval, IntWalk.i64_left, k1, k2, k3, k4]; try rfl)
  rintro W7 ⟨hR, d1, d2, d3, d4⟩
  simp only [ndFinR, Det, forall_eq]
  intros
  repeat (rename GDet _ _ _ _ => hgd; clear hgd)
  simp only [Act.put, List.setIfInBounds_toArray, List.set_cons_zero, List.set_cons_succ]
  refine wpList_nil ?_
  replace hW := hW.trans (hR.of_priv hW.size)
  clear hR
  clear c1
  try clear b1 b2 b3 b4
  have b1 := d1
  clear d1
  have b2 := d2
  clear d2
  have b3 := d3
  clear d3
  have b4 := d4
  clear d4
  simp only [Exit.then]
  have hz0 := hW.size
  have hz1 := b1.lt
  have hzz := b3.lt
  have k1 := b1.cell
  have k2 := b2.cell
  have k3 := b3.cell
  have k4 := b4.cell
  gi_wp2_with (refine ⟨trivial, ?_⟩; gi_at_call 63; refine (callsIn_wide.2 (points_w _ _ _ _ _ _ _ _ _ _ _ _ _)).mono ?_; rintro e w' ⟨rfl, rfl⟩)
  have hW0 : Below W7.heap.size W7 (((W7.alloc (.cells #[.int .i64 0] 2)).alloc (.cells #[.int .i64 0] 3)).alloc (.cells #[.int .i64 s.K, .slice p s.runs.length cap, .int .i64 s.A, .int .i64 s.R, .int .i64 s.n, .int .i64 s.d, .slice q s.raw.length vc, .int .i64 s.E] 78)) := belowAny
  have hBs : Blk (((W7.alloc (.cells #[.int .i64 0] 2)).alloc (.cells #[.int .i64 0] 3)).alloc (.cells #[.int .i64 s.K, .slice p s.runs.length cap, .int .i64 s.A, .int .i64 s.R, .int .i64 s.n, .int .i64 s.d, .slice q s.raw.length vc, .int .i64 s.E] 78)) (W7.heap.size + 1 + 1) #[.int .i64 s.K, .slice p s.runs.length cap, .int .i64 s.A, .int .i64 s.R, .int .i64 s.n, .int .i64 s.d, .slice q s.raw.length vc, .int .i64 s.E] 78 := Blk.new' (by simp)
  have hsW : (((W7.alloc (.cells #[.int .i64 0] 2)).alloc (.cells #[.int .i64 0] 3)).alloc (.cells #[.int .i64 s.K, .slice p s.runs.length cap, .int .i64 s.A, .int .i64 s.R, .int .i64 s.n, .int .i64 s.d, .slice q s.raw.length vc, .int .i64 s.E] 78)).heap.size = W7.heap.size + 1 + 1 + 1 := by simp
  have b5 : Blk (((W7.alloc (.cells #[.int .i64 0] 2)).alloc (.cells #[.int .i64 0] 3)).alloc (.cells #[.int .i64 s.K, .slice p s.runs.length cap, .int .i64 s.A, .int .i64 s.R, .int .i64 s.n, .int .i64 s.d, .slice q s.raw.length vc, .int .i64 s.E] 78)) (W7.heap.size) #[.int .i64 0] 2 := blkAny2
  have b6 : Blk (((W7.alloc (.cells #[.int .i64 0] 2)).alloc (.cells #[.int .i64 0] 3)).alloc (.cells #[.int .i64 s.K, .slice p s.runs.length cap, .int .i64 s.A, .int .i64 s.R, .int .i64 s.n, .int .i64 s.d, .slice q s.raw.length vc, .int .i64 s.E] 78)) (W7.heap.size + 1) #[.int .i64 0] 3 := blkAny2
  have B2 := b2.below hW0
  have B3 := b3.below hW0
  have HW1 := hW.trans (hW0.mono hW.size)
  obtain ⟨W0, hWe⟩ : ∃ W0, W0 = (((W7.alloc (.cells #[.int .i64 0] 2)).alloc (.cells #[.int .i64 0] 3)).alloc (.cells #[.int .i64 s.K, .slice p s.runs.length cap, .int .i64 s.A, .int .i64 s.R, .int .i64 s.n, .int .i64 s.d, .slice q s.raw.length vc, .int .i64 s.E] 78)) := ⟨_, rfl⟩
  rw [← hWe] at hBs hsW b5 b6 B2 B3 HW1 ⊢
  clear hWe hW0 b1 b2 b3 b4 k1 k2 k3 k4 hW H_c1
  have hk0 : gp < w.heap.size := hgp.lt
  refine wpIn_rangeFunc_ownH rfl (by omega) (gf := 106) (lb := #[.pointer (some ⟨W7.heap.size + 1 + 1, 0, none⟩)]) rfl trivial (enters_of Tryz.func106 (by kernel_rfl) rfl)
    (encs := fun x : Int × Int => #[Value.agg #[.int .i64 x.1, .int .i64 x.2]]) (Kp := KF w.heap.size (W7.heap.size + 1 + 1)) (S := fun ys => ys = ptsL s) (Sp := fun pre => pre <+: ptsL s) (N := (ptsL s).length) (w0 := W0)
    (fun lr J Jx W hWW hJ _ hY h0 => points1_in 3 (by omega) lr (W7.heap.size + 1 + 1) (W7.heap.size + 1 + 1) s p q cap vc hs (KF w.heap.size (W7.heap.size + 1 + 1)) (fun hk => ⟨hk.below.size, fun ha => hin.keep hk.below ha, fun ha => hk.rest _ _ _ _ (Nat.le_refl _) ha, fun b cs hb ha => hk.rest b cs _ _ hb ha⟩) J Jx _ hJ hY W (hBs.below hWW) ((hin.below HW1).below hWW) (by have := hWW.size; omega) h0)
    (fun h k => h.trans k) (KF.putObj (by omega)) (Below.refl _ _) (fun _ => rfl)
    (fun pre W => ((Blk W (w.heap.size + 1) #[.int .i64 0] 2 ∧ Blk W (w.heap.size + 1 + 1) #[.int .i64 0] 35) ∧ (Blk W (W7.heap.size) #[.int .i64 (farOf (pre.zip pts))] 2 ∧ Blk W (W7.heap.size + 1) #[.int .i64 (pre.length : Int)] 3)) ∧ ((pre.zip pts).all okZ = true) ∧ Below w.heap.size w W)
    (fun c pre W => (Blk W (w.heap.size + 1) #[.int .i64 0] 2 ∧ Blk W (w.heap.size + 1 + 1) #[.int .i64 2] 35) ∧ (c = .ret ∧ (pre.zip pts).all okZ = false) ∧ Below w.heap.size w W)
    (OwnFrom.and (OwnFrom.and (OwnFrom.and (Own.from (blk_own _ _ _) _) (Own.from (blk_own _ _ _) _)) (OwnFrom.and (Own.from (blk_own _ _ _) _) (Own.from (blk_own _ _ _) _))) (OwnFrom.and (ownFrom_pure _ _) (ownFrom_below (Nat.le_refl _) (by omega))))
    (fun c => OwnFrom.and (OwnFrom.and (Own.from (blk_own _ _ _) _) (Own.from (blk_own _ _ _) _)) (OwnFrom.and (ownFrom_pure _ _) (ownFrom_below (Nat.le_refl _) (by omega))))
    ⟨⟨⟨B2, B3⟩, b5, b6⟩, rfl, HW1⟩
    (fun x a' W => ∃ Bx, W7.heap.size + 1 < Bx ∧ Blk W Bx #[.int .i64 x.1, .int .i64 x.2] 58 ∧ a' = { tmps := #[.agg #[.int .i64 s.K, .slice p s.runs.length cap, .int .i64 s.A, .int .i64 s.R, .int .i64 s.n, .int .i64 s.d, .slice q s.raw.length vc, .int .i64 s.E], .pointer (some ⟨gp, 0, none⟩), .pointer (some ⟨w.heap.size, 0, none⟩), .pointer (some ⟨w.heap.size + 1, 0, none⟩), .pointer (some ⟨w.heap.size + 1 + 1, 0, none⟩), .pointer (some ⟨W7.heap.size, 0, none⟩), .pointer (some ⟨W7.heap.size + 1, 0, none⟩), .pointer (some ⟨Bx, 0, none⟩), undef, .slice pp pts.length cp, .int .i64 (pts.length : Int), .pointer (some ⟨w.heap.size, 0, none⟩), .pointer (some ⟨w.heap.size, 1, none⟩), .slice p s.runs.length cap, .int .i64 (cnt s.runs), .bool false, .agg #[.int .i64 s.K, .slice p s.runs.length cap, .int .i64 s.A, .int .i64 s.R, .int .i64 s.n, .int .i64 s.d, .slice q s.raw.length vc, .int .i64 s.E], .func (.func 106) #[] #[.pointer (some ⟨W7.heap.size + 1 + 1, 0, none⟩)], .agg #[.int .i64 x.1, .int .i64 x.2], undef, undef, undef, undef, undef, undef, undef, undef, undef, undef, undef, undef, undef, undef, undef, undef, undef, undef, undef, undef, undef, undef, undef, undef, undef, undef, undef, undef, undef, undef], defers := [] })
    (fun x a' _ X Y row hs hg hr => by obtain ⟨Bx, h1, h2, h3⟩ := hs; exact ⟨Bx, h1, blk_own Bx 58 (fun (_ : Unit) => #[Value.int .i64 x.1, Value.int .i64 x.2]) () X Y row h2 hg (fun r e => (hr r e).2), h3⟩) ?assign ?body ?done ?stop
  case assign =>
    rintro l pre x W K ⟨⟨⟨i1, i2⟩, i3, i4⟩, i5, i6⟩ hK
    have hlt4 := i4.lt
    gi_wp2
    exact hK _ _ ((KeepsOthers.alloc _ _).from _) ((KF.refl _ _ _).alloc i6.size _) ⟨⟨⟨i1.alloc _, i2.alloc _⟩, i3.alloc _, i4.alloc _⟩, i5, i6.alloc i6.size _⟩ ⟨W.heap.size, hlt4, Blk.new' rfl, rfl⟩
  case body =>
    rintro l pre ⟨xt, xv⟩ a' W hl' ⟨r, hr⟩ ⟨⟨⟨i1, i2⟩, i3, i4⟩, i5, i6⟩ ⟨Bx, hBx, bX, rfl⟩ hlt
    have hlen' := HL.out
    have hlt2 : pre.length < pts.length := by rw [HN.out]; exact hlt
    obtain ⟨⟨yt, yv⟩, hy⟩ : ∃ y, pts[pre.length]? = some y := ⟨pts[pre.length]'hlt2, List.getElem?_eq_getElem _⟩
    have hyv := hI64.out _ (List.mem_of_getElem? hy)
    obtain ⟨gb, go, rfl, q0, q1⟩ := (hP.below i6).at' _ _ hy
    have hzip := Lib.hid (zip_snoc (x := (xt, xv)) hy)
    have h5 := Lib.hid i5
    clear hy hlen' i5
    have hp256 : pre.length ≤ 256 := by have := HL.out; omega
    have k1 := i1.cell
    have f1 := i1.frozen
    have k2 := i2.cell
    have f2 := i2.frozen
    have k3 := i3.cell
    have f3 := i3.frozen
    have k4 := i4.cell
    have f4 := i4.frozen
    have kx := bX.cell
    have ke := (hgp.below i6).cell
    have y1 := i1.lt
    have y2 := i2.lt
    have y3 := i3.lt
    have y4 := i4.lt
    have yx := bX.lt
    have hz6 := i6.size
    by_cases ht : yt = xt
    · subst ht
      cases hbk : isBack yv with
      | false =>
        have cb := fun W => c_sback yv W
        rw [hbk] at cb
        have cb := Lib.hid cb
        have hall := Lib.hid (show ((pre ++ [(yt, xv)]).zip pts).all okZ = false by rw [hzip.out, List.all_append]; simp [okZ, hbk])
        clear hbk
        gi_wp2_with (refine ⟨trivial, ?_⟩; gi_at_call 66; refine (CallsIn.inRound l (callsIn_wide.2 (cb.out _))).mono ?_; rintro e w2 ⟨rfl, hb2⟩; have j1 := (i1.alloc _).below hb2; have j2 := (i2.alloc _).below hb2; have l1 := j1.cell; have m1 := j1.frozen; have l2 := j2.cell; have m2 := j2.frozen; have hz2 := hb2.size)
        exact ⟨KeepsOthers.from (keepsAny) _, ⟨⟨blkAny2, blkAny2⟩, ⟨rfl, hall.out⟩, belowAny⟩⟩
      | true =>
        have cb := fun W => c_sback yv W
        rw [hbk] at cb
        have cb := Lib.hid cb
        have hall := Lib.hid (show ((pre ++ [(yt, xv)]).zip pts).all okZ = true by rw [hzip.out, List.all_append, h5.out]; simp [okZ, hbk])
        have hfar := Lib.hid (show farOf ((pre ++ [(yt, xv)]).zip pts) = mx (mx (farOf (pre.zip pts)) (wrap64 (yv - xv))) (wrap64 (xv - yv)) by rw [hzip.out, farOf_snoc])
        have hpl := Lib.hid (show (((pre ++ [(yt, xv)]).length : Nat) : Int) = (pre.length : Int) + 1 by simp)
        clear hbk
        have hmax : ∀ ts t x y z w, (Builtin.max_ ts t #[.int .i64 x, .int .i64 y, .int .i64 z]).run Tryz.prog w = .ok (.int .i64 (mx (mx x y) z)) w := fun ts t x y z w => by simp [Builtin.max_, Builtin.max2, mx]
        gi_wp2_with (refine ⟨trivial, ?_⟩; gi_at_call 66; refine (CallsIn.inRound l (callsIn_wide.2 (cb.out _))).mono ?_; rintro e w2 ⟨rfl, hb2⟩; have j1 := (i1.alloc _).below hb2; have j2 := (i2.alloc _).below hb2; have j3 := (i3.alloc _).below hb2; have j4 := (i4.alloc _).below hb2; have jx := (bX.alloc _).below hb2; have jq := (Blk.new' (w := W) (b := W.heap.size) rfl).below hb2; have l1 := j1.cell; have m1 := j1.frozen; have l2 := j2.cell; have m2 := j2.frozen; have l3 := j3.cell; have m3 := j3.frozen; have l4 := j4.cell; have m4 := j4.frozen; have lx := jx.cell; have lq := jq.cell; have hz2 := hb2.size)
        exact ⟨KeepsOthers.from (keepsAny) _, kfAny, ⟨⟨⟨blkAny2, blkAny2⟩, by rw [hfar.out]; exact blkAny2, by rw [hpl.out]; exact blkAny2⟩, hall.out, belowAny⟩⟩
    · have ht' : (yt != xt) = true := by simpa using ht
      have hall := Lib.hid (show ((pre ++ [(xt, xv)]).zip pts).all okZ = false by rw [hzip.out, List.all_append]; simp [okZ, ht])
      clear ht
      gi_wp2
      refine ⟨trivial, ?_⟩
      gi_wp2
      exact ⟨KeepsOthers.from (keepsAny) _, ⟨⟨blkAny2, blkAny2⟩, ⟨rfl, hall.out⟩, belowAny⟩⟩
  case done =>
    rintro D ys W hD rfl ⟨⟨⟨i1, i2⟩, i3, i4⟩, i5, i6⟩ hK
    have k1 := i1.cell
    have f1 := i1.frozen
    have k2 := i2.cell
    have f2 := i2.frozen
    have k3 := i3.cell
    have y1 := i1.lt
    have y2 := i2.lt
    have y3 := i3.lt
    have hz6 := i6.size
    have hall := i5
    replace i5 := Lib.hid i5
    clear hall
    gi_wp2
    obtain ⟨W2, hWe⟩ : ∃ W2, W2 = ((W.setCell ⟨w.heap.size + 1, 0, none⟩ (.int .i64 (farOf ((ptsL s).zip pts)))).setCell ⟨w.heap.size + 1 + 1, 0, none⟩ (.int .i64 0)) := ⟨_, rfl⟩
    have j1 : Blk W2 (w.heap.size + 1) #[.int .i64 (farOf ((ptsL s).zip pts))] 2 := by rw [hWe]; exact blkAny2
    have j2 : Blk W2 (w.heap.size + 1 + 1) #[.int .i64 0] 35 := by rw [hWe]; exact blkAny2
    have hB2 : Below w.heap.size w W2 := by rw [hWe]; exact belowAny
    have hK' : W2.heap[D]? = some (.deferred (some [])) := by rw [hWe]; exact (keepsAny : KeepsOthers W _).same D _ hK rfl
    rw [← hWe]
    refine ⟨by simp, .inl ⟨_, _, rfl, run_takeDeferred hK', ?_⟩⟩
    have hc3 := cell_kept (by simpa using j1.cell 0) (grownBy_putObj' W2 D (.deferred none)) (fun r e => by cases e; exact ⟨_, hK', rfl⟩)
    have hc4 := cell_kept (by simpa using j2.cell 0) (grownBy_putObj' W2 D (.deferred none)) (fun r e => by cases e; exact ⟨_, hK', rfl⟩)
    refine ⟨.tuple #[.int .i64 (farOf ((ptsL s).zip pts)), .int .i64 0], ?_, by unfold farR; rw [if_pos HN.out, if_pos i5.out], hB2.trans (belowK_b (w := w) (Nat.le_refl _) _ D _ _ (by omega) hK' rfl rfl)⟩
    simp [results, Tryz.f65, go_sem, hc3, hc4]
  case stop =>
    rintro D c pre W hD hpre ⟨⟨i1, i2⟩, ⟨rfl, i5⟩, i6⟩ hK
    have hz6 := i6.size
    have hall := Lib.hid (all_prefix hpre i5)
    clear i5
    gi_wp2
    refine ⟨by simp, .inl ⟨_, _, rfl, run_takeDeferred hK, ?_⟩⟩
    have hc3 := cell_kept (by simpa using i1.cell 0) (grownBy_putObj' W D (.deferred none)) (fun r e => by cases e; exact ⟨_, hK, rfl⟩)
    have hc4 := cell_kept (by simpa using i2.cell 0) (grownBy_putObj' W D (.deferred none)) (fun r e => by cases e; exact ⟨_, hK, rfl⟩)
    refine ⟨.tuple #[.int .i64 0, .int .i64 2], ?_, by unfold farR; rw [if_pos HN.out, if_neg (by rw [hall.out]; simp)], i6.trans (belowK_b (w := w) (Nat.le_refl _) W D _ _ (by omega) hK rfl rfl)⟩
    simp [results, Tryz.f65, go_sem, hc3, hc4]
end Go.Proofs.YtgblmlefmohgnaaGreat
namespace Go.Proofs.YtgblmlefmohgnaaGreat
open Go.RowKit
set_option maxRecDepth 100000 in
set_option maxHeartbeats 2000000 in
theorem ofi_far (K A R n d E : Int) (p q : Option Addr) (len cap m vc : Nat) (w : World) (g : Nat) (v er : Int)
    (c1 : ∀ W, Below w.heap.size w W → Calls Tryz.prog 55 #[.agg #[.int .i64 K, .slice p len cap, .int .i64 A, .int .i64 R, .int .i64 n, .int .i64 d, .slice q m vc, .int .i64 E]] W fun e w' => e = .returned (.bool true) ∧ Below W.heap.size W w')
    (c3 : ∀ W, Below w.heap.size w W → Calls Tryz.prog 65 #[.agg #[.int .i64 K, .slice p len cap, .int .i64 A, .int .i64 R, .int .i64 n, .int .i64 d, .slice q m vc, .int .i64 E], .pointer (some ⟨g, 0, none⟩)] W fun e w' => e = .returned (.tuple #[.int .i64 v, .int .i64 er]) ∧ Below W.heap.size W w') :
    Calls Tryz.prog 64 #[.agg #[.int .i64 K, .slice p len cap, .int .i64 A, .int .i64 R, .int .i64 n, .int .i64 d, .slice q m vc, .int .i64 E], .func (.func 65) #[] #[.pointer (some ⟨g, 0, none⟩)]] w fun e w' => e = .returned (.tuple #[.int .i64 v, .int .i64 er]) ∧ Below w.heap.size w w' := by
  have H_c1 := Lib.hid c1
  clear c1
  have H_c3 := Lib.hid c3
  clear c3
  go_enter Tryz.func64, Tryz.ntmps64
  go_upto_region 1 with (fail)
  refine wp_facts (fun W' => Below w.heap.size w W' ∧ Blk W' w.heap.size #[.int .i64 K, .slice p len cap, .int .i64 A, .int .i64 R, .int .i64 n, .int .i64 d, .slice q m vc, .int .i64 E] 27) ⟨by exact belowAny, by exact blkAny2⟩ ?_
  rintro W1 ⟨hW, b1⟩
  have z2 := hW.size
  have z3 := b1.lt
  have k1 := b1.cell
  have f1 := b1.frozen
  have c1 := H_c1.out
  go_wp2_with fail
  refine (c1 _ (belowAny)).mono ?_
  rintro e w4 ⟨rfl, hb4⟩
  clear c1
  have z5 := hb4.size
  try simp at z5
  clear k1 f1
  have b1 : Blk w4 w.heap.size #[.int .i64 K, .slice p len cap, .int .i64 A, .int .i64 R, .int .i64 n, .int .i64 d, .slice q m vc, .int .i64 E] 27 := by exact blkAny2
  have hW : Below w.heap.size w w4 := by exact belowAny
  have z6 := b1.lt
  clear hb4
  have k1 := b1.cell
  have f1 := b1.frozen
  have c3 := H_c3.out
  go_wp2_with fail
  refine (c3 _ (belowAny)).mono ?_
  rintro e w7 ⟨rfl, hb7⟩
  clear c3
  have z8 := hb7.size
  try simp at z8
  clear k1 f1
  have b1 : Blk w7 w.heap.size #[.int .i64 K, .slice p len cap, .int .i64 A, .int .i64 R, .int .i64 n, .int .i64 d, .slice q m vc, .int .i64 E] 27 := by exact blkAny2
  have hW : Below w.heap.size w w7 := by exact belowAny
  have z9 := b1.lt
  clear hb7
  have k1 := b1.cell
  have f1 := b1.frozen
  go_wp2
  have y_1 := b1.lt
  refine bodyPost_ret (v := .tuple #[.int .i64 v, .int .i64 er]) (by simp [results, Tryz.results64, go_sem, k1, f1, y_1]) rfl ⟨rfl, by exact belowAny⟩
set_option maxRecDepth 100000 in
set_option maxHeartbeats 2000000 in
theorem far_w (K A R n d E : Int) (p q : Option Addr) (len cap m vc : Nat) (w : World) (len2 cp : Nat) (pp : Option Addr) (v er : Int)
    (c1 : ∀ W g, Below w.heap.size w W → Blk W g #[.slice pp len2 cp] 39 → Calls Tryz.prog 64 #[.agg #[.int .i64 K, .slice p len cap, .int .i64 A, .int .i64 R, .int .i64 n, .int .i64 d, .slice q m vc, .int .i64 E], .func (.func 65) #[] #[.pointer (some ⟨g, 0, none⟩)]] W fun e w' => e = .returned (.tuple #[.int .i64 v, .int .i64 er]) ∧ Below W.heap.size W w') :
    Calls Tryz.prog 28 #[.agg #[.int .i64 K, .slice p len cap, .int .i64 A, .int .i64 R, .int .i64 n, .int .i64 d, .slice q m vc, .int .i64 E], .slice pp len2 cp] w fun e w' => e = .returned (.tuple #[.int .i64 v, .int .i64 er]) ∧ Below w.heap.size w w' := by
  have hmf : ∀ (fn : Fn) (first cap : Array Value) (w : World), (Instr.makeFunc fn first cap).run Tryz.prog w = .ok (.func fn first cap) w := fun _ _ _ _ => rfl
  have H_c1 := Lib.hid c1
  clear c1
  go_enter Tryz.func28, Tryz.ntmps28
  go_upto_region 1 with (fail)
  refine wp_facts (fun W' => Below w.heap.size w W' ∧ Blk W' w.heap.size #[.int .i64 K, .slice p len cap, .int .i64 A, .int .i64 R, .int .i64 n, .int .i64 d, .slice q m vc, .int .i64 E] 27 ∧ Blk W' (w.heap.size + 1) #[.slice pp len2 cp] 39) ⟨by exact belowAny, by exact blkAny2, by exact blkAny2⟩ ?_
  rintro W1 ⟨hW, b1, b2⟩
  have z2 := hW.size
  have z3 := b1.lt
  have z4 := b2.lt
  have k1 := b1.cell
  have f1 := b1.frozen
  have k2 := b2.cell
  have f2 := b2.frozen
  have c1 := H_c1.out
  go_wp2_with fail
  refine (c1 _ _ (belowAny) (blkAny2)).mono ?_
  rintro e w5 ⟨rfl, hb5⟩
  clear c1
  have z6 := hb5.size
  try simp at z6
  clear k1 f1 k2 f2
  have b1 : Blk w5 w.heap.size #[.int .i64 K, .slice p len cap, .int .i64 A, .int .i64 R, .int .i64 n, .int .i64 d, .slice q m vc, .int .i64 E] 27 := by exact blkAny2
  have b2 : Blk w5 (w.heap.size + 1) #[.slice pp len2 cp] 39 := by exact blkAny2
  have hW : Below w.heap.size w w5 := by exact belowAny
  have z7 := b1.lt
  have z8 := b2.lt
  clear hb5
  have k1 := b1.cell
  have f1 := b1.frozen
  have k2 := b2.cell
  have f2 := b2.frozen
  go_wp2
  have y_1 := b1.lt
  have y_2 := b2.lt
  refine bodyPost_ret (v := .tuple #[.int .i64 v, .int .i64 er]) (by simp [results, Tryz.results28, go_sem, k1, f1, k2, f2, y_1, y_2]) rfl ⟨rfl, by exact belowAny⟩
set_option maxRecDepth 100000 in
set_option maxHeartbeats 2000000 in
theorem holds_w (K A R n d E : Int) (p q : Option Addr) (len cap m vc : Nat) (w : World) (len2 cp : Nat) (pp : Option Addr) (v er : Int)
    (c1 : ∀ W, Below w.heap.size w W → Calls Tryz.prog 28 #[.agg #[.int .i64 K, .slice p len cap, .int .i64 A, .int .i64 R, .int .i64 n, .int .i64 d, .slice q m vc, .int .i64 E], .slice pp len2 cp] W fun e w' => e = .returned (.tuple #[.int .i64 v, .int .i64 er]) ∧ Below W.heap.size W w') :
    Calls Tryz.prog 29 #[.agg #[.int .i64 K, .slice p len cap, .int .i64 A, .int .i64 R, .int .i64 n, .int .i64 d, .slice q m vc, .int .i64 E], .slice pp len2 cp] w fun e w' => e = .returned (.bool ((er == 0) && decide (v ≤ E))) ∧ Below w.heap.size w w' := by
  have H_c1 := Lib.hid c1
  clear c1
  go_enter Tryz.func29, Tryz.ntmps29
  go_upto_region 1 with (fail)
  refine wp_facts (fun W' => Below w.heap.size w W' ∧ Blk W' w.heap.size #[.int .i64 K, .slice p len cap, .int .i64 A, .int .i64 R, .int .i64 n, .int .i64 d, .slice q m vc, .int .i64 E] 27) ⟨by exact belowAny, by exact blkAny2⟩ ?_
  rintro W1 ⟨hW, b1⟩
  have z2 := hW.size
  have z3 := b1.lt
  have k1 := b1.cell
  have f1 := b1.frozen
  have c1 := H_c1.out
  go_wp2_with fail
  refine (c1 _ (belowAny)).mono ?_
  rintro e w4 ⟨rfl, hb4⟩
  clear c1
  have z5 := hb4.size
  try simp at z5
  clear k1 f1
  have b1 : Blk w4 w.heap.size #[.int .i64 K, .slice p len cap, .int .i64 A, .int .i64 R, .int .i64 n, .int .i64 d, .slice q m vc, .int .i64 E] 27 := by exact blkAny2
  have hW : Below w.heap.size w w4 := by exact belowAny
  have z6 := b1.lt
  clear hb4
  have k1 := b1.cell
  have f1 := b1.frozen
  go_upto_region 2 with (fail)
  clear k1 f1
  refine wp_facts (fun W' => Below w.heap.size w W' ∧ Blk W' w.heap.size #[.int .i64 K, .slice p len cap, .int .i64 A, .int .i64 R, .int .i64 n, .int .i64 d, .slice q m vc, .int .i64 E] 27) ⟨by exact belowAny, by exact blkAny2⟩ ?_
  clear b1 hW
  rintro W7 ⟨hW, b1⟩
  have z8 := hW.size
  have z9 := b1.lt
  refine wp_region_sq 9 21 [] (fun W' => Rex [] W7 W' ∧ Blk W' w.heap.size #[.int .i64 K, .slice p len cap, .int .i64 A, .int .i64 R, .int .i64 n, .int .i64 d, .slice q m vc, .int .i64 E] 27) (by kernel_rfl) rfl ⟨(Rex.refl _ _), b1⟩ (fun w w' ⟨h0, h1⟩ hr => ⟨h0.trans hr, h1.rex hr (by simp <;> omega)⟩) ?_
  iterate 3
    apply nd_det (hg := rfl) (hal := rfl)
    · intro a W' hC hE
      obtain ⟨_, k1⟩ := hC
      have k1 := k1.cell
      first
        | (simp [Oper.looksAt, Op.operands, Call.operands, envOf, Det] at hE; simp [go_sem, Act.eval, IntWalk.i64_left, hE, k1]; try rfl)
        | (clear hE; simp [go_sem, Act.eval, IntWalk.i64_left, k1]; try rfl)
  iterate 4
    apply nd_detg (p := true) (hg := rfl) (hd := rfl) (hal := rfl)
    · intro v W' h
      simp [envOf, Det] at h
      simp
      exact h
    · intro hp hx a W' hC hE
      obtain ⟨_, k1⟩ := hC
      have k1 := k1.cell
      simp [Oper.looksAt, Op.operands, Call.operands, envOf, Det, GDet, hx] at hE
      simp [go_sem, Act.eval, IntWalk.i64_left, hE, k1]
      try rfl
  apply nd_pick_and (ho := rfl) (hg := rfl)
  · intro v W' h
    simp [envOf, Det] at h
    exact h
  · intro v W' h hx
    simp [envOf, GDet, hx] at h
    exact h
  iterate 1
    apply nd_det (hg := rfl) (hal := rfl)
    · intro a W' hC hE
      obtain ⟨_, k1⟩ := hC
      have k1 := k1.cell
      first
        | (simp [Oper.looksAt, Op.operands, Call.operands, envOf, Det] at hE; simp [go_sem, Act.eval, IntWalk.i64_left, hE, k1]; try rfl)
        | (clear hE; simp [go_sem, Act.eval, IntWalk.i64_left, k1]; try rfl)
  rintro W10 ⟨hR, d1⟩
  simp only [ndFinR, Det, forall_eq]
  intros
  repeat (rename GDet _ _ _ _ => hgd; clear hgd)
  simp only [Act.put, List.setIfInBounds_toArray, List.set_cons_zero, List.set_cons_succ]
  refine wpList_nil ?_
  replace hW := hW.trans (hR.of_priv hW.size)
  clear hR
  try clear b1
  have b1 := d1
  clear d1
  go_wp2
  have y_1 := b1.lt
  refine bodyPost_ret (v := .bool ((er == 0) && decide (v ≤ E))) (by simp [results, Tryz.results29, go_sem, y_1]) rfl ⟨rfl, by exact belowAny⟩
/-- How far a segment is from points, and the error. -/
def farV (s : SegT) (pts : List (Int × Int)) : Int × Int := if segB s then farR s pts else (0, 210)
theorem c_Far (s : SegT) (p q : Option Addr) (cap vc : Nat) (pp : Option Addr) (cp : Nat) (pts : List (Int × Int)) (w : World) (h : SegIn w s p q) (hP : PtsIn w pp pts) (hv : ∀ x, x ∈ pts → I64 x.2) (hlen : pts.length ≤ 9223372036854775807) :
    Calls Tryz.prog 28 #[.agg (segA s p q cap vc), .slice pp pts.length cp] w fun e w' => e = .returned (.tuple #[.int .i64 (farV s pts).1, .int .i64 (farV s pts).2]) ∧ Below w.heap.size w w' := by
  refine far_w _ _ _ _ _ _ p q _ cap _ vc w pts.length cp pp _ _ fun W g hW hg => ?_
  have hi := fun W' (hW' : Below W.heap.size W W') => c_segIs s p q cap vc W' ((h.below hW).below hW')
  cases hs : segB s with
  | false =>
    rw [hs] at hi
    have e1 : farV s pts = (0, 210) := by unfold farV; rw [hs]; rfl
    rw [e1]
    exact ofi_no _ _ _ _ _ _ p q _ cap _ vc W _ hi
  | true =>
    rw [hs] at hi
    have e1 : farV s pts = farR s pts := by unfold farV; rw [hs]; rfl
    rw [e1]
    refine ofi_far _ _ _ _ _ _ p q _ cap _ vc W g _ _ hi fun W' hW' => ?_
    have hl := segB_runs hs
    by_cases hn : pts.length = (ptsL s).length
    · exact callsIn_wide.1 (far1_w s p q cap vc W' hs ((h.below hW).below hW') g cp pp pts hn (hg.below hW') ((hP.below hW).below hW') hv)
    · have e2 : farR s pts = (0, 2) := by unfold farR; rw [if_neg hn]
      rw [e2]
      have hne : ((pts.length : Int) != cnt s.runs) = true := by have := length_pts hs; simp; omega
      exact far1_len _ _ _ _ _ _ p q _ cap _ vc W' g pts.length cp pp (cnt s.runs) hne (hg.below hW') hlen (fun W'' hW'' => c_rcount_ok p cap s.runs W'' hl (((h.below hW).below hW').below hW'').runs)
def holdsB (s : SegT) (pts : List (Int × Int)) : Bool := ((farV s pts).2 == 0) && decide ((farV s pts).1 ≤ s.E)
theorem c_Holds (s : SegT) (p q : Option Addr) (cap vc : Nat) (pp : Option Addr) (cp : Nat) (pts : List (Int × Int)) (w : World) (h : SegIn w s p q) (hP : PtsIn w pp pts) (hv : ∀ x, x ∈ pts → I64 x.2) (hlen : pts.length ≤ 9223372036854775807) :
    Calls Tryz.prog 29 #[.agg (segA s p q cap vc), .slice pp pts.length cp] w fun e w' => e = .returned (.bool (holdsB s pts)) ∧ Below w.heap.size w w' :=
  holds_w _ _ _ _ _ _ p q _ cap _ vc w pts.length cp pp _ _ fun W hW => c_Far s p q cap vc pp cp pts W (h.below hW) (hP.below hW) hv hlen
end Go.Proofs.YtgblmlefmohgnaaGreat
namespace Go.Proofs.YtgblmlefmohgnaaGreat
open Go.RowKit

theorem pow_lt2 (j k : Nat) (h : j < k) : (2 : Nat) ^ j < 2 ^ k := Nat.pow_lt_pow_right (by omega) h
theorem lt_pow2 {a : Nat} (j k : Nat) (h : a < 2 ^ j) (hjk : j ≤ k) : a < 2 ^ k := Nat.lt_of_lt_of_le h (Nat.pow_le_pow_right (by omega) hjk)
theorem twice_pow {a : Nat} (j k : Nat) (h : a < 2 ^ j) (hjk : j + 1 ≤ k) : 2 * a < 2 ^ k :=
  Nat.lt_of_lt_of_le (Nat.mul_lt_mul_of_pos_left h (by omega)) (by rw [← Nat.pow_succ']; exact Nat.pow_le_pow_right (by omega) hjk)
def valD : List Int → Nat
  | [] => 0
  | d :: l => d.toNat + 2 * valD l
def Dig (l : List Int) : Prop := ∀ d, d ∈ l → d = 0 ∨ d = 1
/-- No noughts at the end. -/
def Canon (l : List Int) : Prop := l = [] ∨ 2 ^ (l.length - 1) ≤ valD l
theorem Dig.nil : Dig [] := fun d h => by simp at h
theorem Dig.snoc {l : List Int} {d : Int} (h : Dig l) (hd : d = 0 ∨ d = 1) : Dig (l ++ [d]) := fun x hx => by
  rcases List.mem_append.1 hx with h1 | h1
  · exact h x h1
  · simp at h1; subst h1; exact hd
theorem Dig.cons {l : List Int} {d : Int} (h : Dig l) (hd : d = 0 ∨ d = 1) : Dig (d :: l) := fun x hx => by
  rcases List.mem_cons.1 hx with h1 | h1
  · subst h1; exact hd
  · exact h x h1
theorem Dig.take {l : List Int} (h : Dig l) (k : Nat) : Dig (l.take k) := fun x hx => h x (List.mem_of_mem_take hx)
theorem Dig.drop {l : List Int} (h : Dig l) (k : Nat) : Dig (l.drop k) := fun x hx => h x (List.mem_of_mem_drop hx)
theorem Dig.at {l : List Int} (h : Dig l) {k : Nat} {d : Int} (hk : l[k]? = some d) : d = 0 ∨ d = 1 := h d (List.mem_of_getElem? hk)
theorem valD_append : ∀ (a b : List Int), valD (a ++ b) = valD a + 2 ^ a.length * valD b
  | [], b => by simp [valD]
  | d :: a, b => by
    simp only [List.cons_append, valD, List.length_cons, valD_append a b]
    rw [Nat.pow_succ, Nat.mul_add, Nat.mul_comm (2 ^ a.length) 2, Nat.mul_assoc]
    omega
theorem valD_snoc (a : List Int) (d : Int) : valD (a ++ [d]) = valD a + 2 ^ a.length * d.toNat := by rw [valD_append]; simp [valD]
theorem valD_take {l : List Int} {k : Nat} {d : Int} (hk : l[k]? = some d) : valD (l.take (k + 1)) = valD (l.take k) + 2 ^ k * d.toNat := by
  have hlt := (List.getElem?_eq_some_iff.1 hk).1
  rw [List.take_add_one, hk]
  show valD (l.take k ++ [d]) = _
  rw [valD_snoc, List.length_take, Nat.min_eq_left (by omega)]
theorem valD_lt : ∀ (l : List Int), Dig l → valD l < 2 ^ l.length
  | [], _ => by simp [valD]
  | d :: l, h => by
    have ih := valD_lt l fun x hx => h x (by simp [hx])
    have hd := h d (by simp)
    simp only [valD, List.length_cons, Nat.pow_succ]
    rcases hd with rfl | rfl <;> simp <;> omega
theorem valD_all (l : List Int) {k : Nat} (h : l.length ≤ k) : valD (l.take k) = valD l := by rw [List.take_of_length_le h]
theorem Canon.nil : Canon [] := .inl rfl
/-- A digit list that ends in 1 has no noughts at the end. -/
theorem canon_snoc_one (l : List Int) : Canon (l ++ [1]) := .inr (by rw [valD_snoc]; simp)
theorem canon_pos {l : List Int} (h : Canon l) (hl : l ≠ []) : 2 ^ (l.length - 1) ≤ valD l := by
  rcases h with h | h
  · exact absurd h hl
  · exact h
/-- Which is less, told by the lengths. -/
theorem less_len {a b : List Int} (ha : Dig a) (hb : Canon b) (h : a.length < b.length) : valD a < valD b := by
  have h1 := valD_lt a ha
  have h2 := canon_pos hb (by rintro rfl; simp at h)
  have h3 : 2 ^ a.length ≤ 2 ^ (b.length - 1) := Nat.pow_le_pow_right (by omega) (by omega)
  omega
theorem valD_split {l : List Int} {k : Nat} (hk : k ≤ l.length) : valD l = valD (l.take k) + 2 ^ k * valD (l.drop k) := by
  conv => lhs; rw [← List.take_append_drop k l]
  rw [valD_append, List.length_take, Nat.min_eq_left hk]
/-- Which is less, told by the highest place at which they part. -/
theorem less_at {a b : List Int} (ha : Dig a) (hb : Dig b) (hl : a.length = b.length) {k : Nat} {x y : Int} (hx : a[k]? = some x) (hy : b[k]? = some y) (hd : a.drop (k + 1) = b.drop (k + 1)) (h : x < y) : valD a < valD b := by
  have hk := (List.getElem?_eq_some_iff.1 hx).1
  have e1 := valD_split (l := a) (k := k + 1) (by omega)
  have e2 := valD_split (l := b) (k := k + 1) (by omega)
  rw [hd] at e1
  have t1 := valD_take hx
  have t2 := valD_take hy
  have b1 := valD_lt (a.take k) (ha.take k)
  rw [List.length_take, Nat.min_eq_left (by omega)] at b1
  have dx := ha.at hx
  have dy := hb.at hy
  have x0 : x = 0 := by omega
  have y1 : y = 1 := by omega
  subst x0; subst y1
  simp at t1 t2
  omega
/-- What numbers a slice of int has; its block is one of int. -/
structure DigsIn (w : World) (p : Option Addr) (l : List Int) : Prop where
  at' : ∀ (i : Nat) (x : Int), l[i]? = some x → ∃ b o, p = some ⟨b, o, none⟩ ∧ w.cell? ⟨b, o + i, none⟩ = some (.int .i64 x)
  typ : ∀ a, p = some a → ∃ cur fz, w.heap[a.block]? = some (.cells cur 3 fz)
theorem DigsIn.below {w w' : World} {p : Option Addr} {l : List Int} (h : DigsIn w p l) (hb : Below w.heap.size w w') : DigsIn w' p l :=
  ⟨((⟨h.at'⟩ : IntsIn w p l).below hb).at', fun a e => by
    obtain ⟨cur, fz, hh⟩ := h.typ a e
    exact ⟨cur, fz, (hb.block a.block (Array.getElem?_eq_some_iff.1 hh).1).trans hh⟩⟩
theorem DigsIn.take {w : World} {p : Option Addr} {l : List Int} (h : DigsIn w p l) (k : Nat) : DigsIn w p (l.take k) := ⟨fun i r hr => h.at' i r (by
  rw [List.getElem?_take] at hr
  split at hr
  · exact hr
  · cases hr), h.typ⟩
theorem clone_digs {w : World} {g k : Nat} {cur : Array Value} {l : List Int} (hb : w.heap[g]? = some (.cells cur 3 (0, 0))) (ht : cur.toList.take k = l.map (Value.int .i64)) : DigsIn w (some ⟨g, 0, none⟩) l :=
  ⟨(cloneInt_in hb ht).at', fun a e => by cases e; exact ⟨cur, (0, 0), hb⟩⟩
/-- A slice of digits: a number, without noughts at the end. -/
def Bits (w : World) (v : Value) (n : Nat) : Prop := ∃ p l cap, v = .slice p l.length cap ∧ l.length ≤ cap ∧ l.length ≤ 1000 ∧ (p = none → l = [] ∧ cap = 0) ∧ DigsIn w p l ∧ Dig l ∧ Canon l ∧ valD l = n
theorem Bits.below {w w' : World} {v : Value} {n : Nat} (h : Bits w v n) (hb : Below w.heap.size w w') : Bits w' v n := by
  obtain ⟨p, l, cap, h1, h2, h3, h4, h5, h6⟩ := h
  exact ⟨p, l, cap, h1, h2, h3, h4, h5.below hb, h6⟩
theorem Bits.rex {L : List Nat} {w w' : World} {v : Value} {n : Nat} (h : Bits w v n) (hr : Rex L w w') (hL : L = []) : Bits w' v n := by subst hL; exact h.below hr.below
theorem Bits.drew {w : World} {v : Value} {n : Nat} (h : Bits w v n) : Bits w.drew v n := by
  obtain ⟨p, l, cap, h1, h2, h3, h4, h5, h6⟩ := h
  exact ⟨p, l, cap, h1, h2, h3, h4, ⟨h5.at', h5.typ⟩, h6⟩
theorem Bits.zero (w : World) : Bits w (.slice none 0 0) 0 := ⟨none, [], 0, rfl, by simp, by simp, fun _ => ⟨rfl, rfl⟩, ⟨fun i x h => by simp at h, fun a e => by cases e⟩, Dig.nil, Canon.nil, rfl⟩
theorem bits_own {w : World} {base n : Nat} {v : Value} {l : List Int} (h : w.ownsRow base 3 1 v n (l.map (Value.int .i64))) (hn : n = l.length) (hl : l.length ≤ 1000) (h1 : Dig l) (h2 : Canon l) : Bits w v (valD l) := by
  subst hn
  obtain ⟨_, h2' | ⟨g, cap', cur, rfl, hg, hb, hn, _, hc, ht⟩⟩ := h
  · obtain ⟨rfl, h0⟩ := h2'
    have : l = [] := List.length_eq_zero_iff.1 h0
    subst this
    exact Bits.zero w
  · exact ⟨some ⟨g, 0, none⟩, l, cap', rfl, by simpa using hn, hl, (fun e => by cases e), clone_digs hb (by simpa using ht), h1, h2, rfl⟩
end Go.Proofs.YtgblmlefmohgnaaGreat
namespace Go.Proofs.YtgblmlefmohgnaaGreat
open Go.RowKit
theorem Tryz.infoI : (Tryz.prog.info? 3).map (fun i => (i.zero, i.size, i.bytes)) = some (some (.int .i64 0), 1, 8) := by kernel_rfl
theorem below_append {w0 W w1 : World} {B : Nat} {e : TypeId} {s k : Nat} {v : Value} {xs : List Value} {tmp : Obj} (hW : Below B w0 W) (hB : B ≤ W.heap.size) (hrow : W.ownsRow B e s v k xs) (hgr : (W.alloc tmp).grownBy w1 v.ownBlock) : Below B w0 w1 := by
  refine (hW.alloc hB tmp).grown hgr (by simp; omega) fun j ej => ?_
  rcases hrow.2 with ⟨rfl, _⟩ | ⟨g, cap, cur, rfl, hb, _, _⟩
  · simp [Value.ownBlock] at ej
  · obtain rfl : g = j := by simpa [Value.ownBlock] using ej
    exact hb
def sizeRel (u0 : Nat) (w : World) (a' : Act) (W : World) : Prop :=
  Below w.heap.size w W ∧ ∃ (l : List Int) (u : Nat) (v : Value), (∃ x : Nat → Value, a' = { tmps := #[.int .u64 (u : Int), x 1, x 2, v, x 4, x 5, x 6, x 7, x 8, x 9, x 10, x 11, x 12, x 13, x 14], defers := [] }) ∧
    W.ownsRow w.heap.size 3 1 v l.length (l.map (Value.int .i64)) ∧ Dig l ∧ valD l + 2 ^ l.length * u = u0 ∧ l.length ≤ 64 ∧ u < 2 ^ (64 - l.length) ∧ (u = 0 → Canon l)
set_option maxRecDepth 100000 in
set_option maxHeartbeats 4000000 in
theorem c_Size (u0 : Nat) (w : World) (h0 : u0 < 18446744073709551616) :
    Calls Tryz.prog 90 #[.int .u64 (u0 : Int)] w fun e w' => ∃ v, e = .returned v ∧ Bits w' v u0 ∧ Below w.heap.size w w' := by
  obtain ⟨i0, hi, hz0, hz1, hz2⟩ := info_parts Tryz.infoI
  go_enter Tryz.func90, Tryz.ntmps90
  go_wp2
  refine wp_loop (sizeRel u0 w) (fun a' _ => (intAt (a'.tmps.getD 0 undef)).toNat) ?_ ?_
  · unfold sizeRel
    exact ⟨Below.refl _ _, [], u0, _, frame_ex rfl, World.ownsRow_nil _ _ _ _, Dig.nil, by simp [valD], by simp, by simpa using h0, fun _ => Canon.nil⟩
  · rintro a' W ⟨hW, l, u, v, ⟨x, rfl⟩, hown, hd, hv, hl, hu, hcn⟩
    have hz := hW.size
    replace hv := Lib.hid hv
    replace hu := Lib.hid hu
    replace hcn := Lib.hid hcn
    by_cases h : u = 0
    · subst h
      have hC := Lib.hid (hcn.out rfl)
      have hn := Lib.hid (show valD l = u0 by have := hv.out; omega)
      clear hcn hv hu
      go_wp2
      go_ret
      exact ⟨v, rfl, hn.out ▸ bits_own hown rfl (by omega) hd hC.out, hW⟩
    · have hpos : 0 < u := by omega
      have hp : 0 < (u : Int) := by omega
      have hlt : l.length < 64 := by
        have := hu.out
        rcases Nat.lt_or_ge l.length 64 with h1 | h1
        · exact h1
        · have : 64 - l.length = 0 := by omega
          rw [this] at hu
          have := hu.out
          simp at this
          omega
      have hu64 : u < 18446744073709551616 := by have := hu.out; have := Nat.pow_le_pow_right (n := 2) (by omega) (show 64 - l.length ≤ 64 by omega); omega
      go_wp2_with (at_builtin; refine wpList_append_own _ rfl (.tmp 6) (.tmp 10) 92 rfl w.heap.size 3 i0 (.int .i64 0) 1 8 (by kernel_rfl) hi hz0 hz1 hz2 rfl (by decide) _ _ _ rfl (hown.alloc _) ⟨W.heap.size, 0, none⟩ 1 1 [.int .i64 (u % 2 : Int)] rfl rfl (cell_one_new _ _ _) (by simp [Value.oneCell']) (by simp [maxLen]; omega) (by omega) (by simp; omega) ?_)
      intro v' w1 hown' hgr _
      have hB := Lib.hid (below_append hW hz hown hgr)
      replace hown' := Lib.hid hown'
      clear hgr hown
      go_wp2
      rw [show (u : Int) / 2 = ((u / 2 : Nat) : Int) by omega]
      refine ⟨?_, by simp [intAt]; omega⟩
      unfold sizeRel
      have e2 : ((u : Int) % 2).toNat = u % 2 := by omega
      refine ⟨hB.out, l ++ [(u : Int) % 2], u / 2, v', frame_ex rfl, by simpa using hown'.out, hd.snoc (by omega), ?_, by simp; omega, ?_, fun h2 => ?_⟩
      · have := hv.out
        rw [valD_snoc, e2, List.length_append, List.length_singleton, Nat.pow_succ, Nat.mul_assoc, Nat.add_assoc, ← Nat.mul_add, show u % 2 + 2 * (u / 2) = u by omega]
        exact this
      · have := hu.out
        rw [List.length_append, List.length_singleton]
        have e : 2 ^ (64 - l.length) = 2 * 2 ^ (64 - (l.length + 1)) := by rw [show 64 - l.length = (64 - (l.length + 1)) + 1 by omega, Nat.pow_succ]; omega
        omega
      · have : u = 1 := by omega
        subst this
        exact canon_snoc_one l
theorem valD_noughts : ∀ n : Nat, valD (List.replicate n 0) = 0
  | 0 => rfl
  | n + 1 => by simp [List.replicate_succ, valD, valD_noughts n]
theorem dig_noughts (n : Nat) : Dig (List.replicate n 0) := fun d h => .inl (List.eq_of_mem_replicate h)
def powRel (n : Nat) (w : World) (a' : Act) (W : World) : Prop :=
  Below w.heap.size w W ∧ ∃ (k : Nat) (v : Value), (∃ x : Nat → Value, a' = { tmps := #[.int .i64 (n : Int), x 1, x 2, v, .int .i64 (k : Int), x 5, x 6, x 7, x 8, x 9, x 10, x 11, x 12, x 13, x 14, x 15], defers := [] }) ∧
    W.ownsRow w.heap.size 3 1 v k ((List.replicate k (0 : Int)).map (Value.int .i64)) ∧ k ≤ n
set_option maxRecDepth 100000 in
set_option maxHeartbeats 4000000 in
theorem c_power (n : Nat) (w : World) (hn : n ≤ 900) :
    Calls Tryz.prog 93 #[.int .i64 (n : Int)] w fun e w' => ∃ v, e = .returned v ∧ Bits w' v (2 ^ n) ∧ Below w.heap.size w w' := by
  obtain ⟨i0, hi, hz0, hz1, hz2⟩ := info_parts Tryz.infoI
  go_enter Tryz.func93, Tryz.ntmps93
  go_wp2
  refine wp_loop (powRel n w) (fun a' _ => n - (intAt (a'.tmps.getD 4 undef)).toNat) ?_ ?_
  · unfold powRel
    exact ⟨Below.refl _ _, 0, _, frame_ex rfl, World.ownsRow_nil _ _ _ _, Nat.zero_le _⟩
  · rintro a' W ⟨hW, k, v, ⟨x, rfl⟩, hown, hk⟩
    have hz := hW.size
    rcases Nat.lt_or_ge k n with hlt | hge
    · go_wp2_with (at_builtin; refine wpList_append_own _ rfl (.tmp 10) (.tmp 11) 92 rfl w.heap.size 3 i0 (.int .i64 0) 1 8 (by kernel_rfl) hi hz0 hz1 hz2 rfl (by decide) _ _ _ rfl (hown.alloc _) ⟨W.heap.size, 0, none⟩ 1 1 [.int .i64 0] rfl rfl (cell_one_new _ _ _) (by simp [Value.oneCell']) (by simp [maxLen]; omega) (by omega) (by simp; omega) ?_)
      intro v' w1 hown' hgr _
      have hB := Lib.hid (below_append hW hz hown hgr)
      replace hown' := Lib.hid hown'
      clear hgr hown
      go_wp2
      rw [show (k : Int) + 1 = ((k + 1 : Nat) : Int) by omega]
      refine ⟨?_, by simp [intAt]; omega⟩
      unfold powRel
      exact ⟨hB.out, k + 1, v', frame_ex rfl, by rw [List.replicate_succ', List.map_append, List.map_replicate]; exact hown'.out, hlt⟩
    · obtain rfl : k = n := by omega
      go_wp2_with (at_builtin; refine wpList_append_own _ rfl (.tmp 13) (.tmp 14) 92 rfl w.heap.size 3 i0 (.int .i64 0) 1 8 (by kernel_rfl) hi hz0 hz1 hz2 rfl (by decide) _ _ _ rfl (hown.alloc _) ⟨W.heap.size, 0, none⟩ 1 1 [.int .i64 1] rfl rfl (cell_one_new _ _ _) (by simp [Value.oneCell']) (by simp [maxLen]; omega) (by omega) (by simp; omega) ?_)
      intro v' w1 hown' hgr _
      have hB := Lib.hid (below_append hW hz hown hgr)
      have hv : valD (List.replicate k (0 : Int) ++ [1]) = 2 ^ k := by rw [valD_snoc, valD_noughts]; simp
      have hb : Bits w1 v' (valD (List.replicate k (0 : Int) ++ [1])) := bits_own (n := k + 1) (by rw [List.map_append, List.map_replicate]; exact hown') (by simp) (by simp; omega) ((dig_noughts k).snoc (.inr rfl)) (canon_snoc_one _)
      rw [hv] at hb
      replace hb := Lib.hid hb
      clear hgr hown hown' hv
      go_wp2
      go_ret
      exact ⟨v', rfl, hb.out, hB.out⟩
end Go.Proofs.YtgblmlefmohgnaaGreat
namespace Go.Proofs.YtgblmlefmohgnaaGreat
open Go.RowKit
theorem DigsIn.taken {w : World} {p : Option Addr} {l : List Int} (h : DigsIn w p l) (k : Nat) : DigsIn w p (l.take k) := h.take k
def trimRel (w : World) (b o cap : Nat) (l : List Int) (a' : Act) (W : World) : Prop :=
  Below w.heap.size w W ∧ ∃ k : Nat, (∃ u : Nat → Value, a' = { tmps := #[.slice (some ⟨b, o, none⟩) l.length cap, u 1, u 2, .int .i64 (k : Int), u 4, u 5, u 6, u 7, u 8, u 9, u 10, u 11, u 12, u 13, u 14, u 15, u 16, u 17, u 18, u 19, u 20], defers := [] }) ∧ k ≤ l.length ∧ valD (l.take k) = valD l
set_option maxRecDepth 100000 in
set_option maxHeartbeats 4000000 in
theorem trim_some (b o cap : Nat) (l : List Int) (w : World) (h : DigsIn w (some ⟨b, o, none⟩) l) (hc : l.length ≤ cap) (hcm : cap ≤ 9223372036854775807) (hl : l.length ≤ 1000) (hd : Dig l) :
    Calls Tryz.prog 125 #[.slice (some ⟨b, o, none⟩) l.length cap] w fun e w' => ∃ v, e = .returned v ∧ Bits w' v (valD l) ∧ Below w.heap.size w w' := by
  go_enter Tryz.func125, Tryz.ntmps125
  go_wp2
  refine wp_loop (trimRel w b o cap l) (fun a' _ => (intAt (a'.tmps.getD 3 undef)).toNat) ?_ ?_
  · unfold trimRel
    exact ⟨Below.refl _ _, l.length, frame_ex rfl, Nat.le_refl _, by rw [List.take_length]⟩
  · rintro a' W ⟨hW, k, ⟨u, rfl⟩, hk, hv⟩
    replace hv := Lib.hid hv
    rcases Nat.eq_zero_or_pos k with rfl | hpos
    · go_wp2
      go_ret
      refine ⟨_, rfl, ⟨some ⟨b, o, none⟩, l.take 0, cap, by simp, by simp, by simp, (fun e => by cases e), (h.below hW).taken 0, by simpa using Dig.nil, by simpa using Canon.nil, hv.out⟩, hW⟩
    · obtain ⟨j, rfl⟩ : ∃ j, k = j + 1 := ⟨k - 1, by omega⟩
      obtain ⟨d, hdj⟩ : ∃ d, l[j]? = some d := ⟨l[j], List.getElem?_eq_getElem (by omega)⟩
      obtain ⟨b', o', e, q0⟩ := (h.below hW).at' j d hdj
      cases e
      have e1 : ((j + 1 : Nat) : Int) - 1 = (j : Int) := by omega
      have ht := Lib.hid (valD_take hdj)
      have hdd := hd.at hdj
      have hcan := Lib.hid (show d = 1 → Canon (l.take (j + 1)) from fun e => by rw [List.take_add_one, hdj, e]; exact canon_snoc_one _)
      clear hdj
      replace e1 := Lib.hid e1
      rcases hdd with rfl | rfl
      · go_wp2
        refine ⟨?_, by simp [intAt]⟩
        unfold trimRel
        exact ⟨hW, j, frame_ex rfl, by omega, by have := ht.out; have := hv.out; simp at *; omega⟩
      · go_wp2
        go_ret
        exact ⟨_, rfl, ⟨some ⟨b, o, none⟩, l.take (j + 1), cap, by rw [List.length_take, Nat.min_eq_left hk]; rfl, by rw [List.length_take]; omega, by rw [List.length_take]; omega, (fun e => by cases e), (h.below hW).taken _, hd.take _, hcan.out trivial, hv.out⟩, hW⟩
set_option maxRecDepth 100000 in
set_option maxHeartbeats 4000000 in
theorem trim_nil (p : Option Addr) (cap : Nat) (w : World) (hd : DigsIn w p []) (hn : p = none → cap = 0) (hcm : cap ≤ 9223372036854775807) :
    Calls Tryz.prog 125 #[.slice p 0 cap] w fun e w' => ∃ v, e = .returned v ∧ Bits w' v 0 ∧ Below w.heap.size w w' := by
  cases p with
  | none =>
    obtain rfl := hn rfl
    go_enter Tryz.func125, Tryz.ntmps125
    go_wp2
    refine wp_loop (fun a' W => W = w ∧ ∃ u : Nat → Value, a' = { tmps := #[.slice none 0 0, u 1, u 2, .int .i64 0, u 4, u 5, u 6, u 7, u 8, u 9, u 10, u 11, u 12, u 13, u 14, u 15, u 16, u 17, u 18, u 19, u 20], defers := [] }) (fun _ _ => 0) ⟨rfl, frame_ex rfl⟩ ?_
    rintro a' W ⟨rfl, u, rfl⟩
    go_wp2
    go_ret
    exact ⟨_, rfl, Bits.zero _, Below.refl _ _⟩
  | some a =>
    go_enter Tryz.func125, Tryz.ntmps125
    go_wp2
    refine wp_loop (fun a' W => W = w ∧ ∃ u : Nat → Value, a' = { tmps := #[.slice (some a) 0 cap, u 1, u 2, .int .i64 0, u 4, u 5, u 6, u 7, u 8, u 9, u 10, u 11, u 12, u 13, u 14, u 15, u 16, u 17, u 18, u 19, u 20], defers := [] }) (fun _ _ => 0) ⟨rfl, frame_ex rfl⟩ ?_
    rintro a' W ⟨rfl, u, rfl⟩
    go_wp2
    go_ret
    exact ⟨_, rfl, ⟨_, [], cap, rfl, by simp, by simp, (fun e => by cases e), hd, Dig.nil, Canon.nil, rfl⟩, Below.refl _ _⟩
theorem c_trim (p : Option Addr) (cap : Nat) (l : List Int) (w : World) (h : DigsIn w p l) (hn : p = none → l = [] ∧ cap = 0) (hc : l.length ≤ cap) (hcm : cap ≤ 9223372036854775807) (hl : l.length ≤ 1000) (hd : Dig l) :
    Calls Tryz.prog 125 #[.slice p l.length cap] w fun e w' => ∃ v, e = .returned v ∧ Bits w' v (valD l) ∧ Below w.heap.size w w' := by
  cases l with
  | nil => exact trim_nil p cap w h (fun e => (hn e).2) hcm
  | cons d l =>
    obtain ⟨b, o, rfl, _⟩ := h.at' 0 d rfl
    exact trim_some b o cap (d :: l) w h hc hcm hl hd
end Go.Proofs.YtgblmlefmohgnaaGreat
namespace Go.Proofs.YtgblmlefmohgnaaGreat
open Go.RowKit
def plusRel (w : World) (p q : Option Addr) (a b : List Int) (ca cb : Nat) (a' : Act) (W : World) : Prop :=
  Below w.heap.size w W ∧ ∃ (l : List Int) (c : Int) (v : Value), (∃ u : Nat → Value, a' = { tmps := #[.slice p a.length ca, .slice q b.length cb, u 2, u 3, u 4, v, .int .i64 c, .int .i64 (l.length : Int), u 8, u 9, u 10, u 11, u 12, u 13, u 14, u 15, u 16, u 17, u 18, u 19, u 20, u 21, u 22, u 23, u 24, u 25, u 26, u 27, u 28, u 29, u 30, u 31, u 32, u 33, u 34, u 35, u 36, u 37, u 38, u 39, u 40, u 41, u 42, u 43, u 44, u 45, u 46, u 47, u 48, u 49, u 50, u 51, u 52, u 53], defers := [] }) ∧
    W.ownsRow w.heap.size 3 1 v l.length (l.map (Value.int .i64)) ∧ Dig l ∧ (0 ≤ c ∧ c ≤ 1) ∧ valD l + 2 ^ l.length * c.toNat = valD (a.take l.length) + valD (b.take l.length) ∧
    ((l.length : Int) + c ≤ a.length + 1 ∨ (l.length : Int) + c ≤ b.length + 1) ∧ (l.length = 0 ∨ l.length ≤ a.length ∨ l.length ≤ b.length ∨ 2 ^ (l.length - 1) ≤ valD l)
set_option maxRecDepth 100000 in
set_option maxHeartbeats 20000000 in
theorem plus_w (p q : Option Addr) (a b : List Int) (ca cb : Nat) (w : World) (ha : DigsIn w p a) (hb : DigsIn w q b) (hda : Dig a) (hdb : Dig b) (hca : Canon a) (hcb : Canon b) (hla : a.length ≤ 950) (hlb : b.length ≤ 950) :
    Calls Tryz.prog 94 #[.slice p a.length ca, .slice q b.length cb] w fun e w' => ∃ v, e = .returned v ∧ Bits w' v (valD a + valD b) ∧ Below w.heap.size w w' := by
  obtain ⟨i0, hi, hz0, hz1, hz2⟩ := info_parts Tryz.infoI
  go_enter Tryz.func94, Tryz.ntmps94
  go_wp2
  refine wp_loop (plusRel w p q a b ca cb) (fun a' _ => 2000 - (intAt (a'.tmps.getD 7 undef)).toNat) ?_ ?_
  · unfold plusRel
    exact ⟨Below.refl _ _, [], 0, _, frame_ex rfl, World.ownsRow_nil _ _ _ _, Dig.nil, by omega, by simp [valD], by simp; omega, .inl rfl⟩
  · rintro a' W ⟨hW, l, c, v, ⟨u, rfl⟩, hown, hd, hc, hv, hM, hcn⟩
    have hz := hW.size
    replace hv := Lib.hid hv
    replace hcn := Lib.hid hcn
    have hl9 : l.length ≤ 951 := by omega
    by_cases hia : l.length < a.length
    · by_cases hib : l.length < b.length
      ·
        obtain ⟨x, hx⟩ : ∃ x, a[l.length]? = some x := ⟨a[l.length], List.getElem?_eq_getElem hia⟩
        obtain ⟨ga, oa, rfl, qa⟩ := (ha.below hW).at' _ x hx
        have bx : 0 ≤ x ∧ x ≤ 1 := by have := hda.at hx; omega
        have ta := valD_take hx
        obtain ⟨y, hy⟩ : ∃ y, b[l.length]? = some y := ⟨b[l.length], List.getElem?_eq_getElem hib⟩
        obtain ⟨gb, ob, rfl, qb⟩ := (hb.below hW).at' _ y hy
        have by' : 0 ≤ y ∧ y ≤ 1 := by have := hdb.at hy; omega
        have tb := valD_take hy
        replace ta := Lib.hid ta
        replace tb := Lib.hid tb
        clear hx
        clear hy
        go_wp2_with (at_builtin; refine wpList_append_own _ rfl (.tmp 46) (.tmp 49) 92 rfl w.heap.size 3 i0 (.int .i64 0) 1 8 (by kernel_rfl) hi hz0 hz1 hz2 rfl (by decide) _ _ _ rfl (hown.alloc _) ⟨W.heap.size, 0, none⟩ 1 1 [.int .i64 ((c + x + y) % 2)] rfl rfl (cell_one_new _ _ _) (by simp [Value.oneCell']) (by simp [maxLen]; omega) (by omega) (by simp; omega) ?_)
        intro v' w1 hown' hgr _
        have hB := Lib.hid (below_append hW hz hown hgr)
        replace hown' := Lib.hid hown'
        clear hgr hown
        go_wp2
        refine ⟨?_, by simp [intAt]; omega⟩
        have ee : ((l.length : Int) + 1) = (((l ++ [(c + x + y) % 2]).length : Nat) : Int) := by simp
        rw [ee]
        unfold plusRel
        refine ⟨hB.out, l ++ [(c + x + y) % 2], (c + x + y) / 2, v', frame_ex rfl, by simpa using hown'.out, hd.snoc (by omega), by omega, ?_, by simp; omega, ?_⟩
        · have := hv.out
          have e1 : ((c + x + y) % 2).toNat + 2 * ((c + x + y) / 2).toNat = c.toNat + x.toNat + y.toNat := by omega
          rw [valD_snoc, List.length_append, List.length_singleton, Nat.pow_succ, Nat.mul_assoc, Nat.add_assoc, ← Nat.mul_add, e1, ta.out, tb.out]
          try simp only [Nat.mul_add]
          omega
        · exact .inr (.inl (by simp; omega))
      ·
        obtain ⟨x, hx⟩ : ∃ x, a[l.length]? = some x := ⟨a[l.length], List.getElem?_eq_getElem hia⟩
        obtain ⟨ga, oa, rfl, qa⟩ := (ha.below hW).at' _ x hx
        have bx : 0 ≤ x ∧ x ≤ 1 := by have := hda.at hx; omega
        have ta := valD_take hx
        have tb : valD (b.take (l.length + 1)) = valD (b.take l.length) := by rw [valD_all b (by omega), valD_all b (by omega)]
        replace ta := Lib.hid ta
        replace tb := Lib.hid tb
        clear hx
        go_wp2_with (at_builtin; refine wpList_append_own _ rfl (.tmp 46) (.tmp 49) 92 rfl w.heap.size 3 i0 (.int .i64 0) 1 8 (by kernel_rfl) hi hz0 hz1 hz2 rfl (by decide) _ _ _ rfl (hown.alloc _) ⟨W.heap.size, 0, none⟩ 1 1 [.int .i64 ((c + x) % 2)] rfl rfl (cell_one_new _ _ _) (by simp [Value.oneCell']) (by simp [maxLen]; omega) (by omega) (by simp; omega) ?_)
        intro v' w1 hown' hgr _
        have hB := Lib.hid (below_append hW hz hown hgr)
        replace hown' := Lib.hid hown'
        clear hgr hown
        go_wp2
        refine ⟨?_, by simp [intAt]; omega⟩
        have ee : ((l.length : Int) + 1) = (((l ++ [(c + x) % 2]).length : Nat) : Int) := by simp
        rw [ee]
        unfold plusRel
        refine ⟨hB.out, l ++ [(c + x) % 2], (c + x) / 2, v', frame_ex rfl, by simpa using hown'.out, hd.snoc (by omega), by omega, ?_, by simp; omega, ?_⟩
        · have := hv.out
          have e1 : ((c + x) % 2).toNat + 2 * ((c + x) / 2).toNat = c.toNat + x.toNat := by omega
          rw [valD_snoc, List.length_append, List.length_singleton, Nat.pow_succ, Nat.mul_assoc, Nat.add_assoc, ← Nat.mul_add, e1, ta.out, tb.out]
          try simp only [Nat.mul_add]
          omega
        · exact .inr (.inl (by simp; omega))
    · by_cases hib : l.length < b.length
      ·
        have ta : valD (a.take (l.length + 1)) = valD (a.take l.length) := by rw [valD_all a (by omega), valD_all a (by omega)]
        obtain ⟨y, hy⟩ : ∃ y, b[l.length]? = some y := ⟨b[l.length], List.getElem?_eq_getElem hib⟩
        obtain ⟨gb, ob, rfl, qb⟩ := (hb.below hW).at' _ y hy
        have by' : 0 ≤ y ∧ y ≤ 1 := by have := hdb.at hy; omega
        have tb := valD_take hy
        replace ta := Lib.hid ta
        replace tb := Lib.hid tb
        clear hy
        go_wp2_with (at_builtin; refine wpList_append_own _ rfl (.tmp 46) (.tmp 49) 92 rfl w.heap.size 3 i0 (.int .i64 0) 1 8 (by kernel_rfl) hi hz0 hz1 hz2 rfl (by decide) _ _ _ rfl (hown.alloc _) ⟨W.heap.size, 0, none⟩ 1 1 [.int .i64 ((c + y) % 2)] rfl rfl (cell_one_new _ _ _) (by simp [Value.oneCell']) (by simp [maxLen]; omega) (by omega) (by simp; omega) ?_)
        intro v' w1 hown' hgr _
        have hB := Lib.hid (below_append hW hz hown hgr)
        replace hown' := Lib.hid hown'
        clear hgr hown
        go_wp2
        refine ⟨?_, by simp [intAt]; omega⟩
        have ee : ((l.length : Int) + 1) = (((l ++ [(c + y) % 2]).length : Nat) : Int) := by simp
        rw [ee]
        unfold plusRel
        refine ⟨hB.out, l ++ [(c + y) % 2], (c + y) / 2, v', frame_ex rfl, by simpa using hown'.out, hd.snoc (by omega), by omega, ?_, by simp; omega, ?_⟩
        · have := hv.out
          have e1 : ((c + y) % 2).toNat + 2 * ((c + y) / 2).toNat = c.toNat + y.toNat := by omega
          rw [valD_snoc, List.length_append, List.length_singleton, Nat.pow_succ, Nat.mul_assoc, Nat.add_assoc, ← Nat.mul_add, e1, ta.out, tb.out]
          try simp only [Nat.mul_add]
          omega
        · exact .inr (.inr (.inl (by simp; omega)))
      · by_cases hc0 : 0 < c
        ·
          have ta : valD (a.take (l.length + 1)) = valD (a.take l.length) := by rw [valD_all a (by omega), valD_all a (by omega)]
          have tb : valD (b.take (l.length + 1)) = valD (b.take l.length) := by rw [valD_all b (by omega), valD_all b (by omega)]
          replace ta := Lib.hid ta
          replace tb := Lib.hid tb
          go_wp2_with (at_builtin; refine wpList_append_own _ rfl (.tmp 46) (.tmp 49) 92 rfl w.heap.size 3 i0 (.int .i64 0) 1 8 (by kernel_rfl) hi hz0 hz1 hz2 rfl (by decide) _ _ _ rfl (hown.alloc _) ⟨W.heap.size, 0, none⟩ 1 1 [.int .i64 ((c) % 2)] rfl rfl (cell_one_new _ _ _) (by simp [Value.oneCell']) (by simp [maxLen]; omega) (by omega) (by simp; omega) ?_)
          intro v' w1 hown' hgr _
          have hB := Lib.hid (below_append hW hz hown hgr)
          replace hown' := Lib.hid hown'
          clear hgr hown
          go_wp2
          refine ⟨?_, by simp [intAt]; omega⟩
          have ee : ((l.length : Int) + 1) = (((l ++ [(c) % 2]).length : Nat) : Int) := by simp
          rw [ee]
          unfold plusRel
          refine ⟨hB.out, l ++ [(c) % 2], (c) / 2, v', frame_ex rfl, by simpa using hown'.out, hd.snoc (by omega), by omega, ?_, by simp; omega, ?_⟩
          · have := hv.out
            have e1 : ((c) % 2).toNat + 2 * ((c) / 2).toNat = c.toNat := by omega
            rw [valD_snoc, List.length_append, List.length_singleton, Nat.pow_succ, Nat.mul_assoc, Nat.add_assoc, ← Nat.mul_add, e1, ta.out, tb.out]
            try simp only [Nat.mul_add]
            omega
          · have hc1 : c = 1 := by omega
            subst hc1
            exact .inr (.inr (.inr (by rw [valD_snoc]; simp)))
        · have hc1 : c = 0 := by omega
          subst hc1
          have hsum := Lib.hid (show valD l = valD a + valD b by
            have := hv.out
            rw [valD_all a (by omega), valD_all b (by omega)] at this
            simpa using this)
          have hcan : Canon l := by
            by_cases h0 : l = []
            · exact .inl h0
            · refine .inr ?_
              have hne : l.length ≠ 0 := fun e => h0 (List.length_eq_zero_iff.1 e)
              have hs := hsum.out
              rcases hcn.out with h1 | h1 | h1 | h1
              · omega
              · have e : l.length = a.length := by omega
                have := canon_pos hca (by rintro rfl; simp at e; exact h0 e)
                rw [← e] at this
                omega
              · have e : l.length = b.length := by omega
                have := canon_pos hcb (by rintro rfl; simp at e; exact h0 e)
                rw [← e] at this
                omega
              · exact h1
          have hbits := Lib.hid (bits_own hown rfl (by omega) hd hcan)
          clear hcn hv hcan hown
          go_wp2
          go_ret
          exact ⟨v, rfl, hsum.out ▸ hbits.out, hW⟩
end Go.Proofs.YtgblmlefmohgnaaGreat
namespace Go.Proofs.YtgblmlefmohgnaaGreat
open Go.RowKit
def mnsRel (w : World) (p q : Option Addr) (a b : List Int) (ca cb : Nat) (a' : Act) (W : World) : Prop :=
  Below w.heap.size w W ∧ ∃ (l : List Int) (c : Int) (v : Value), (∃ u : Nat → Value, a' = { tmps := #[.slice p a.length ca, .slice q b.length cb, u 2, u 3, u 4, v, .int .i64 c, .int .i64 (l.length : Int), u 8, u 9, u 10, u 11, u 12, u 13, u 14, u 15, u 16, u 17, u 18, u 19, u 20, u 21, u 22, u 23, u 24, u 25, u 26, u 27, u 28, u 29, u 30, u 31, u 32, u 33, u 34, u 35, u 36, u 37, u 38, u 39, u 40], defers := [] }) ∧
    W.ownsRow w.heap.size 3 1 v l.length (l.map (Value.int .i64)) ∧ Dig l ∧ (0 ≤ c ∧ c ≤ 1) ∧ valD l + valD (b.take l.length) = valD (a.take l.length) + 2 ^ l.length * c.toNat ∧ l.length ≤ a.length
set_option maxRecDepth 100000 in
set_option maxHeartbeats 20000000 in
theorem minus_w (p q : Option Addr) (a b : List Int) (ca cb : Nat) (w : World) (ha : DigsIn w p a) (hb : DigsIn w q b) (hda : Dig a) (hdb : Dig b) (hla : a.length ≤ 950) (hlb : b.length ≤ a.length) (hge : valD b ≤ valD a) :
    Calls Tryz.prog 92 #[.slice p a.length ca, .slice q b.length cb] w fun e w' => ∃ v, e = .returned v ∧ Bits w' v (valD a - valD b) ∧ Below w.heap.size w w' := by
  obtain ⟨i0, hi, hz0, hz1, hz2⟩ := info_parts Tryz.infoI
  go_enter Tryz.func92, Tryz.ntmps92
  go_wp2
  refine wp_loop (mnsRel w p q a b ca cb) (fun a' _ => 2000 - (intAt (a'.tmps.getD 7 undef)).toNat) ?_ ?_
  · unfold mnsRel
    exact ⟨Below.refl _ _, [], 0, _, frame_ex rfl, World.ownsRow_nil _ _ _ _, Dig.nil, by omega, by simp [valD], by simp⟩
  · rintro a' W ⟨hW, l, c, v, ⟨u, rfl⟩, hown, hd, hc, hv, hM⟩
    have hz := hW.size
    replace hv := Lib.hid hv
    have hl9 : l.length ≤ 950 := by omega
    by_cases hia : l.length < a.length
    · obtain ⟨x, hx⟩ : ∃ x, a[l.length]? = some x := ⟨a[l.length], List.getElem?_eq_getElem hia⟩
      obtain ⟨ga, oa, rfl, qa⟩ := (ha.below hW).at' _ x hx
      have bx : 0 ≤ x ∧ x ≤ 1 := by have := hda.at hx; omega
      have ta := Lib.hid (valD_take hx)
      clear hx
      by_cases hib : l.length < b.length
      · obtain ⟨y, hy⟩ : ∃ y, b[l.length]? = some y := ⟨b[l.length], List.getElem?_eq_getElem hib⟩
        obtain ⟨gb, ob, rfl, qb⟩ := (hb.below hW).at' _ y hy
        have bq : 0 ≤ y ∧ y ≤ 1 := by have := hdb.at hy; omega
        have tb := Lib.hid (valD_take hy)
        clear hy
        by_cases hlow : x - c - y < 0
        ·
          go_wp2_with (at_builtin; refine wpList_append_own _ rfl (.tmp 35) (.tmp 37) 92 rfl w.heap.size 3 i0 (.int .i64 0) 1 8 (by kernel_rfl) hi hz0 hz1 hz2 rfl (by decide) _ _ _ rfl (hown.alloc _) ⟨W.heap.size, 0, none⟩ 1 1 [.int .i64 (x - c - y + 2)] rfl rfl (cell_one_new _ _ _) (by simp [Value.oneCell']) (by simp [maxLen]; omega) (by omega) (by simp; omega) ?_)
          intro v' w1 hown' hgr _
          have hB := Lib.hid (below_append hW hz hown hgr)
          replace hown' := Lib.hid hown'
          clear hgr hown
          go_wp2
          refine ⟨?_, by simp [intAt]; omega⟩
          have ee : ((l.length : Int) + 1) = (((l ++ [x - c - y + 2]).length : Nat) : Int) := by simp
          rw [ee]
          unfold mnsRel
          refine ⟨hB.out, l ++ [x - c - y + 2], 1, v', frame_ex rfl, by simpa using hown'.out, hd.snoc (by omega), by omega, ?_, by simp; omega⟩
          have := hv.out
          have e1 : (x - c - y + 2).toNat + c.toNat + y.toNat = x.toNat + 2 * (1 : Int).toNat := by omega
          obtain ⟨Pw, hPw⟩ : ∃ Pw, Pw = 2 ^ l.length := ⟨_, rfl⟩
          rw [valD_snoc, List.length_append, List.length_singleton, Nat.pow_succ, ta.out, tb.out]
          rw [← hPw] at this ⊢
          have e2 : Pw * (x - c - y + 2).toNat + Pw * c.toNat + Pw * y.toNat = Pw * x.toNat + Pw * (2 * (1 : Int).toNat) := by rw [← Nat.mul_add, ← Nat.mul_add, e1, Nat.mul_add]
          have e3 : Pw * 2 * (1 : Int).toNat = Pw * (2 * (1 : Int).toNat) := Nat.mul_assoc _ _ _
          omega
        ·
          go_wp2_with (at_builtin; refine wpList_append_own _ rfl (.tmp 35) (.tmp 37) 92 rfl w.heap.size 3 i0 (.int .i64 0) 1 8 (by kernel_rfl) hi hz0 hz1 hz2 rfl (by decide) _ _ _ rfl (hown.alloc _) ⟨W.heap.size, 0, none⟩ 1 1 [.int .i64 (x - c - y)] rfl rfl (cell_one_new _ _ _) (by simp [Value.oneCell']) (by simp [maxLen]; omega) (by omega) (by simp; omega) ?_)
          intro v' w1 hown' hgr _
          have hB := Lib.hid (below_append hW hz hown hgr)
          replace hown' := Lib.hid hown'
          clear hgr hown
          go_wp2
          refine ⟨?_, by simp [intAt]; omega⟩
          have ee : ((l.length : Int) + 1) = (((l ++ [x - c - y]).length : Nat) : Int) := by simp
          rw [ee]
          unfold mnsRel
          refine ⟨hB.out, l ++ [x - c - y], 0, v', frame_ex rfl, by simpa using hown'.out, hd.snoc (by omega), by omega, ?_, by simp; omega⟩
          have := hv.out
          have e1 : (x - c - y).toNat + c.toNat + y.toNat = x.toNat + 2 * (0 : Int).toNat := by omega
          obtain ⟨Pw, hPw⟩ : ∃ Pw, Pw = 2 ^ l.length := ⟨_, rfl⟩
          rw [valD_snoc, List.length_append, List.length_singleton, Nat.pow_succ, ta.out, tb.out]
          rw [← hPw] at this ⊢
          have e2 : Pw * (x - c - y).toNat + Pw * c.toNat + Pw * y.toNat = Pw * x.toNat + Pw * (2 * (0 : Int).toNat) := by rw [← Nat.mul_add, ← Nat.mul_add, e1, Nat.mul_add]
          have e3 : Pw * 2 * (0 : Int).toNat = Pw * (2 * (0 : Int).toNat) := Nat.mul_assoc _ _ _
          omega
      · have tb := Lib.hid (show valD (b.take (l.length + 1)) = valD (b.take l.length) by rw [valD_all b (by omega), valD_all b (by omega)])
        by_cases hlow : x - c < 0
        ·
          go_wp2_with (at_builtin; refine wpList_append_own _ rfl (.tmp 35) (.tmp 37) 92 rfl w.heap.size 3 i0 (.int .i64 0) 1 8 (by kernel_rfl) hi hz0 hz1 hz2 rfl (by decide) _ _ _ rfl (hown.alloc _) ⟨W.heap.size, 0, none⟩ 1 1 [.int .i64 (x - c + 2)] rfl rfl (cell_one_new _ _ _) (by simp [Value.oneCell']) (by simp [maxLen]; omega) (by omega) (by simp; omega) ?_)
          intro v' w1 hown' hgr _
          have hB := Lib.hid (below_append hW hz hown hgr)
          replace hown' := Lib.hid hown'
          clear hgr hown
          go_wp2
          refine ⟨?_, by simp [intAt]; omega⟩
          have ee : ((l.length : Int) + 1) = (((l ++ [x - c + 2]).length : Nat) : Int) := by simp
          rw [ee]
          unfold mnsRel
          refine ⟨hB.out, l ++ [x - c + 2], 1, v', frame_ex rfl, by simpa using hown'.out, hd.snoc (by omega), by omega, ?_, by simp; omega⟩
          have := hv.out
          have e1 : (x - c + 2).toNat + c.toNat = x.toNat + 2 * (1 : Int).toNat := by omega
          obtain ⟨Pw, hPw⟩ : ∃ Pw, Pw = 2 ^ l.length := ⟨_, rfl⟩
          rw [valD_snoc, List.length_append, List.length_singleton, Nat.pow_succ, ta.out, tb.out]
          rw [← hPw] at this ⊢
          have e2 : Pw * (x - c + 2).toNat + Pw * c.toNat = Pw * x.toNat + Pw * (2 * (1 : Int).toNat) := by rw [← Nat.mul_add, e1, Nat.mul_add]
          have e3 : Pw * 2 * (1 : Int).toNat = Pw * (2 * (1 : Int).toNat) := Nat.mul_assoc _ _ _
          omega
        ·
          go_wp2_with (at_builtin; refine wpList_append_own _ rfl (.tmp 35) (.tmp 37) 92 rfl w.heap.size 3 i0 (.int .i64 0) 1 8 (by kernel_rfl) hi hz0 hz1 hz2 rfl (by decide) _ _ _ rfl (hown.alloc _) ⟨W.heap.size, 0, none⟩ 1 1 [.int .i64 (x - c)] rfl rfl (cell_one_new _ _ _) (by simp [Value.oneCell']) (by simp [maxLen]; omega) (by omega) (by simp; omega) ?_)
          intro v' w1 hown' hgr _
          have hB := Lib.hid (below_append hW hz hown hgr)
          replace hown' := Lib.hid hown'
          clear hgr hown
          go_wp2
          refine ⟨?_, by simp [intAt]; omega⟩
          have ee : ((l.length : Int) + 1) = (((l ++ [x - c]).length : Nat) : Int) := by simp
          rw [ee]
          unfold mnsRel
          refine ⟨hB.out, l ++ [x - c], 0, v', frame_ex rfl, by simpa using hown'.out, hd.snoc (by omega), by omega, ?_, by simp; omega⟩
          have := hv.out
          have e1 : (x - c).toNat + c.toNat = x.toNat + 2 * (0 : Int).toNat := by omega
          obtain ⟨Pw, hPw⟩ : ∃ Pw, Pw = 2 ^ l.length := ⟨_, rfl⟩
          rw [valD_snoc, List.length_append, List.length_singleton, Nat.pow_succ, ta.out, tb.out]
          rw [← hPw] at this ⊢
          have e2 : Pw * (x - c).toNat + Pw * c.toNat = Pw * x.toNat + Pw * (2 * (0 : Int).toNat) := by rw [← Nat.mul_add, e1, Nat.mul_add]
          have e3 : Pw * 2 * (0 : Int).toNat = Pw * (2 * (0 : Int).toNat) := Nat.mul_assoc _ _ _
          omega
    · have hl0 : l.length = a.length := by omega
      have hsum := Lib.hid (show valD l = valD a - valD b by
        have h1 := hv.out
        have h2 := valD_lt l hd
        rw [valD_all a (by omega), valD_all b (by omega)] at h1
        rcases (show c = 0 ∨ c = 1 by omega) with rfl | rfl
        · simp at h1; omega
        · simp at h1; omega)
      obtain ⟨p', cap', hv', hcap, hcm, hn', hI⟩ : ∃ p' cap', v = .slice p' l.length cap' ∧ l.length ≤ cap' ∧ cap' ≤ 9223372036854775807 ∧ (p' = none → l = [] ∧ cap' = 0) ∧ DigsIn W p' l := by
        obtain ⟨_, h2' | ⟨g, cap', cur, rfl, hg, hb', hn, hmx, hcc, ht⟩⟩ := hown
        · obtain ⟨rfl, h0⟩ := h2'
          have : l = [] := List.length_eq_zero_iff.1 h0
          subst this
          exact ⟨none, 0, rfl, by simp, by omega, fun _ => ⟨rfl, rfl⟩, ⟨fun i x h => by simp at h, fun a e => by cases e⟩⟩
        · exact ⟨some ⟨g, 0, none⟩, cap', rfl, hn, by unfold maxLen at hmx; omega, (fun e => by cases e), clone_digs hb' (by simpa using ht)⟩
      subst hv'
      have ct := fun W' (hW' : Below W.heap.size W W') => c_trim p' cap' l W' (hI.below hW') hn' hcap hcm (by omega) hd
      rw [hsum.out] at ct
      replace ct := Lib.hid ct
      clear hv hI hl0
      go_wp2_with fail
      refine (ct.out _ (Below.refl _ _)).mono ?_
      rintro e w2 ⟨v2, rfl, hb2, hB2⟩
      replace hb2 := Lib.hid hb2
      have hBB := Lib.hid (hW.trans (hB2.mono hz))
      clear hB2
      go_wp2
      go_ret
      exact ⟨v2, rfl, hb2.out, hBB.out⟩
end Go.Proofs.YtgblmlefmohgnaaGreat
