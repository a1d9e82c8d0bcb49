/- Parts of the proof that follows: Layer seg: rawPart, walked. | Segments, plainly: the values, and what some of them come to. No condition. | Layer seg: linePart, rawPart, told. | Layer seg: rawPart, told; the closure in Part. | Layer seg: Part. | Layer seg: value, At. | slices.Clone of runs, and of numbers. | Layer seg: Kind, Of. | Layer seg: Of, told. | Layer seg: Of, told. | The laws of chapter 11, plainly: which places some times have. No condition. | Ranges over functions: all times of runs, one behind the other. No condition. | Ranges over functions: what comes is collected; the times of runs. No condition. | All times of runs, told. | All points of a segment, one behind the other. No condition. | All points of a segment, collected. No condition. | seg.Points, told. No condition. -/
import Derived.Laws.EntriesVeiled
import Derived.Laws.AppendOwn
import Derived.RangeFuncNested
import Derived.RangeFuncBound
import Derived.RangeFuncCalls
import Derived.RangeFuncLeaves
import Derived.RangeFuncBox
import Derived.Maps.AppendAt
import Derived.Shelf.Abstract
import Derived.Shelf.RegionOpen
import Derived.WalkKit
import Derived.OwnWalkIn
import Derived.TacticsInMore
import Derived.LoopNIn
import Derived.LoopIn
import Derived.Test.YtdeghcgakkhbmaaGreatTe5
set_option linter.unusedSimpArgs false
set_option linter.unusedVariables false
namespace Go.Proofs.YtdeghcgakkhbmaaGreat
open Go.RowKit
theorem IntsIn.part {w : World} {vb vo i n : Nat} {raw : List Int} (h : IntsIn w (some ⟨vb, vo, none⟩) raw) (k : Nat) (v : Value) (hv : (((raw.drop i).take n).map (Value.int .i64))[k]? = some v) : w.cell? ((⟨vb, vo + i, none⟩ : Addr).add k) = some v := by
  have hadd : (⟨vb, vo + i, none⟩ : Addr).add k = ⟨vb, vo + i + k, none⟩ := by unfold Addr.add; split <;> simp_all
  rw [hadd]
  simp only [List.getElem?_map, Option.map_eq_some_iff] at hv
  obtain ⟨x, hx, rfl⟩ := hv
  have hx' : raw[i + k]? = some x := by
    rw [List.getElem?_take] at hx
    split at hx
    · rwa [List.getElem?_drop] at hx
    · cases hx
  obtain ⟨b, y, e, hc⟩ := h.at' _ x hx'
  cases e
  rw [Nat.add_assoc]; exact hc
def rpRel (w : World) (i j : Nat) (lo hi : Int) (V : List Int) (SS : Nat → Int) (o : Nat) (a' : Act) (W : World) : Prop :=
  Below w.heap.size w W ∧ Blk W (w.heap.size + 1) #[.int .i64 0, .int .i64 0, .int .i64 0, .int .i64 0, .int .u64 0] 260 ∧ Blk W (w.heap.size + 1 + 1) (V.map (Value.int .i64)).toArray 2 ∧ ∃ k : Nat, (∃ u : Nat → Value, a' = { tmps := #[u 0, u 1, u 2, u 3, u 4, u 5, .pointer (some ⟨w.heap.size + 1, 0, none⟩), u 7, .pointer (some ⟨o, 0, none⟩), u 9, u 10, u 11, u 12, u 13, u 14, u 15, u 16, u 17, u 18, u 19, u 20, u 21, u 22, u 23, u 24, u 25, u 26, u 27, u 28, u 29, u 30, .slice (some ⟨w.heap.size + 1 + 1, 0, none⟩) V.length V.length, .int .i64 (V.length : Int), .int .i64 (k : Int), u 34, u 35, u 36, u 37, u 38, u 39, u 40, u 41, u 42, u 43, u 44, u 45, u 46, u 47], defers := [] }) ∧ k ≤ V.length ∧ Blk W o #[.int .i64 ((j : Int) - (i : Int)), .int .i64 lo, .int .i64 hi, .int .i64 (hiW (SS k)), .int .u64 (loW (SS k))] 260
end Go.Proofs.YtdeghcgakkhbmaaGreat
namespace Go.Proofs.YtdeghcgakkhbmaaGreat
open Go.RowKit

def lsum : List Int → Int
  | [] => 0
  | x :: l => x + lsum l
/-- The places from i on, below j. -/
def slice (l : List Int) (i j : Nat) : List Int := (l.take j).drop i
end Go.Proofs.YtdeghcgakkhbmaaGreat
namespace Go.Proofs.YtdeghcgakkhbmaaGreat
open Go.RowKit
def valAt (s : SegT) (t : Int) : Int := lineVal s.A s.R s.n s.d (t - firstT s.runs)
def vals (s : SegT) : List Int := if s.K = 4 then s.raw else (timesL s.runs).map (valAt s)
/-- What some numbers come to. -/
def partA (W : List Int) : Array Value := #[.int .i64 W.length, .int .i64 (minL W), .int .i64 (maxL W), .int .i64 (hiW (lsum W)), .int .u64 (loW (lsum W))]
theorem isBack_iff {v : Int} : isBack v = true ↔ -2305844108725321728 ≤ v ∧ v ≤ 2305844108725321728 := by unfold isBack; simp
theorem lineVal_up {A R n d t t' : Int} (hd : 1 ≤ d) (hn : 0 ≤ n) (h : t ≤ t') : lineVal A R n d t ≤ lineVal A R n d t' := by
  unfold lineVal
  have := Int.mul_le_mul_of_nonneg_left h hn
  have := Int.ediv_le_ediv (show 0 < d by omega) (show n * t + R ≤ n * t' + R by omega)
  omega
theorem lineVal_down {A R n d t t' : Int} (hd : 1 ≤ d) (hn : n ≤ 0) (h : t ≤ t') : lineVal A R n d t' ≤ lineVal A R n d t := by
  unfold lineVal
  have := Int.mul_le_mul_of_nonpos_left hn h
  have := Int.ediv_le_ediv (show 0 < d by omega) (show n * t' + R ≤ n * t + R by omega)
  omega
theorem lineVal_between {A R n d a t b : Int} (hd : 1 ≤ d) (h1 : a ≤ t) (h2 : t ≤ b) :
    min (lineVal A R n d a) (lineVal A R n d b) ≤ lineVal A R n d t ∧ lineVal A R n d t ≤ max (lineVal A R n d a) (lineVal A R n d b) := by
  rcases Int.le_total 0 n with hn | hn
  · have := lineVal_up (A := A) (R := R) hd hn h1
    have := lineVal_up (A := A) (R := R) hd hn h2
    omega
  · have := lineVal_down (A := A) (R := R) hd hn h1
    have := lineVal_down (A := A) (R := R) hd hn h2
    omega
/-- A segment with a line that may be. -/
structure LineSeg (s : SegT) : Prop where
  runs : RunsOk s.runs
  line : LineOk s.A s.R s.n s.d
  ends : endsOk s.A s.R s.n s.d 0 (lastT s.runs - firstT s.runs) = true
theorem LineSeg.back {s : SegT} (h : LineSeg s) {t : Int} (h1 : firstT s.runs ≤ t) (h2 : t ≤ lastT s.runs) : isBack (valAt s t) = true := by
  have e := h.ends
  unfold endsOk at e
  simp only [Bool.and_eq_true, isBack_iff] at e
  have := lineVal_between (A := s.A) (R := s.R) (n := s.n) (d := s.d) h.line.d0 (show 0 ≤ t - firstT s.runs by omega) (show t - firstT s.runs ≤ lastT s.runs - firstT s.runs by omega)
  rw [isBack_iff]
  unfold valAt
  omega

def sumP (s : SegT) (P : List RunT) : Int := lsum ((timesL P).map (valAt s))
end Go.Proofs.YtdeghcgakkhbmaaGreat
namespace Go.Proofs.YtdeghcgakkhbmaaGreat
open Go.RowKit
end Go.Proofs.YtdeghcgakkhbmaaGreat
namespace Go.Proofs.YtdeghcgakkhbmaaGreat
open Go.RowKit
/-- What Part tells. -/
def partOut (s : SegT) (a b : Int) : Array Value × Int :=
  if segB s then
    if clipI s.runs a < clipJ s.runs a b then (partA (slice (vals s) (clipI s.runs a).toNat (clipJ s.runs a b).toNat), 0)
    else (#[.int .i64 0, .int .i64 0, .int .i64 0, .int .i64 0, .int .u64 0], 9)
  else (#[.int .i64 0, .int .i64 0, .int .i64 0, .int .i64 0, .int .u64 0], 210)
end Go.Proofs.YtdeghcgakkhbmaaGreat
namespace Go.Proofs.YtdeghcgakkhbmaaGreat
open Go.RowKit
def valI (s : SegT) (i : Int) : Int := ((vals s)[i.toNat]?).getD 0
def segAtV (s : SegT) (t : Int) : Int := if segB s then ((findL s.runs t).map (valI s)).getD 0 else 0
def segAtE (s : SegT) (t : Int) : Int := if segB s then (if (findL s.runs t).isSome then 0 else 4) else 210
end Go.Proofs.YtdeghcgakkhbmaaGreat
namespace Go.Proofs.YtdeghcgakkhbmaaGreat
open Go.RowKit
/-- A copy in a block of its own, or nil. -/
def CloneR (w : World) (p : Option Addr) (l : List RunT) (e : Ending) (w' : World) : Prop := ∃ p' cap', e = .returned (.slice p' l.length cap') ∧ Below w.heap.size w w' ∧ RunsIn w' p' l ∧ l.length ≤ cap' ∧ ∀ a, p' = some a → w.heap.size ≤ a.block
def CloneI (w : World) (p : Option Addr) (l : List Int) (e : Ending) (w' : World) : Prop := ∃ p' cap', e = .returned (.slice p' l.length cap') ∧ Below w.heap.size w w' ∧ IntsIn w' p' l ∧ l.length ≤ cap' ∧ ∀ a, p' = some a → w.heap.size ≤ a.block
theorem clone_below {w w' : World} {o : Obj} {n c : Nat} (h : (w.alloc o).grownBy w' (Value.slice (some ⟨w.heap.size, 0, none⟩) n c).ownBlock) : Below w.heap.size w w' :=
  ⟨h.os, h.tape, h.output, by have := h.size; simp at this; omega, fun k hk => by
    rw [h.block k (by simp; omega) (by simp [Value.ownBlock]; omega)]
    exact Below.heap_alloc w o k hk⟩
theorem row_take {cur : Array Value} {xs : List Value} {k : Nat} (h : cur.toList.take k = xs) {j : Nat} {u : Value} (hu : xs[j]? = some u) : cur[j]? = some u := by
  rw [← h, List.getElem?_take] at hu
  split at hu
  · simpa using hu
  · cases hu
theorem cloneRun_in {w : World} {g k : Nat} {t : TypeId} {cur : Array Value} {l : List RunT} (hb : w.heap[g]? = some (.cells cur t (0, 0))) (ht : cur.toList.take k = flatCells l) : RunsIn w (some ⟨g, 0, none⟩) l := ⟨fun i r hr => by
  obtain ⟨a, b, c⟩ := flat_at l i r hr
  have k : ∀ z, w.cell? ⟨g, z, none⟩ = cur[z]? := fun z => cell_of_row w g z cur t (0, 0) hb
  refine ⟨g, 0, rfl, ?_, ?_, ?_⟩
  · rw [k, Nat.zero_add]; exact row_take ht a
  · rw [k, Nat.zero_add]; exact row_take ht b
  · rw [k, Nat.zero_add]; exact row_take ht c⟩
theorem cloneInt_in {w : World} {g k : Nat} {t : TypeId} {cur : Array Value} {l : List Int} (hb : w.heap[g]? = some (.cells cur t (0, 0))) (ht : cur.toList.take k = l.map (Value.int .i64)) : IntsIn w (some ⟨g, 0, none⟩) l := ⟨fun i x hx => by
  refine ⟨g, 0, rfl, ?_⟩
  rw [cell_of_row w g _ cur t (0, 0) hb, Nat.zero_add]
  exact row_take ht (by simp [hx])⟩
end Go.Proofs.YtdeghcgakkhbmaaGreat
namespace Go.Proofs.YtdeghcgakkhbmaaGreat
open Go.RowKit
def kindL (A R n d : Int) : Int := if isLine A R n d = true then (if n = 0 then 1 else if R = 0 then 2 else 3) else 0
theorem RunsIn.set' {w : World} {p : Option Addr} {o i : Nat} {v : Value} {l : List RunT} (h : RunsIn w p l) (hne : ∀ a, p = some a → a.block ≠ o) : RunsIn (w.setCell ⟨o, i, none⟩ v) p l := ⟨fun k r hr => by
  obtain ⟨b, y, e, h1, h2, h3⟩ := h.at' k r hr
  have hc : ∀ z, (w.setCell ⟨o, i, none⟩ v).cell? ⟨b, z, none⟩ = w.cell? ⟨b, z, none⟩ := by
    intro z
    have := heap_setCell_other w ⟨o, i, none⟩ b v (hne _ e)
    simp only [World.cell?, this]
  exact ⟨b, y, e, (hc _).trans h1, (hc _).trans h2, (hc _).trans h3⟩⟩
theorem IntsIn.set' {w : World} {p : Option Addr} {o i : Nat} {v : Value} {l : List Int} (h : IntsIn w p l) (hne : ∀ a, p = some a → a.block ≠ o) : IntsIn (w.setCell ⟨o, i, none⟩ v) p l := ⟨fun k r hr => by
  obtain ⟨b, y, e, h1⟩ := h.at' k r hr
  have hc : ∀ z, (w.setCell ⟨o, i, none⟩ v).cell? ⟨b, z, none⟩ = w.cell? ⟨b, z, none⟩ := by
    intro z
    have := heap_setCell_other w ⟨o, i, none⟩ b v (hne _ e)
    simp only [World.cell?, this]
  exact ⟨b, y, e, (hc _).trans h1⟩⟩
theorem IntsIn.rex {w w' : World} {p : Option Addr} {l : List Int} (h : IntsIn w p l) (hr : Rex [] w w') : IntsIn w' p l := h.below hr.below
def CR (B : Nat) (l : List RunT) : Spec := fun v w => ∃ p' cap', v = .slice p' l.length cap' ∧ RunsIn w p' l ∧ l.length ≤ cap' ∧ ∀ a, p' = some a → B ≤ a.block
def CI (B : Nat) (l : List Int) : Spec := fun v w => ∃ p' cap', v = .slice p' l.length cap' ∧ IntsIn w p' l ∧ l.length ≤ cap' ∧ ∀ a, p' = some a → B ≤ a.block
theorem CR.closed (B : Nat) (l : List RunT) : Closed [] (CR B l) := fun _ _ _ hr ⟨p', c', e, h, k⟩ => ⟨p', c', e, h.rex hr rfl, k⟩
theorem CI.closed (B : Nat) (l : List Int) : Closed [] (CI B l) := fun _ _ _ hr ⟨p', c', e, h, k⟩ => ⟨p', c', e, h.rex hr, k⟩
end Go.Proofs.YtdeghcgakkhbmaaGreat
namespace Go.Proofs.YtdeghcgakkhbmaaGreat
open Go.RowKit
/-- What a function that gives a segment of its own says: where the new slices lie. -/
theorem RunsIn.new {w w' : World} {p : Option Addr} {l : List RunT} (h : RunsIn w p l) (o i : Nat) (v : Value) (hne : ∀ a, p = some a → a.block ≠ o) : RunsIn (w.setCell ⟨o, i, none⟩ v) p l := h.set' hne
end Go.Proofs.YtdeghcgakkhbmaaGreat
namespace Go.Proofs.YtdeghcgakkhbmaaGreat
open Go.RowKit
section
variable {P : Program} {ops : Array Oper} {C : World → Prop} {X : List (Nat × Nat)} {a0 : Act} {Fin : List (Option Tmp × Spec) → Prop} {i : Nat} {o : Oper} {rest : List Oper} {acc : List (Option Tmp × Spec)}
end
def SV (K A R n d E : Int) (B : Nat) (l : List RunT) : Spec := fun v w => ∃ p1 cap1 q1 vc1, v = .agg #[.int .i64 K, .slice p1 l.length cap1, .int .i64 A, .int .i64 R, .int .i64 n, .int .i64 d, .slice q1 0 vc1, .int .i64 E] ∧ RunsIn w p1 l ∧ l.length ≤ cap1 ∧ ∀ a, p1 = some a → B ≤ a.block
def TV (K A R n d E : Int) (B : Nat) (l : List RunT) : Spec := fun v w => ∃ p1 cap1 q1 vc1, v = .tuple #[.agg #[.int .i64 K, .slice p1 l.length cap1, .int .i64 A, .int .i64 R, .int .i64 n, .int .i64 d, .slice q1 0 vc1, .int .i64 E], .int .i64 0] ∧ RunsIn w p1 l ∧ l.length ≤ cap1 ∧ ∀ a, p1 = some a → B ≤ a.block
theorem SV.closed (K A R n d E : Int) (B : Nat) (l : List RunT) : Closed [] (SV K A R n d E B l) := fun _ _ _ hr ⟨p', c', q', v', e, h, k⟩ => ⟨p', c', q', v', e, h.rex hr rfl, k⟩
theorem TV.closed (K A R n d E : Int) (B : Nat) (l : List RunT) : Closed [] (TV K A R n d E B l) := fun _ _ _ hr ⟨p', c', q', v', e, h, k⟩ => ⟨p', c', q', v', e, h.rex hr rfl, k⟩
end Go.Proofs.YtdeghcgakkhbmaaGreat
namespace Go.Proofs.YtdeghcgakkhbmaaGreat
open Go.RowKit

/-- What the numbers of some places come to. -/
def outOf (s : SegT) (i j : Int) : Array Value × Int := if i < j then (partA (slice (vals s) i.toNat j.toNat), 0) else (#[.int .i64 0, .int .i64 0, .int .i64 0, .int .i64 0, .int .u64 0], 9)
end Go.Proofs.YtdeghcgakkhbmaaGreat
namespace Go.Proofs.YtdeghcgakkhbmaaGreat
open Go.RowKit Go.Shelf
attribute [local go_sem] Oper.semAt_some
/-- Every block of a type stays as it is. -/
def KeepsT (t : TypeId) (A B : World) : Prop := ∀ (b : Nat) (cs : Array Value) (f : Nat × Nat), A.heap[b]? = some (.cells cs t f) → B.heap[b]? = some (.cells cs t f)
theorem KeepsT.refl (t : TypeId) (A : World) : KeepsT t A A := fun _ _ _ h => h
theorem KeepsT.trans {t : TypeId} {A B C : World} (h : KeepsT t A B) (k : KeepsT t B C) : KeepsT t A C := fun b cs f hb => k b cs f (h b cs f hb)
end Go.Proofs.YtdeghcgakkhbmaaGreat
namespace Go.Proofs.YtdeghcgakkhbmaaGreat
open Go.RowKit Go.Shelf
attribute [local go_sem] Oper.semAt_some
end Go.Proofs.YtdeghcgakkhbmaaGreat
namespace Go.Proofs.YtdeghcgakkhbmaaGreat
open Go.RowKit Go.Shelf
theorem keepsT_putObj {T : TypeId} {W : World} {l : Nat} {o : Obj} (o' : Obj) (hl : W.heap[l]? = some o) (ho : o.isCells = false) : KeepsT T W (W.putObj l o') := by
  intro b cs f hb
  rw [World.putObj_heap_other]
  · exact hb
  · rintro rfl
    rw [hb] at hl
    cases hl
    cases ho
/-- All times, in an array of its own. -/
def TimesOut (w : World) (l : List RunT) (e : Ending) (w' : World) : Prop := ∃ v, e = .returned (.tuple #[v, .int .i64 0]) ∧ w'.ownsRow w.heap.size 2 1 v (timesL l).length ((timesL l).map (Value.int .i64)) ∧ Below w.heap.size w w'
end Go.Proofs.YtdeghcgakkhbmaaGreat
namespace Go.Proofs.YtdeghcgakkhbmaaGreat
open Go.RowKit Go.Shelf
attribute [local go_sem] Oper.semAt_some
/-- The points of a segment. -/
def ptsL (s : SegT) : List (Int × Int) := (timesL s.runs).zip (vals s)
/-- What a round must keep for the points' sake. -/
structure KeepsPts (s : SegT) (p q : Option Addr) (cap vc Bs n₀ : Nat) (A B : World) : Prop where
  size : A.heap.size ≤ B.heap.size
  seg : SegIn A s p q → SegIn B s p q
  box : Blk A Bs (segA s p q cap vc) 190 → Blk B Bs (segA s p q cap vc) 190
  nums : ∀ (b : Nat) (cs : Array Value), n₀ ≤ b → Blk A b cs 2 → Blk B b cs 2
end Go.Proofs.YtdeghcgakkhbmaaGreat
namespace Go.Proofs.YtdeghcgakkhbmaaGreat
open Go.RowKit Go.Shelf
attribute [local go_sem] Oper.semAt_some
def flatPts (l : List (Int × Int)) : List Value := l.flatMap fun x => [.int .i64 x.1, .int .i64 x.2]
theorem RunsIn.keep {w A B : World} {p : Option Addr} {l : List RunT} (h : RunsIn w p l) (hb : Below w.heap.size A B) (ha : RunsIn A p l) : RunsIn B p l := ⟨fun i r hr => by
  obtain ⟨b, o, e, k0, k1, k2⟩ := ha.at' i r hr
  obtain ⟨b', o', e', q0, _⟩ := h.at' i r hr
  rw [e] at e'
  injection e' with e'
  injection e' with e1 e2
  subst e1
  have hlt := cell_lt q0
  exact ⟨b, o, e, (hb.cell (p := ⟨b, _, none⟩) hlt).trans k0, (hb.cell (p := ⟨b, _, none⟩) hlt).trans k1, (hb.cell (p := ⟨b, _, none⟩) hlt).trans k2⟩⟩
theorem IntsIn.keep {w A B : World} {p : Option Addr} {l : List Int} (h : IntsIn w p l) (hb : Below w.heap.size A B) (ha : IntsIn A p l) : IntsIn B p l := ⟨fun i r hr => by
  obtain ⟨b, o, e, k0⟩ := ha.at' i r hr
  obtain ⟨b', o', e', q0⟩ := h.at' i r hr
  rw [e] at e'
  injection e' with e'
  injection e' with e1 e2
  subst e1
  exact ⟨b, o, e, (hb.cell (p := ⟨b, _, none⟩) (cell_lt q0)).trans k0⟩⟩
theorem SegIn.keep {w A B : World} {s : SegT} {p q : Option Addr} (h : SegIn w s p q) (hb : Below w.heap.size A B) (ha : SegIn A s p q) : SegIn B s p q := ⟨h.runs.keep hb ha.runs, h.raw.keep hb ha.raw, h.fewR, h.fewV⟩
/-- All points, in an array of its own. -/
def PtsIs (s : SegT) (B : Nat) (v : Value) (w : World) : Prop := w.ownsRow B 58 2 v (ptsL s).length (flatPts (ptsL s))
end Go.Proofs.YtdeghcgakkhbmaaGreat
namespace Go.Proofs.YtdeghcgakkhbmaaGreat
open Go.RowKit
end Go.Proofs.YtdeghcgakkhbmaaGreat
