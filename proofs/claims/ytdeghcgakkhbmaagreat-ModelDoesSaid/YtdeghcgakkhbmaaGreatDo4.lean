/- Parts of the proof that follows: Layer runs: pieces, Pieces. | Layer runs: Pieces. | Layer seg: numbers in a row; the least, the greatest, whether all may be told. | Layer seg: span, lineIs, the kinds of lines. | Layer seg: rawIs, kinds, is. | Layer seg: is. | Layer seg: what a segment is; is, told. | Layer seg: linePart, walked. | Layer seg: rawPart, walked. | Segments, plainly: the values, and what some of them come to. No condition. | Layer seg: linePart, rawPart, told. | Layer seg: rawPart, told; the closure in Part. | Layer seg: Part. | Layer seg: value, At. | slices.Clone of runs, and of numbers. | Layer seg: Kind, Of. -/
import Derived.Laws.EntriesVeiled
import Derived.Laws.AppendOwn
import Derived.Test.YtdeghcgakkhbmaaGreatDo3
set_option linter.unusedSimpArgs false
set_option linter.unusedVariables false
namespace Go.Proofs.YtdeghcgakkhbmaaGreat
open Go.RowKit
theorem Blk.three {W : World} {g n : Nat} {L : List RunT} {t : TypeId} (h : Blk W g (runCells L) t) (hn : n < L.length) :
    ∃ a b c, W.cell? ⟨g, n * 3, none⟩ = some a ∧ W.cell? ⟨g, n * 3 + 1, none⟩ = some b ∧ W.cell? ⟨g, n * 3 + 2, none⟩ = some c := by
  obtain ⟨a, b, c⟩ := flat_at L n _ (List.getElem?_eq_getElem hn)
  have k := h.cell
  exact ⟨.int .i64 L[n].f, .int .i64 L[n].s, .int .i64 L[n].c, by rw [k]; simpa [runCells] using a, by rw [k]; simpa [runCells] using b, by rw [k]; simpa [runCells] using c⟩
def piecesRel (p : Option Addr) (cap : Nat) (l : List RunT) (i j : Int) (w : World) (a' : Act) (W : World) : Prop :=
  Below w.heap.size w W ∧ ∃ k : Nat, (∃ u : Nat → Value, a' = { tmps := #[(.slice p l.length cap), .int .i64 (i - cnt (l.take k)), .int .i64 (j - cnt (l.take k)), u 3, u 4, u 5, u 6, .slice (some ⟨w.heap.size, 0, none⟩) l.length l.length, .int .i64 ((piecesL (l.take k) i j).length : Int), u 9, u 10, u 11, u 12, u 13, u 14, u 15, u 16, u 17, u 18, (.slice p l.length cap), .int .i64 (l.length : Int), .int .i64 (k : Int), u 22, u 23, u 24, u 25, u 26, u 27, u 28, u 29, u 30, u 31, u 32, u 33, u 34, u 35, u 36, u 37, u 38, u 39, u 40, u 41, u 42, u 43, u 44, u 45, u 46, u 47, u 48, u 49, u 50, u 51, u 52, u 53, u 54, u 55, u 56, u 57, u 58, u 59, u 60, u 61, u 62, u 63, u 64], defers := [] }) ∧ k ≤ l.length ∧ Blk W w.heap.size (runCells (piecesL (l.take k) i j ++ l.drop (piecesL (l.take k) i j).length)) 141
end Go.Proofs.YtdeghcgakkhbmaaGreat
namespace Go.Proofs.YtdeghcgakkhbmaaGreat
open Go.RowKit
/-- The pieces of a row in a block of their own. -/
def PiecesOut (w : World) (l : List RunT) (v : Value) (w' : World) : Prop := ∃ g, v = .slice (some ⟨g, 0, none⟩) l.length l.length ∧ w.heap.size ≤ g ∧ RunsIn w' (some ⟨g, 0, none⟩) l
end Go.Proofs.YtdeghcgakkhbmaaGreat
namespace Go.Proofs.YtdeghcgakkhbmaaGreat
open Go.RowKit
/-- The slice p holds just these numbers. -/
structure IntsIn (w : World) (p : Option Addr) (l : List Int) : Prop where
  at' : ∀ (i : Nat) (x : Int), l[i]? = some x → ∃ b o, p = some ⟨b, o, none⟩ ∧ w.cell? ⟨b, o + i, none⟩ = some (.int .i64 x)
theorem IntsIn.below {w w' : World} {p : Option Addr} {l : List Int} (h : IntsIn w p l) (hb : Below w.heap.size w w') : IntsIn w' p l := ⟨fun i r hr => by
  obtain ⟨b, o, e, h1⟩ := h.at' i r hr
  have hB := (bcell hb).1
  exact ⟨b, o, e, (hB b _ (cell_lt h1)).trans h1⟩⟩
theorem IntsIn.drew {w : World} {p : Option Addr} {l : List Int} (h : IntsIn w p l) : IntsIn w.drew p l := ⟨h.at'⟩
def minL : List Int → Int
  | [] => 0
  | x :: l => l.foldl mn x
def maxL : List Int → Int
  | [] => 0
  | x :: l => l.foldl mx x
def minRel (p : Option Addr) (cap : Nat) (l : List Int) (w : World) (a' : Act) (W : World) : Prop :=
  Below w.heap.size w W ∧ ∃ (i : Nat) (m : Int), (∃ u : Nat → Value, a' = { tmps := #[(.slice p l.length cap), u 1, u 2, .int .i64 m, .int .i64 (i : Int), u 5, u 6, u 7, u 8, u 9, u 10, u 11, u 12, u 13, u 14, u 15, u 16, u 17, u 18, u 19, u 20, u 21, u 22, u 23, u 24], defers := [] }) ∧ 1 ≤ i ∧ i ≤ l.length ∧ m = minL (l.take i)
def maxRel (p : Option Addr) (cap : Nat) (l : List Int) (w : World) (a' : Act) (W : World) : Prop :=
  Below w.heap.size w W ∧ ∃ (i : Nat) (m : Int), (∃ u : Nat → Value, a' = { tmps := #[(.slice p l.length cap), u 1, u 2, .int .i64 m, .int .i64 (i : Int), u 5, u 6, u 7, u 8, u 9, u 10, u 11, u 12, u 13, u 14, u 15, u 16, u 17, u 18, u 19, u 20, u 21, u 22, u 23, u 24], defers := [] }) ∧ 1 ≤ i ∧ i ≤ l.length ∧ m = maxL (l.take i)
def idxRel (p : Option Addr) (cap : Nat) (l : List Int) (w : World) (a' : Act) (W : World) : Prop :=
  Below w.heap.size w W ∧ ∃ i : Nat, (∃ u : Nat → Value, a' = { tmps := #[(.slice p l.length cap), .func (.func 206) #[] #[], u 2, u 3, u 4, u 5, (.slice p l.length cap), .int .i64 (l.length : Int), .int .i64 (i : Int), u 9, u 10, u 11, u 12, u 13, u 14, u 15, u 16, u 17, u 18], defers := [] }) ∧ i ≤ l.length ∧ (l.take i).all isBack = true
def IdxOut (l : List Int) (w : World) (e : Ending) (w' : World) : Prop := ∃ r : Int, e = .returned (.int .i64 r) ∧ decide (0 ≤ r) = !(l.all isBack) ∧ -1 ≤ r ∧ Below w.heap.size w w'
end Go.Proofs.YtdeghcgakkhbmaaGreat
namespace Go.Proofs.YtdeghcgakkhbmaaGreat
open Go.RowKit
end Go.Proofs.YtdeghcgakkhbmaaGreat
namespace Go.Proofs.YtdeghcgakkhbmaaGreat
open Go.RowKit
def lineZ (A R n d : Int) : Bool := decide (A = 0 ∧ R = 0 ∧ n = 0 ∧ d = 0)
end Go.Proofs.YtdeghcgakkhbmaaGreat
namespace Go.Proofs.YtdeghcgakkhbmaaGreat
open Go.RowKit
end Go.Proofs.YtdeghcgakkhbmaaGreat
namespace Go.Proofs.YtdeghcgakkhbmaaGreat
open Go.RowKit
/-- What a segment says. -/
structure SegT where
  K : Int
  runs : List RunT
  A : Int
  R : Int
  n : Int
  d : Int
  raw : List Int
  E : Int
def segA (s : SegT) (p q : Option Addr) (cap vc : Nat) : Array Value := #[.int .i64 s.K, .slice p s.runs.length cap, .int .i64 s.A, .int .i64 s.R, .int .i64 s.n, .int .i64 s.d, .slice q s.raw.length vc, .int .i64 s.E]
structure SegIn (w : World) (s : SegT) (p q : Option Addr) : Prop where
  runs : RunsIn w p s.runs
  raw : IntsIn w q s.raw
  fewR : s.runs.length ≤ 300
  fewV : s.raw.length ≤ 300
theorem SegIn.below {w w' : World} {s : SegT} {p q : Option Addr} (h : SegIn w s p q) (hb : Below w.heap.size w w') : SegIn w' s p q := ⟨h.runs.below hb, h.raw.below hb, h.fewR, h.fewV⟩
def firstT (l : List RunT) : Int := atV l 0
def lastT (l : List RunT) : Int := atV l (cnt l - 1)
def lineIsB (s : SegT) : Bool := isLine s.A s.R s.n s.d && endsOk s.A s.R s.n s.d 0 (lastT s.runs - firstT s.runs) && s.raw.isEmpty
def kindB (s : SegT) : Bool :=
  if s.K = 1 then s.n == 0 && lineIsB s
  else if s.K = 2 then s.n != 0 && (s.R == 0 && lineIsB s)
  else if s.K = 3 then s.R != 0 && lineIsB s
  else if s.K = 4 then lineZ s.A s.R s.n s.d && (s.raw.length : Int) == cnt s.runs && s.raw.all isBack
  else false
def segB (s : SegT) : Bool := risesB s.runs && (decide (0 ≤ s.E) && decide (s.E ≤ 1099511627776) && kindB s)

end Go.Proofs.YtdeghcgakkhbmaaGreat
namespace Go.Proofs.YtdeghcgakkhbmaaGreat
open Go.RowKit
theorem RunsIn.alloc {w : World} {p : Option Addr} {l : List RunT} (h : RunsIn w p l) (o : Obj) : RunsIn (w.alloc o) p l := h.below ((Below.refl _ _).alloc (Nat.le_refl _) o)
theorem RunsIn.calls {w w' : World} {p : Option Addr} {l : List RunT} (h : RunsIn w p l) (hb : Below w.heap.size w w') : RunsIn w' p l := h.below hb
theorem RunsIn.set {w : World} {g x o i : Nat} {v : Value} {l : List RunT} (h : RunsIn w (some ⟨g, x, none⟩) l) (hne : g ≠ o) : RunsIn (w.setCell ⟨o, i, none⟩ v) (some ⟨g, x, none⟩) l := ⟨fun k r hr => by
  obtain ⟨b, y, e, h1, h2, h3⟩ := h.at' k r hr
  cases e
  have hc : ∀ z, (w.setCell ⟨o, i, none⟩ v).cell? ⟨g, z, none⟩ = w.cell? ⟨g, z, none⟩ := by
    intro z
    have := heap_setCell_other w ⟨o, i, none⟩ g v hne
    simp only [World.cell?, this]
  exact ⟨g, x, rfl, (hc _).trans h1, (hc _).trans h2, (hc _).trans h3⟩⟩
def lpRel (K A R n d E : Int) (p q : Option Addr) (len cap m vc : Nat) (w : World) (i j x lo hi : Int) (P : List RunT) (SS : Nat → Int) (g o : Nat) (a' : Act) (W : World) : Prop :=
  Below w.heap.size w W ∧ Blk W w.heap.size #[.int .i64 K, .slice p len cap, .int .i64 A, .int .i64 R, .int .i64 n, .int .i64 d, .slice q m vc, .int .i64 E] 190 ∧ Blk W (w.heap.size + 1) #[.int .i64 0, .int .i64 0, .int .i64 0, .int .i64 0, .int .u64 0] 260 ∧ RunsIn W (some ⟨g, 0, none⟩) P ∧ ∃ k : Nat, (∃ u : Nat → Value, a' = { tmps := #[u 0, u 1, u 2, .pointer (some ⟨w.heap.size, 0, none⟩), u 4, u 5, .pointer (some ⟨w.heap.size + 1, 0, none⟩), .int .i64 x, u 8, u 9, u 10, u 11, u 12, u 13, u 14, .pointer (some ⟨o, 0, none⟩), u 16, u 17, u 18, u 19, u 20, u 21, u 22, u 23, u 24, u 25, u 26, u 27, u 28, u 29, u 30, u 31, u 32, u 33, u 34, u 35, u 36, u 37, u 38, u 39, u 40, u 41, u 42, u 43, u 44, u 45, u 46, u 47, u 48, u 49, u 50, u 51, u 52, u 53, u 54, u 55, u 56, u 57, u 58, u 59, u 60, u 61, u 62, u 63, u 64, u 65, u 66, u 67, u 68, u 69, u 70, u 71, u 72, u 73, .slice (some ⟨g, 0, none⟩) P.length P.length, .int .i64 (P.length : Int), .int .i64 (k : Int), u 77, u 78, u 79, u 80, u 81, u 82, u 83, u 84, u 85, u 86, u 87, u 88, u 89, u 90, u 91, u 92, u 93, u 94, u 95, u 96, u 97, u 98, u 99, u 100, u 101, u 102, u 103, u 104], defers := [] }) ∧ k ≤ P.length ∧ Blk W o #[.int .i64 (j - i), .int .i64 lo, .int .i64 hi, .int .i64 (hiW (SS k)), .int .u64 (loW (SS k))] 260
end Go.Proofs.YtdeghcgakkhbmaaGreat
namespace Go.Proofs.YtdeghcgakkhbmaaGreat
open Go.RowKit
theorem IntsIn.part {w : World} {vb vo i n : Nat} {raw : List Int} (h : IntsIn w (some ⟨vb, vo, none⟩) raw) (k : Nat) (v : Value) (hv : (((raw.drop i).take n).map (Value.int .i64))[k]? = some v) : w.cell? ((⟨vb, vo + i, none⟩ : Addr).add k) = some v := by
  have hadd : (⟨vb, vo + i, none⟩ : Addr).add k = ⟨vb, vo + i + k, none⟩ := by unfold Addr.add; split <;> simp_all
  rw [hadd]
  simp only [List.getElem?_map, Option.map_eq_some_iff] at hv
  obtain ⟨x, hx, rfl⟩ := hv
  have hx' : raw[i + k]? = some x := by
    rw [List.getElem?_take] at hx
    split at hx
    · rwa [List.getElem?_drop] at hx
    · cases hx
  obtain ⟨b, y, e, hc⟩ := h.at' _ x hx'
  cases e
  rw [Nat.add_assoc]; exact hc
def rpRel (w : World) (i j : Nat) (lo hi : Int) (V : List Int) (SS : Nat → Int) (o : Nat) (a' : Act) (W : World) : Prop :=
  Below w.heap.size w W ∧ Blk W (w.heap.size + 1) #[.int .i64 0, .int .i64 0, .int .i64 0, .int .i64 0, .int .u64 0] 260 ∧ Blk W (w.heap.size + 1 + 1) (V.map (Value.int .i64)).toArray 2 ∧ ∃ k : Nat, (∃ u : Nat → Value, a' = { tmps := #[u 0, u 1, u 2, u 3, u 4, u 5, .pointer (some ⟨w.heap.size + 1, 0, none⟩), u 7, .pointer (some ⟨o, 0, none⟩), u 9, u 10, u 11, u 12, u 13, u 14, u 15, u 16, u 17, u 18, u 19, u 20, u 21, u 22, u 23, u 24, u 25, u 26, u 27, u 28, u 29, u 30, .slice (some ⟨w.heap.size + 1 + 1, 0, none⟩) V.length V.length, .int .i64 (V.length : Int), .int .i64 (k : Int), u 34, u 35, u 36, u 37, u 38, u 39, u 40, u 41, u 42, u 43, u 44, u 45, u 46, u 47], defers := [] }) ∧ k ≤ V.length ∧ Blk W o #[.int .i64 ((j : Int) - (i : Int)), .int .i64 lo, .int .i64 hi, .int .i64 (hiW (SS k)), .int .u64 (loW (SS k))] 260
end Go.Proofs.YtdeghcgakkhbmaaGreat
namespace Go.Proofs.YtdeghcgakkhbmaaGreat
open Go.RowKit

def lsum : List Int → Int
  | [] => 0
  | x :: l => x + lsum l
/-- The places from i on, below j. -/
def slice (l : List Int) (i j : Nat) : List Int := (l.take j).drop i
end Go.Proofs.YtdeghcgakkhbmaaGreat
namespace Go.Proofs.YtdeghcgakkhbmaaGreat
open Go.RowKit
def valAt (s : SegT) (t : Int) : Int := lineVal s.A s.R s.n s.d (t - firstT s.runs)
def vals (s : SegT) : List Int := if s.K = 4 then s.raw else (timesL s.runs).map (valAt s)
/-- What some numbers come to. -/
def partA (W : List Int) : Array Value := #[.int .i64 W.length, .int .i64 (minL W), .int .i64 (maxL W), .int .i64 (hiW (lsum W)), .int .u64 (loW (lsum W))]
theorem isBack_iff {v : Int} : isBack v = true ↔ -2305844108725321728 ≤ v ∧ v ≤ 2305844108725321728 := by unfold isBack; simp
theorem lineVal_up {A R n d t t' : Int} (hd : 1 ≤ d) (hn : 0 ≤ n) (h : t ≤ t') : lineVal A R n d t ≤ lineVal A R n d t' := by
  unfold lineVal
  have := Int.mul_le_mul_of_nonneg_left h hn
  have := Int.ediv_le_ediv (show 0 < d by omega) (show n * t + R ≤ n * t' + R by omega)
  omega
theorem lineVal_down {A R n d t t' : Int} (hd : 1 ≤ d) (hn : n ≤ 0) (h : t ≤ t') : lineVal A R n d t' ≤ lineVal A R n d t := by
  unfold lineVal
  have := Int.mul_le_mul_of_nonpos_left hn h
  have := Int.ediv_le_ediv (show 0 < d by omega) (show n * t' + R ≤ n * t + R by omega)
  omega
theorem lineVal_between {A R n d a t b : Int} (hd : 1 ≤ d) (h1 : a ≤ t) (h2 : t ≤ b) :
    min (lineVal A R n d a) (lineVal A R n d b) ≤ lineVal A R n d t ∧ lineVal A R n d t ≤ max (lineVal A R n d a) (lineVal A R n d b) := by
  rcases Int.le_total 0 n with hn | hn
  · have := lineVal_up (A := A) (R := R) hd hn h1
    have := lineVal_up (A := A) (R := R) hd hn h2
    omega
  · have := lineVal_down (A := A) (R := R) hd hn h1
    have := lineVal_down (A := A) (R := R) hd hn h2
    omega
/-- A segment with a line that may be. -/
structure LineSeg (s : SegT) : Prop where
  runs : RunsOk s.runs
  line : LineOk s.A s.R s.n s.d
  ends : endsOk s.A s.R s.n s.d 0 (lastT s.runs - firstT s.runs) = true
theorem LineSeg.back {s : SegT} (h : LineSeg s) {t : Int} (h1 : firstT s.runs ≤ t) (h2 : t ≤ lastT s.runs) : isBack (valAt s t) = true := by
  have e := h.ends
  unfold endsOk at e
  simp only [Bool.and_eq_true, isBack_iff] at e
  have := lineVal_between (A := s.A) (R := s.R) (n := s.n) (d := s.d) h.line.d0 (show 0 ≤ t - firstT s.runs by omega) (show t - firstT s.runs ≤ lastT s.runs - firstT s.runs by omega)
  rw [isBack_iff]
  unfold valAt
  omega

def sumP (s : SegT) (P : List RunT) : Int := lsum ((timesL P).map (valAt s))
end Go.Proofs.YtdeghcgakkhbmaaGreat
namespace Go.Proofs.YtdeghcgakkhbmaaGreat
open Go.RowKit
end Go.Proofs.YtdeghcgakkhbmaaGreat
namespace Go.Proofs.YtdeghcgakkhbmaaGreat
open Go.RowKit
/-- What Part tells. -/
def partOut (s : SegT) (a b : Int) : Array Value × Int :=
  if segB s then
    if clipI s.runs a < clipJ s.runs a b then (partA (slice (vals s) (clipI s.runs a).toNat (clipJ s.runs a b).toNat), 0)
    else (#[.int .i64 0, .int .i64 0, .int .i64 0, .int .i64 0, .int .u64 0], 9)
  else (#[.int .i64 0, .int .i64 0, .int .i64 0, .int .i64 0, .int .u64 0], 210)
end Go.Proofs.YtdeghcgakkhbmaaGreat
namespace Go.Proofs.YtdeghcgakkhbmaaGreat
open Go.RowKit
def valI (s : SegT) (i : Int) : Int := ((vals s)[i.toNat]?).getD 0
def segAtV (s : SegT) (t : Int) : Int := if segB s then ((findL s.runs t).map (valI s)).getD 0 else 0
def segAtE (s : SegT) (t : Int) : Int := if segB s then (if (findL s.runs t).isSome then 0 else 4) else 210
end Go.Proofs.YtdeghcgakkhbmaaGreat
namespace Go.Proofs.YtdeghcgakkhbmaaGreat
open Go.RowKit
/-- A copy in a block of its own, or nil. -/
def CloneR (w : World) (p : Option Addr) (l : List RunT) (e : Ending) (w' : World) : Prop := ∃ p' cap', e = .returned (.slice p' l.length cap') ∧ Below w.heap.size w w' ∧ RunsIn w' p' l ∧ l.length ≤ cap' ∧ ∀ a, p' = some a → w.heap.size ≤ a.block
def CloneI (w : World) (p : Option Addr) (l : List Int) (e : Ending) (w' : World) : Prop := ∃ p' cap', e = .returned (.slice p' l.length cap') ∧ Below w.heap.size w w' ∧ IntsIn w' p' l ∧ l.length ≤ cap' ∧ ∀ a, p' = some a → w.heap.size ≤ a.block
theorem clone_below {w w' : World} {o : Obj} {n c : Nat} (h : (w.alloc o).grownBy w' (Value.slice (some ⟨w.heap.size, 0, none⟩) n c).ownBlock) : Below w.heap.size w w' :=
  ⟨h.os, h.tape, h.output, by have := h.size; simp at this; omega, fun k hk => by
    rw [h.block k (by simp; omega) (by simp [Value.ownBlock]; omega)]
    exact Below.heap_alloc w o k hk⟩
theorem row_take {cur : Array Value} {xs : List Value} {k : Nat} (h : cur.toList.take k = xs) {j : Nat} {u : Value} (hu : xs[j]? = some u) : cur[j]? = some u := by
  rw [← h, List.getElem?_take] at hu
  split at hu
  · simpa using hu
  · cases hu
theorem cloneRun_in {w : World} {g k : Nat} {t : TypeId} {cur : Array Value} {l : List RunT} (hb : w.heap[g]? = some (.cells cur t (0, 0))) (ht : cur.toList.take k = flatCells l) : RunsIn w (some ⟨g, 0, none⟩) l := ⟨fun i r hr => by
  obtain ⟨a, b, c⟩ := flat_at l i r hr
  have k : ∀ z, w.cell? ⟨g, z, none⟩ = cur[z]? := fun z => cell_of_row w g z cur t (0, 0) hb
  refine ⟨g, 0, rfl, ?_, ?_, ?_⟩
  · rw [k, Nat.zero_add]; exact row_take ht a
  · rw [k, Nat.zero_add]; exact row_take ht b
  · rw [k, Nat.zero_add]; exact row_take ht c⟩
theorem cloneInt_in {w : World} {g k : Nat} {t : TypeId} {cur : Array Value} {l : List Int} (hb : w.heap[g]? = some (.cells cur t (0, 0))) (ht : cur.toList.take k = l.map (Value.int .i64)) : IntsIn w (some ⟨g, 0, none⟩) l := ⟨fun i x hx => by
  refine ⟨g, 0, rfl, ?_⟩
  rw [cell_of_row w g _ cur t (0, 0) hb, Nat.zero_add]
  exact row_take ht (by simp [hx])⟩
end Go.Proofs.YtdeghcgakkhbmaaGreat
namespace Go.Proofs.YtdeghcgakkhbmaaGreat
open Go.RowKit
def kindL (A R n d : Int) : Int := if isLine A R n d = true then (if n = 0 then 1 else if R = 0 then 2 else 3) else 0
theorem RunsIn.set' {w : World} {p : Option Addr} {o i : Nat} {v : Value} {l : List RunT} (h : RunsIn w p l) (hne : ∀ a, p = some a → a.block ≠ o) : RunsIn (w.setCell ⟨o, i, none⟩ v) p l := ⟨fun k r hr => by
  obtain ⟨b, y, e, h1, h2, h3⟩ := h.at' k r hr
  have hc : ∀ z, (w.setCell ⟨o, i, none⟩ v).cell? ⟨b, z, none⟩ = w.cell? ⟨b, z, none⟩ := by
    intro z
    have := heap_setCell_other w ⟨o, i, none⟩ b v (hne _ e)
    simp only [World.cell?, this]
  exact ⟨b, y, e, (hc _).trans h1, (hc _).trans h2, (hc _).trans h3⟩⟩
theorem IntsIn.set' {w : World} {p : Option Addr} {o i : Nat} {v : Value} {l : List Int} (h : IntsIn w p l) (hne : ∀ a, p = some a → a.block ≠ o) : IntsIn (w.setCell ⟨o, i, none⟩ v) p l := ⟨fun k r hr => by
  obtain ⟨b, y, e, h1⟩ := h.at' k r hr
  have hc : ∀ z, (w.setCell ⟨o, i, none⟩ v).cell? ⟨b, z, none⟩ = w.cell? ⟨b, z, none⟩ := by
    intro z
    have := heap_setCell_other w ⟨o, i, none⟩ b v (hne _ e)
    simp only [World.cell?, this]
  exact ⟨b, y, e, (hc _).trans h1⟩⟩
theorem IntsIn.rex {w w' : World} {p : Option Addr} {l : List Int} (h : IntsIn w p l) (hr : Rex [] w w') : IntsIn w' p l := h.below hr.below
def CR (B : Nat) (l : List RunT) : Spec := fun v w => ∃ p' cap', v = .slice p' l.length cap' ∧ RunsIn w p' l ∧ l.length ≤ cap' ∧ ∀ a, p' = some a → B ≤ a.block
def CI (B : Nat) (l : List Int) : Spec := fun v w => ∃ p' cap', v = .slice p' l.length cap' ∧ IntsIn w p' l ∧ l.length ≤ cap' ∧ ∀ a, p' = some a → B ≤ a.block
theorem CR.closed (B : Nat) (l : List RunT) : Closed [] (CR B l) := fun _ _ _ hr ⟨p', c', e, h, k⟩ => ⟨p', c', e, h.rex hr rfl, k⟩
theorem CI.closed (B : Nat) (l : List Int) : Closed [] (CI B l) := fun _ _ _ hr ⟨p', c', e, h, k⟩ => ⟨p', c', e, h.rex hr, k⟩
end Go.Proofs.YtdeghcgakkhbmaaGreat
