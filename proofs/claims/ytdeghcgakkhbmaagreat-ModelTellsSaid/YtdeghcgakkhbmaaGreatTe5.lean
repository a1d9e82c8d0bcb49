/- Parts of the proof that follows: Layer runs: pieces, plainly; a row of runs as cells. | Layer runs: pieces, Pieces. | Layer runs: Pieces. | Layer seg: numbers in a row; the least, the greatest, whether all may be told. | Layer seg: span, lineIs, the kinds of lines. | Layer seg: rawIs, kinds, is. | Layer seg: is. | Layer seg: what a segment is; is, told. | Layer seg: linePart, walked. -/
import Derived.Laws.MakeOwn
import Derived.Test.YtdeghcgakkhbmaaGreatTe4
set_option linter.unusedSimpArgs false
set_option linter.unusedVariables false
namespace Go.Proofs.YtdeghcgakkhbmaaGreat
open Go.RowKit
def mx (x y : Int) : Int := if y > x then y else x
def mn (x y : Int) : Int := if y < x then y else x
theorem mn_spec (x y : Int) : mn x y ≤ x ∧ mn x y ≤ y ∧ (mn x y = x ∨ mn x y = y) := by unfold mn; split <;> omega
/-- What is left of a run, of the places from i to j. -/
def pieceOf (r : RunT) (i j : Int) : List RunT := if mx i 0 < mn j r.c then [⟨r.f + r.s * mx i 0, r.s, mn j r.c - mx i 0⟩] else []
def piecesL : List RunT → Int → Int → List RunT
  | [], _, _ => []
  | r :: l, i, j => pieceOf r i j ++ piecesL l (i - r.c) (j - r.c)
def flatCells : List RunT → List Value
  | [] => []
  | r :: l => .int .i64 r.f :: .int .i64 r.s :: .int .i64 r.c :: flatCells l
def runCells (l : List RunT) : Array Value := (flatCells l).toArray
theorem length_flatCells : ∀ l, (flatCells l).length = l.length * 3
  | [] => rfl
  | r :: l => by simp only [flatCells, List.length_cons, length_flatCells l]; omega
theorem flat_at : ∀ (l : List RunT) (i : Nat) (r : RunT), l[i]? = some r → (flatCells l)[i * 3]? = some (.int .i64 r.f) ∧ (flatCells l)[i * 3 + 1]? = some (.int .i64 r.s) ∧ (flatCells l)[i * 3 + 2]? = some (.int .i64 r.c)
  | [], i, r, h => by simp at h
  | a :: l, 0, r, h => by
    simp at h
    subst h
    simp [flatCells]
  | a :: l, i + 1, r, h => by
    have := flat_at l i r (by simpa using h)
    rw [show (i + 1) * 3 = i * 3 + 3 by omega]
    simpa [flatCells] using this
end Go.Proofs.YtdeghcgakkhbmaaGreat
namespace Go.Proofs.YtdeghcgakkhbmaaGreat
open Go.RowKit
theorem Blk.three {W : World} {g n : Nat} {L : List RunT} {t : TypeId} (h : Blk W g (runCells L) t) (hn : n < L.length) :
    ∃ a b c, W.cell? ⟨g, n * 3, none⟩ = some a ∧ W.cell? ⟨g, n * 3 + 1, none⟩ = some b ∧ W.cell? ⟨g, n * 3 + 2, none⟩ = some c := by
  obtain ⟨a, b, c⟩ := flat_at L n _ (List.getElem?_eq_getElem hn)
  have k := h.cell
  exact ⟨.int .i64 L[n].f, .int .i64 L[n].s, .int .i64 L[n].c, by rw [k]; simpa [runCells] using a, by rw [k]; simpa [runCells] using b, by rw [k]; simpa [runCells] using c⟩
def piecesRel (p : Option Addr) (cap : Nat) (l : List RunT) (i j : Int) (w : World) (a' : Act) (W : World) : Prop :=
  Below w.heap.size w W ∧ ∃ k : Nat, (∃ u : Nat → Value, a' = { tmps := #[(.slice p l.length cap), .int .i64 (i - cnt (l.take k)), .int .i64 (j - cnt (l.take k)), u 3, u 4, u 5, u 6, .slice (some ⟨w.heap.size, 0, none⟩) l.length l.length, .int .i64 ((piecesL (l.take k) i j).length : Int), u 9, u 10, u 11, u 12, u 13, u 14, u 15, u 16, u 17, u 18, (.slice p l.length cap), .int .i64 (l.length : Int), .int .i64 (k : Int), u 22, u 23, u 24, u 25, u 26, u 27, u 28, u 29, u 30, u 31, u 32, u 33, u 34, u 35, u 36, u 37, u 38, u 39, u 40, u 41, u 42, u 43, u 44, u 45, u 46, u 47, u 48, u 49, u 50, u 51, u 52, u 53, u 54, u 55, u 56, u 57, u 58, u 59, u 60, u 61, u 62, u 63, u 64], defers := [] }) ∧ k ≤ l.length ∧ Blk W w.heap.size (runCells (piecesL (l.take k) i j ++ l.drop (piecesL (l.take k) i j).length)) 141
end Go.Proofs.YtdeghcgakkhbmaaGreat
namespace Go.Proofs.YtdeghcgakkhbmaaGreat
open Go.RowKit
/-- The pieces of a row in a block of their own. -/
def PiecesOut (w : World) (l : List RunT) (v : Value) (w' : World) : Prop := ∃ g, v = .slice (some ⟨g, 0, none⟩) l.length l.length ∧ w.heap.size ≤ g ∧ RunsIn w' (some ⟨g, 0, none⟩) l
end Go.Proofs.YtdeghcgakkhbmaaGreat
namespace Go.Proofs.YtdeghcgakkhbmaaGreat
open Go.RowKit
/-- The slice p holds just these numbers. -/
structure IntsIn (w : World) (p : Option Addr) (l : List Int) : Prop where
  at' : ∀ (i : Nat) (x : Int), l[i]? = some x → ∃ b o, p = some ⟨b, o, none⟩ ∧ w.cell? ⟨b, o + i, none⟩ = some (.int .i64 x)
theorem IntsIn.below {w w' : World} {p : Option Addr} {l : List Int} (h : IntsIn w p l) (hb : Below w.heap.size w w') : IntsIn w' p l := ⟨fun i r hr => by
  obtain ⟨b, o, e, h1⟩ := h.at' i r hr
  have hB := (bcell hb).1
  exact ⟨b, o, e, (hB b _ (cell_lt h1)).trans h1⟩⟩
theorem IntsIn.drew {w : World} {p : Option Addr} {l : List Int} (h : IntsIn w p l) : IntsIn w.drew p l := ⟨h.at'⟩
def minL : List Int → Int
  | [] => 0
  | x :: l => l.foldl mn x
def maxL : List Int → Int
  | [] => 0
  | x :: l => l.foldl mx x
def minRel (p : Option Addr) (cap : Nat) (l : List Int) (w : World) (a' : Act) (W : World) : Prop :=
  Below w.heap.size w W ∧ ∃ (i : Nat) (m : Int), (∃ u : Nat → Value, a' = { tmps := #[(.slice p l.length cap), u 1, u 2, .int .i64 m, .int .i64 (i : Int), u 5, u 6, u 7, u 8, u 9, u 10, u 11, u 12, u 13, u 14, u 15, u 16, u 17, u 18, u 19, u 20, u 21, u 22, u 23, u 24], defers := [] }) ∧ 1 ≤ i ∧ i ≤ l.length ∧ m = minL (l.take i)
def maxRel (p : Option Addr) (cap : Nat) (l : List Int) (w : World) (a' : Act) (W : World) : Prop :=
  Below w.heap.size w W ∧ ∃ (i : Nat) (m : Int), (∃ u : Nat → Value, a' = { tmps := #[(.slice p l.length cap), u 1, u 2, .int .i64 m, .int .i64 (i : Int), u 5, u 6, u 7, u 8, u 9, u 10, u 11, u 12, u 13, u 14, u 15, u 16, u 17, u 18, u 19, u 20, u 21, u 22, u 23, u 24], defers := [] }) ∧ 1 ≤ i ∧ i ≤ l.length ∧ m = maxL (l.take i)
def idxRel (p : Option Addr) (cap : Nat) (l : List Int) (w : World) (a' : Act) (W : World) : Prop :=
  Below w.heap.size w W ∧ ∃ i : Nat, (∃ u : Nat → Value, a' = { tmps := #[(.slice p l.length cap), .func (.func 206) #[] #[], u 2, u 3, u 4, u 5, (.slice p l.length cap), .int .i64 (l.length : Int), .int .i64 (i : Int), u 9, u 10, u 11, u 12, u 13, u 14, u 15, u 16, u 17, u 18], defers := [] }) ∧ i ≤ l.length ∧ (l.take i).all isBack = true
def IdxOut (l : List Int) (w : World) (e : Ending) (w' : World) : Prop := ∃ r : Int, e = .returned (.int .i64 r) ∧ decide (0 ≤ r) = !(l.all isBack) ∧ -1 ≤ r ∧ Below w.heap.size w w'
end Go.Proofs.YtdeghcgakkhbmaaGreat
namespace Go.Proofs.YtdeghcgakkhbmaaGreat
open Go.RowKit
end Go.Proofs.YtdeghcgakkhbmaaGreat
namespace Go.Proofs.YtdeghcgakkhbmaaGreat
open Go.RowKit
def lineZ (A R n d : Int) : Bool := decide (A = 0 ∧ R = 0 ∧ n = 0 ∧ d = 0)
end Go.Proofs.YtdeghcgakkhbmaaGreat
namespace Go.Proofs.YtdeghcgakkhbmaaGreat
open Go.RowKit
end Go.Proofs.YtdeghcgakkhbmaaGreat
namespace Go.Proofs.YtdeghcgakkhbmaaGreat
open Go.RowKit
/-- What a segment says. -/
structure SegT where
  K : Int
  runs : List RunT
  A : Int
  R : Int
  n : Int
  d : Int
  raw : List Int
  E : Int
def segA (s : SegT) (p q : Option Addr) (cap vc : Nat) : Array Value := #[.int .i64 s.K, .slice p s.runs.length cap, .int .i64 s.A, .int .i64 s.R, .int .i64 s.n, .int .i64 s.d, .slice q s.raw.length vc, .int .i64 s.E]
structure SegIn (w : World) (s : SegT) (p q : Option Addr) : Prop where
  runs : RunsIn w p s.runs
  raw : IntsIn w q s.raw
  fewR : s.runs.length ≤ 300
  fewV : s.raw.length ≤ 300
theorem SegIn.below {w w' : World} {s : SegT} {p q : Option Addr} (h : SegIn w s p q) (hb : Below w.heap.size w w') : SegIn w' s p q := ⟨h.runs.below hb, h.raw.below hb, h.fewR, h.fewV⟩
def firstT (l : List RunT) : Int := atV l 0
def lastT (l : List RunT) : Int := atV l (cnt l - 1)
def lineIsB (s : SegT) : Bool := isLine s.A s.R s.n s.d && endsOk s.A s.R s.n s.d 0 (lastT s.runs - firstT s.runs) && s.raw.isEmpty
def kindB (s : SegT) : Bool :=
  if s.K = 1 then s.n == 0 && lineIsB s
  else if s.K = 2 then s.n != 0 && (s.R == 0 && lineIsB s)
  else if s.K = 3 then s.R != 0 && lineIsB s
  else if s.K = 4 then lineZ s.A s.R s.n s.d && (s.raw.length : Int) == cnt s.runs && s.raw.all isBack
  else false
def segB (s : SegT) : Bool := risesB s.runs && (decide (0 ≤ s.E) && decide (s.E ≤ 1099511627776) && kindB s)

end Go.Proofs.YtdeghcgakkhbmaaGreat
namespace Go.Proofs.YtdeghcgakkhbmaaGreat
open Go.RowKit
theorem RunsIn.alloc {w : World} {p : Option Addr} {l : List RunT} (h : RunsIn w p l) (o : Obj) : RunsIn (w.alloc o) p l := h.below ((Below.refl _ _).alloc (Nat.le_refl _) o)
theorem RunsIn.calls {w w' : World} {p : Option Addr} {l : List RunT} (h : RunsIn w p l) (hb : Below w.heap.size w w') : RunsIn w' p l := h.below hb
theorem RunsIn.set {w : World} {g x o i : Nat} {v : Value} {l : List RunT} (h : RunsIn w (some ⟨g, x, none⟩) l) (hne : g ≠ o) : RunsIn (w.setCell ⟨o, i, none⟩ v) (some ⟨g, x, none⟩) l := ⟨fun k r hr => by
  obtain ⟨b, y, e, h1, h2, h3⟩ := h.at' k r hr
  cases e
  have hc : ∀ z, (w.setCell ⟨o, i, none⟩ v).cell? ⟨g, z, none⟩ = w.cell? ⟨g, z, none⟩ := by
    intro z
    have := heap_setCell_other w ⟨o, i, none⟩ g v hne
    simp only [World.cell?, this]
  exact ⟨g, x, rfl, (hc _).trans h1, (hc _).trans h2, (hc _).trans h3⟩⟩
def lpRel (K A R n d E : Int) (p q : Option Addr) (len cap m vc : Nat) (w : World) (i j x lo hi : Int) (P : List RunT) (SS : Nat → Int) (g o : Nat) (a' : Act) (W : World) : Prop :=
  Below w.heap.size w W ∧ Blk W w.heap.size #[.int .i64 K, .slice p len cap, .int .i64 A, .int .i64 R, .int .i64 n, .int .i64 d, .slice q m vc, .int .i64 E] 190 ∧ Blk W (w.heap.size + 1) #[.int .i64 0, .int .i64 0, .int .i64 0, .int .i64 0, .int .u64 0] 260 ∧ RunsIn W (some ⟨g, 0, none⟩) P ∧ ∃ k : Nat, (∃ u : Nat → Value, a' = { tmps := #[u 0, u 1, u 2, .pointer (some ⟨w.heap.size, 0, none⟩), u 4, u 5, .pointer (some ⟨w.heap.size + 1, 0, none⟩), .int .i64 x, u 8, u 9, u 10, u 11, u 12, u 13, u 14, .pointer (some ⟨o, 0, none⟩), u 16, u 17, u 18, u 19, u 20, u 21, u 22, u 23, u 24, u 25, u 26, u 27, u 28, u 29, u 30, u 31, u 32, u 33, u 34, u 35, u 36, u 37, u 38, u 39, u 40, u 41, u 42, u 43, u 44, u 45, u 46, u 47, u 48, u 49, u 50, u 51, u 52, u 53, u 54, u 55, u 56, u 57, u 58, u 59, u 60, u 61, u 62, u 63, u 64, u 65, u 66, u 67, u 68, u 69, u 70, u 71, u 72, u 73, .slice (some ⟨g, 0, none⟩) P.length P.length, .int .i64 (P.length : Int), .int .i64 (k : Int), u 77, u 78, u 79, u 80, u 81, u 82, u 83, u 84, u 85, u 86, u 87, u 88, u 89, u 90, u 91, u 92, u 93, u 94, u 95, u 96, u 97, u 98, u 99, u 100, u 101, u 102, u 103, u 104], defers := [] }) ∧ k ≤ P.length ∧ Blk W o #[.int .i64 (j - i), .int .i64 lo, .int .i64 hi, .int .i64 (hiW (SS k)), .int .u64 (loW (SS k))] 260
end Go.Proofs.YtdeghcgakkhbmaaGreat
