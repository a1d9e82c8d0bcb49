/- Parts of the proof that follows: Layer runs: pieces, Pieces. | Layer runs: Pieces. | Layer seg: numbers in a row; the least, the greatest, whether all may be told. | Layer seg: span, lineIs, the kinds of lines. | Layer seg: rawIs, kinds, is. -/
import Derived.Test.YtbanjolokkghdaaGreatDoorWf8
set_option linter.unusedSimpArgs false
set_option linter.unusedVariables false
namespace Go.Proofs.YtbanjolokkghdaaGreatDoor
open Go.RowKit
theorem Blk.three {W : World} {g n : Nat} {L : List RunT} {t : TypeId} (h : Blk W g (runCells L) t) (hn : n < L.length) :
    ∃ a b c, W.cell? ⟨g, n * 3, none⟩ = some a ∧ W.cell? ⟨g, n * 3 + 1, none⟩ = some b ∧ W.cell? ⟨g, n * 3 + 2, none⟩ = some c := by
  obtain ⟨a, b, c⟩ := flat_at L n _ (List.getElem?_eq_getElem hn)
  have k := h.cell
  exact ⟨.int .i64 L[n].f, .int .i64 L[n].s, .int .i64 L[n].c, by rw [k]; simpa [runCells] using a, by rw [k]; simpa [runCells] using b, by rw [k]; simpa [runCells] using c⟩
def piecesRel (p : Option Addr) (cap : Nat) (l : List RunT) (i j : Int) (w : World) (a' : Act) (W : World) : Prop :=
  Below w.heap.size w W ∧ ∃ k : Nat, (∃ u : Nat → Value, a' = { tmps := #[(.slice p l.length cap), .int .i64 (i - cnt (l.take k)), .int .i64 (j - cnt (l.take k)), u 3, u 4, u 5, u 6, .slice (some ⟨w.heap.size, 0, none⟩) l.length l.length, .int .i64 ((piecesL (l.take k) i j).length : Int), u 9, u 10, u 11, u 12, u 13, u 14, u 15, u 16, u 17, u 18, (.slice p l.length cap), .int .i64 (l.length : Int), .int .i64 (k : Int), u 22, u 23, u 24, u 25, u 26, u 27, u 28, u 29, u 30, u 31, u 32, u 33, u 34, u 35, u 36, u 37, u 38, u 39, u 40, u 41, u 42, u 43, u 44, u 45, u 46, u 47, u 48, u 49, u 50, u 51, u 52, u 53, u 54, u 55, u 56, u 57, u 58, u 59, u 60, u 61, u 62, u 63, u 64], defers := [] }) ∧ k ≤ l.length ∧ Blk W w.heap.size (runCells (piecesL (l.take k) i j ++ l.drop (piecesL (l.take k) i j).length)) 94
end Go.Proofs.YtbanjolokkghdaaGreatDoor
namespace Go.Proofs.YtbanjolokkghdaaGreatDoor
open Go.RowKit
/-- The pieces of a row in a block of their own. -/
def PiecesOut (w : World) (l : List RunT) (v : Value) (w' : World) : Prop := ∃ g, v = .slice (some ⟨g, 0, none⟩) l.length l.length ∧ w.heap.size ≤ g ∧ RunsIn w' (some ⟨g, 0, none⟩) l
end Go.Proofs.YtbanjolokkghdaaGreatDoor
namespace Go.Proofs.YtbanjolokkghdaaGreatDoor
open Go.RowKit
/-- The slice p holds just these numbers. -/
structure IntsIn (w : World) (p : Option Addr) (l : List Int) : Prop where
  at' : ∀ (i : Nat) (x : Int), l[i]? = some x → ∃ b o, p = some ⟨b, o, none⟩ ∧ w.cell? ⟨b, o + i, none⟩ = some (.int .i64 x)
theorem IntsIn.below {w w' : World} {p : Option Addr} {l : List Int} (h : IntsIn w p l) (hb : Below w.heap.size w w') : IntsIn w' p l := ⟨fun i r hr => by
  obtain ⟨b, o, e, h1⟩ := h.at' i r hr
  have hB := (bcell hb).1
  exact ⟨b, o, e, (hB b _ (cell_lt h1)).trans h1⟩⟩
theorem IntsIn.drew {w : World} {p : Option Addr} {l : List Int} (h : IntsIn w p l) : IntsIn w.drew p l := ⟨h.at'⟩
def minL : List Int → Int
  | [] => 0
  | x :: l => l.foldl mn x
def maxL : List Int → Int
  | [] => 0
  | x :: l => l.foldl mx x
def minRel (p : Option Addr) (cap : Nat) (l : List Int) (w : World) (a' : Act) (W : World) : Prop :=
  Below w.heap.size w W ∧ ∃ (i : Nat) (m : Int), (∃ u : Nat → Value, a' = { tmps := #[(.slice p l.length cap), u 1, u 2, .int .i64 m, .int .i64 (i : Int), u 5, u 6, u 7, u 8, u 9, u 10, u 11, u 12, u 13, u 14, u 15, u 16, u 17, u 18, u 19, u 20, u 21, u 22, u 23, u 24], defers := [] }) ∧ 1 ≤ i ∧ i ≤ l.length ∧ m = minL (l.take i)
def maxRel (p : Option Addr) (cap : Nat) (l : List Int) (w : World) (a' : Act) (W : World) : Prop :=
  Below w.heap.size w W ∧ ∃ (i : Nat) (m : Int), (∃ u : Nat → Value, a' = { tmps := #[(.slice p l.length cap), u 1, u 2, .int .i64 m, .int .i64 (i : Int), u 5, u 6, u 7, u 8, u 9, u 10, u 11, u 12, u 13, u 14, u 15, u 16, u 17, u 18, u 19, u 20, u 21, u 22, u 23, u 24], defers := [] }) ∧ 1 ≤ i ∧ i ≤ l.length ∧ m = maxL (l.take i)
def idxRel (p : Option Addr) (cap : Nat) (l : List Int) (w : World) (a' : Act) (W : World) : Prop :=
  Below w.heap.size w W ∧ ∃ i : Nat, (∃ u : Nat → Value, a' = { tmps := #[(.slice p l.length cap), .func (.func 196) #[] #[], u 2, u 3, u 4, u 5, (.slice p l.length cap), .int .i64 (l.length : Int), .int .i64 (i : Int), u 9, u 10, u 11, u 12, u 13, u 14, u 15, u 16, u 17, u 18], defers := [] }) ∧ i ≤ l.length ∧ (l.take i).all isBack = true
def IdxOut (l : List Int) (w : World) (e : Ending) (w' : World) : Prop := ∃ r : Int, e = .returned (.int .i64 r) ∧ decide (0 ≤ r) = !(l.all isBack) ∧ -1 ≤ r ∧ Below w.heap.size w w'
end Go.Proofs.YtbanjolokkghdaaGreatDoor
namespace Go.Proofs.YtbanjolokkghdaaGreatDoor
open Go.RowKit
end Go.Proofs.YtbanjolokkghdaaGreatDoor
namespace Go.Proofs.YtbanjolokkghdaaGreatDoor
open Go.RowKit
def lineZ (A R n d : Int) : Bool := decide (A = 0 ∧ R = 0 ∧ n = 0 ∧ d = 0)
end Go.Proofs.YtbanjolokkghdaaGreatDoor
