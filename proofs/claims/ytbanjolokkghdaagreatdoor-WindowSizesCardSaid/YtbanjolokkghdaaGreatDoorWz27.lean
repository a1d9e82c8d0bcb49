/- Parts of the proof that follows: Layer merge: the times of a segment that may be, what may be said there. No condition but that the segment may be and the bound is one for it. | The document's bands of a segment that may be, of a bound for it. No condition else. | Layer merge: which bands are left of a bound, or why there are none; the document's bound for segments. No condition. | slices.Clone, of segments and points, and of runs and numbers that may be nil. No condition. | A region that draws its order, in which one step writes into a block of the call's own, and what that block holds is told before and behind: the step may stand ahead of some that only read. No condition. -/
import Derived.Test.YtbanjolokkghdaaGreatDoorWz26
set_option linter.unusedSimpArgs false
set_option linter.unusedVariables false
namespace Go.Proofs.YtbanjolokkghdaaGreatDoor
open Go.RowKit
/-- The times of a segment: time, what was said there, how far that was at most. -/
def oldsL (s : SegT) : List RunT := (ptsL s).map fun x => ⟨x.1, x.2, s.E⟩
/-- What may be said there. -/
def bandM (eps : Int) (o : RunT) : RunT := ⟨o.f, mx (o.s - (eps - o.c)) (-2305844108725321728), mn (o.s + (eps - o.c)) 2305844108725321728⟩
def bandsM (eps : Int) (l : List RunT) : List RunT := l.map (bandM eps)
def OldOk (eps : Int) (o : RunT) : Prop := (-2305844108725321728 ≤ o.s ∧ o.s ≤ 2305844108725321728) ∧ 0 ≤ o.c ∧ o.c ≤ eps ∧ eps ≤ 1099511627776
def olRel (w w9 : World) (s : SegT) (g cp : Nat) (a' : Act) (W : World) : Prop :=
  Below w9.heap.size w9 W ∧ ∃ (i : Nat) (v : Value), (∃ u : Nat → Value, a' = { tmps := #[u 0, .pointer (some ⟨w.heap.size, 0, none⟩), .slice none 0 0, .slice (some ⟨g, 0, none⟩) (ptsL s).length cp, u 4, v, u 6, u 7, u 8, u 9, u 10, u 11, u 12, .slice (some ⟨g, 0, none⟩) (ptsL s).length cp, .int .i64 ((ptsL s).length : Int), .int .i64 (i : Int), u 16, u 17, u 18, u 19, u 20, u 21, u 22, u 23, u 24, u 25, u 26, u 27], defers := [] }) ∧ OwnR W w9.heap.size 116 3 v i (flatCells ((oldsL s).take i)) ∧ i ≤ (ptsL s).length
def bsRel (w : World) (p : Option Addr) (cap : Nat) (l : List RunT) (eps : Int) (a' : Act) (W : World) : Prop :=
  Below w.heap.size w W ∧ ∃ (i : Nat) (v : Value), (∃ u : Nat → Value, a' = { tmps := #[.slice p l.length cap, .int .i64 eps, u 2, u 3, .slice none 0 0, v, u 6, u 7, .slice p l.length cap, .int .i64 (l.length : Int), .int .i64 (i : Int), u 11, u 12, u 13, u 14, u 15, u 16, u 17, u 18, u 19, u 20, u 21], defers := [] }) ∧ OwnR W w.heap.size 44 3 v i (flatCells (bandsM eps (l.take i))) ∧ i ≤ l.length
end Go.Proofs.YtbanjolokkghdaaGreatDoor
namespace Go.Proofs.YtbanjolokkghdaaGreatDoor
open Go.RowKit
def rdRel (w w9 : World) (s : SegT) (eps : Int) (g cp : Nat) (a' : Act) (W : World) : Prop :=
  Below w9.heap.size w9 W ∧ ∃ (i : Nat) (v : Value), (∃ u : Nat → Value, a' = { tmps := #[u 0, .int .i64 eps, .pointer (some ⟨w.heap.size, 0, none⟩), u 3, .slice none 0 0, .slice (some ⟨g, 0, none⟩) (ptsL s).length cp, .bool true, v, u 8, u 9, u 10, u 11, u 12, u 13, u 14, u 15, .slice (some ⟨g, 0, none⟩) (ptsL s).length cp, .int .i64 ((ptsL s).length : Int), .int .i64 (i : Int), u 19, u 20, u 21, u 22, u 23, u 24, u 25, u 26, u 27, u 28, u 29, u 30, u 31, u 32, u 33, u 34, u 35, u 36, u 37, u 38, u 39, u 40, u 41, u 42, u 43, u 44, u 45, u 46, u 47, u 48, u 49, u 50, u 51, u 52], defers := [] }) ∧ OwnR W w9.heap.size 44 3 v i (flatCells (bandsM eps ((oldsL s).take i))) ∧ i ≤ (ptsL s).length
end Go.Proofs.YtbanjolokkghdaaGreatDoor
namespace Go.Proofs.YtbanjolokkghdaaGreatDoor
open Go.RowKit
def rboRel (w : World) (p : Option Addr) (cap : Nat) (l : List SegT) (eps : Int) (a' : Act) (W : World) : Prop :=
  Below w.heap.size w W ∧ ∃ i : Nat, (∃ u : Nat → Value, a' = { tmps := #[.slice p l.length cap, .int .i64 eps, u 2, u 3, .bool false, u 5, u 6, .slice p l.length cap, .int .i64 (l.length : Int), .int .i64 (i : Int), u 10, u 11, u 12, u 13, u 14, u 15, u 16, u 17, u 18, u 19], defers := [] }) ∧ (l.take i).all (fun x => decide (x.E ≤ eps)) = true ∧ i ≤ l.length
end Go.Proofs.YtbanjolokkghdaaGreatDoor
namespace Go.Proofs.YtbanjolokkghdaaGreatDoor
open Go.RowKit
/-- A row that lies in a block of its own. -/
def RowOwn (w : World) (e : TypeId) (n k : Nat) (news : List Value) (v : Value) (w' : World) : Prop := ∃ g cap' cur, v = .slice (some ⟨g, 0, none⟩) n cap' ∧ w.heap.size ≤ g ∧ Blk w' g cur e ∧ n ≤ cap' ∧ cur.toList.take k = news
end Go.Proofs.YtbanjolokkghdaaGreatDoor
namespace Go.Proofs.YtbanjolokkghdaaGreatDoor
open Go.RowKit
section
variable {P : Program} {ops : Array Oper} {C : World → Prop} {X : List (Nat × Nat)} {a0 : Act} {n : Nat} {Q : Exit → Act → World → Prop}
end
end Go.Proofs.YtbanjolokkghdaaGreatDoor
