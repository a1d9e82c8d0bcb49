/- Parts of the proof that follows: The document's runs of times: Of. | The document's runs of times: Same, Right. | The document's segments: Kind, Points walked. -/
import Derived.Test.YtbanjolokkghdaaGreatDoorWf18
set_option linter.unusedSimpArgs false
set_option linter.unusedVariables false
namespace Go.Proofs.YtbanjolokkghdaaGreatDoor
open Go.RowKit
theorem cell_three_new (W : World) (a b c : Value) (t : TypeId) (j : Nat) (u : Value) (h : [a, b, c][j]? = some u) : (W.alloc (.cells #[a, b, c] t)).cell? ((⟨W.heap.size, 0, none⟩ : Addr).add j) = some u := by
  have hb : Blk (W.alloc (.cells #[a, b, c] t)) W.heap.size #[a, b, c] t := Blk.new' rfl
  have hadd : (⟨W.heap.size, 0, none⟩ : Addr).add j = ⟨W.heap.size, j, none⟩ := by unfold Addr.add; split <;> simp_all
  rw [hadd, hb.cell]
  simpa using h
theorem flatCells_snoc (L : List RunT) (r : RunT) : flatCells (L ++ [r]) = flatCells L ++ [.int .i64 r.f, .int .i64 r.s, .int .i64 r.c] := by
  induction L with
  | nil => rfl
  | cons q L ih => simp only [List.cons_append, flatCells, ih]
def ofRel (w : World) (b o cap : Nat) (T : List Int) (a' : Act) (W : World) : Prop :=
  Below w.heap.size w W ∧ ∃ (i : Nat) (L : List RunT) (v : Value), (∃ u : Nat → Value, a' = { tmps := #[.slice (some ⟨b, o, none⟩) T.length cap, u 1, .slice none 0 0, v, .int .i64 (i : Int), u 5, u 6, u 7, u 8, u 9, u 10, u 11, u 12, u 13, u 14, u 15, u 16, u 17, u 18, u 19, u 20, u 21, u 22, u 23, u 24, u 25, u 26, u 27, u 28, u 29, u 30, u 31, u 32, u 33, u 34, u 35, u 36, u 37, u 38, u 39, u 40, u 41, u 42, u 43, u 44, u 45, u 46, u 47, u 48, u 49, u 50, u 51, u 52, u 53, u 54, u 55, u 56, u 57, u 58, u 59, u 60, u 61, u 62, u 63, u 64, u 65, u 66, u 67, u 68, u 69, u 70, u 71, u 72, u 73, u 74, u 75, u 76, u 77, u 78, u 79, u 80], defers := [] }) ∧
    OwnR W w.heap.size 94 3 v L.length (flatCells L) ∧ ofL T = L ++ ofL (T.drop i) ∧ i ≤ T.length ∧ L.length ≤ i
def ojRel (w : World) (b o cap : Nat) (T : List Int) (i : Nat) (v : Value) (L : List RunT) (s x1 : Int) (a' : Act) (W : World) : Prop :=
  Below w.heap.size w W ∧ ∃ (j : Nat) (x : Int), (∃ u : Nat → Value, a' = { tmps := #[.slice (some ⟨b, o, none⟩) T.length cap, u 1, .slice none 0 0, v, .int .i64 (i : Int), .int .i64 (j : Int), u 6, u 7, u 8, u 9, u 10, u 11, u 12, u 13, u 14, u 15, u 16, u 17, u 18, u 19, u 20, u 21, u 22, u 23, u 24, u 25, u 26, u 27, u 28, u 29, u 30, u 31, u 32, u 33, u 34, u 35, u 36, u 37, u 38, u 39, u 40, u 41, u 42, u 43, u 44, u 45, u 46, u 47, u 48, u 49, u 50, u 51, u 52, u 53, u 54, u 55, u 56, u 57, u 58, u 59, u 60, u 61, u 62, u 63, u 64, u 65, u 66, u 67, u 68, u 69, u 70, u 71, u 72, u 73, u 74, u 75, u 76, u 77, u 78, u 79, u 80], defers := [] }) ∧
    OwnR W w.heap.size 94 3 v L.length (flatCells L) ∧ i + 1 ≤ j ∧ j < T.length ∧ T[j]? = some x ∧ extn s x1 (T.drop (i + 2)) = (j - i - 1) + extn s x (T.drop (j + 1))
end Go.Proofs.YtbanjolokkghdaaGreatDoor
namespace Go.Proofs.YtbanjolokkghdaaGreatDoor
open Go.RowKit
structure RunsP (w : World) (b o : Nat) (l : List RunT) : Prop where
  runs : RunsIn w (some ⟨b, o, none⟩) l
theorem RunsP.below {w w' : World} {b o : Nat} {l : List RunT} (h : RunsP w b o l) (hb : Below w.heap.size w w') : RunsP w' b o l := ⟨h.runs.below hb⟩
theorem RunsP.rex {L : List Nat} {w w' : World} {b o : Nat} {l : List RunT} (h : RunsP w b o l) (hr : Rex L w w') (hL : L = []) : RunsP w' b o l := by subst hL; exact h.below hr.below
theorem RunsP.drew {w : World} {b o : Nat} {l : List RunT} (h : RunsP w b o l) : RunsP w.drew b o l := ⟨⟨h.runs.at'⟩⟩
theorem RunsP.cellAt {w : World} {b o : Nat} {l : List RunT} (h : RunsP w b o l) {i : Nat} {r : RunT} (hx : l[i]? = some r) :
    w.cell? ⟨b, o + i * 3, none⟩ = some (.int .i64 r.f) ∧ w.cell? ⟨b, o + i * 3 + 1, none⟩ = some (.int .i64 r.s) ∧ w.cell? ⟨b, o + i * 3 + 2, none⟩ = some (.int .i64 r.c) := h.runs.cells hx
def smRel (w : World) (p : Option Addr) (cap : Nat) (p' : Option Addr) (cap' : Nat) (A B : List RunT) (a' : Act) (W : World) : Prop :=
  Below w.heap.size w W ∧ ∃ (i : Nat), (∃ u : Nat → Value, a' = { tmps := #[.slice p A.length cap, .slice p' A.length cap', u 2, u 3, .bool false, .int .i64 (i : Int), u 6, u 7, u 8, u 9, u 10, u 11, u 12, u 13, u 14, u 15, u 16, u 17, u 18, u 19, u 20, u 21, u 22, u 23, u 24, u 25], defers := [] }) ∧ i ≤ A.length ∧ ∀ k, k < i → A[k]? = B[k]?
end Go.Proofs.YtbanjolokkghdaaGreatDoor
namespace Go.Proofs.YtbanjolokkghdaaGreatDoor
open Go.RowKit
def ptRel (w1 : World) (g bt ot ct : Nat) (T V : List Int) (a' : Act) (W : World) : Prop :=
  Below w1.heap.size w1 W ∧ ∃ (i : Nat) (v : Value), (∃ u : Nat → Value, a' = { tmps := #[u 0, .pointer (some ⟨g, 0, none⟩), .slice none 0 0, .bool false, .slice (some ⟨bt, ot, none⟩) T.length ct, v, .int .i64 (i : Int), u 7, u 8, u 9, u 10, u 11, u 12, u 13, u 14, u 15, u 16, u 17, u 18, u 19, u 20, u 21, u 22, u 23, u 24, u 25, u 26, u 27, u 28, u 29, u 30, u 31, u 32, u 33, u 34, u 35, u 36, u 37, u 38, u 39, u 40, u 41, u 42, u 43, u 44, u 45, u 46, u 47, u 48, u 49, u 50, u 51, u 52, u 53, u 54, u 55, u 56, u 57, u 58, u 59], defers := [] }) ∧
    OwnR W w1.heap.size 56 2 v i (flatPts ((T.zip V).take i)) ∧ i ≤ T.length ∧ ∀ (k : Nat) (y : Int), k < i → V[k]? = some y → isBack y = true
def PtsPost (w : World) (T V : List Int) (e : Ending) (w' : World) : Prop :=
  Below w.heap.size w w' ∧ ((V.all isBack = true ∧ ∃ v, e = .returned (.tuple #[v, .bool true]) ∧ OwnR w' w.heap.size 56 2 v T.length (flatPts (T.zip V))) ∨ (V.all isBack = false ∧ e = .returned (.tuple #[.slice none 0 0, .bool false])))
end Go.Proofs.YtbanjolokkghdaaGreatDoor
