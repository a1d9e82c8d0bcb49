/- Parts of the proof that follows: The laws of chapter 25: own. No condition. | A raw series and a model, plainly: which may be, what is told of some times. No condition. | Layer window: which points may be; a bound. No condition. | Reference 25: ends, Total. No condition but that there is one at least, or that they are few. | Reference 25: Total. No condition but that they are few. | Append to a row of one's own: the row stays in its block or is in a new one. No condition. | Reference 25: Bounds. No condition but that they are few. | Layer window: the bands of points; the document's. No condition but that points and bound may be. -/
import Derived.Test.YtbanjolokkghdaaGreatDoorWz25
set_option linter.unusedSimpArgs false
set_option linter.unusedVariables false
namespace Go.Proofs.YtbanjolokkghdaaGreatDoor
open Go.RowKit
theorem Tryz.infoSeg : (Tryz.prog.info? 29).map (fun i => (i.zero, i.size, i.bytes)) = some (some (.agg #[.int .i64 0, .slice none 0 0, .int .i64 0, .int .i64 0, .int .i64 0, .int .i64 0, .slice none 0 0, .int .i64 0]), 8, 96) := by kernel_rfl
theorem flatSegs_len (l : List SegR) : (flatSegs l).length = l.length * 8 := by
  unfold flatSegs
  induction l with
  | nil => rfl
  | cons x l ih => rw [List.flatMap_cons, List.length_append, ih, segRA_len, List.length_cons]; omega
def ownG (s : SegT) : SegT := ⟨s.K, s.runs.take 300, s.A, s.R, s.n, s.d, s.raw.take 300, s.E⟩
theorem RunsIn.rex1 {w w' : World} {p : Option Addr} {l : List RunT} {g : Nat} {L : List Nat} (h : RunsIn w p l) (hL : ∀ x, x ∈ L → x ≤ g) (hg : ∀ a, p = some a → g < a.block) (hr : Rex L w w') : RunsIn w' p l := ⟨fun i r hi => by
  obtain ⟨b, o, e, h1, h2, h3⟩ := h.at' i r hi
  have hb := hg _ e
  have key : ∀ z v, w.cell? ⟨b, z, none⟩ = some v → w'.cell? ⟨b, z, none⟩ = some v := fun z v hv => (World.cell?_of_block (hr.block b (cell_lt hv) (fun hx => by have := hL _ hx; simp at hb; omega))).trans hv
  exact ⟨b, o, e, key _ _ h1, key _ _ h2, key _ _ h3⟩⟩
theorem IntsIn.rex1 {w w' : World} {p : Option Addr} {l : List Int} {g : Nat} {L : List Nat} (h : IntsIn w p l) (hL : ∀ x, x ∈ L → x ≤ g) (hg : ∀ a, p = some a → g < a.block) (hr : Rex L w w') : IntsIn w' p l := ⟨fun i r hi => by
  obtain ⟨b, o, e, h1⟩ := h.at' i r hi
  have hb := hg _ e
  exact ⟨b, o, e, (World.cell?_of_block (hr.block b (cell_lt h1) (fun hx => by have := hL _ hx; simp at hb; omega))).trans h1⟩⟩
/-- A segment of one's own. -/
structure OwnSeg (W : World) (g : Nat) (r0 r : SegR) : Prop where
  says : r.s = ownG r0.s
  runs : RunsIn W r.p r.s.runs
  raw : IntsIn W r.q r.s.raw
  capV : r.s.raw.length ≤ r.vc
  farR : ∀ a, r.p = some a → g < a.block
  farV : ∀ a, r.q = some a → g < a.block
theorem OwnSeg.rex {W W' : World} {g : Nat} {r0 r : SegR} {L : List Nat} (h : OwnSeg W g r0 r) (hL : ∀ x, x ∈ L → x ≤ g) (hr : Rex L W W') : OwnSeg W' g r0 r := ⟨h.says, h.runs.rex1 hL h.farR hr, h.raw.rex1 hL h.farV hr, h.capV, h.farR, h.farV⟩
structure OwnTo (W : World) (g : Nat) (rows R : List SegR) (i : Nat) : Prop where
  len : R.length = rows.length
  rest : ∀ k, i ≤ k → R[k]? = rows[k]?
  own : ∀ k, k < i → ∀ r, R[k]? = some r → ∃ r0, rows[k]? = some r0 ∧ OwnSeg W g r0 r
theorem OwnTo.start (W : World) (g : Nat) (rows : List SegR) : OwnTo W g rows rows 0 := ⟨rfl, fun _ _ => rfl, fun k h => by omega⟩
theorem OwnTo.rex {W W' : World} {g i : Nat} {rows R : List SegR} {L : List Nat} (h : OwnTo W g rows R i) (hL : ∀ x, x ∈ L → x ≤ g) (hr : Rex L W W') : OwnTo W' g rows R i := ⟨h.len, h.rest, fun k hk r hR => by
  obtain ⟨r0, h1, h2⟩ := h.own k hk r hR
  exact ⟨r0, h1, h2.rex hL hr⟩⟩
theorem OwnTo.step {W : World} {g i : Nat} {rows R : List SegR} {r0 r1 : SegR} (h : OwnTo W g rows R i) (h0 : rows[i]? = some r0) (h1 : OwnSeg W g r0 r1) : OwnTo W g rows (R.set i r1) (i + 1) := ⟨by rw [List.length_set]; exact h.len, fun k hk => by rw [List.getElem?_set_ne (by omega)]; exact h.rest k (by omega), fun k hk r hR => by
  rw [List.getElem?_set] at hR
  split at hR
  · rename_i e
    subst e
    split at hR
    · injection hR with hR
      subst hR
      exact ⟨r0, h0, h1⟩
    · cases hR
  · exact h.own k (by omega) r hR⟩
end Go.Proofs.YtbanjolokkghdaaGreatDoor
namespace Go.Proofs.YtbanjolokkghdaaGreatDoor
open Go.RowKit
/-- What a raw series says. -/
structure RawT where
  name : ByteArray
  eps : Int
  floor : Int
  last : Int
  scale : Int
  pts : List (Int × Int)
def ptB (p : Int × Int) : Bool := btw p.1 0 281474976710656 && btw p.2 (-2305843009213693952) 2305843009213693952
def rawPtsB (fl : Int) : Int → List (Int × Int) → Bool
  | _, [] => true
  | b, p :: l => (ptB p && (decide (fl ≤ p.1) && decide (b < p.1))) && rawPtsB fl p.1 l
def rawNumsB (r : RawT) : Bool := nameB r.name && (btw r.eps 0 1099511627776 && (btw r.scale (-40) 40 && (btw r.floor 0 281474976710656 && (btw r.last (-1) 281474976710656 && decide (r.pts.length ≤ 1024)))))
def rawB (r : RawT) : Bool := rawNumsB r && (rawPtsB r.floor (-1) r.pts && (r.pts.isEmpty || r.last == lastOr (-1) (r.pts.map (·.1))))
/-- The points of some times. -/
def someL (r : RawT) (a b : Int) : List (Int × Int) := r.pts.filter fun p => decide (a ≤ p.1) && decide (p.1 ≤ b)
def someV (r : RawT) (a b : Int) : List Int := (someL r a b).map (·.2)
end Go.Proofs.YtbanjolokkghdaaGreatDoor
namespace Go.Proofs.YtbanjolokkghdaaGreatDoor
open Go.RowKit
/-- Which points may be a window. -/
def winB (l : List (Int × Int)) : Bool := (decide (1 ≤ l.length) && decide (l.length ≤ 32)) && rawPtsB 0 (-1) l
def wckRel (w : World) (p : Option Addr) (cap : Nat) (l : List (Int × Int)) (a' : Act) (W : World) : Prop :=
  Below w.heap.size w W ∧ ∃ i : Nat, (∃ u : Nat → Value, a' = { tmps := #[.slice p l.length cap, u 1, .int .i64 0, u 3, u 4, u 5, u 6, u 7, u 8, u 9, u 10, u 11, u 12, .slice p l.length cap, .int .i64 (l.length : Int), .int .i64 (i : Int), u 16, u 17, u 18, u 19, u 20, u 21, u 22, u 23, u 24, u 25, u 26, u 27, u 28, u 29, u 30, u 31, u 32, u 33, u 34, u 35, u 36, u 37, u 38, u 39, u 40, u 41, u 42, u 43, u 44, u 45, u 46, u 47, u 48, u 49, u 50, u 51, u 52, u 53], defers := [] }) ∧ rawPtsB 0 (-1) (l.take i) = true ∧ i ≤ l.length
/-- why there is nothing of points and a bound -/
def bothE (l : List (Int × Int)) (eps : Int) : Int := if winB l = true then (if btw eps 0 1099511627776 = true then 0 else 231) else 230
end Go.Proofs.YtbanjolokkghdaaGreatDoor
namespace Go.Proofs.YtbanjolokkghdaaGreatDoor
open Go.RowKit
def IntsF (w : World) (p : Option Addr) (l : List Int) : Prop := IntsIn w p l
theorem IntsF.rex {L : List Nat} {w w' : World} {p : Option Addr} {l : List Int} (h : IntsF w p l) (hr : Rex L w w') (hL : L = []) : IntsF w' p l := by subst hL; exact IntsIn.below h hr.below
def enRel (w : World) (p : Option Addr) (l : List Int) (cap : Nat) (x0 : Int) (a' : Act) (W : World) : Prop :=
  Below w.heap.size w W ∧ ∃ i : Nat, (∃ u : Nat → Value, a' = { tmps := #[.slice p l.length cap, u 1, u 2, u 3, .int .i64 (minL (x0 :: l.take i)), .int .i64 (maxL (x0 :: l.take i)), .int .i64 (i : Int), u 7, u 8, u 9, u 10, u 11, u 12, u 13, u 14, u 15, u 16, u 17, u 18, u 19, u 20, u 21, u 22, u 23, u 24, u 25, u 26, u 27, u 28, u 29, u 30, u 31, u 32, u 33, u 34, u 35, u 36, u 37, u 38, u 39, u 40], defers := [] }) ∧ i ≤ l.length
end Go.Proofs.YtbanjolokkghdaaGreatDoor
namespace Go.Proofs.YtbanjolokkghdaaGreatDoor
open Go.RowKit
def toRel (w : World) (gs : Nat) (p : Option Addr) (cap : Nat) (l : List Int) (a' : Act) (W : World) : Prop :=
  Below w.heap.size w W ∧ ∃ (i : Nat) (S : Int) (ps : Option Addr) (ls cs : Nat), (∃ u : Nat → Value, a' = { tmps := #[.slice p l.length cap, u 1, .pointer (some ⟨w.heap.size, 0, none⟩), .pointer (some ⟨gs, 0, none⟩), .int .i64 (i : Int), u 5, u 6, u 7, u 8, u 9, u 10, u 11, u 12, u 13, u 14, u 15, u 16, u 17, u 18, u 19], defers := [] }) ∧ S = lsum (l.take i) ∧ i ≤ l.length ∧ Blk W w.heap.size #[.bool false, .slice none 0 0] 140 ∧ Blk W gs #[.bool (decide (S < 0)), .slice ps ls cs] 140 ∧ Bits W (.slice ps ls cs) S.natAbs
end Go.Proofs.YtbanjolokkghdaaGreatDoor
namespace Go.Proofs.YtbanjolokkghdaaGreatDoor
open Go.RowKit
section
variable {P : Program} {w : World}
end
end Go.Proofs.YtbanjolokkghdaaGreatDoor
namespace Go.Proofs.YtbanjolokkghdaaGreatDoor
open Go.RowKit
def OneV (B : Nat) (d : Int) : Spec := fun v w => ∃ g, v = .slice (some ⟨g, 0, none⟩) 1 1 ∧ B ≤ g ∧ Blk w g #[.int .i64 d] 2
theorem OneV.closed (B : Nat) (d : Int) : Closed [] (OneV B d) := fun _ _ _ hr ⟨g, e1, h1, h⟩ => ⟨g, e1, h1, h.rex hr (by simp)⟩
def Apart2 (v1 v2 : Value) : Prop := ∀ g, v1.ownBlock = some g → v2.ownBlock = some g → False
theorem Apart2.symm {v1 v2 : Value} (h : Apart2 v1 v2) : Apart2 v2 v1 := fun g a b => h g b a
def loB (x : RunT) : Int := x.s - x.c
def hiB (x : RunT) : Int := x.s + x.c
def boRel (w : World) (p : Option Addr) (cap : Nat) (l : List RunT) (a' : Act) (W : World) : Prop :=
  Below w.heap.size w W ∧ ∃ (i : Nat) (v1 v2 : Value), (∃ u : Nat → Value, a' = { tmps := #[.slice p l.length cap, u 1, .slice none 0 0, .slice none 0 0, v1, v2, .int .i64 (i : Int), u 7, u 8, u 9, u 10, u 11, u 12, u 13, u 14, u 15, u 16, u 17, u 18, u 19, u 20, u 21, u 22, u 23, u 24, u 25, u 26, u 27, u 28, u 29, u 30, u 31, u 32, u 33, u 34, u 35, u 36, u 37, u 38, u 39, u 40, u 41, u 42], defers := [] }) ∧ i ≤ l.length ∧
    OwnR W w.heap.size 2 1 v1 i (((l.take i).map loB).map (Value.int .i64)) ∧ OwnR W w.heap.size 2 1 v2 i (((l.take i).map hiB).map (Value.int .i64)) ∧ Apart2 v1 v2
end Go.Proofs.YtbanjolokkghdaaGreatDoor
namespace Go.Proofs.YtbanjolokkghdaaGreatDoor
open Go.RowKit
/-- The bands of points. -/
def bndL (eps : Int) (l : List (Int × Int)) : List RunT := l.map fun q => ⟨q.1, q.2 - eps, q.2 + eps⟩
def ValOk (l : List (Int × Int)) (eps : Int) : Prop := (∀ x, x ∈ l → -2305843009213693952 ≤ x.2 ∧ x.2 ≤ 2305843009213693952) ∧ 0 ≤ eps ∧ eps ≤ 1099511627776
def alRel (w : World) (p : Option Addr) (cap : Nat) (l : List (Int × Int)) (eps : Int) (o6 : Nat) (a' : Act) (W : World) : Prop :=
  Below w.heap.size w W ∧ Blk W o6 #[.int .i64 eps] 2 ∧ ∃ (i : Nat) (v : Value), (∃ u : Nat → Value, a' = { tmps := #[.slice p l.length cap, .func (.func 76) #[] #[.pointer (some ⟨o6, 0, none⟩)], u 2, u 3, u 4, v, u 6, u 7, u 8, u 9, u 10, .slice p l.length cap, .int .i64 (l.length : Int), .int .i64 (i : Int), u 14, u 15, u 16, u 17, u 18, u 19, u 20, u 21, u 22, u 23, u 24], defers := [] }) ∧ OwnR W w.heap.size 44 3 v i (flatCells (bndL eps (l.take i))) ∧ i ≤ l.length
def BndB (B : Nat) (x y z : Int) : Spec := fun v w => ∃ g, v = .slice (some ⟨g, 0, none⟩) 1 1 ∧ B ≤ g ∧ Blk w g #[.int .i64 x, .int .i64 y, .int .i64 z] 44
theorem BndB.closed (B : Nat) (x y z : Int) : Closed [] (BndB B x y z) := fun _ _ _ hr ⟨g, e1, h1, h⟩ => ⟨g, e1, h1, h.rex hr (by simp)⟩
def rbRel (w : World) (p : Option Addr) (cap : Nat) (l : List (Int × Int)) (eps : Int) (a' : Act) (W : World) : Prop :=
  Below w.heap.size w W ∧ ∃ (i : Nat) (v : Value), (∃ u : Nat → Value, a' = { tmps := #[.slice p l.length cap, .int .i64 eps, u 2, u 3, u 4, v, .int .i64 (i : Int), u 7, u 8, u 9, u 10, u 11, u 12, u 13, u 14, u 15, u 16, u 17, u 18, u 19, u 20, u 21, u 22, u 23, u 24, u 25, u 26, u 27, u 28, u 29, u 30, u 31, u 32, u 33, u 34, u 35, u 36], defers := [] }) ∧ OwnR W w.heap.size 44 3 v i (flatCells (bndL eps (l.take i))) ∧ i ≤ l.length
end Go.Proofs.YtbanjolokkghdaaGreatDoor
