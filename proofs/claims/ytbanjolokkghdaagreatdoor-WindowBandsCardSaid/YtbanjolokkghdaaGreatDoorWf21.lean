/- Parts of the proof that follows: seg.Far$1, walked: how far a segment is from points. No condition. | A series in memory; a row of segments: ends, Check; a segment's last time. No condition. | A series' times, one behind the other. No condition. | series.kept: how many times a series keeps. No condition. | series.Check. No condition. | Layer wide: Sub. | Layer answer: a sheet takes a piece. No condition but that the numbers are in their bounds. | A range over a function whose iterator writes a variable of its own ahead of the first round, and whose body never leaves: one law. No condition. -/
import Derived.RegionTactic
import Derived.ChangeAlike
import Derived.Test.YtbanjolokkghdaaGreatDoorWf20
set_option linter.unusedSimpArgs false
set_option linter.unusedVariables false
namespace Go.Proofs.YtbanjolokkghdaaGreatDoor
open Go.RowKit Go.Shelf
attribute [local go_sem] Oper.semAt_some
/-- A point of a segment, and one that is held against it. -/
def okZ (z : (Int × Int) × (Int × Int)) : Bool := (z.2.1 == z.1.1) && isBack z.2.2
def farStep (f : Int) (z : (Int × Int) × (Int × Int)) : Int := mx (mx f (wrap64 (z.2.2 - z.1.2))) (wrap64 (z.1.2 - z.2.2))
def farOf (l : List ((Int × Int) × (Int × Int))) : Int := l.foldl farStep 0
/-- What a round of the loop keeps for the points' sake: what lay below, and all cells from a block on. -/
structure KF (B0 n₀ : Nat) (A B : World) : Prop where
  below : Below B0 A B
  rest : ∀ (b : Nat) (cs : Array Value) (t : TypeId) (f : Nat × Nat), n₀ ≤ b → A.heap[b]? = some (.cells cs t f) → B.heap[b]? = some (.cells cs t f)
theorem KF.refl (B0 n₀ : Nat) (A : World) : KF B0 n₀ A A := ⟨Below.refl _ _, fun _ _ _ _ _ h => h⟩
theorem KF.trans {B0 n₀ : Nat} {A B C : World} (h : KF B0 n₀ A B) (k : KF B0 n₀ B C) : KF B0 n₀ A C := ⟨h.below.trans k.below, fun b cs t f hb ha => k.rest b cs t f hb (h.rest b cs t f hb ha)⟩
theorem KF.alloc {B0 n₀ : Nat} {A B : World} (h : KF B0 n₀ A B) (hB : B0 ≤ B.heap.size) (o : Obj) : KF B0 n₀ A (B.alloc o) := ⟨h.below.alloc hB o, fun b cs t f hb ha => (Below.heap_alloc B o b (lt_of_heap (h.rest b cs t f hb ha))).trans (h.rest b cs t f hb ha)⟩
theorem KF.set {B0 n₀ : Nat} {A B : World} (h : KF B0 n₀ A B) {g i : Nat} (h1 : B0 ≤ g) (h2 : g < n₀) (v : Value) : KF B0 n₀ A (B.setCell ⟨g, i, none⟩ v) := ⟨h.below.setCell (p := ⟨g, i, none⟩) h1 v, fun b cs t f hb ha => (Below.heap_setCell B ⟨g, i, none⟩ v b (by simp; omega)).trans (h.rest b cs t f hb ha)⟩
theorem KF.calls {B0 n₀ : Nat} {A B C : World} (h : KF B0 n₀ A B) (hb : Below B.heap.size B C) (hB : B0 ≤ B.heap.size) : KF B0 n₀ A C := ⟨h.below.trans (hb.mono hB), fun b cs t f hn ha => (hb.block b (lt_of_heap (h.rest b cs t f hn ha))).trans (h.rest b cs t f hn ha)⟩
theorem KF.putObj {B0 n₀ : Nat} {w : World} (hB : B0 ≤ w.heap.size) (W : World) (l : Nat) (o o' : Obj) (hl : w.heap.size ≤ l) (h : W.heap[l]? = some o) (h1 : o.isCells = false) (h2 : o.isWalk = false) : KF B0 n₀ W (W.putObj l o') :=
  ⟨belowK_b hB W l o o' hl h h1 h2, fun b cs t f _ ha => keepsT_putObj o' h h1 b cs f ha⟩
theorem KeepsOthers.calls {A B C : World} (h : KeepsOthers A B) (hb : Below B.heap.size B C) : KeepsOthers A C := ⟨Nat.le_trans h.size hb.size, fun k o hk ho => by
  have e := h.same k o hk ho
  exact (hb.block k (lt_of_heap (e))).trans e⟩
def farR (s : SegT) (pts : List (Int × Int)) : Int × Int := if pts.length = (ptsL s).length then (if ((ptsL s).zip pts).all okZ then (farOf ((ptsL s).zip pts), 0) else (0, 2)) else (0, 2)
def FarOut (s : SegT) (pts : List (Int × Int)) (w : World) (e : Ending) (w' : World) : Prop := e = .returned (.tuple #[.int .i64 (farR s pts).1, .int .i64 (farR s pts).2]) ∧ Below w.heap.size w w'
end Go.Proofs.YtbanjolokkghdaaGreatDoor
namespace Go.Proofs.YtbanjolokkghdaaGreatDoor
open Go.RowKit
/-- Segments in memory, each with its runs and its numbers. -/
structure SegsIn (w : World) (p : Option Addr) (l : List SegT) : Prop where
  at' : ∀ (i : Nat) (s : SegT), l[i]? = some s → ∃ b o p' q' cap vc, p = some ⟨b, o, none⟩ ∧ (∀ j v, (segA s p' q' cap vc)[j]? = some v → w.cell? ⟨b, o + i * 8 + j, none⟩ = some v) ∧ SegIn w s p' q' ∧ s.raw.length ≤ vc
theorem SegsIn.below {w w' : World} {p : Option Addr} {l : List SegT} (h : SegsIn w p l) (hb : Below w.heap.size w w') : SegsIn w' p l := ⟨fun i s hs => by
  obtain ⟨b, o, p', q', cap, vc, e, h1, h2, h3⟩ := h.at' i s hs
  exact ⟨b, o, p', q', cap, vc, e, fun j v hv => (hb.cell (p := ⟨b, _, none⟩) (cell_lt (h1 j v hv))).trans (h1 j v hv), h2.below hb, h3⟩⟩
/-- The cells of one of them. -/
theorem SegsIn.one {w : World} {p : Option Addr} {l : List SegT} (h : SegsIn w p l) {i : Nat} {s : SegT} (hs : l[i]? = some s) : ∃ b o p' q' cap vc, p = some ⟨b, o, none⟩ ∧ SegIn w s p' q' ∧ s.raw.length ≤ vc ∧
    w.cell? ⟨b, o + i * 8, none⟩ = some (.int .i64 s.K) ∧ w.cell? ⟨b, o + i * 8 + 1, none⟩ = some (.slice p' s.runs.length cap) ∧ w.cell? ⟨b, o + i * 8 + 2, none⟩ = some (.int .i64 s.A) ∧ w.cell? ⟨b, o + i * 8 + 3, none⟩ = some (.int .i64 s.R) ∧ w.cell? ⟨b, o + i * 8 + 4, none⟩ = some (.int .i64 s.n) ∧ w.cell? ⟨b, o + i * 8 + 5, none⟩ = some (.int .i64 s.d) ∧ w.cell? ⟨b, o + i * 8 + 6, none⟩ = some (.slice q' s.raw.length vc) ∧ w.cell? ⟨b, o + i * 8 + 7, none⟩ = some (.int .i64 s.E) := by
  obtain ⟨b, o, p', q', cap, vc, e, h1, h2, h3⟩ := h.at' i s hs
  exact ⟨b, o, p', q', cap, vc, e, h2, h3, h1 0 _ rfl, h1 1 _ rfl, h1 2 _ rfl, h1 3 _ rfl, h1 4 _ rfl, h1 5 _ rfl, h1 6 _ rfl, h1 7 _ rfl⟩
structure SerIn (w : World) (s : SerT) (ps po : Option Addr) : Prop where
  segs : SegsIn w ps s.segs
  opn : PtsIn w po s.opn
  fewS : s.segs.length ≤ 100
  fewO : s.opn.length ≤ 100
theorem SerIn.below {w w' : World} {s : SerT} {ps po : Option Addr} (h : SerIn w s ps po) (hb : Below w.heap.size w w') : SerIn w' s ps po := ⟨h.segs.below hb, h.opn.below hb, h.fewS, h.fewO⟩
def serA (s : SerT) (ps : Option Addr) (cs : Nat) (po : Option Addr) (co : Nat) : Array Value := #[.string s.name, .int .i64 s.eps, .int .i64 s.floor, .int .i64 s.last, .int .i64 s.scale, .slice ps s.segs.length cs, .slice po s.opn.length co]
/-- A row of segments: Check. -/
def mcRel (w : World) (p : Option Addr) (cap : Nat) (l : List SegT) (a' : Act) (W : World) : Prop :=
  Below w.heap.size w W ∧ ∃ (i : Nat) (bh : Int), (∃ u : Nat → Value, a' = { tmps := #[.slice p l.length cap, u 1, u 2, .int .i64 bh, u 4, u 5, u 6, u 7, .slice p l.length cap, .int .i64 (l.length : Int), .int .i64 (i : Int), u 11, u 12, u 13, u 14, u 15, u 16, u 17, u 18, u 19, u 20, u 21, u 22, u 23, u 24, u 25, u 26], defers := [] }) ∧ i ≤ l.length ∧ rowB (-1) l = rowB bh (l.drop i)
end Go.Proofs.YtbanjolokkghdaaGreatDoor
namespace Go.Proofs.YtbanjolokkghdaaGreatDoor
open Go.RowKit Go.Shelf
attribute [local go_sem] Oper.semAt_some
end Go.Proofs.YtbanjolokkghdaaGreatDoor
namespace Go.Proofs.YtbanjolokkghdaaGreatDoor
open Go.RowKit Go.Shelf
attribute [local go_sem] Oper.semAt_some
def keptL (fl : Int) (l : List Int) : Nat := (l.filter fun t => decide (fl ≤ t)).length
end Go.Proofs.YtbanjolokkghdaaGreatDoor
namespace Go.Proofs.YtbanjolokkghdaaGreatDoor
open Go.RowKit Go.Shelf
attribute [local go_sem] Oper.semAt_some
end Go.Proofs.YtbanjolokkghdaaGreatDoor
namespace Go.Proofs.YtbanjolokkghdaaGreatDoor
open Go.RowKit
end Go.Proofs.YtbanjolokkghdaaGreatDoor
namespace Go.Proofs.YtbanjolokkghdaaGreatDoor
open Go.RowKit
section
variable {P : Program} {ops : Array Oper} {C : World → Prop} {X : List (Nat × Nat)} {a0 : Act} {Fin : List (Option Tmp × Spec) → Prop} {i : Nat} {o : Oper} {rest : List Oper} {acc : List (Option Tmp × Spec)}
/-- An operation that makes memory. -/
theorem nd_mem (Φ : Spec) (hcl : Closed (others X i) Φ) (hg : o.guard = none) (hal : isAlloc o = false)
    (h : ∀ (a : Act) (w : World), C w → (∀ s ∈ o.looksAt ops, envOf a0 acc s (a.tmps.getD s undef) w) → ∃ v w', (execOp a.eval o).run P w = .ok (.value v) w' ∧ Below w.heap.size w w' ∧ Φ v w')
    (hr : ndWalk P ops C X a0 Fin (i + 1) rest ((o.dst, Φ) :: acc)) : ndWalk P ops C X a0 Fin i (o :: rest) acc :=
  ⟨Φ, hcl, fun a w hC hE => ⟨fun _ => by
    obtain ⟨v, w', h1, h2, h3⟩ := h a w hC hE
    rw [h1]; exact ⟨Rex.of_below h2, h3, fun e => by rw [hal] at e; cases e⟩, fun e => by rw [wanted_none hg] at e; cases e⟩, hr⟩
end
/-- A slice of two spans. -/
def SPV (l : List (Int × Int)) : Spec := fun v w => ∃ k, v = .slice (some ⟨k, 0, none⟩) 2 2 ∧ PtsIn w (some ⟨k, 0, none⟩) l
theorem SPV.closed (l : List (Int × Int)) : Closed [] (SPV l) := fun _ _ _ hr ⟨k, e, h⟩ => ⟨k, e, h.rex hr rfl⟩
/-- A piece: some values, and how far. -/
def pcA (vs : List Int) (far : Int) : Array Value := #[.int .i64 vs.length, .int .i64 (minL vs), .int .i64 (maxL vs), .int .i64 (hiW (lsum vs)), .int .u64 (loW (lsum vs)), .int .i64 far]
end Go.Proofs.YtbanjolokkghdaaGreatDoor
namespace Go.Proofs.YtbanjolokkghdaaGreatDoor
open Go.RowKit Go.Shelf
attribute [local go_sem] Oper.semAt_some

/-- What such an iterator promises: its own variable lies in block Ba. -/
def SeqWr {α : Type} (F : Fence) (n : Nat) (P : Program) (g : Nat) (lb : Array Value) (encs : α → Array Value) (Kp : World → World → Prop) (xs : List α) (Ba : Nat) (w : World) : Prop :=
  ∀ (l : Nat) (J : List α → World → Prop) (W : World), Below w.heap.size w W → AbidesFrom W.heap.size J → (∀ pre W1 v, J pre W1 → J pre (W1.setCell ⟨Ba, 0, none⟩ v)) →
    (∀ pre x W1, J pre W1 → pre ++ [x] <+: xs → YieldAt F (n - 1) P l (encs x) W1 fun e W' => e = .returned (.bool true) ∧ J (pre ++ [x]) W' ∧ Kp W1 W') →
    J [] W → CallsIn F n P g (#[.func (.yield l) #[] #[]] ++ lb) W fun e W' => (∃ v, e = .returned v) ∧ J xs W'

/-- What a round of a body that never leaves must achieve. -/
def goesOn {α : Type} (B : Nat) (Kp : World → World → Prop) (I : List α → World → Prop) (pre : List α) (W : World) : Exit → Act → World → Prop
  | .normal, _, W' => KeepsFrom B W W' ∧ Kp W W' ∧ I pre W'
  | _, _, _ => False

end Go.Proofs.YtbanjolokkghdaaGreatDoor
