/- Parts of the proof that follows: Layer wide: Sub. | Layer answer: a sheet takes a piece. No condition but that the numbers are in their bounds. | A range over a function whose iterator writes a variable of its own ahead of the first round, and whose body never leaves: one law. No condition. | A region that draws its order, in the open fence: all but a tail is walked once, in the order of the text; the tail, behind all of it, may call a range's body. No condition. | answer.pieces: what is asked, piece by piece. No condition but that the series may be. | answer.whole: the sheet of all that is asked. No condition. | answer.whole, and what asks for it alone: At, Count, Sheet, Least, Most. No condition. | answer.whole at a series; and what asks for it alone: At, Count, Sheet, Least, Most. No condition. | answer.Mean. No condition. | What answer says of a series, plainly: whole, At, Count, Sheet, Least, Most, Sum, Mean. No condition. | Reference 25: ends, Total. No condition but that there is one at least, or that they are few. | Reference 25: Total. No condition but that they are few. | Append to a row of one's own: the row stays in its block or is in a new one. No condition. | Reference 25: Bounds. No condition but that they are few. | Reference 25: Back: what is told at each kept time. No condition but that the segments may be. -/
import Derived.RegionTactic
import Derived.ChangeAlike
import Derived.Test.YtpdhdjlhicceoaaGreatDoorFw23
set_option linter.unusedSimpArgs false
set_option linter.unusedVariables false
namespace Go.Proofs.YtpdhdjlhicceoaaGreatDoor
open Go.RowKit
end Go.Proofs.YtpdhdjlhicceoaaGreatDoor
namespace Go.Proofs.YtpdhdjlhicceoaaGreatDoor
open Go.RowKit
section
variable {P : Program} {ops : Array Oper} {C : World → Prop} {X : List (Nat × Nat)} {a0 : Act} {Fin : List (Option Tmp × Spec) → Prop} {i : Nat} {o : Oper} {rest : List Oper} {acc : List (Option Tmp × Spec)}
/-- An operation that makes memory. -/
theorem nd_mem (Φ : Spec) (hcl : Closed (others X i) Φ) (hg : o.guard = none) (hal : isAlloc o = false)
    (h : ∀ (a : Act) (w : World), C w → (∀ s ∈ o.looksAt ops, envOf a0 acc s (a.tmps.getD s undef) w) → ∃ v w', (execOp a.eval o).run P w = .ok (.value v) w' ∧ Below w.heap.size w w' ∧ Φ v w')
    (hr : ndWalk P ops C X a0 Fin (i + 1) rest ((o.dst, Φ) :: acc)) : ndWalk P ops C X a0 Fin i (o :: rest) acc :=
  ⟨Φ, hcl, fun a w hC hE => ⟨fun _ => by
    obtain ⟨v, w', h1, h2, h3⟩ := h a w hC hE
    rw [h1]; exact ⟨Rex.of_below h2, h3, fun e => by rw [hal] at e; cases e⟩, fun e => by rw [wanted_none hg] at e; cases e⟩, hr⟩
end
/-- A slice of two spans. -/
def SPV (l : List (Int × Int)) : Spec := fun v w => ∃ k, v = .slice (some ⟨k, 0, none⟩) 2 2 ∧ PtsIn w (some ⟨k, 0, none⟩) l
theorem SPV.closed (l : List (Int × Int)) : Closed [] (SPV l) := fun _ _ _ hr ⟨k, e, h⟩ => ⟨k, e, h.rex hr rfl⟩
/-- A piece: some values, and how far. -/
def pcA (vs : List Int) (far : Int) : Array Value := #[.int .i64 vs.length, .int .i64 (minL vs), .int .i64 (maxL vs), .int .i64 (hiW (lsum vs)), .int .u64 (loW (lsum vs)), .int .i64 far]
end Go.Proofs.YtpdhdjlhicceoaaGreatDoor
namespace Go.Proofs.YtpdhdjlhicceoaaGreatDoor
open Go.RowKit Go.Shelf
attribute [local go_sem] Oper.semAt_some

/-- What such an iterator promises: its own variable lies in block Ba. -/
def SeqWr {α : Type} (F : Fence) (n : Nat) (P : Program) (g : Nat) (lb : Array Value) (encs : α → Array Value) (Kp : World → World → Prop) (xs : List α) (Ba : Nat) (w : World) : Prop :=
  ∀ (l : Nat) (J : List α → World → Prop) (W : World), Below w.heap.size w W → AbidesFrom W.heap.size J → (∀ pre W1 v, J pre W1 → J pre (W1.setCell ⟨Ba, 0, none⟩ v)) →
    (∀ pre x W1, J pre W1 → pre ++ [x] <+: xs → YieldAt F (n - 1) P l (encs x) W1 fun e W' => e = .returned (.bool true) ∧ J (pre ++ [x]) W' ∧ Kp W1 W') →
    J [] W → CallsIn F n P g (#[.func (.yield l) #[] #[]] ++ lb) W fun e W' => (∃ v, e = .returned v) ∧ J xs W'

/-- What a round of a body that never leaves must achieve. -/
def goesOn {α : Type} (B : Nat) (Kp : World → World → Prop) (I : List α → World → Prop) (pre : List α) (W : World) : Exit → Act → World → Prop
  | .normal, _, W' => KeepsFrom B W W' ∧ Kp W W' ∧ I pre W'
  | _, _, _ => False

end Go.Proofs.YtpdhdjlhicceoaaGreatDoor
namespace Go.Proofs.YtpdhdjlhicceoaaGreatDoor
open Go.RowKit
attribute [local go_sem] Oper.semAt_some
section
variable {P : Program} {ops : Array Oper} {C : World → Prop} {X : List (Nat × Nat)} {a0 : Act} {n nn : Nat} {Q : Exit → Act → World → Prop}
/-- Each of the first n operations stands ahead of each later one. -/
def allFirstB (ops : Array Oper) (n : Nat) : Bool := (List.range n).all fun i => (List.range ops.size).all fun t => decide (t < n) || ancB ops 8 t i
end
end Go.Proofs.YtpdhdjlhicceoaaGreatDoor
namespace Go.Proofs.YtpdhdjlhicceoaaGreatDoor
open Go.RowKit Go.Shelf
attribute [local go_sem] Oper.semAt_some
end Go.Proofs.YtpdhdjlhicceoaaGreatDoor
namespace Go.Proofs.YtpdhdjlhicceoaaGreatDoor
open Go.RowKit Go.Shelf
attribute [local go_sem] Oper.semAt_some
/-- What a piece is. -/
def PcOk (x : List Int × Int) : Prop := x.1 ≠ [] ∧ x.1.length ≤ 256 ∧ 0 ≤ x.2 ∧ x.2 ≤ 1099511627776 ∧ ∀ v, v ∈ x.1 → -2305844108725321728 ≤ v ∧ v ≤ 2305844108725321728
def WholeOut (s : SerT) (a b : Int) (e : Ending) : Prop := e = .returned (.tuple #[.agg (shA ((pcsL s a b).flatMap pairs)), .int .i64 (if (pcsL s a b).flatMap pairs = [] then 9 else 0)])
end Go.Proofs.YtpdhdjlhicceoaaGreatDoor
namespace Go.Proofs.YtpdhdjlhicceoaaGreatDoor
open Go.RowKit
end Go.Proofs.YtpdhdjlhicceoaaGreatDoor
namespace Go.Proofs.YtpdhdjlhicceoaaGreatDoor
open Go.RowKit
end Go.Proofs.YtpdhdjlhicceoaaGreatDoor
namespace Go.Proofs.YtpdhdjlhicceoaaGreatDoor
open Go.RowKit
end Go.Proofs.YtpdhdjlhicceoaaGreatDoor
namespace Go.Proofs.YtpdhdjlhicceoaaGreatDoor
open Go.RowKit
/-- What is told is in its bounds. -/
def TellOk (l : List (Int × Int)) : Prop := (∀ x, x ∈ l → -2305844108725321728 ≤ x.1 ∧ x.1 ≤ 2305844108725321728 ∧ 0 ≤ x.2 ∧ x.2 ≤ 1099511627776) ∧ l.length ≤ 100000
def sumV (l : List (Int × Int)) : Array Value := if inI (lsum (loL l)) && inI (lsum (hiL l)) then #[.int .i64 (lsum (loL l)), .int .i64 (lsum (hiL l))] else #[.int .i64 0, .int .i64 0]
def sumE (l : List (Int × Int)) (e : Int) : Int := if e = 0 then (if inI (lsum (loL l)) && inI (lsum (hiL l)) then 0 else 5) else e
def meanV (l : List (Int × Int)) : Array Value := #[.int .i64 l.length, .int .i64 (lsum (loL l) / l.length), .int .i64 (lsum (loL l) % l.length), .int .i64 (lsum (hiL l) / l.length), .int .i64 (lsum (hiL l) % l.length)]
def minA (l : List (Int × Int)) : Array Value := #[.int .i64 (minL (loL l)), .int .i64 (minL (hiL l))]
def maxA (l : List (Int × Int)) : Array Value := #[.int .i64 (maxL (loL l)), .int .i64 (maxL (hiL l))]
end Go.Proofs.YtpdhdjlhicceoaaGreatDoor
namespace Go.Proofs.YtpdhdjlhicceoaaGreatDoor
open Go.RowKit
def IntsF (w : World) (p : Option Addr) (l : List Int) : Prop := IntsIn w p l
theorem IntsF.rex {L : List Nat} {w w' : World} {p : Option Addr} {l : List Int} (h : IntsF w p l) (hr : Rex L w w') (hL : L = []) : IntsF w' p l := by subst hL; exact IntsIn.below h hr.below
def enRel (w : World) (p : Option Addr) (l : List Int) (cap : Nat) (x0 : Int) (a' : Act) (W : World) : Prop :=
  Below w.heap.size w W ∧ ∃ i : Nat, (∃ u : Nat → Value, a' = { tmps := #[.slice p l.length cap, u 1, u 2, u 3, .int .i64 (minL (x0 :: l.take i)), .int .i64 (maxL (x0 :: l.take i)), .int .i64 (i : Int), u 7, u 8, u 9, u 10, u 11, u 12, u 13, u 14, u 15, u 16, u 17, u 18, u 19, u 20, u 21, u 22, u 23, u 24, u 25, u 26, u 27, u 28, u 29, u 30, u 31, u 32, u 33, u 34, u 35, u 36, u 37, u 38, u 39, u 40], defers := [] }) ∧ i ≤ l.length
end Go.Proofs.YtpdhdjlhicceoaaGreatDoor
namespace Go.Proofs.YtpdhdjlhicceoaaGreatDoor
open Go.RowKit
def toRel (w : World) (gs : Nat) (p : Option Addr) (cap : Nat) (l : List Int) (a' : Act) (W : World) : Prop :=
  Below w.heap.size w W ∧ ∃ (i : Nat) (S : Int) (ps : Option Addr) (ls cs : Nat), (∃ u : Nat → Value, a' = { tmps := #[.slice p l.length cap, u 1, .pointer (some ⟨w.heap.size, 0, none⟩), .pointer (some ⟨gs, 0, none⟩), .int .i64 (i : Int), u 5, u 6, u 7, u 8, u 9, u 10, u 11, u 12, u 13, u 14, u 15, u 16, u 17, u 18, u 19], defers := [] }) ∧ S = lsum (l.take i) ∧ i ≤ l.length ∧ Blk W w.heap.size #[.bool false, .slice none 0 0] 206 ∧ Blk W gs #[.bool (decide (S < 0)), .slice ps ls cs] 206 ∧ Bits W (.slice ps ls cs) S.natAbs
end Go.Proofs.YtpdhdjlhicceoaaGreatDoor
namespace Go.Proofs.YtpdhdjlhicceoaaGreatDoor
open Go.RowKit
section
variable {P : Program} {w : World}
end
end Go.Proofs.YtpdhdjlhicceoaaGreatDoor
namespace Go.Proofs.YtpdhdjlhicceoaaGreatDoor
open Go.RowKit
def OneV (B : Nat) (d : Int) : Spec := fun v w => ∃ g, v = .slice (some ⟨g, 0, none⟩) 1 1 ∧ B ≤ g ∧ Blk w g #[.int .i64 d] 2
theorem OneV.closed (B : Nat) (d : Int) : Closed [] (OneV B d) := fun _ _ _ hr ⟨g, e1, h1, h⟩ => ⟨g, e1, h1, h.rex hr (by simp)⟩
def Apart2 (v1 v2 : Value) : Prop := ∀ g, v1.ownBlock = some g → v2.ownBlock = some g → False
theorem Apart2.symm {v1 v2 : Value} (h : Apart2 v1 v2) : Apart2 v2 v1 := fun g a b => h g b a
def loB (x : RunT) : Int := x.s - x.c
def hiB (x : RunT) : Int := x.s + x.c
def boRel (w : World) (p : Option Addr) (cap : Nat) (l : List RunT) (a' : Act) (W : World) : Prop :=
  Below w.heap.size w W ∧ ∃ (i : Nat) (v1 v2 : Value), (∃ u : Nat → Value, a' = { tmps := #[.slice p l.length cap, u 1, .slice none 0 0, .slice none 0 0, v1, v2, .int .i64 (i : Int), u 7, u 8, u 9, u 10, u 11, u 12, u 13, u 14, u 15, u 16, u 17, u 18, u 19, u 20, u 21, u 22, u 23, u 24, u 25, u 26, u 27, u 28, u 29, u 30, u 31, u 32, u 33, u 34, u 35, u 36, u 37, u 38, u 39, u 40, u 41, u 42], defers := [] }) ∧ i ≤ l.length ∧
    OwnR W w.heap.size 2 1 v1 i (((l.take i).map loB).map (Value.int .i64)) ∧ OwnR W w.heap.size 2 1 v2 i (((l.take i).map hiB).map (Value.int .i64)) ∧ Apart2 v1 v2
end Go.Proofs.YtpdhdjlhicceoaaGreatDoor
namespace Go.Proofs.YtpdhdjlhicceoaaGreatDoor
open Go.RowKit
theorem SerIn.rex {L : List Nat} {w w' : World} {s : SerT} {ps po : Option Addr} (h : SerIn w s ps po) (hr : Rex L w w') (hL : L = []) : SerIn w' s ps po := by subst hL; exact h.below hr.below
theorem SerIn.drew {w : World} {s : SerT} {ps po : Option Addr} (h : SerIn w s ps po) : SerIn w.drew s ps po :=
  ⟨⟨fun i r hr => by
    obtain ⟨b, o, p', q', cap, vc, e, h1, h2, h3⟩ := h.segs.at' i r hr
    exact ⟨b, o, p', q', cap, vc, e, h1, ⟨⟨h2.runs.at'⟩, ⟨h2.raw.at'⟩, h2.fewR, h2.fewV⟩, h3⟩⟩, h.opn.drew, h.fewS, h.fewO⟩
def bkT (x : Int × Int × Int) : RunT := ⟨x.1, x.2.1, x.2.2⟩
end Go.Proofs.YtpdhdjlhicceoaaGreatDoor
