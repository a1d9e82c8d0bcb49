/- Parts of the proof that follows: Layer seg: Of, told. | Layer seg: Of, told. | The laws of chapter 11, plainly: which places some times have. No condition. | Ranges over functions: all times of runs, one behind the other. No condition. | Ranges over functions: what comes is collected; the times of runs. No condition. | All times of runs, told. | All points of a segment, one behind the other. No condition. -/
import Derived.RangeFuncNested
import Derived.RangeFuncBound
import Derived.RangeFuncCalls
import Derived.RangeFuncLeaves
import Derived.RangeFuncBox
import Derived.Maps.AppendAt
import Derived.Shelf.Abstract
import Derived.Shelf.RegionOpen
import Derived.WalkKit
import Derived.OwnWalkIn
import Derived.TacticsInMore
import Derived.LoopNIn
import Derived.LoopIn
import Derived.Test.YtbanjolokkghdaaGreatDoorWz11
set_option linter.unusedSimpArgs false
set_option linter.unusedVariables false
namespace Go.Proofs.YtbanjolokkghdaaGreatDoor
open Go.RowKit
/-- What a function that gives a segment of its own says: where the new slices lie. -/
theorem RunsIn.new {w w' : World} {p : Option Addr} {l : List RunT} (h : RunsIn w p l) (o i : Nat) (v : Value) (hne : ∀ a, p = some a → a.block ≠ o) : RunsIn (w.setCell ⟨o, i, none⟩ v) p l := h.set' hne
end Go.Proofs.YtbanjolokkghdaaGreatDoor
namespace Go.Proofs.YtbanjolokkghdaaGreatDoor
open Go.RowKit
section
variable {P : Program} {ops : Array Oper} {C : World → Prop} {X : List (Nat × Nat)} {a0 : Act} {Fin : List (Option Tmp × Spec) → Prop} {i : Nat} {o : Oper} {rest : List Oper} {acc : List (Option Tmp × Spec)}
/-- An operation whose value is not named. -/
theorem nd_spec (Φ : Spec) (hcl : Closed (others X i) Φ) (hg : o.guard = none) (hal : isAlloc o = false)
    (h : ∀ (a : Act) (w : World), C w → (∀ s ∈ o.looksAt ops, envOf a0 acc s (a.tmps.getD s undef) w) → ∃ v, (execOp a.eval o).run P w = .ok (.value v) w ∧ Φ v w)
    (hr : ndWalk P ops C X a0 Fin (i + 1) rest ((o.dst, Φ) :: acc)) : ndWalk P ops C X a0 Fin i (o :: rest) acc :=
  ⟨Φ, hcl, fun a w hC hE => ⟨fun _ => by
    obtain ⟨v, h1, h2⟩ := h a w hC hE
    rw [h1]; exact ⟨Rex.refl _ _, h2, fun e => by rw [hal] at e; cases e⟩, fun e => by rw [wanted_none hg] at e; cases e⟩, hr⟩
end
def SV (K A R n d E : Int) (B : Nat) (l : List RunT) : Spec := fun v w => ∃ p1 cap1 q1 vc1, v = .agg #[.int .i64 K, .slice p1 l.length cap1, .int .i64 A, .int .i64 R, .int .i64 n, .int .i64 d, .slice q1 0 vc1, .int .i64 E] ∧ RunsIn w p1 l ∧ l.length ≤ cap1 ∧ ∀ a, p1 = some a → B ≤ a.block
def TV (K A R n d E : Int) (B : Nat) (l : List RunT) : Spec := fun v w => ∃ p1 cap1 q1 vc1, v = .tuple #[.agg #[.int .i64 K, .slice p1 l.length cap1, .int .i64 A, .int .i64 R, .int .i64 n, .int .i64 d, .slice q1 0 vc1, .int .i64 E], .int .i64 0] ∧ RunsIn w p1 l ∧ l.length ≤ cap1 ∧ ∀ a, p1 = some a → B ≤ a.block
theorem SV.closed (K A R n d E : Int) (B : Nat) (l : List RunT) : Closed [] (SV K A R n d E B l) := fun _ _ _ hr ⟨p', c', q', v', e, h, k⟩ => ⟨p', c', q', v', e, h.rex hr rfl, k⟩
theorem TV.closed (K A R n d E : Int) (B : Nat) (l : List RunT) : Closed [] (TV K A R n d E B l) := fun _ _ _ hr ⟨p', c', q', v', e, h, k⟩ => ⟨p', c', q', v', e, h.rex hr rfl, k⟩
end Go.Proofs.YtbanjolokkghdaaGreatDoor
namespace Go.Proofs.YtbanjolokkghdaaGreatDoor
open Go.RowKit

/-- What the numbers of some places come to. -/
def outOf (s : SegT) (i j : Int) : Array Value × Int := if i < j then (partA (slice (vals s) i.toNat j.toNat), 0) else (#[.int .i64 0, .int .i64 0, .int .i64 0, .int .i64 0, .int .u64 0], 9)
end Go.Proofs.YtbanjolokkghdaaGreatDoor
namespace Go.Proofs.YtbanjolokkghdaaGreatDoor
open Go.RowKit Go.Shelf
attribute [local go_sem] Oper.semAt_some
theorem wpIn_scope {P : Program} {n : Nat} {c : Code} {Q : Exit → Act → World → Prop} {a : Act} {w : World} (h : c.wpIn Fence.wide n P (Exit.noGoto Q) a w) : (Code.scope c).wpIn Fence.wide n P Q a w := wpIn_wide.2 (wp_scope_straight (wpIn_wide.1 h))
theorem wpIn_lab {F : Fence} {P : Program} {n l : Nat} {c : Code} {Q : Exit → Act → World → Prop} {a : Act} {w : World} (h : c.wpIn F n P Q a w) : ((Code.label l).seq c).wpIn F n P Q a w := wpIn_seq (wpIn_label h)
/-- Every block of a type stays as it is. -/
def KeepsT (t : TypeId) (A B : World) : Prop := ∀ (b : Nat) (cs : Array Value) (f : Nat × Nat), A.heap[b]? = some (.cells cs t f) → B.heap[b]? = some (.cells cs t f)
theorem KeepsT.refl (t : TypeId) (A : World) : KeepsT t A A := fun _ _ _ h => h
theorem KeepsT.trans {t : TypeId} {A B C : World} (h : KeepsT t A B) (k : KeepsT t B C) : KeepsT t A C := fun b cs f hb => k b cs f (h b cs f hb)
end Go.Proofs.YtbanjolokkghdaaGreatDoor
namespace Go.Proofs.YtbanjolokkghdaaGreatDoor
open Go.RowKit Go.Shelf
attribute [local go_sem] Oper.semAt_some
end Go.Proofs.YtbanjolokkghdaaGreatDoor
namespace Go.Proofs.YtbanjolokkghdaaGreatDoor
open Go.RowKit Go.Shelf
theorem keepsT_putObj {T : TypeId} {W : World} {l : Nat} {o : Obj} (o' : Obj) (hl : W.heap[l]? = some o) (ho : o.isCells = false) : KeepsT T W (W.putObj l o') := by
  intro b cs f hb
  rw [World.putObj_heap_other]
  · exact hb
  · rintro rfl
    rw [hb] at hl
    cases hl
    cases ho
/-- All times, in an array of its own. -/
def TimesOut (w : World) (l : List RunT) (e : Ending) (w' : World) : Prop := ∃ v, e = .returned (.tuple #[v, .int .i64 0]) ∧ w'.ownsRow w.heap.size 2 1 v (timesL l).length ((timesL l).map (Value.int .i64)) ∧ Below w.heap.size w w'
end Go.Proofs.YtbanjolokkghdaaGreatDoor
namespace Go.Proofs.YtbanjolokkghdaaGreatDoor
open Go.RowKit Go.Shelf
attribute [local go_sem] Oper.semAt_some
/-- The points of a segment. -/
def ptsL (s : SegT) : List (Int × Int) := (timesL s.runs).zip (vals s)
/-- What a round must keep for the points' sake. -/
structure KeepsPts (s : SegT) (p q : Option Addr) (cap vc Bs n₀ : Nat) (A B : World) : Prop where
  size : A.heap.size ≤ B.heap.size
  seg : SegIn A s p q → SegIn B s p q
  box : Blk A Bs (segA s p q cap vc) 113 → Blk B Bs (segA s p q cap vc) 113
  nums : ∀ (b : Nat) (cs : Array Value), n₀ ≤ b → Blk A b cs 2 → Blk B b cs 2
end Go.Proofs.YtbanjolokkghdaaGreatDoor
