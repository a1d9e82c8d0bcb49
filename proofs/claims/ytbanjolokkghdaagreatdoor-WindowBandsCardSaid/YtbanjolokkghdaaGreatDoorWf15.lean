/- Parts of the proof that follows: The references' numbers: times. | The references' numbers: parts. | The references' numbers: made. | The references' numbers: word. | The references' numbers: Num, Int. | The references' numbers: Mul. -/
import Derived.Test.YtbanjolokkghdaaGreatDoorWf14
set_option linter.unusedSimpArgs false
set_option linter.unusedVariables false
namespace Go.Proofs.YtbanjolokkghdaaGreatDoor
open Go.RowKit
def timRel (w : World) (p q : Option Addr) (a b : List Int) (ca cb : Nat) (a' : Act) (W : World) : Prop :=
  Below w.heap.size w W ∧ ∃ (k : Nat) (v : Value), (∃ u : Nat → Value, a' = { tmps := #[.slice p a.length ca, .slice q b.length cb, u 2, u 3, u 4, v, .int .i64 ((k : Int) - 1), u 7, u 8, u 9, u 10, u 11, u 12, u 13, u 14, u 15, u 16, u 17, u 18, u 19, u 20, u 21, u 22, u 23, u 24, u 25, u 26], defers := [] }) ∧ k ≤ b.length ∧ Bits W v (valD a * valD (b.drop k))
end Go.Proofs.YtbanjolokkghdaaGreatDoor
namespace Go.Proofs.YtbanjolokkghdaaGreatDoor
open Go.RowKit
def parRel (w : World) (p : Option Addr) (a : List Int) (n ca : Nat) (vb : Value) (a' : Act) (W : World) : Prop :=
  Below w.heap.size w W ∧ ∃ (k : Nat) (v : Value) (pq : Option Addr) (lq : List Int) (cq r : Nat), (∃ u : Nat → Value, a' = { tmps := #[.slice p a.length ca, vb, u 2, u 3, u 4, u 5, .slice pq lq.length cq, v, .int .i64 ((k : Int) - 1), u 9, u 10, u 11, u 12, u 13, u 14, u 15, u 16, u 17, u 18, u 19, u 20, u 21, u 22, u 23, u 24, u 25, u 26, u 27, u 28, u 29, u 30, u 31, u 32, u 33, u 34, u 35, u 36, u 37, u 38], defers := [] }) ∧ k ≤ a.length ∧
    Bits W v r ∧ r < n ∧ DigsIn W pq lq ∧ Dig lq ∧ (pq = none → lq = [] ∧ cq = 0) ∧ (lq.length ≤ cq ∧ cq ≤ 9223372036854775807) ∧ lq.length + k = a.length ∧ valD (a.drop k) = valD lq * n + r
end Go.Proofs.YtbanjolokkghdaaGreatDoor
namespace Go.Proofs.YtbanjolokkghdaaGreatDoor
open Go.RowKit
end Go.Proofs.YtbanjolokkghdaaGreatDoor
namespace Go.Proofs.YtbanjolokkghdaaGreatDoor
open Go.RowKit
def wordRel (w : World) (p : Option Addr) (l : List Int) (cap f : Nat) (a' : Act) (W : World) : Prop :=
  Below w.heap.size w W ∧ ∃ k acc : Nat, (∃ u : Nat → Value, a' = { tmps := #[.slice p l.length cap, .int .i64 (f : Int), u 2, u 3, u 4, .int .u64 (acc : Int), .int .i64 (((f + k : Nat) : Int) - 1), u 7, u 8, u 9, u 10, u 11, u 12, u 13, u 14, u 15, u 16, u 17, u 18, u 19, u 20, u 21, u 22, u 23, u 24, u 25, u 26, u 27, u 28, u 29], defers := [] }) ∧ k ≤ 64 ∧ acc = valD (l.drop (f + k)) % 2 ^ (64 - k)
end Go.Proofs.YtbanjolokkghdaaGreatDoor
namespace Go.Proofs.YtbanjolokkghdaaGreatDoor
open Go.RowKit
/-- The value v is the reference's number z. -/
def NumIs (w : World) (v : Value) (z : Int) : Prop := ∃ sz, v = .agg #[.bool (decide (z < 0)), sz] ∧ Bits w sz z.natAbs
theorem NumIs.below {w w' : World} {v : Value} {z : Int} (h : NumIs w v z) (hb : Below w.heap.size w w') : NumIs w' v z := by
  obtain ⟨sz, h1, h2⟩ := h
  exact ⟨sz, h1, h2.below hb⟩
theorem NumIs.rex {L : List Nat} {w w' : World} {v : Value} {z : Int} (h : NumIs w v z) (hr : Rex L w w') (hL : L = []) : NumIs w' v z := by subst hL; exact h.below hr.below
theorem NumIs.drew {w : World} {v : Value} {z : Int} (h : NumIs w v z) : NumIs w.drew v z := by
  obtain ⟨sz, h1, h2⟩ := h
  exact ⟨sz, h1, h2.drew⟩
theorem ty_setCell {w : World} {a : Addr} {cur : Array Value} {T : TypeId} {fz : Nat × Nat} (h : w.heap[a.block]? = some (.cells cur T fz)) (v : Value) : ∃ cur' fz', (w.setCell a v).heap[a.block]? = some (.cells cur' T fz') := by
  simp only [World.setCell, Array.getElem?_modify]
  rw [if_pos trivial, h]
  exact ⟨_, _, rfl⟩
theorem DigsIn.set {w : World} {p : Option Addr} {l : List Int} (h : DigsIn w p l) {a : Addr} {u : Value} (ha : w.cell? a = some u) (hu : ∀ x, u ≠ .int .i64 x) (v : Value) : DigsIn (w.setCell a v) p l := ⟨fun i x hx => by
  obtain ⟨b, o, e, hc⟩ := h.at' i x hx
  refine ⟨b, o, e, ?_⟩
  rw [World.cell?_setCell_other]
  · exact hc
  · rintro rfl
    rw [hc] at ha
    cases ha
    exact hu x rfl, fun b e => by
  obtain ⟨cur, fz, hh⟩ := h.typ b e
  by_cases hb : b.block = a.block
  · rw [hb] at hh ⊢
    exact ty_setCell hh v
  · exact ⟨cur, fz, (heap_setCell_other w a b.block v hb).trans hh⟩⟩
theorem Bits.set {w : World} {v : Value} {n : Nat} (h : Bits w v n) {a : Addr} {u : Value} (ha : w.cell? a = some u) (hu : ∀ x, u ≠ .int .i64 x) (v1 : Value) : Bits (w.setCell a v1) v n := by
  obtain ⟨p, l, cap, h1, h2, h3, h4, h5, h6⟩ := h
  exact ⟨p, l, cap, h1, h2, h3, h4, h5.set ha hu v1, h6⟩
theorem Bits.store {w : World} {v : Value} {n g c d : Nat} {b : Bool} {p : Option Addr} {T : TypeId} (h : Bits w v n) (hb : Blk w g #[.bool b, .slice p c d] T) (v0 v1 : Value) :
    Bits ((w.setCell ⟨g, 0, none⟩ v0).setCell ⟨g, 1, none⟩ v1) v n := by
  refine (h.set (hb.cell 0) (by intro x e; cases e) v0).set ((hb.set 0 v0).cell 1) (u := .slice p c d) ?_ v1
  intro x e
  cases e
end Go.Proofs.YtbanjolokkghdaaGreatDoor
namespace Go.Proofs.YtbanjolokkghdaaGreatDoor
open Go.RowKit
/-- A size, as the spec of a drawn step. -/
def BS (n : Nat) : Spec := fun v w => Bits w v n
theorem BS.closed (n : Nat) : Closed [] (BS n) := fun _ _ _ hr h => Bits.rex h hr rfl
theorem BS.below {n : Nat} {v : Value} {w w' : World} (h : BS n v w) (hr : Below w.heap.size w w') : BS n v w' := Bits.below h hr
def NS (b : Bool) (n : Nat) : Spec := fun v w => ∃ sz, v = .agg #[.bool (b && decide (0 < n)), sz] ∧ BS n sz w
theorem NS.closed (b : Bool) (n : Nat) : Closed [] (NS b n) := fun _ _ _ hr ⟨sz, e, h⟩ => ⟨sz, e, Bits.rex h hr rfl⟩
end Go.Proofs.YtbanjolokkghdaaGreatDoor
