/- Parts of the proof that follows: The document's lines: Back, Slope, Common, Lowest, Right. | The document's lines: Times; its numbers: Div. | The document's lines: At. -/
import Derived.Test.YtbanjolokkghdaaGreatDoorWf16
set_option linter.unusedSimpArgs false
set_option linter.unusedVariables false
namespace Go.Proofs.YtbanjolokkghdaaGreatDoor
open Go.RowKit
structure Gcd2 (a b m n : Int) : Prop where
  m0 : 0 ≤ m
  m1 : m ≤ 9223372036854775807
  n0 : 0 ≤ n
  n1 : n ≤ 9223372036854775807
  eq : Nat.gcd m.natAbs n.natAbs = Nat.gcd a.natAbs b.natAbs
theorem Gcd2.left {a b m n : Int} (h : Gcd2 a b m n) (hn : 0 < n) : Gcd2 a b (m % n) n ∧ m % n < n := by
  have l1 := Int.emod_nonneg m (show n ≠ 0 by omega)
  have l2 := Int.emod_lt_of_pos m hn
  have := h.n1
  refine ⟨⟨l1, by omega, h.n0, h.n1, ?_⟩, l2⟩
  rw [← h.eq]
  obtain ⟨m, rfl⟩ := Int.eq_ofNat_of_zero_le h.m0
  obtain ⟨n, rfl⟩ := Int.eq_ofNat_of_zero_le h.n0
  show Nat.gcd (m % n) n = Nat.gcd m n
  rw [Nat.gcd_comm m n, ← Nat.gcd_rec]
theorem Gcd2.right {a b m n : Int} (h : Gcd2 a b m n) (hm : 0 < m) : Gcd2 a b m (n % m) ∧ n % m < m := by
  have l1 := Int.emod_nonneg n (show m ≠ 0 by omega)
  have l2 := Int.emod_lt_of_pos n hm
  have := h.m1
  refine ⟨⟨h.m0, h.m1, l1, by omega, ?_⟩, l2⟩
  rw [← h.eq]
  obtain ⟨m, rfl⟩ := Int.eq_ofNat_of_zero_le h.m0
  obtain ⟨n, rfl⟩ := Int.eq_ofNat_of_zero_le h.n0
  show Nat.gcd m (n % m) = Nat.gcd m n
  rw [Nat.gcd_comm m (n % m), Nat.gcd_rec m n]
theorem Gcd2.done {a b m n : Int} (h : Gcd2 a b m n) (hz : m = 0 ∨ n = 0) : m + n = (Nat.gcd a.natAbs b.natAbs : Int) := by
  rw [← h.eq]
  have := h.m0; have := h.n0
  rcases hz with rfl | rfl <;> simp <;> omega
def comRel (a b : Int) (w : World) (a' : Act) (W : World) : Prop := W = w ∧ ∃ (m n : Int), (∃ u : Nat → Value, a' = { tmps := #[.int .i64 m, .int .i64 n, u 2, u 3, .int .i64 0, u 5, u 6, u 7, u 8, u 9, u 10, u 11, u 12, u 13, u 14, u 15, u 16, u 17, u 18, u 19, u 20, u 21, u 22, u 23, u 24, u 25, u 26], defers := [] }) ∧ Gcd2 a b m n
end Go.Proofs.YtbanjolokkghdaaGreatDoor
namespace Go.Proofs.YtbanjolokkghdaaGreatDoor
open Go.RowKit
def NI (z : Int) : Spec := fun v w => NumIs w v z
theorem NI.closed (z : Int) : Closed [] (NI z) := fun _ _ _ hr h => NumIs.rex h hr rfl
end Go.Proofs.YtbanjolokkghdaaGreatDoor
namespace Go.Proofs.YtbanjolokkghdaaGreatDoor
open Go.RowKit
def DV (x y : Int) : Spec := fun v w => ∃ v1 v2, v = .tuple #[v1, v2] ∧ NumIs w v1 (x / y) ∧ NumIs w v2 (x % y)
theorem DV.closed (x y : Int) : Closed [] (DV x y) := fun _ _ _ hr ⟨v1, v2, e, h1, h2⟩ => ⟨v1, v2, e, h1.rex hr rfl, h2.rex hr rfl⟩
end Go.Proofs.YtbanjolokkghdaaGreatDoor
