/- Parts of the proof that follows: Layer wide: Div, Scale. Every number of 128 bits; the divisor from 1 on. | Layer wide: Div and Scale, told of numbers of 128 bits. | Layer line: back, slopeIs, divisor, slope. | Layer line: lowest, slope, is. -/
import Derived.WalkMore
import Derived.ScopeJumps
import Derived.Test.YtbanjolokkghdaaGreatDoorWf3
set_option linter.unusedSimpArgs false
set_option linter.unusedVariables false
namespace Go.Proofs.YtbanjolokkghdaaGreatDoor
open Go.RowKit

/-- What the long division of the size gives. -/
structure DivOut (a m q1 q0 rest : Int) : Prop where
  q1b : 0 ≤ q1 ∧ q1 < 18446744073709551616
  q0b : 0 ≤ q0 ∧ q0 < 18446744073709551616
  rb : 0 ≤ rest ∧ rest < m
  eq : (q1 * 18446744073709551616 + q0) * m + rest = (if 0 ≤ a then a else -a)

theorem div_floor {a m q r : Int} (hm : 1 ≤ m) (h : m * q + r = a) (h0 : 0 ≤ r) (h1 : r < m) : q = a / m ∧ r = a % m := by
  subst h
  refine ⟨?_, ?_⟩
  · rw [Int.add_comm, Int.add_mul_ediv_left _ _ (by omega), Int.ediv_eq_zero_of_lt h0 h1]; omega
  · rw [Int.add_comm, Int.add_mul_emod_self_left, Int.emod_eq_of_lt h0 h1]

theorem DivOut.pos {a m q1 q0 rest : Int} (D : DivOut a m q1 q0 rest) (ha : W128 a) (hm : 1 ≤ m) (h : 0 ≤ a) : wrapW (sgn false (q1 * 18446744073709551616 + q0)) = a / m ∧ rest = a % m := by
  have e := D.eq
  rw [if_pos h, Int.mul_comm] at e
  obtain ⟨f1, f2⟩ := div_floor hm e D.rb.1 D.rb.2
  refine ⟨?_, f2⟩
  show wrapW (q1 * 18446744073709551616 + q0) = a / m
  have g1 : a / m ≤ a := Int.ediv_le_self _ h
  have g2 : 0 ≤ a / m := Int.ediv_nonneg h (by omega)
  rw [f1]
  exact wrapW_in ⟨by omega, by have := ha.2; omega⟩
end Go.Proofs.YtbanjolokkghdaaGreatDoor
namespace Go.Proofs.YtbanjolokkghdaaGreatDoor
open Go.RowKit

theorem I64.w {n : Int} (h : I64 n) : W128 n := W128_small h

end Go.Proofs.YtbanjolokkghdaaGreatDoor
namespace Go.Proofs.YtbanjolokkghdaaGreatDoor
open Go.RowKit

def isBack (v : Int) : Bool := decide (-2305844108725321728 ≤ v) && decide (v ≤ 2305844108725321728)
def isSlope (n d : Int) : Bool := decide (1 ≤ d) && decide (d ≤ 281474976710656) && decide (-4611688217450643456 ≤ n) && decide (n ≤ 4611688217450643456)

def intAt : Value → Int | .int _ q => q | _ => 0

structure GcdAt (a b m n : Int) : Prop where
  m0 : 0 ≤ m
  m1 : m ≤ 9223372036854775807
  n0 : 0 ≤ n
  n1 : n ≤ 9223372036854775807
  eq : Nat.gcd m.natAbs n.natAbs = Nat.gcd a.natAbs b.natAbs

theorem GcdAt.pos {a b : Int} (ha : -9223372036854775807 ≤ a ∧ a ≤ 9223372036854775807) (hb : 0 ≤ b ∧ b ≤ 9223372036854775807) (h : 0 ≤ a) : GcdAt a b a b := ⟨h, ha.2, hb.1, hb.2, rfl⟩
theorem GcdAt.done {a b n : Int} (h : GcdAt a b 0 n) : n = (Nat.gcd a.natAbs b.natAbs : Int) := by
  rw [← h.eq]; have := h.n0; simp; omega
theorem GcdAt.step {a b m n : Int} (h : GcdAt a b m n) (hm : ¬ m = 0) : GcdAt a b (n.tmod m) m ∧ (n.tmod m).toNat < m.toNat := by
  have h0 := h.m0; have h1 := h.n0
  have e : n.tmod m = n % m := Int.tmod_eq_emod_of_nonneg h1
  have l1 := Int.emod_nonneg n hm
  have l2 := Int.emod_lt_of_pos n (show 0 < m by omega)
  have := h.m1
  rw [e]
  refine ⟨⟨l1, by omega, h0, h.m1, ?_⟩, by omega⟩
  rw [← h.eq]
  obtain ⟨m, rfl⟩ := Int.eq_ofNat_of_zero_le h0
  obtain ⟨n, rfl⟩ := Int.eq_ofNat_of_zero_le h1
  exact (Nat.gcd_rec m n).symm

end Go.Proofs.YtbanjolokkghdaaGreatDoor
namespace Go.Proofs.YtbanjolokkghdaaGreatDoor
open Go.RowKit

/-- The greatest common divisor, as a number. -/
def gcdI (n d : Int) : Int := (Nat.gcd n.natAbs d.natAbs : Int)
def isLine (A R n d : Int) : Bool := isBack A && isSlope n d && decide (gcdI n d = 1) && decide (0 ≤ R) && decide (R < d)
end Go.Proofs.YtbanjolokkghdaaGreatDoor
