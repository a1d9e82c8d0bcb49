/- Parts of the proof that follows: Layer wide: Mul, Int. Every number. | Layer wide: Int. Every number. | math/bits.Len64, LeadingZeros64. Every word. | math/bits.Div64, its long division by halves. Every word, the divisor above the upper word. | math/bits.Div64. Every word, the divisor above the upper word. | Layer wide: size, parts, signed. Every number. -/
import Derived.Laws.MathBits
import Derived.Lib.Hide
import Derived.Deep.DeepCutAuto
import Derived.Deep.CutBlock
import Derived.BigQuiet
import Derived.Test.YtbanjolokkghdaaGreatDoorWf2
set_option linter.unusedSimpArgs false
set_option linter.unusedVariables false
namespace Go.Proofs.YtbanjolokkghdaaGreatDoor
open Go.RowKit

def mulHi (x y : Int) : Int := x * y / 18446744073709551616
def mulLo (x y : Int) : Int := x * y % 18446744073709551616
def I64 (a : Int) : Prop := -9223372036854775808 ≤ a ∧ a ≤ 9223372036854775807
def U64 (a : Int) : Prop := 0 ≤ a ∧ a < 18446744073709551616

end Go.Proofs.YtbanjolokkghdaaGreatDoor
namespace Go.Proofs.YtbanjolokkghdaaGreatDoor
open Go.RowKit
instance (n : Int) : Decidable (I64 n) := by unfold I64; infer_instance
def inI (n : Int) : Bool := decide (I64 n)
end Go.Proofs.YtbanjolokkghdaaGreatDoor
namespace Go.Proofs.YtbanjolokkghdaaGreatDoor
open Go.RowKit

def len64 (x : Int) : Int := (Go.bitLen x.toNat : Int)
end Go.Proofs.YtbanjolokkghdaaGreatDoor
namespace Go.Proofs.YtbanjolokkghdaaGreatDoor
open Go.RowKit

/-! ### One step of the division: a guess that is lowered -/
/-- The guess q, with what it leaves: not below the true quotient. -/
structure Guess (Y p z U t q r : Int) : Prop where
  eq : q * p + r = U
  q0 : 0 ≤ q
  qt : q ≤ 4294967297
  r0 : 0 ≤ r
  rt : r < 4294967296
  ge : (U * 4294967296 + t) / Y ≤ q

structure Divs (Y p z U t : Int) : Prop where
  y : Y = p * 4294967296 + z
  p1 : 2147483648 ≤ p
  p2 : p < 4294967296
  z1 : 0 ≤ z
  z2 : z < 4294967296
  u1 : 0 ≤ U
  u2 : U < Y
  t1 : 0 ≤ t
  t2 : t < 4294967296

theorem Guess.done {Y p z U t q r : Int} (D : Divs Y p z U t) (G : Guess Y p z U t q r) (h : q * z ≤ 4294967296 * r + t) : q = (U * 4294967296 + t) / Y := by
  have : q ≤ (U * 4294967296 + t) / Y := (Int.le_ediv_iff_mul_le (by have := D.u1; have := D.u2; omega)).2 (by
    rw [D.y, Int.mul_add, ← Int.mul_assoc]
    have := G.eq
    omega)
  have := G.ge
  omega
/-- What is left of a step, in words that wrap. -/
theorem Divs.rest {Y p z U t : Int} (D : Divs Y p z U t) (hY : Y < 18446744073709551616) : IntKind.u64.wrap (IntKind.u64.wrap (IntKind.u64.wrap (U * 4294967296) + t) - IntKind.u64.wrap ((U * 4294967296 + t) / Y * Y)) = (U * 4294967296 + t) % Y := by
  have hm := Int.emod_add_mul_ediv (U * 4294967296 + t) Y
  have hl := Int.emod_lt_of_pos (U * 4294967296 + t) (show 0 < Y by have := D.u1; have := D.u2; omega)
  have hn := Int.emod_nonneg (U * 4294967296 + t) (show Y ≠ 0 by have := D.u1; have := D.u2; omega)
  have hc : Y * ((U * 4294967296 + t) / Y) = (U * 4294967296 + t) / Y * Y := Int.mul_comm _ _
  simp only [u64_eq]
  omega
theorem Divs.next {Y p z U t t0 : Int} (D : Divs Y p z U t) (h1 : 0 ≤ t0) (h2 : t0 < 4294967296) : Divs Y p z ((U * 4294967296 + t) % Y) t0 :=
  ⟨D.y, D.p1, D.p2, D.z1, D.z2, Int.emod_nonneg _ (by have := D.u1; have := D.u2; omega), Int.emod_lt_of_pos _ (by have := D.u1; have := D.u2; omega), h1, h2⟩

end Go.Proofs.YtbanjolokkghdaaGreatDoor
namespace Go.Proofs.YtbanjolokkghdaaGreatDoor
open Go.RowKit

/-- Numbers with powers of two, taken apart. -/
structure Shf (hi lo y e f : Nat) : Prop where
  ef : e * f = 18446744073709551616
  e1 : 1 ≤ e
  f2 : 2 ≤ f
  hy : hi < y
  y1 : 9223372036854775808 ≤ y * e
  y2 : y * e < 18446744073709551616
  l : lo < 18446744073709551616

theorem Shf.lo_eq {hi lo y e f : Nat} (S : Shf hi lo y e f) : lo * e = lo / f * 18446744073709551616 + lo * e % 18446744073709551616 := by
  have h1 : lo * e / 18446744073709551616 = lo / f := by
    rw [← S.ef, Nat.mul_comm lo e]
    exact Nat.mul_div_mul_left _ _ (by have := S.e1; omega)
  have := Nat.div_add_mod (lo * e) 18446744073709551616
  rw [h1] at this
  omega
theorem Shf.num {hi lo y e f : Nat} (S : Shf hi lo y e f) : (e * hi + lo / f) * 18446744073709551616 + lo * e % 18446744073709551616 = (hi * 18446744073709551616 + lo) * e := by
  have := S.lo_eq
  rw [Nat.add_mul, Nat.add_mul, Nat.mul_right_comm hi, Nat.mul_comm e hi]
  omega
theorem Shf.lt {hi lo y e f : Nat} (S : Shf hi lo y e f) : e * hi + lo / f < y * e := by
  have h1 : (hi * 18446744073709551616 + lo) * e < y * e * 18446744073709551616 := by
    have : hi * 18446744073709551616 + lo < y * 18446744073709551616 := by have := S.hy; have := S.l; omega
    calc (hi * 18446744073709551616 + lo) * e < (y * 18446744073709551616) * e := Nat.mul_lt_mul_of_pos_right this (by have := S.e1; omega)
      _ = y * e * 18446744073709551616 := by rw [Nat.mul_right_comm]
  have := S.num
  omega
end Go.Proofs.YtbanjolokkghdaaGreatDoor
namespace Go.Proofs.YtbanjolokkghdaaGreatDoor
open Go.RowKit

def szHi (a : Int) : Int := (if 0 ≤ a then a else -a) / 18446744073709551616
def szLo (a : Int) : Int := (if 0 ≤ a then a else -a) % 18446744073709551616

def ptQ (hi lo m : Int) : Int := (hi % m * 18446744073709551616 + lo) / m
def ptR (hi lo m : Int) : Int := (hi % m * 18446744073709551616 + lo) % m
/-- The number so far from 0. -/
def sgn (b : Bool) (n : Int) : Int := if b = true then -n else n

end Go.Proofs.YtbanjolokkghdaaGreatDoor
