/- Parts of the proof that follows: Layer wide: Mul, Int. Every number. | Layer wide: Int. Every number. | math/bits.Len64, LeadingZeros64. Every word. | math/bits.Div64, its long division by halves. Every word, the divisor above the upper word. | math/bits.Div64. Every word, the divisor above the upper word. | Layer wide: size, parts, signed. Every number. | Layer wide: Div, Scale. Every number of 128 bits; the divisor from 1 on. | Layer wide: Div and Scale, told of numbers of 128 bits. | Layer line: back, slopeIs, divisor, slope. | Layer line: lowest, slope, is. -/
import Derived.Laws.MathBits
import Derived.Lib.Hide
import Derived.Deep.DeepCutAuto
import Derived.Deep.CutBlock
import Derived.BigQuiet
import Derived.WalkMore
import Derived.ScopeJumps
import Derived.Test.YtdeghcgakkhbmaaGreatTe1
set_option linter.unusedSimpArgs false
set_option linter.unusedVariables false
namespace Go.Proofs.YtdeghcgakkhbmaaGreat
open Go.RowKit

def mulHi (x y : Int) : Int := x * y / 18446744073709551616
def mulLo (x y : Int) : Int := x * y % 18446744073709551616
def I64 (a : Int) : Prop := -9223372036854775808 ≤ a ∧ a ≤ 9223372036854775807
def U64 (a : Int) : Prop := 0 ≤ a ∧ a < 18446744073709551616

end Go.Proofs.YtdeghcgakkhbmaaGreat
namespace Go.Proofs.YtdeghcgakkhbmaaGreat
open Go.RowKit
instance (n : Int) : Decidable (I64 n) := by unfold I64; infer_instance
def inI (n : Int) : Bool := decide (I64 n)
end Go.Proofs.YtdeghcgakkhbmaaGreat
namespace Go.Proofs.YtdeghcgakkhbmaaGreat
open Go.RowKit

def len64 (x : Int) : Int := (Go.bitLen x.toNat : Int)
end Go.Proofs.YtdeghcgakkhbmaaGreat
namespace Go.Proofs.YtdeghcgakkhbmaaGreat
open Go.RowKit

/-! ### One step of the division: a guess that is lowered -/
/-- The guess q, with what it leaves: not below the true quotient. -/
structure Guess (Y p z U t q r : Int) : Prop where
  eq : q * p + r = U
  q0 : 0 ≤ q
  qt : q ≤ 4294967297
  r0 : 0 ≤ r
  rt : r < 4294967296
  ge : (U * 4294967296 + t) / Y ≤ q

structure Divs (Y p z U t : Int) : Prop where
  y : Y = p * 4294967296 + z
  p1 : 2147483648 ≤ p
  p2 : p < 4294967296
  z1 : 0 ≤ z
  z2 : z < 4294967296
  u1 : 0 ≤ U
  u2 : U < Y
  t1 : 0 ≤ t
  t2 : t < 4294967296

theorem Guess.done {Y p z U t q r : Int} (D : Divs Y p z U t) (G : Guess Y p z U t q r) (h : q * z ≤ 4294967296 * r + t) : q = (U * 4294967296 + t) / Y := by
  have : q ≤ (U * 4294967296 + t) / Y := (Int.le_ediv_iff_mul_le (by have := D.u1; have := D.u2; omega)).2 (by
    rw [D.y, Int.mul_add, ← Int.mul_assoc]
    have := G.eq
    omega)
  have := G.ge
  omega
/-- What is left of a step, in words that wrap. -/
theorem Divs.rest {Y p z U t : Int} (D : Divs Y p z U t) (hY : Y < 18446744073709551616) : IntKind.u64.wrap (IntKind.u64.wrap (IntKind.u64.wrap (U * 4294967296) + t) - IntKind.u64.wrap ((U * 4294967296 + t) / Y * Y)) = (U * 4294967296 + t) % Y := by
  have hm := Int.emod_add_mul_ediv (U * 4294967296 + t) Y
  have hl := Int.emod_lt_of_pos (U * 4294967296 + t) (show 0 < Y by have := D.u1; have := D.u2; omega)
  have hn := Int.emod_nonneg (U * 4294967296 + t) (show Y ≠ 0 by have := D.u1; have := D.u2; omega)
  have hc : Y * ((U * 4294967296 + t) / Y) = (U * 4294967296 + t) / Y * Y := Int.mul_comm _ _
  simp only [u64_eq]
  omega
theorem Divs.next {Y p z U t t0 : Int} (D : Divs Y p z U t) (h1 : 0 ≤ t0) (h2 : t0 < 4294967296) : Divs Y p z ((U * 4294967296 + t) % Y) t0 :=
  ⟨D.y, D.p1, D.p2, D.z1, D.z2, Int.emod_nonneg _ (by have := D.u1; have := D.u2; omega), Int.emod_lt_of_pos _ (by have := D.u1; have := D.u2; omega), h1, h2⟩

end Go.Proofs.YtdeghcgakkhbmaaGreat
namespace Go.Proofs.YtdeghcgakkhbmaaGreat
open Go.RowKit

/-- Numbers with powers of two, taken apart. -/
structure Shf (hi lo y e f : Nat) : Prop where
  ef : e * f = 18446744073709551616
  e1 : 1 ≤ e
  f2 : 2 ≤ f
  hy : hi < y
  y1 : 9223372036854775808 ≤ y * e
  y2 : y * e < 18446744073709551616
  l : lo < 18446744073709551616

theorem Shf.lo_eq {hi lo y e f : Nat} (S : Shf hi lo y e f) : lo * e = lo / f * 18446744073709551616 + lo * e % 18446744073709551616 := by
  have h1 : lo * e / 18446744073709551616 = lo / f := by
    rw [← S.ef, Nat.mul_comm lo e]
    exact Nat.mul_div_mul_left _ _ (by have := S.e1; omega)
  have := Nat.div_add_mod (lo * e) 18446744073709551616
  rw [h1] at this
  omega
theorem Shf.num {hi lo y e f : Nat} (S : Shf hi lo y e f) : (e * hi + lo / f) * 18446744073709551616 + lo * e % 18446744073709551616 = (hi * 18446744073709551616 + lo) * e := by
  have := S.lo_eq
  rw [Nat.add_mul, Nat.add_mul, Nat.mul_right_comm hi, Nat.mul_comm e hi]
  omega
theorem Shf.lt {hi lo y e f : Nat} (S : Shf hi lo y e f) : e * hi + lo / f < y * e := by
  have h1 : (hi * 18446744073709551616 + lo) * e < y * e * 18446744073709551616 := by
    have : hi * 18446744073709551616 + lo < y * 18446744073709551616 := by have := S.hy; have := S.l; omega
    calc (hi * 18446744073709551616 + lo) * e < (y * 18446744073709551616) * e := Nat.mul_lt_mul_of_pos_right this (by have := S.e1; omega)
      _ = y * e * 18446744073709551616 := by rw [Nat.mul_right_comm]
  have := S.num
  omega
end Go.Proofs.YtdeghcgakkhbmaaGreat
namespace Go.Proofs.YtdeghcgakkhbmaaGreat
open Go.RowKit

def szHi (a : Int) : Int := (if 0 ≤ a then a else -a) / 18446744073709551616
def szLo (a : Int) : Int := (if 0 ≤ a then a else -a) % 18446744073709551616

def ptQ (hi lo m : Int) : Int := (hi % m * 18446744073709551616 + lo) / m
def ptR (hi lo m : Int) : Int := (hi % m * 18446744073709551616 + lo) % m
/-- The number so far from 0. -/
def sgn (b : Bool) (n : Int) : Int := if b = true then -n else n

end Go.Proofs.YtdeghcgakkhbmaaGreat
namespace Go.Proofs.YtdeghcgakkhbmaaGreat
open Go.RowKit

/-- What the long division of the size gives. -/
structure DivOut (a m q1 q0 rest : Int) : Prop where
  q1b : 0 ≤ q1 ∧ q1 < 18446744073709551616
  q0b : 0 ≤ q0 ∧ q0 < 18446744073709551616
  rb : 0 ≤ rest ∧ rest < m
  eq : (q1 * 18446744073709551616 + q0) * m + rest = (if 0 ≤ a then a else -a)

theorem div_floor {a m q r : Int} (hm : 1 ≤ m) (h : m * q + r = a) (h0 : 0 ≤ r) (h1 : r < m) : q = a / m ∧ r = a % m := by
  subst h
  refine ⟨?_, ?_⟩
  · rw [Int.add_comm, Int.add_mul_ediv_left _ _ (by omega), Int.ediv_eq_zero_of_lt h0 h1]; omega
  · rw [Int.add_comm, Int.add_mul_emod_self_left, Int.emod_eq_of_lt h0 h1]

theorem DivOut.pos {a m q1 q0 rest : Int} (D : DivOut a m q1 q0 rest) (ha : W128 a) (hm : 1 ≤ m) (h : 0 ≤ a) : wrapW (sgn false (q1 * 18446744073709551616 + q0)) = a / m ∧ rest = a % m := by
  have e := D.eq
  rw [if_pos h, Int.mul_comm] at e
  obtain ⟨f1, f2⟩ := div_floor hm e D.rb.1 D.rb.2
  refine ⟨?_, f2⟩
  show wrapW (q1 * 18446744073709551616 + q0) = a / m
  have g1 : a / m ≤ a := Int.ediv_le_self _ h
  have g2 : 0 ≤ a / m := Int.ediv_nonneg h (by omega)
  rw [f1]
  exact wrapW_in ⟨by omega, by have := ha.2; omega⟩
end Go.Proofs.YtdeghcgakkhbmaaGreat
namespace Go.Proofs.YtdeghcgakkhbmaaGreat
open Go.RowKit

theorem I64.w {n : Int} (h : I64 n) : W128 n := W128_small h

end Go.Proofs.YtdeghcgakkhbmaaGreat
namespace Go.Proofs.YtdeghcgakkhbmaaGreat
open Go.RowKit

def isBack (v : Int) : Bool := decide (-2305844108725321728 ≤ v) && decide (v ≤ 2305844108725321728)
def isSlope (n d : Int) : Bool := decide (1 ≤ d) && decide (d ≤ 281474976710656) && decide (-4611688217450643456 ≤ n) && decide (n ≤ 4611688217450643456)

def intAt : Value → Int | .int _ q => q | _ => 0

structure GcdAt (a b m n : Int) : Prop where
  m0 : 0 ≤ m
  m1 : m ≤ 9223372036854775807
  n0 : 0 ≤ n
  n1 : n ≤ 9223372036854775807
  eq : Nat.gcd m.natAbs n.natAbs = Nat.gcd a.natAbs b.natAbs

theorem GcdAt.pos {a b : Int} (ha : -9223372036854775807 ≤ a ∧ a ≤ 9223372036854775807) (hb : 0 ≤ b ∧ b ≤ 9223372036854775807) (h : 0 ≤ a) : GcdAt a b a b := ⟨h, ha.2, hb.1, hb.2, rfl⟩
theorem GcdAt.done {a b n : Int} (h : GcdAt a b 0 n) : n = (Nat.gcd a.natAbs b.natAbs : Int) := by
  rw [← h.eq]; have := h.n0; simp; omega
theorem GcdAt.step {a b m n : Int} (h : GcdAt a b m n) (hm : ¬ m = 0) : GcdAt a b (n.tmod m) m ∧ (n.tmod m).toNat < m.toNat := by
  have h0 := h.m0; have h1 := h.n0
  have e : n.tmod m = n % m := Int.tmod_eq_emod_of_nonneg h1
  have l1 := Int.emod_nonneg n hm
  have l2 := Int.emod_lt_of_pos n (show 0 < m by omega)
  have := h.m1
  rw [e]
  refine ⟨⟨l1, by omega, h0, h.m1, ?_⟩, by omega⟩
  rw [← h.eq]
  obtain ⟨m, rfl⟩ := Int.eq_ofNat_of_zero_le h0
  obtain ⟨n, rfl⟩ := Int.eq_ofNat_of_zero_le h1
  exact (Nat.gcd_rec m n).symm

end Go.Proofs.YtdeghcgakkhbmaaGreat
namespace Go.Proofs.YtdeghcgakkhbmaaGreat
open Go.RowKit

/-- The greatest common divisor, as a number. -/
def gcdI (n d : Int) : Int := (Nat.gcd n.natAbs d.natAbs : Int)
def isLine (A R n d : Int) : Bool := isBack A && isSlope n d && decide (gcdI n d = 1) && decide (0 ≤ R) && decide (R < d)
end Go.Proofs.YtdeghcgakkhbmaaGreat
