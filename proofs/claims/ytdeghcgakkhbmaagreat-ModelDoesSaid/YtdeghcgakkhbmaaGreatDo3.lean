/- Parts of the proof that follows: Layer line: Ends, told of lines. | Plain law: sums of fractions that are each rounded down. No program in sight. | Layer fsum: pairs, term. | Layer fsum: small. | Layer fsum: the walk of small. | Layer fsum: add. | Layer fsum: steps. | Layer fsum: Line$1, tells. | Layer fsum: Line. | Layer fsum: what Line comes to. | Layer fsum: what Line comes to. | Layer runs: last, sure, what rises defers. | Layer runs: what a row of runs is laid as; many. | Layer runs: rises. | Runs, plainly: their times, how many are below one, the one of a place. No condition. | Layer runs: Check, Count, below. | Layer runs: At, Find, Clip. | Layer runs: Clip, placed; a copy into a block that is known whole. | Layer runs: pieces, plainly; a row of runs as cells. -/
import Derived.Laws.EntriesVeiled
import Derived.Tactics
import Derived.Tactics2
import Derived.Defers
import Derived.Recover
import Derived.Laws.Pointers
import Derived.Laws.CopyOwn
import Derived.Laws.MakeOwn
import Derived.Test.YtdeghcgakkhbmaaGreatDo2
set_option linter.unusedSimpArgs false
set_option linter.unusedVariables false
namespace Go.Proofs.YtdeghcgakkhbmaaGreat
open Go.RowKit
/-- Both of a line's values may be told. -/
def endsOk (A R n d a b : Int) : Bool := isBack (lineVal A R n d a) && isBack (lineVal A R n d b)
end Go.Proofs.YtdeghcgakkhbmaaGreat
namespace Go.Proofs.YtdeghcgakkhbmaaGreat

/-- The sum of f i over i below n. -/
def sumTo (f : Nat → Nat) : Nat → Nat
  | 0 => 0
  | n + 1 => sumTo f n + f n
theorem sumTo_congr {f g : Nat → Nat} : ∀ n, (∀ i, i < n → f i = g i) → sumTo f n = sumTo g n
  | 0, _ => rfl
  | n + 1, h => by simp only [sumTo]; rw [sumTo_congr n fun i hi => h i (by omega), h n (by omega)]
theorem sumTo_zero : ∀ n, sumTo (fun _ => 0) n = 0
  | 0 => rfl
  | n + 1 => by simp only [sumTo]; rw [sumTo_zero n]
theorem sumTo_add (f g : Nat → Nat) : ∀ n, sumTo (fun i => f i + g i) n = sumTo f n + sumTo g n
  | 0 => rfl
  | n + 1 => by simp only [sumTo]; rw [sumTo_add f g n]; omega
theorem sumTo_swap (f : Nat → Nat → Nat) (m : Nat) : ∀ n, sumTo (fun i => sumTo (f i) m) n = sumTo (fun j => sumTo (fun i => f i j) n) m
  | 0 => by simp only [sumTo]; rw [sumTo_zero]
  | n + 1 => by simp only [sumTo]; rw [sumTo_swap f m n, sumTo_add]
theorem sumTo_first (f : Nat → Nat) : ∀ n, sumTo f (n + 1) = f 0 + sumTo (fun i => f (i + 1)) n
  | 0 => by simp [sumTo]
  | n + 1 => by rw [sumTo, sumTo_first f n, sumTo]; omega
theorem sumTo_back (f : Nat → Nat) : ∀ n, sumTo f n = sumTo (fun i => f (n - 1 - i)) n
  | 0 => rfl
  | n + 1 => by
    rw [sumTo_first (fun i => f (n + 1 - 1 - i)) n, sumTo, sumTo_back f n]
    rw [sumTo_congr (g := fun i => f (n + 1 - 1 - (i + 1))) n (fun i hi => by congr 1; omega)]
    have : f (n + 1 - 1 - 0) = f n := by congr 1
    omega
theorem sumTo_le {f g : Nat → Nat} : ∀ n, (∀ i, i < n → f i ≤ g i) → sumTo f n ≤ sumTo g n
  | 0, _ => Nat.le_refl _
  | n + 1, h => by simp only [sumTo]; have := sumTo_le n fun i hi => h i (by omega); have := h n (by omega); omega
theorem sumTo_id : ∀ n, sumTo (fun i => i) n = n * (n - 1) / 2
  | 0 => rfl
  | n + 1 => by
    simp only [sumTo]
    rw [sumTo_id n]
    cases n with
    | zero => rfl
    | succ n =>
      have e : (n + 1 + 1) * (n + 1 + 1 - 1) = (n + 1) * (n + 1 - 1) + 2 * (n + 1) := by
        simp only [Nat.add_sub_cancel]; rw [Nat.mul_comm (n + 1 + 1)]; exact (Nat.mul_add (n + 1) n 2).trans (by rw [Nat.mul_comm (n + 1) 2])
      rw [e]; omega
theorem sumTo_mul (c : Nat) (f : Nat → Nat) : ∀ n, sumTo (fun i => c * f i) n = c * sumTo f n
  | 0 => rfl
  | n + 1 => by simp only [sumTo]; rw [sumTo_mul c f n, Nat.mul_add]
theorem sumTo_const (c : Nat) : ∀ n, sumTo (fun _ => c) n = c * n
  | 0 => rfl
  | n + 1 => by simp only [sumTo]; rw [sumTo_const c n, Nat.mul_add_one]

/-- x / m counts the multiples of m up to x. -/
theorem count_div (x m : Nat) (hm : 0 < m) : ∀ Y, sumTo (fun j => if m * (j + 1) ≤ x then 1 else 0) Y = min Y (x / m)
  | 0 => by simp [sumTo]
  | Y + 1 => by
    simp only [sumTo]
    rw [count_div x m hm Y]
    have : m * (Y + 1) ≤ x ↔ Y + 1 ≤ x / m := by rw [Nat.le_div_iff_mul_le hm, Nat.mul_comm]
    split <;> omega
/-- How many steps of a reach c. -/
theorem count_steps (a b c : Nat) (ha : 0 < a) (hb : b < c) : ∀ n, sumTo (fun i => if c ≤ a * i + b then 1 else 0) n = (a * n + b - c) / a
  | 0 => by simp [sumTo]; rw [Nat.div_eq_of_lt]; omega
  | n + 1 => by
    simp only [sumTo]
    rw [count_steps a b c ha hb n, Nat.mul_add_one]
    by_cases h : c ≤ a * n + b
    · rw [if_pos h, show a * n + a + b - c = (a * n + b - c) + a by omega, Nat.add_div_right _ ha]
    · rw [if_neg h, show a * n + b - c = 0 by omega, Nat.zero_div, Nat.div_eq_of_lt (by omega)]

/-- The sum of (a i + b) / m, rounded down each, over i below n. -/
def floSum (n a b m : Nat) : Nat := sumTo (fun i => (a * i + b) / m) n

theorem floSum_split (n a b m : Nat) (hm : 0 < m) : floSum n a b m = a / m * (n * (n - 1) / 2) + b / m * n + floSum n (a % m) (b % m) m := by
  unfold floSum
  rw [← sumTo_id, ← sumTo_mul, ← sumTo_const, ← sumTo_add, ← sumTo_add]
  refine sumTo_congr n fun i _ => ?_
  have e : a * i + b = m * (a / m * i + b / m) + (a % m * i + b % m) := by
    have e1 := Nat.div_add_mod a m
    have e2 := Nat.div_add_mod b m
    have e3 : a * i = m * (a / m * i) + a % m * i := by
      rw [← Nat.mul_assoc, ← Nat.add_mul, e1]
    rw [Nat.mul_add]; omega
  rw [e, Nat.mul_add_div hm]

theorem floSum_small (n a b m : Nat) (hm : 0 < m) (h : a * n + b < m) : floSum n a b m = 0 := by
  unfold floSum
  rw [← sumTo_zero n]
  refine sumTo_congr n fun i hi => Nat.div_eq_of_lt ?_
  have := Nat.mul_le_mul_left a (Nat.le_of_lt hi)
  omega

theorem floSum_turn (n a b m : Nat) (ha : 0 < a) (hm : 0 < m) (hb : b < m) : floSum n a b m = floSum ((a * n + b) / m) m ((a * n + b) % m) a := by
  have hY : ∀ i, i < n → (a * i + b) / m ≤ (a * n + b) / m := fun i hi => Nat.div_le_div_right (by have := Nat.mul_le_mul_left a (Nat.le_of_lt hi); omega)
  unfold floSum
  rw [sumTo_congr (g := fun i => sumTo (fun j => if m * (j + 1) ≤ a * i + b then 1 else 0) ((a * n + b) / m)) n fun i hi => by rw [count_div _ m hm]; have := hY i hi; omega]
  rw [sumTo_swap, sumTo_back]
  refine sumTo_congr _ fun j hj => ?_
  generalize hq : (a * n + b) / m = Y at *
  have e0 := Nat.div_add_mod (a * n + b) m
  rw [hq] at e0
  rw [count_steps a b _ ha (by rw [Nat.mul_add_one]; omega)]
  congr 1
  have e1 : m * (Y - 1 - j + 1) + m * j = m * Y := by rw [← Nat.mul_add]; congr 1; omega
  omega

theorem floSum_le (n a b m : Nat) (hm : 0 < m) (ha : a < m) (hb : b < m) : floSum n a b m ≤ (n + 1) * n := by
  unfold floSum
  rw [← sumTo_const]
  refine sumTo_le n fun i hi => ?_
  rw [Nat.div_le_iff_le_mul_add_pred hm]
  have h1 : a * i ≤ m * i := Nat.mul_le_mul_right i (by omega)
  have h2 : m * i ≤ m * n := Nat.mul_le_mul_left m (by omega)
  rw [Nat.mul_add_one]; omega
end Go.Proofs.YtdeghcgakkhbmaaGreat
namespace Go.Proofs.YtdeghcgakkhbmaaGreat
open Go.RowKit
end Go.Proofs.YtdeghcgakkhbmaaGreat
namespace Go.Proofs.YtdeghcgakkhbmaaGreat
open Go.RowKit

/-- floSum of whole numbers from 0 on. -/
def floI (n a b m : Int) : Int := (floSum n.toNat a.toNat b.toNat m.toNat : Int)

structure SmallAt (F n a b m t : Int) : Prop where
  n0 : 0 ≤ n
  n1 : n ≤ 256
  a0 : 0 ≤ a
  a1 : a ≤ 281474976710656
  b0 : 0 ≤ b
  b1 : b ≤ 281474976710656
  m0 : 1 ≤ m
  m1 : m ≤ 281474976710656
  t0 : 0 ≤ t
  eq : t + floI n a b m = F
  F1 : F ≤ 100000

structure SmallStep (F n a b m t : Int) : Prop where
  p0 : 0 ≤ n * (n - 1) / 2
  e1 : wrap64 (a.tdiv m) = a / m
  e2 : wrap64 (b.tdiv m) = b / m
  e3 : wrap64 (a / m * (n * (n - 1) / 2)) = a / m * (n * (n - 1) / 2)
  e4 : wrap64 (b / m * n) = b / m * n
  e5 : wrap64 (a / m * (n * (n - 1) / 2) + b / m * n) = a / m * (n * (n - 1) / 2) + b / m * n
  e6 : wrap64 (t + (a / m * (n * (n - 1) / 2) + b / m * n)) = t + (a / m * (n * (n - 1) / 2) + b / m * n)
  e7 : a.tmod m = a % m
  e8 : b.tmod m = b % m
  e9 : wrap64 (a % m * n) = a % m * n
  e10 : wrap64 (a % m * n + b % m) = a % m * n + b % m
  e11 : wrap64 ((a % m * n + b % m).tdiv m) = (a % m * n + b % m) / m
  e12 : (a % m * n + b % m).tmod m = (a % m * n + b % m) % m
  done : a % m * n + b % m < m → t + (a / m * (n * (n - 1) / 2) + b / m * n) = F
  next : m ≤ a % m * n + b % m → SmallAt F ((a % m * n + b % m) / m) m ((a % m * n + b % m) % m) (a % m) (t + (a / m * (n * (n - 1) / 2) + b / m * n)) ∧ (a % m).toNat < m.toNat

theorem SmallAt.step {F n a b m t : Int} (h : SmallAt F n a b m t) : SmallStep F n a b m t := by
  obtain ⟨n0, n1, a0, a1, b0, b1, m0, m1, t0, eq, F1⟩ := h
  obtain ⟨n, rfl⟩ := Int.eq_ofNat_of_zero_le n0
  obtain ⟨a, rfl⟩ := Int.eq_ofNat_of_zero_le a0
  obtain ⟨b, rfl⟩ := Int.eq_ofNat_of_zero_le b0
  obtain ⟨m, rfl⟩ := Int.eq_ofNat_of_zero_le (show 0 ≤ m by omega)
  have hm : 0 < m := by omega
  have hp : (n : Int) * ((n : Int) - 1) / 2 = ((n * (n - 1) / 2 : Nat) : Int) := by
    cases n with
    | zero => rfl
    | succ n => simp
  have hs := floSum_split n a b m hm
  have q1 : (a : Int) / m = ((a / m : Nat) : Int) := rfl
  have q2 : (b : Int) / m = ((b / m : Nat) : Int) := rfl
  have r1 : (a : Int) % m = ((a % m : Nat) : Int) := rfl
  have r2 : (b : Int) % m = ((b % m : Nat) : Int) := rfl
  have g1 := Nat.mod_lt a hm
  have g2 := Nat.mod_lt b hm
  have ef : floI n a b m = (floSum n a b m : Int) := rfl
  rw [ef, hs] at eq
  have k1 : a % m * n ≤ m * n := Nat.mul_le_mul_right n (by omega)
  have k2 : m * n ≤ 281474976710656 * 256 := Nat.mul_le_mul (by omega) (by omega)
  have l1 : ((a % m * n + b % m : Nat) : Int) / m = (((a % m * n + b % m) / m : Nat) : Int) := rfl
  have l2 : ((a % m * n + b % m : Nat) : Int) % m = (((a % m * n + b % m) % m : Nat) : Int) := rfl
  have l3 : (a % m * n + b % m) / m ≤ n := by
    rw [Nat.div_le_iff_le_mul_add_pred hm]; omega
  have l4 := Nat.mod_lt (a % m * n + b % m) hm
  have d1 : a / m ≤ a := Nat.div_le_self _ _
  have d2 : b / m ≤ b := Nat.div_le_self _ _
  have c1 : (((a % m : Nat) : Int) * (n : Int) + ((b % m : Nat) : Int)) = ((a % m * n + b % m : Nat) : Int) := by simp
  have c2 : ((a / m : Nat) : Int) * ((n * (n - 1) / 2 : Nat) : Int) = ((a / m * (n * (n - 1) / 2) : Nat) : Int) := by simp
  have c3 : ((b / m : Nat) : Int) * (n : Int) = ((b / m * n : Nat) : Int) := by simp
  have c4 : ((a % m : Nat) : Int) * (n : Int) = ((a % m * n : Nat) : Int) := by simp
  have w64 : ∀ x : Nat, x ≤ 100000000000000000 → wrap64 (x : Int) = x := fun x h => by rw [wrap64_eq]; omega
  have c5 : floSum n (a % m) (b % m) m = floSum ((a % m * n + b % m) / m) m ((a % m * n + b % m) % m) (a % m) ∨ a % m * n + b % m < m := by
    rcases Nat.lt_or_ge (a % m * n + b % m) m with h | h
    · exact .inr h
    · refine .inl (floSum_turn n (a % m) (b % m) m ?_ hm g2)
      rcases Nat.eq_zero_or_pos (a % m) with h0 | h0
      · rw [h0] at h; omega
      · exact h0
  have c6 : a % m * n + b % m < m → floSum n (a % m) (b % m) m = 0 := floSum_small n (a % m) (b % m) m hm
  constructor
  · rw [hp]; exact Int.natCast_nonneg _
  · rw [Int.tdiv_eq_ediv_of_nonneg (by omega), q1]; exact w64 _ (by omega)
  · rw [Int.tdiv_eq_ediv_of_nonneg (by omega), q2]; exact w64 _ (by omega)
  · rw [hp, q1, c2]; exact w64 _ (by omega)
  · rw [q2, c3]; exact w64 _ (by omega)
  · rw [hp, q1, c2, q2, c3]; rw [wrap64_eq]; omega
  · rw [hp, q1, c2, q2, c3]; rw [wrap64_eq]; omega
  · exact Int.tmod_eq_emod_of_nonneg (by omega)
  · exact Int.tmod_eq_emod_of_nonneg (by omega)
  · rw [r1, c4]; exact w64 _ (by omega)
  · rw [r1, r2, c1]; exact w64 _ (by omega)
  · rw [r1, r2, c1, Int.tdiv_eq_ediv_of_nonneg (by omega), l1]; exact w64 _ (by omega)
  · rw [r1, r2, c1]; exact Int.tmod_eq_emod_of_nonneg (by omega)
  · intro h
    rw [r1, r2, c1] at h
    have := c6 (by omega)
    rw [hp, q1, c2, q2, c3]; omega
  · intro h
    rw [r1, r2, c1] at h
    rw [hp, q1, c2, q2, c3, r1, r2, c1, l1, l2]
    refine ⟨⟨Int.natCast_nonneg _, Int.ofNat_le.2 (show _ ≤ 256 by omega), Int.natCast_nonneg _, m1, Int.natCast_nonneg _, Int.ofNat_le.2 (show _ ≤ 281474976710656 by omega), ?_, Int.ofNat_le.2 (show _ ≤ 281474976710656 by omega), ?_, ?_, F1⟩, ?_⟩
    · rcases Nat.eq_zero_or_pos (a % m) with h0 | h0
      · rw [h0] at h; omega
      · exact Int.ofNat_le.2 (show 1 ≤ _ from h0)
    · have := Int.natCast_nonneg (a / m * (n * (n - 1) / 2)); have := Int.natCast_nonneg (b / m * n); omega
    · have e : floI (((a % m * n + b % m) / m : Nat) : Int) (m : Int) (((a % m * n + b % m) % m : Nat) : Int) ((a % m : Nat) : Int) = (floSum ((a % m * n + b % m) / m) m ((a % m * n + b % m) % m) (a % m) : Int) := rfl
      rw [e]
      rcases c5 with h5 | h5
      · rw [← h5]; omega
      · omega
    · show a % m < m; exact g1
end Go.Proofs.YtdeghcgakkhbmaaGreat
namespace Go.Proofs.YtdeghcgakkhbmaaGreat
open Go.RowKit

end Go.Proofs.YtdeghcgakkhbmaaGreat
namespace Go.Proofs.YtdeghcgakkhbmaaGreat
open Go.RowKit
/-- What a row is laid as: the sum so far, how many, the two numbers, the divisor. -/
def rowCells (s n a b m : Int) : Array Value := #[.int .i64 (hiW s), .int .u64 (loW s), .int .i64 n, .int .i64 (hiW a), .int .u64 (loW a), .int .i64 (hiW b), .int .u64 (loW b), .int .i64 m]
end Go.Proofs.YtdeghcgakkhbmaaGreat
namespace Go.Proofs.YtdeghcgakkhbmaaGreat
open Go.RowKit
end Go.Proofs.YtdeghcgakkhbmaaGreat
namespace Go.Proofs.YtdeghcgakkhbmaaGreat
open Go.RowKit
end Go.Proofs.YtdeghcgakkhbmaaGreat
namespace Go.Proofs.YtdeghcgakkhbmaaGreat
open Go.RowKit
end Go.Proofs.YtdeghcgakkhbmaaGreat
namespace Go.Proofs.YtdeghcgakkhbmaaGreat
open Go.RowKit
/-- The sum of f i over i below n. -/
def sumI (f : Nat → Int) : Nat → Int
  | 0 => 0
  | n + 1 => sumI f n + f n
/-- What steps adds up. -/
def stepSum (n a b m : Int) : Int := a / m * (n * (n - 1) / 2) + b / m * n + floI n (a % m) (b % m) m
theorem pairs_cast (n : Nat) : (n : Int) * ((n : Int) - 1) / 2 = ((n * (n - 1) / 2 : Nat) : Int) := by
  cases n with
  | zero => rfl
  | succ n => simp
structure StepsOk (n a b m : Int) : Prop where
  n0 : 0 ≤ n
  n1 : n ≤ 256
  a1 : a.natAbs ≤ 2596148429267413814265248164610048
  b1 : b.natAbs ≤ 2596148429267413814265248164610048
  m0 : 1 ≤ m
  m1 : m ≤ 281474976710656
theorem StepsOk.pairs {n a b m : Int} (h : StepsOk n a b m) : 0 ≤ n * (n - 1) / 2 ∧ n * (n - 1) / 2 ≤ 32640 := by
  have h0 := h.n0; have h1 := h.n1
  obtain ⟨k, rfl⟩ := Int.eq_ofNat_of_zero_le h0
  rw [pairs_cast]
  have : k * (k - 1) ≤ 256 * 255 := Nat.mul_le_mul (by omega) (by omega)
  refine ⟨Int.natCast_nonneg _, Int.ofNat_le.2 (show _ ≤ 32640 by omega)⟩
theorem StepsOk.flo {n a b m : Int} (h : StepsOk n a b m) : 0 ≤ floI n (a % m) (b % m) m ∧ floI n (a % m) (b % m) m ≤ 65792 := by
  have h0 := h.n0; have h1 := h.n1; have m0 := h.m0
  have r0 := Int.emod_nonneg a (show m ≠ 0 by omega)
  have r1 := Int.emod_nonneg b (show m ≠ 0 by omega)
  have l0 := Int.emod_lt_of_pos a (show 0 < m by omega)
  have l1 := Int.emod_lt_of_pos b (show 0 < m by omega)
  unfold floI
  have := floSum_le n.toNat (a % m).toNat (b % m).toNat m.toNat (by omega) (by omega) (by omega)
  have h2 : (n.toNat + 1) * n.toNat ≤ 257 * 256 := Nat.mul_le_mul (by omega) (by omega)
  omega
theorem StepsOk.small {n a b m : Int} (h : StepsOk n a b m) : SmallAt (floI n (a % m) (b % m) m) n (a % m) (b % m) m 0 := by
  have m0 := h.m0; have m1 := h.m1
  have r0 := Int.emod_nonneg a (show m ≠ 0 by omega)
  have r1 := Int.emod_nonneg b (show m ≠ 0 by omega)
  have l0 := Int.emod_lt_of_pos a (show 0 < m by omega)
  have l1 := Int.emod_lt_of_pos b (show 0 < m by omega)
  have := h.flo
  exact ⟨h.n0, h.n1, r0, by omega, r1, by omega, m0, m1, by omega, by omega, by omega⟩

end Go.Proofs.YtdeghcgakkhbmaaGreat
namespace Go.Proofs.YtdeghcgakkhbmaaGreat
open Go.RowKit
structure FlineOk (f s n : Int) : Prop where
  f0 : 0 ≤ f
  s0 : 0 ≤ s
  s1 : s ≤ 281474976710656
  n0 : 1 ≤ n
  n1 : n ≤ 256
  all : f + (n - 1) * s ≤ 281474976710656
theorem FlineOk.last {f s n : Int} (h : FlineOk f s n) : 0 ≤ (n - 1) * s := Int.mul_nonneg (by have := h.n0; omega) h.s0
end Go.Proofs.YtdeghcgakkhbmaaGreat
namespace Go.Proofs.YtdeghcgakkhbmaaGreat
open Go.RowKit
end Go.Proofs.YtdeghcgakkhbmaaGreat
namespace Go.Proofs.YtdeghcgakkhbmaaGreat
open Go.RowKit
/-- A run: its first time, its step, how many. -/
structure RunT where
  f : Int
  s : Int
  c : Int
/-- The slice p len holds just these runs. -/
structure RunsIn (w : World) (p : Option Addr) (l : List RunT) : Prop where
  at' : ∀ (i : Nat) (r : RunT), l[i]? = some r → ∃ b o, p = some ⟨b, o, none⟩ ∧ w.cell? ⟨b, o + i * 3, none⟩ = some (.int .i64 r.f) ∧ w.cell? ⟨b, o + i * 3 + 1, none⟩ = some (.int .i64 r.s) ∧ w.cell? ⟨b, o + i * 3 + 2, none⟩ = some (.int .i64 r.c)
theorem cell_lt {w : World} {b o : Nat} {v : Value} (h : w.cell? ⟨b, o, none⟩ = some v) : b < w.heap.size := by
  by_cases hlt : b < w.heap.size
  · exact hlt
  · have hn : w.heap[b]? = none := by simp; omega
    simp [World.cell?, hn] at h
theorem RunsIn.below {w w' : World} {p : Option Addr} {l : List RunT} (h : RunsIn w p l) (hb : Below w.heap.size w w') : RunsIn w' p l := ⟨fun i r hr => by
  obtain ⟨b, o, e, h1, h2, h3⟩ := h.at' i r hr
  have hB := (bcell hb).1
  exact ⟨b, o, e, (hB b _ (cell_lt h1)).trans h1, (hB b _ (cell_lt h2)).trans h2, (hB b _ (cell_lt h3)).trans h3⟩⟩
theorem RunsIn.drew {w : World} {p : Option Addr} {l : List RunT} (h : RunsIn w p l) : RunsIn w.drew p l := ⟨h.at'⟩
def countTo (l : List RunT) : Nat → Int
  | 0 => 0
  | n + 1 => countTo l n + ((l[n]?).map (·.c)).getD 0

end Go.Proofs.YtdeghcgakkhbmaaGreat
namespace Go.Proofs.YtdeghcgakkhbmaaGreat
open Go.RowKit
def MT : Int := 281474976710656
def lastI (r : RunT) : Int := r.f + r.s * (r.c - 1)
def run1 (r : RunT) : Bool := decide (1 ≤ r.c) && decide (r.c ≤ 256) && decide (0 ≤ r.f) && decide (r.f ≤ 281474976710656) && decide (0 ≤ r.s) && decide (r.s ≤ 281474976710656)
def run2 (len i : Nat) (r : RunT) : Bool := (decide (r.c = 1) == decide (r.s = 0)) && (decide (1 < r.c) || decide ((i : Int) = (len : Int) - 1)) && decide (lastI r ≤ 281474976710656)
def run3 (q r : RunT) : Bool := decide (lastI q < r.f) && (r.f - lastI q != q.s)
def okAt (l : List RunT) (i : Nat) : Bool := match l[i]? with
  | some r => run1 r && run2 l.length i r && (decide (i = 0) || (match l[i - 1]? with | some q => run3 q r | none => true))
  | none => true
def okTo (l : List RunT) : Nat → Bool
  | 0 => true
  | i + 1 => okTo l i && okAt l i
def risesB (l : List RunT) : Bool := (decide (0 < l.length) && decide ((l.length : Int) ≤ 256)) && okTo l l.length && decide (countTo l l.length ≤ 256)

theorem RunsIn.cells {w : World} {b o : Nat} {l : List RunT} (h : RunsIn w (some ⟨b, o, none⟩) l) {i : Nat} {r : RunT} (hr : l[i]? = some r) : w.cell? ⟨b, o + i * 3, none⟩ = some (.int .i64 r.f) ∧ w.cell? ⟨b, o + i * 3 + 1, none⟩ = some (.int .i64 r.s) ∧ w.cell? ⟨b, o + i * 3 + 2, none⟩ = some (.int .i64 r.c) := by
  obtain ⟨b', o', e, h1, h2, h3⟩ := h.at' i r hr
  cases e
  exact ⟨h1, h2, h3⟩
theorem RunsIn.rex {L : List Nat} {w w' : World} {p : Option Addr} {l : List RunT} (h : RunsIn w p l) (hr : Rex L w w') (hL : L = []) : RunsIn w' p l := by subst hL; exact h.below hr.below

end Go.Proofs.YtdeghcgakkhbmaaGreat
namespace Go.Proofs.YtdeghcgakkhbmaaGreat
open Go.RowKit

/-- A run of a row that may be. -/
structure RunOk (r : RunT) : Prop where
  f0 : 0 ≤ r.f
  f1 : r.f ≤ 281474976710656
  s0 : 0 ≤ r.s
  s1 : r.s ≤ 281474976710656
  c0 : 1 ≤ r.c
  c1 : r.c ≤ 256
  one : r.c = 1 ↔ r.s = 0
  last : lastI r ≤ 281474976710656
def cnt : List RunT → Int
  | [] => 0
  | r :: l => r.c + cnt l
def timesR (r : RunT) : List Int := (List.range r.c.toNat).map fun (k : Nat) => r.f + r.s * (k : Int)
def timesL : List RunT → List Int
  | [] => []
  | r :: l => timesR r ++ timesL l
def Next (q r : RunT) : Prop := lastI q < r.f ∧ r.f - lastI q ≠ q.s
/-- Each one's first time is above the last one of the one ahead. -/
def Chain : List RunT → Prop
  | [] => True
  | r :: l => (∀ q, l.head? = some q → Next r q ∧ 1 < r.c) ∧ Chain l
structure RunsOk (l : List RunT) : Prop where
  some' : 0 < l.length
  few : l.length ≤ 256
  each : ∀ r, r ∈ l → RunOk r
  count : cnt l ≤ 256
  chain : Chain l

/-- The one of a place. -/
def atL : List RunT → Int → Option Int
  | [], _ => none
  | r :: l, i => if i < r.c then some (r.f + r.s * i) else atL l (i - r.c)
/-- How many are below a time. -/
def belowL : List RunT → Int → Int
  | [], _ => 0
  | r :: l, t => if t ≤ r.f then 0 else if lastI r < t then r.c + belowL l t else (t - r.f - 1) / r.s + 1

theorem Chain.tail {r : RunT} {l : List RunT} (h : Chain (r :: l)) : Chain l := h.2
end Go.Proofs.YtdeghcgakkhbmaaGreat
namespace Go.Proofs.YtdeghcgakkhbmaaGreat
open Go.RowKit
end Go.Proofs.YtdeghcgakkhbmaaGreat
namespace Go.Proofs.YtdeghcgakkhbmaaGreat
open Go.RowKit
def atV (l : List RunT) (i : Int) : Int := (atL l i).getD 0
def atE (l : List RunT) (i : Int) : Int := if (atL l i).isSome then 0 else 4
def atRel (p : Option Addr) (cap : Nat) (l : List RunT) (i : Int) (w : World) (a' : Act) (W : World) : Prop := Below w.heap.size w W ∧ ∃ (k : Nat) (j : Int), (∃ u : Nat → Value, a' = { tmps := #[(.slice p l.length cap), .int .i64 j, u 2, u 3, u 4, u 5, u 6, u 7, u 8, u 9, u 10, u 11, u 12, (.slice p l.length cap), .int .i64 (l.length : Int), .int .i64 (k : Int), u 16, u 17, u 18, u 19, u 20, u 21, u 22, u 23, u 24, u 25, u 26, u 27, u 28, u 29, u 30, u 31, u 32, u 33, u 34], defers := [] }) ∧ k ≤ l.length ∧ atL (l.drop k) j = atL l i ∧ 0 ≤ j ∧ j ≤ i
/-- The place of a time. -/
def findL (l : List RunT) (t : Int) : Option Int := if atL l (belowL l t) = some t then some (belowL l t) else none
end Go.Proofs.YtdeghcgakkhbmaaGreat
namespace Go.Proofs.YtdeghcgakkhbmaaGreat
open Go.RowKit
section
variable (P : Program)
theorem run_copyK (w : World) (dT sT ty elem : TypeId) (k g dLen dCap : Nat) (a : Addr) (sLen sCap : Nat) (cur : Array Value) (t : TypeId) (cs : List Value)
    (hu : P.underlying dT = some (.slice elem)) (hs : (P.info? elem).map (·.size) = some k)
    (hg : w.heap[g]? = some (.cells cur t (0, 0))) (hn : cs.length = Nat.min sLen dLen * k)
    (hsrc : ∀ j v, cs[j]? = some v → w.cell? (a.add j) = some v) (hfit : cs.length = cur.size) (h1 : ∀ v ∈ cs, v.oneCell' = true) :
    (Builtin.copy_ #[dT, sT] ty #[.slice (some ⟨g, 0, none⟩) dLen dCap, .slice (some a) sLen sCap]).run P w =
      .ok (goInt (Nat.min sLen dLen)) (w.setRow g cs.toArray) := by
  have hl := run_loadCells_list (P := P) w a cs hsrc
  have hst := run_storeCells_at P g 0 t cs 0 cur w hg (by omega) h1
  have e : cur.toList.take (0 + 0) ++ cs ++ cur.toList.drop (0 + 0 + cs.length) = cs := by
    have : cur.toList.drop cs.length = [] := List.drop_eq_nil_of_le (by simp [hfit])
    simp [this]
  rw [e] at hst
  cases hq : P.info? elem with
  | none => simp [hq] at hs
  | some i =>
    have hi : i.size = k := by simpa [hq] using hs
    have hm : k * min sLen dLen = cs.length := by rw [hn, Nat.mul_comm]
    have hm' : min sLen dLen * k = cs.length := hn.symm
    simp [Builtin.copy_, run_underlying hu, Builtin.lenOf, Builtin.firstCells, sizeOf, typeInfo, hq, hi, hm, hm', hl, hst]
end
/-- The places of the times from a to b. -/
def clipI (l : List RunT) (a : Int) : Int := belowL l a
def clipJ (l : List RunT) (a b : Int) : Int := if 281474976710656 ≤ b then cnt l else if belowL l a < belowL l (b + 1) then belowL l (b + 1) else belowL l a
end Go.Proofs.YtdeghcgakkhbmaaGreat
namespace Go.Proofs.YtdeghcgakkhbmaaGreat
open Go.RowKit
def mx (x y : Int) : Int := if y > x then y else x
def mn (x y : Int) : Int := if y < x then y else x
theorem mn_spec (x y : Int) : mn x y ≤ x ∧ mn x y ≤ y ∧ (mn x y = x ∨ mn x y = y) := by unfold mn; split <;> omega
/-- What is left of a run, of the places from i to j. -/
def pieceOf (r : RunT) (i j : Int) : List RunT := if mx i 0 < mn j r.c then [⟨r.f + r.s * mx i 0, r.s, mn j r.c - mx i 0⟩] else []
def piecesL : List RunT → Int → Int → List RunT
  | [], _, _ => []
  | r :: l, i, j => pieceOf r i j ++ piecesL l (i - r.c) (j - r.c)
def flatCells : List RunT → List Value
  | [] => []
  | r :: l => .int .i64 r.f :: .int .i64 r.s :: .int .i64 r.c :: flatCells l
def runCells (l : List RunT) : Array Value := (flatCells l).toArray
theorem length_flatCells : ∀ l, (flatCells l).length = l.length * 3
  | [] => rfl
  | r :: l => by simp only [flatCells, List.length_cons, length_flatCells l]; omega
theorem flat_at : ∀ (l : List RunT) (i : Nat) (r : RunT), l[i]? = some r → (flatCells l)[i * 3]? = some (.int .i64 r.f) ∧ (flatCells l)[i * 3 + 1]? = some (.int .i64 r.s) ∧ (flatCells l)[i * 3 + 2]? = some (.int .i64 r.c)
  | [], i, r, h => by simp at h
  | a :: l, 0, r, h => by
    simp at h
    subst h
    simp [flatCells]
  | a :: l, i + 1, r, h => by
    have := flat_at l i r (by simpa using h)
    rw [show (i + 1) * 3 = i * 3 + 3 by omega]
    simpa [flatCells] using this
end Go.Proofs.YtdeghcgakkhbmaaGreat
