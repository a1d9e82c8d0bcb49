/- Parts of the proof that follows: Layer fsum: add. | Layer fsum: steps. | Layer fsum: Line$1, tells. | Layer fsum: Line. | Layer fsum: what Line comes to. | Layer fsum: what Line comes to. | Layer runs: last, sure, what rises defers. | Layer runs: what a row of runs is laid as; many. | Layer runs: rises. | Runs, plainly: their times, how many are below one, the one of a place. No condition. | Layer runs: Check, Count, below. | Layer runs: At, Find, Clip. | Layer runs: Clip, placed; a copy into a block that is known whole. -/
import Derived.Laws.EntriesVeiled
import Derived.Tactics
import Derived.Tactics2
import Derived.Defers
import Derived.Recover
import Derived.Laws.Pointers
import Derived.Laws.CopyOwn
import Derived.Test.YtdeghcgakkhbmaaGreatTe3
set_option linter.unusedSimpArgs false
set_option linter.unusedVariables false
namespace Go.Proofs.YtdeghcgakkhbmaaGreat
open Go.RowKit
/-- What a row is laid as: the sum so far, how many, the two numbers, the divisor. -/
def rowCells (s n a b m : Int) : Array Value := #[.int .i64 (hiW s), .int .u64 (loW s), .int .i64 n, .int .i64 (hiW a), .int .u64 (loW a), .int .i64 (hiW b), .int .u64 (loW b), .int .i64 m]
end Go.Proofs.YtdeghcgakkhbmaaGreat
namespace Go.Proofs.YtdeghcgakkhbmaaGreat
open Go.RowKit
end Go.Proofs.YtdeghcgakkhbmaaGreat
namespace Go.Proofs.YtdeghcgakkhbmaaGreat
open Go.RowKit
end Go.Proofs.YtdeghcgakkhbmaaGreat
namespace Go.Proofs.YtdeghcgakkhbmaaGreat
open Go.RowKit
end Go.Proofs.YtdeghcgakkhbmaaGreat
namespace Go.Proofs.YtdeghcgakkhbmaaGreat
open Go.RowKit
/-- The sum of f i over i below n. -/
def sumI (f : Nat → Int) : Nat → Int
  | 0 => 0
  | n + 1 => sumI f n + f n
/-- What steps adds up. -/
def stepSum (n a b m : Int) : Int := a / m * (n * (n - 1) / 2) + b / m * n + floI n (a % m) (b % m) m
theorem pairs_cast (n : Nat) : (n : Int) * ((n : Int) - 1) / 2 = ((n * (n - 1) / 2 : Nat) : Int) := by
  cases n with
  | zero => rfl
  | succ n => simp
structure StepsOk (n a b m : Int) : Prop where
  n0 : 0 ≤ n
  n1 : n ≤ 256
  a1 : a.natAbs ≤ 2596148429267413814265248164610048
  b1 : b.natAbs ≤ 2596148429267413814265248164610048
  m0 : 1 ≤ m
  m1 : m ≤ 281474976710656
theorem StepsOk.pairs {n a b m : Int} (h : StepsOk n a b m) : 0 ≤ n * (n - 1) / 2 ∧ n * (n - 1) / 2 ≤ 32640 := by
  have h0 := h.n0; have h1 := h.n1
  obtain ⟨k, rfl⟩ := Int.eq_ofNat_of_zero_le h0
  rw [pairs_cast]
  have : k * (k - 1) ≤ 256 * 255 := Nat.mul_le_mul (by omega) (by omega)
  refine ⟨Int.natCast_nonneg _, Int.ofNat_le.2 (show _ ≤ 32640 by omega)⟩
theorem StepsOk.flo {n a b m : Int} (h : StepsOk n a b m) : 0 ≤ floI n (a % m) (b % m) m ∧ floI n (a % m) (b % m) m ≤ 65792 := by
  have h0 := h.n0; have h1 := h.n1; have m0 := h.m0
  have r0 := Int.emod_nonneg a (show m ≠ 0 by omega)
  have r1 := Int.emod_nonneg b (show m ≠ 0 by omega)
  have l0 := Int.emod_lt_of_pos a (show 0 < m by omega)
  have l1 := Int.emod_lt_of_pos b (show 0 < m by omega)
  unfold floI
  have := floSum_le n.toNat (a % m).toNat (b % m).toNat m.toNat (by omega) (by omega) (by omega)
  have h2 : (n.toNat + 1) * n.toNat ≤ 257 * 256 := Nat.mul_le_mul (by omega) (by omega)
  omega
theorem StepsOk.small {n a b m : Int} (h : StepsOk n a b m) : SmallAt (floI n (a % m) (b % m) m) n (a % m) (b % m) m 0 := by
  have m0 := h.m0; have m1 := h.m1
  have r0 := Int.emod_nonneg a (show m ≠ 0 by omega)
  have r1 := Int.emod_nonneg b (show m ≠ 0 by omega)
  have l0 := Int.emod_lt_of_pos a (show 0 < m by omega)
  have l1 := Int.emod_lt_of_pos b (show 0 < m by omega)
  have := h.flo
  exact ⟨h.n0, h.n1, r0, by omega, r1, by omega, m0, m1, by omega, by omega, by omega⟩

end Go.Proofs.YtdeghcgakkhbmaaGreat
namespace Go.Proofs.YtdeghcgakkhbmaaGreat
open Go.RowKit
structure FlineOk (f s n : Int) : Prop where
  f0 : 0 ≤ f
  s0 : 0 ≤ s
  s1 : s ≤ 281474976710656
  n0 : 1 ≤ n
  n1 : n ≤ 256
  all : f + (n - 1) * s ≤ 281474976710656
theorem FlineOk.last {f s n : Int} (h : FlineOk f s n) : 0 ≤ (n - 1) * s := Int.mul_nonneg (by have := h.n0; omega) h.s0
end Go.Proofs.YtdeghcgakkhbmaaGreat
namespace Go.Proofs.YtdeghcgakkhbmaaGreat
open Go.RowKit
end Go.Proofs.YtdeghcgakkhbmaaGreat
namespace Go.Proofs.YtdeghcgakkhbmaaGreat
open Go.RowKit
/-- A run: its first time, its step, how many. -/
structure RunT where
  f : Int
  s : Int
  c : Int
/-- The slice p len holds just these runs. -/
structure RunsIn (w : World) (p : Option Addr) (l : List RunT) : Prop where
  at' : ∀ (i : Nat) (r : RunT), l[i]? = some r → ∃ b o, p = some ⟨b, o, none⟩ ∧ w.cell? ⟨b, o + i * 3, none⟩ = some (.int .i64 r.f) ∧ w.cell? ⟨b, o + i * 3 + 1, none⟩ = some (.int .i64 r.s) ∧ w.cell? ⟨b, o + i * 3 + 2, none⟩ = some (.int .i64 r.c)
theorem cell_lt {w : World} {b o : Nat} {v : Value} (h : w.cell? ⟨b, o, none⟩ = some v) : b < w.heap.size := by
  by_cases hlt : b < w.heap.size
  · exact hlt
  · have hn : w.heap[b]? = none := by simp; omega
    simp [World.cell?, hn] at h
theorem RunsIn.below {w w' : World} {p : Option Addr} {l : List RunT} (h : RunsIn w p l) (hb : Below w.heap.size w w') : RunsIn w' p l := ⟨fun i r hr => by
  obtain ⟨b, o, e, h1, h2, h3⟩ := h.at' i r hr
  have hB := (bcell hb).1
  exact ⟨b, o, e, (hB b _ (cell_lt h1)).trans h1, (hB b _ (cell_lt h2)).trans h2, (hB b _ (cell_lt h3)).trans h3⟩⟩
theorem RunsIn.drew {w : World} {p : Option Addr} {l : List RunT} (h : RunsIn w p l) : RunsIn w.drew p l := ⟨h.at'⟩
def countTo (l : List RunT) : Nat → Int
  | 0 => 0
  | n + 1 => countTo l n + ((l[n]?).map (·.c)).getD 0

end Go.Proofs.YtdeghcgakkhbmaaGreat
namespace Go.Proofs.YtdeghcgakkhbmaaGreat
open Go.RowKit
def MT : Int := 281474976710656
def lastI (r : RunT) : Int := r.f + r.s * (r.c - 1)
def run1 (r : RunT) : Bool := decide (1 ≤ r.c) && decide (r.c ≤ 256) && decide (0 ≤ r.f) && decide (r.f ≤ 281474976710656) && decide (0 ≤ r.s) && decide (r.s ≤ 281474976710656)
def run2 (len i : Nat) (r : RunT) : Bool := (decide (r.c = 1) == decide (r.s = 0)) && (decide (1 < r.c) || decide ((i : Int) = (len : Int) - 1)) && decide (lastI r ≤ 281474976710656)
def run3 (q r : RunT) : Bool := decide (lastI q < r.f) && (r.f - lastI q != q.s)
def okAt (l : List RunT) (i : Nat) : Bool := match l[i]? with
  | some r => run1 r && run2 l.length i r && (decide (i = 0) || (match l[i - 1]? with | some q => run3 q r | none => true))
  | none => true
def okTo (l : List RunT) : Nat → Bool
  | 0 => true
  | i + 1 => okTo l i && okAt l i
def risesB (l : List RunT) : Bool := (decide (0 < l.length) && decide ((l.length : Int) ≤ 256)) && okTo l l.length && decide (countTo l l.length ≤ 256)

theorem RunsIn.cells {w : World} {b o : Nat} {l : List RunT} (h : RunsIn w (some ⟨b, o, none⟩) l) {i : Nat} {r : RunT} (hr : l[i]? = some r) : w.cell? ⟨b, o + i * 3, none⟩ = some (.int .i64 r.f) ∧ w.cell? ⟨b, o + i * 3 + 1, none⟩ = some (.int .i64 r.s) ∧ w.cell? ⟨b, o + i * 3 + 2, none⟩ = some (.int .i64 r.c) := by
  obtain ⟨b', o', e, h1, h2, h3⟩ := h.at' i r hr
  cases e
  exact ⟨h1, h2, h3⟩
theorem RunsIn.rex {L : List Nat} {w w' : World} {p : Option Addr} {l : List RunT} (h : RunsIn w p l) (hr : Rex L w w') (hL : L = []) : RunsIn w' p l := by subst hL; exact h.below hr.below

end Go.Proofs.YtdeghcgakkhbmaaGreat
namespace Go.Proofs.YtdeghcgakkhbmaaGreat
open Go.RowKit

/-- A run of a row that may be. -/
structure RunOk (r : RunT) : Prop where
  f0 : 0 ≤ r.f
  f1 : r.f ≤ 281474976710656
  s0 : 0 ≤ r.s
  s1 : r.s ≤ 281474976710656
  c0 : 1 ≤ r.c
  c1 : r.c ≤ 256
  one : r.c = 1 ↔ r.s = 0
  last : lastI r ≤ 281474976710656
def cnt : List RunT → Int
  | [] => 0
  | r :: l => r.c + cnt l
def timesR (r : RunT) : List Int := (List.range r.c.toNat).map fun (k : Nat) => r.f + r.s * (k : Int)
def timesL : List RunT → List Int
  | [] => []
  | r :: l => timesR r ++ timesL l
def Next (q r : RunT) : Prop := lastI q < r.f ∧ r.f - lastI q ≠ q.s
/-- Each one's first time is above the last one of the one ahead. -/
def Chain : List RunT → Prop
  | [] => True
  | r :: l => (∀ q, l.head? = some q → Next r q ∧ 1 < r.c) ∧ Chain l
structure RunsOk (l : List RunT) : Prop where
  some' : 0 < l.length
  few : l.length ≤ 256
  each : ∀ r, r ∈ l → RunOk r
  count : cnt l ≤ 256
  chain : Chain l

/-- The one of a place. -/
def atL : List RunT → Int → Option Int
  | [], _ => none
  | r :: l, i => if i < r.c then some (r.f + r.s * i) else atL l (i - r.c)
/-- How many are below a time. -/
def belowL : List RunT → Int → Int
  | [], _ => 0
  | r :: l, t => if t ≤ r.f then 0 else if lastI r < t then r.c + belowL l t else (t - r.f - 1) / r.s + 1

theorem Chain.tail {r : RunT} {l : List RunT} (h : Chain (r :: l)) : Chain l := h.2
end Go.Proofs.YtdeghcgakkhbmaaGreat
namespace Go.Proofs.YtdeghcgakkhbmaaGreat
open Go.RowKit
end Go.Proofs.YtdeghcgakkhbmaaGreat
namespace Go.Proofs.YtdeghcgakkhbmaaGreat
open Go.RowKit
def atV (l : List RunT) (i : Int) : Int := (atL l i).getD 0
def atE (l : List RunT) (i : Int) : Int := if (atL l i).isSome then 0 else 4
def atRel (p : Option Addr) (cap : Nat) (l : List RunT) (i : Int) (w : World) (a' : Act) (W : World) : Prop := Below w.heap.size w W ∧ ∃ (k : Nat) (j : Int), (∃ u : Nat → Value, a' = { tmps := #[(.slice p l.length cap), .int .i64 j, u 2, u 3, u 4, u 5, u 6, u 7, u 8, u 9, u 10, u 11, u 12, (.slice p l.length cap), .int .i64 (l.length : Int), .int .i64 (k : Int), u 16, u 17, u 18, u 19, u 20, u 21, u 22, u 23, u 24, u 25, u 26, u 27, u 28, u 29, u 30, u 31, u 32, u 33, u 34], defers := [] }) ∧ k ≤ l.length ∧ atL (l.drop k) j = atL l i ∧ 0 ≤ j ∧ j ≤ i
/-- The place of a time. -/
def findL (l : List RunT) (t : Int) : Option Int := if atL l (belowL l t) = some t then some (belowL l t) else none
end Go.Proofs.YtdeghcgakkhbmaaGreat
namespace Go.Proofs.YtdeghcgakkhbmaaGreat
open Go.RowKit
section
variable (P : Program)
theorem run_copyK (w : World) (dT sT ty elem : TypeId) (k g dLen dCap : Nat) (a : Addr) (sLen sCap : Nat) (cur : Array Value) (t : TypeId) (cs : List Value)
    (hu : P.underlying dT = some (.slice elem)) (hs : (P.info? elem).map (·.size) = some k)
    (hg : w.heap[g]? = some (.cells cur t (0, 0))) (hn : cs.length = Nat.min sLen dLen * k)
    (hsrc : ∀ j v, cs[j]? = some v → w.cell? (a.add j) = some v) (hfit : cs.length = cur.size) (h1 : ∀ v ∈ cs, v.oneCell' = true) :
    (Builtin.copy_ #[dT, sT] ty #[.slice (some ⟨g, 0, none⟩) dLen dCap, .slice (some a) sLen sCap]).run P w =
      .ok (goInt (Nat.min sLen dLen)) (w.setRow g cs.toArray) := by
  have hl := run_loadCells_list (P := P) w a cs hsrc
  have hst := run_storeCells_at P g 0 t cs 0 cur w hg (by omega) h1
  have e : cur.toList.take (0 + 0) ++ cs ++ cur.toList.drop (0 + 0 + cs.length) = cs := by
    have : cur.toList.drop cs.length = [] := List.drop_eq_nil_of_le (by simp [hfit])
    simp [this]
  rw [e] at hst
  cases hq : P.info? elem with
  | none => simp [hq] at hs
  | some i =>
    have hi : i.size = k := by simpa [hq] using hs
    have hm : k * min sLen dLen = cs.length := by rw [hn, Nat.mul_comm]
    have hm' : min sLen dLen * k = cs.length := hn.symm
    simp [Builtin.copy_, run_underlying hu, Builtin.lenOf, Builtin.firstCells, sizeOf, typeInfo, hq, hi, hm, hm', hl, hst]
end
/-- The places of the times from a to b. -/
def clipI (l : List RunT) (a : Int) : Int := belowL l a
def clipJ (l : List RunT) (a b : Int) : Int := if 281474976710656 ≤ b then cnt l else if belowL l a < belowL l (b + 1) then belowL l (b + 1) else belowL l a
end Go.Proofs.YtdeghcgakkhbmaaGreat
