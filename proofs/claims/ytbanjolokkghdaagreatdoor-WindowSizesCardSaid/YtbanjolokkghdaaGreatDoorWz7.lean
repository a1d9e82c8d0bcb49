/- Parts of the proof that follows: Layer fsum: steps. | Layer fsum: Line$1, tells. | Layer fsum: Line. | Layer fsum: what Line comes to. | Layer fsum: what Line comes to. | Layer runs: last, sure, what rises defers. | Layer runs: what a row of runs is laid as; many. -/
import Derived.Laws.EntriesVeiled
import Derived.Tactics
import Derived.Tactics2
import Derived.Defers
import Derived.Recover
import Derived.Laws.Pointers
import Derived.Test.YtbanjolokkghdaaGreatDoorWz6
set_option linter.unusedSimpArgs false
set_option linter.unusedVariables false
namespace Go.Proofs.YtbanjolokkghdaaGreatDoor
open Go.RowKit
end Go.Proofs.YtbanjolokkghdaaGreatDoor
namespace Go.Proofs.YtbanjolokkghdaaGreatDoor
open Go.RowKit
end Go.Proofs.YtbanjolokkghdaaGreatDoor
namespace Go.Proofs.YtbanjolokkghdaaGreatDoor
open Go.RowKit
end Go.Proofs.YtbanjolokkghdaaGreatDoor
namespace Go.Proofs.YtbanjolokkghdaaGreatDoor
open Go.RowKit
/-- The sum of f i over i below n. -/
def sumI (f : Nat → Int) : Nat → Int
  | 0 => 0
  | n + 1 => sumI f n + f n
/-- What steps adds up. -/
def stepSum (n a b m : Int) : Int := a / m * (n * (n - 1) / 2) + b / m * n + floI n (a % m) (b % m) m
theorem pairs_cast (n : Nat) : (n : Int) * ((n : Int) - 1) / 2 = ((n * (n - 1) / 2 : Nat) : Int) := by
  cases n with
  | zero => rfl
  | succ n => simp
theorem natAbs_mul_le {a b : Int} {x y : Nat} (ha : a.natAbs ≤ x) (hb : b.natAbs ≤ y) : (a * b).natAbs ≤ x * y := by
  rw [Int.natAbs_mul]; exact Nat.mul_le_mul ha hb
structure StepsOk (n a b m : Int) : Prop where
  n0 : 0 ≤ n
  n1 : n ≤ 256
  a1 : a.natAbs ≤ 2596148429267413814265248164610048
  b1 : b.natAbs ≤ 2596148429267413814265248164610048
  m0 : 1 ≤ m
  m1 : m ≤ 281474976710656
theorem StepsOk.pairs {n a b m : Int} (h : StepsOk n a b m) : 0 ≤ n * (n - 1) / 2 ∧ n * (n - 1) / 2 ≤ 32640 := by
  have h0 := h.n0; have h1 := h.n1
  obtain ⟨k, rfl⟩ := Int.eq_ofNat_of_zero_le h0
  rw [pairs_cast]
  have : k * (k - 1) ≤ 256 * 255 := Nat.mul_le_mul (by omega) (by omega)
  refine ⟨Int.natCast_nonneg _, Int.ofNat_le.2 (show _ ≤ 32640 by omega)⟩
theorem StepsOk.flo {n a b m : Int} (h : StepsOk n a b m) : 0 ≤ floI n (a % m) (b % m) m ∧ floI n (a % m) (b % m) m ≤ 65792 := by
  have h0 := h.n0; have h1 := h.n1; have m0 := h.m0
  have r0 := Int.emod_nonneg a (show m ≠ 0 by omega)
  have r1 := Int.emod_nonneg b (show m ≠ 0 by omega)
  have l0 := Int.emod_lt_of_pos a (show 0 < m by omega)
  have l1 := Int.emod_lt_of_pos b (show 0 < m by omega)
  unfold floI
  have := floSum_le n.toNat (a % m).toNat (b % m).toNat m.toNat (by omega) (by omega) (by omega)
  have h2 : (n.toNat + 1) * n.toNat ≤ 257 * 256 := Nat.mul_le_mul (by omega) (by omega)
  omega
theorem StepsOk.small {n a b m : Int} (h : StepsOk n a b m) : SmallAt (floI n (a % m) (b % m) m) n (a % m) (b % m) m 0 := by
  have m0 := h.m0; have m1 := h.m1
  have r0 := Int.emod_nonneg a (show m ≠ 0 by omega)
  have r1 := Int.emod_nonneg b (show m ≠ 0 by omega)
  have l0 := Int.emod_lt_of_pos a (show 0 < m by omega)
  have l1 := Int.emod_lt_of_pos b (show 0 < m by omega)
  have := h.flo
  exact ⟨h.n0, h.n1, r0, by omega, r1, by omega, m0, m1, by omega, by omega, by omega⟩

end Go.Proofs.YtbanjolokkghdaaGreatDoor
namespace Go.Proofs.YtbanjolokkghdaaGreatDoor
open Go.RowKit
structure FlineOk (f s n : Int) : Prop where
  f0 : 0 ≤ f
  s0 : 0 ≤ s
  s1 : s ≤ 281474976710656
  n0 : 1 ≤ n
  n1 : n ≤ 256
  all : f + (n - 1) * s ≤ 281474976710656
theorem FlineOk.last {f s n : Int} (h : FlineOk f s n) : 0 ≤ (n - 1) * s := Int.mul_nonneg (by have := h.n0; omega) h.s0
end Go.Proofs.YtbanjolokkghdaaGreatDoor
namespace Go.Proofs.YtbanjolokkghdaaGreatDoor
open Go.RowKit
set_option maxRecDepth 100000 in
set_option maxHeartbeats 1000000 in
theorem last_w (f s c c1 p x : Int) (w : World) (e1 : wrap64 (c - 1) = c1) (e2 : wrap64 (s * c1) = p) (e3 : wrap64 (f + p) = x) :
    Calls Tryz.prog 129 #[.agg #[.int .i64 f, .int .i64 s, .int .i64 c]] w fun e w' => e = .returned (.int .i64 x) ∧ Below w.heap.size w w' := by
  go_enter Tryz.func129, Tryz.ntmps129
  go_wp2
  refine bodyPost_ret (by simp [results, Tryz.results129, go_sem, e3]) rfl ⟨rfl, by exact belowAny⟩

set_option maxRecDepth 100000 in
set_option maxHeartbeats 1000000 in
theorem sure_t (w : World) : Calls Tryz.prog 181 #[.bool true] w fun e w' => e = .returned (.tuple #[]) ∧ w' = w := by
  go_enter Tryz.func181, Tryz.ntmps181
  go_wp2
  go_end0
  exact ⟨rfl, rfl⟩
set_option maxRecDepth 100000 in
set_option maxHeartbeats 1000000 in
theorem sure_f (w : World) : Calls Tryz.prog 181 #[.bool false] w fun e w' => e = .panicked [{ v := .iface 31 (.int .i64 170), recovered := false }] ∧ w' = w := by
  go_enter Tryz.func181, Tryz.ntmps181
  go_wp2
  simp [bodyPost]

theorem catch_panicking (p : Addr) (x : Bool) (u : TypeId) (pv : Value) (older : List PanicEntry) (w : World) (hc : w.cell? p = some (.bool x)) (hz : w.frozen? p = false) :
    CallsD Tryz.prog 180 #[.pointer (some p)] (.panicking ({ v := .iface u pv, recovered := false } :: older)) w fun e u' w' =>
      e = .returned (.tuple #[]) ∧ u' = .panicking ({ v := .iface u pv, recovered := true } :: older) ∧ w' = w.setCell p (.bool false) := by
  refine callsD_of_wpS Tryz.func180 rfl fun c₀ cs hu => ?_
  apply wpS_seq
  apply wpS_region
  simp [wpOpsS, go_sem, recoverD, hu, Tryz.ntmps180, Exit.thenS]
  refine wpS_cond (t := true) (by simp [Act.eval, Array.replicate]) ?_
  simp only [if_true]
  apply wpS_region
  simp [wpOpsS, go_sem, hc, hz, bodyPostS, results, Tryz.results180]

theorem catch_idle (p : Addr) (w : World) :
    CallsD Tryz.prog 180 #[.pointer (some p)] .returning w fun e u' w' => e = .returned (.tuple #[]) ∧ u' = .returning ∧ w' = w := by
  refine callsD_of_wpS Tryz.func180 rfl fun c₀ cs hu => ?_
  apply wpS_seq
  apply wpS_region
  simp [wpOpsS, go_sem, recoverD, hu, Tryz.ntmps180, Exit.thenS]
  refine wpS_cond (t := false) (by simp [Act.eval, Array.replicate]) ?_
  simp only [Bool.false_eq_true, if_false]
  refine wpS_of_wp (wp_skip ?_)
  cases c₀
  simp_all [bodyPostS, results, Tryz.results180]
end Go.Proofs.YtbanjolokkghdaaGreatDoor
namespace Go.Proofs.YtbanjolokkghdaaGreatDoor
open Go.RowKit
/-- A run: its first time, its step, how many. -/
structure RunT where
  f : Int
  s : Int
  c : Int
/-- The slice p len holds just these runs. -/
structure RunsIn (w : World) (p : Option Addr) (l : List RunT) : Prop where
  at' : ∀ (i : Nat) (r : RunT), l[i]? = some r → ∃ b o, p = some ⟨b, o, none⟩ ∧ w.cell? ⟨b, o + i * 3, none⟩ = some (.int .i64 r.f) ∧ w.cell? ⟨b, o + i * 3 + 1, none⟩ = some (.int .i64 r.s) ∧ w.cell? ⟨b, o + i * 3 + 2, none⟩ = some (.int .i64 r.c)
theorem cell_lt {w : World} {b o : Nat} {v : Value} (h : w.cell? ⟨b, o, none⟩ = some v) : b < w.heap.size := by
  by_cases hlt : b < w.heap.size
  · exact hlt
  · have hn : w.heap[b]? = none := by simp; omega
    simp [World.cell?, hn] at h
theorem RunsIn.below {w w' : World} {p : Option Addr} {l : List RunT} (h : RunsIn w p l) (hb : Below w.heap.size w w') : RunsIn w' p l := ⟨fun i r hr => by
  obtain ⟨b, o, e, h1, h2, h3⟩ := h.at' i r hr
  have hB := (bcell hb).1
  exact ⟨b, o, e, (hB b _ (cell_lt h1)).trans h1, (hB b _ (cell_lt h2)).trans h2, (hB b _ (cell_lt h3)).trans h3⟩⟩
theorem RunsIn.drew {w : World} {p : Option Addr} {l : List RunT} (h : RunsIn w p l) : RunsIn w.drew p l := ⟨h.at'⟩
def countTo (l : List RunT) : Nat → Int
  | 0 => 0
  | n + 1 => countTo l n + ((l[n]?).map (·.c)).getD 0

set_option maxRecDepth 100000 in
set_option maxHeartbeats 2000000 in
theorem many_w (p : Option Addr) (len cap : Nat) (l : List RunT) (w : World) (hl : l.length = len) (hlen : len ≤ 256) (h : RunsIn w p l) (hc : ∀ (i : Nat) (r : RunT), l[i]? = some r → 0 ≤ r.c ∧ r.c ≤ 256) :
    Calls Tryz.prog 130 #[.slice p len cap] w fun e w' => e = .returned (.int .i64 (countTo l len)) ∧ Below w.heap.size w w' := by
  go_enter Tryz.func130, Tryz.ntmps130
  go_wp2
  refine wp_loop (fun a' W => Below w.heap.size w W ∧ ∃ (i : Nat) (n : Int) (u1 u4 u5 u9 u10 u11 u12 u13 u14 u15 u16 u17 : Value), a' = { tmps := #[(.slice p len cap), u1, .int .i64 0, .int .i64 n, u4, u5, (.slice p len cap), .int .i64 (len : Int), .int .i64 (i : Int), u9, u10, u11, u12, u13, u14, u15, u16, u17], defers := [] } ∧ i ≤ len ∧ n = countTo l i ∧ 0 ≤ n ∧ n ≤ 256 * (i : Int)) (fun a' _ => len - (intAt (a'.tmps.getD 8 undef)).toNat) ?_ ?_
  · exact ⟨Below.refl _ _, 0, 0, _, _, _, _, _, _, _, _, _, _, _, _, rfl, by omega, rfl, by omega, by omega⟩
  · rintro a' W ⟨hW, i, n, u1, u4, u5, u9, u10, u11, u12, u13, u14, u15, u16, u17, rfl, hi, hn, hn0, hn1⟩
    have hz := hW.size
    rcases Nat.lt_or_ge i len with hlt | hge
    · have hd : decide ((i : Int) < (len : Int)) = true := by simp; omega
      obtain ⟨r, hr⟩ : ∃ r, l[i]? = some r := ⟨l[i]'(by omega), List.getElem?_eq_getElem (by omega)⟩
      obtain ⟨b, o, rfl, k0, k1, k2⟩ := (h.below hW).at' i r hr
      subst hn
      have hcr := hc i r hr
      have e1 : wrap64 (countTo l i + r.c) = countTo l i + r.c := by rw [wrap64_eq]; omega
      have e2 : wrap64 ((i : Int) + 1) = ((i + 1 : Nat) : Int) := by rw [wrap64_eq]; omega
      have e3 : countTo l (i + 1) = countTo l i + r.c := by simp [countTo, hr]
      go_wp2
      rw [show (i : Int) + 1 = ((i + 1 : Nat) : Int) by omega]
      refine ⟨⟨belowAny, i + 1, countTo l i + r.c, _, _, _, _, _, _, _, _, _, _, _, _, rfl, by omega, by omega, by omega, by omega⟩, by simp [intAt]; omega⟩
    · have hd : decide ((i : Int) < (len : Int)) = false := by simp; omega
      have e : i = len := by omega
      go_wp2
      subst e
      subst hn
      go_ret
      exact ⟨rfl, hW⟩
end Go.Proofs.YtbanjolokkghdaaGreatDoor
