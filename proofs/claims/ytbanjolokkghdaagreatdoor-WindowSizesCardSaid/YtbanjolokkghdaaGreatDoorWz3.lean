/- Parts of the proof that follows: Layer wide: Mul, Int. Every number. | Layer wide: Int. Every number. | math/bits.Len64, LeadingZeros64. Every word. | math/bits.Div64, its long division by halves. Every word, the divisor above the upper word. | math/bits.Div64. Every word, the divisor above the upper word. | Layer wide: size, parts, signed. Every number. -/
import Derived.Laws.MathBits
import Derived.Lib.Hide
import Derived.Deep.DeepCutAuto
import Derived.Deep.CutBlock
import Derived.BigQuiet
import Derived.Test.YtbanjolokkghdaaGreatDoorWz2
set_option linter.unusedSimpArgs false
set_option linter.unusedVariables false
namespace Go.Proofs.YtbanjolokkghdaaGreatDoor
open Go.RowKit

def mulHi (x y : Int) : Int := x * y / 18446744073709551616
def mulLo (x y : Int) : Int := x * y % 18446744073709551616
def I64 (a : Int) : Prop := -9223372036854775808 ≤ a ∧ a ≤ 9223372036854775807
def U64 (a : Int) : Prop := 0 ≤ a ∧ a < 18446744073709551616

theorem c_Mul64 (x y : Int) (hx : U64 x) (hy : U64 y) (w : World) :
    Calls Tryz.prog 256 #[.int .u64 x, .int .u64 y] w fun e w' => e = .returned (.tuple #[.int .u64 (mulHi x y), .int .u64 (mulLo x y)]) ∧ w' = w := by
  obtain ⟨x, rfl⟩ := Int.eq_ofNat_of_zero_le hx.1
  obtain ⟨y, rfl⟩ := Int.eq_ofNat_of_zero_le hy.1
  have h1 := hx.2; have h2 := hy.2
  have e := mul64_nat x y (by omega) (by omega) w
  unfold mulHi mulLo
  simpa using e

theorem mul_bd {a b : Int} (ha : I64 a) (hb : I64 b) : -85070591730234615865843651857942052864 ≤ a * b ∧ a * b ≤ 85070591730234615865843651857942052864 := by
  have h1 : (a * b).natAbs = a.natAbs * b.natAbs := Int.natAbs_mul a b
  have h2 : a.natAbs * b.natAbs ≤ 9223372036854775808 * 9223372036854775808 := Nat.mul_le_mul (by obtain ⟨_, _⟩ := ha; omega) (by obtain ⟨_, _⟩ := hb; omega)
  omega
theorem W128_mul {a b : Int} (ha : I64 a) (hb : I64 b) : W128 (a * b) := by
  have := mul_bd ha hb; unfold W128; omega

theorem mul_pp (a b : Int) (ha : I64 a) (hb : I64 b) (h1 : 0 ≤ a) (h2 : 0 ≤ b) : wrap64 (mulHi (IntKind.u64.wrap a) (IntKind.u64.wrap b)) = hiW (a * b) := by
  have := mul_bd ha hb
  obtain ⟨_, _⟩ := ha; obtain ⟨_, _⟩ := hb
  have e1 : IntKind.u64.wrap a = a := by rw [u64_eq]; omega
  have e2 : IntKind.u64.wrap b = b := by rw [u64_eq]; omega
  rw [e1, e2, wrap64_eq]; unfold mulHi hiW; generalize a * b = p at *; omega
theorem mul_np (a b : Int) (ha : I64 a) (hb : I64 b) (h1 : a < 0) (h2 : 0 ≤ b) : wrap64 (IntKind.u64.wrap (mulHi (IntKind.u64.wrap a) (IntKind.u64.wrap b) - IntKind.u64.wrap b)) = hiW (a * b) := by
  have := mul_bd ha hb
  obtain ⟨_, _⟩ := ha; obtain ⟨_, _⟩ := hb
  have e1 : IntKind.u64.wrap a = a + 18446744073709551616 := by rw [u64_eq]; omega
  have e2 : IntKind.u64.wrap b = b := by rw [u64_eq]; omega
  have e3 : mulHi (a + 18446744073709551616) b = a * b / 18446744073709551616 + b := by unfold mulHi; rw [Int.add_mul]; generalize a * b = p; omega
  rw [e1, e2, e3, wrap64_eq, u64_eq]; unfold hiW; generalize a * b = p at *; omega
theorem mul_pn (a b : Int) (ha : I64 a) (hb : I64 b) (h1 : 0 ≤ a) (h2 : b < 0) : wrap64 (IntKind.u64.wrap (mulHi (IntKind.u64.wrap a) (IntKind.u64.wrap b) - IntKind.u64.wrap a)) = hiW (a * b) := by
  have := mul_bd ha hb
  obtain ⟨_, _⟩ := ha; obtain ⟨_, _⟩ := hb
  have e1 : IntKind.u64.wrap a = a := by rw [u64_eq]; omega
  have e2 : IntKind.u64.wrap b = b + 18446744073709551616 := by rw [u64_eq]; omega
  have e3 : mulHi a (b + 18446744073709551616) = a * b / 18446744073709551616 + a := by unfold mulHi; rw [Int.mul_add]; generalize a * b = p; omega
  rw [e1, e2, e3, wrap64_eq, u64_eq]; unfold hiW; generalize a * b = p at *; omega
theorem mul_nn (a b : Int) (ha : I64 a) (hb : I64 b) (h1 : a < 0) (h2 : b < 0) : wrap64 (IntKind.u64.wrap (IntKind.u64.wrap (mulHi (IntKind.u64.wrap a) (IntKind.u64.wrap b) - IntKind.u64.wrap b) - IntKind.u64.wrap a)) = hiW (a * b) := by
  have := mul_bd ha hb
  obtain ⟨_, _⟩ := ha; obtain ⟨_, _⟩ := hb
  have e1 : IntKind.u64.wrap a = a + 18446744073709551616 := by rw [u64_eq]; omega
  have e2 : IntKind.u64.wrap b = b + 18446744073709551616 := by rw [u64_eq]; omega
  have e3 : mulHi (a + 18446744073709551616) (b + 18446744073709551616) = a * b / 18446744073709551616 + a + b + 18446744073709551616 := by unfold mulHi; rw [Int.add_mul, Int.mul_add, Int.mul_add]; generalize a * b = p; omega
  rw [e1, e2, e3, wrap64_eq, u64_eq, u64_eq]; unfold hiW; generalize a * b = p at *; omega
theorem mul_lo (a b : Int) : mulLo (IntKind.u64.wrap a) (IntKind.u64.wrap b) = loW (a * b) := by
  rw [u64_eq, u64_eq]; unfold mulLo loW; exact (Int.mul_emod a b _).symm

set_option maxRecDepth 100000 in
set_option maxHeartbeats 400000 in
theorem c_Mul_pp (a b : Int) (w : World) (h1 : 0 ≤ a) (h2 : 0 ≤ b) :
    Calls Tryz.prog 220 #[.int .i64 a, .int .i64 b] w fun e w' => e = .returned (.agg #[.int .i64 (wrap64 (mulHi (IntKind.u64.wrap a) (IntKind.u64.wrap b))), .int .u64 (mulLo (IntKind.u64.wrap a) (IntKind.u64.wrap b))]) ∧ Below w.heap.size w w' := by
  go_enter Tryz.func220, Tryz.ntmps220
  go_wp2_with fail
  refine (c_Mul64 _ _ (u64_bd a) (u64_bd b) _).mono ?_
  rintro e w1 ⟨rfl, rfl⟩
  go_wp2
  refine bodyPost_ret (v := .agg #[.int .i64 (wrap64 (mulHi (IntKind.u64.wrap a) (IntKind.u64.wrap b))), .int .u64 (mulLo (IntKind.u64.wrap a) (IntKind.u64.wrap b))]) (by simp [results, Tryz.results220, go_sem]) rfl ⟨rfl, ?_⟩
  exact (Below.refl _ _).alloc (Nat.le_refl _) _

set_option maxRecDepth 100000 in
set_option maxHeartbeats 400000 in
theorem c_Mul_np (a b : Int) (w : World) (h1 : a < 0) (h2 : 0 ≤ b) :
    Calls Tryz.prog 220 #[.int .i64 a, .int .i64 b] w fun e w' => e = .returned (.agg #[.int .i64 (wrap64 (IntKind.u64.wrap (mulHi (IntKind.u64.wrap a) (IntKind.u64.wrap b) - IntKind.u64.wrap b))), .int .u64 (mulLo (IntKind.u64.wrap a) (IntKind.u64.wrap b))]) ∧ Below w.heap.size w w' := by
  go_enter Tryz.func220, Tryz.ntmps220
  go_wp2_with fail
  refine (c_Mul64 _ _ (u64_bd a) (u64_bd b) _).mono ?_
  rintro e w1 ⟨rfl, rfl⟩
  go_wp2
  refine bodyPost_ret (v := .agg #[.int .i64 (wrap64 (IntKind.u64.wrap (mulHi (IntKind.u64.wrap a) (IntKind.u64.wrap b) - IntKind.u64.wrap b))), .int .u64 (mulLo (IntKind.u64.wrap a) (IntKind.u64.wrap b))]) (by simp [results, Tryz.results220, go_sem]) rfl ⟨rfl, ?_⟩
  exact (Below.refl _ _).alloc (Nat.le_refl _) _

set_option maxRecDepth 100000 in
set_option maxHeartbeats 400000 in
theorem c_Mul_pn (a b : Int) (w : World) (h1 : 0 ≤ a) (h2 : b < 0) :
    Calls Tryz.prog 220 #[.int .i64 a, .int .i64 b] w fun e w' => e = .returned (.agg #[.int .i64 (wrap64 (IntKind.u64.wrap (mulHi (IntKind.u64.wrap a) (IntKind.u64.wrap b) - IntKind.u64.wrap a))), .int .u64 (mulLo (IntKind.u64.wrap a) (IntKind.u64.wrap b))]) ∧ Below w.heap.size w w' := by
  go_enter Tryz.func220, Tryz.ntmps220
  go_wp2_with fail
  refine (c_Mul64 _ _ (u64_bd a) (u64_bd b) _).mono ?_
  rintro e w1 ⟨rfl, rfl⟩
  go_wp2
  refine bodyPost_ret (v := .agg #[.int .i64 (wrap64 (IntKind.u64.wrap (mulHi (IntKind.u64.wrap a) (IntKind.u64.wrap b) - IntKind.u64.wrap a))), .int .u64 (mulLo (IntKind.u64.wrap a) (IntKind.u64.wrap b))]) (by simp [results, Tryz.results220, go_sem]) rfl ⟨rfl, ?_⟩
  exact (Below.refl _ _).alloc (Nat.le_refl _) _

set_option maxRecDepth 100000 in
set_option maxHeartbeats 400000 in
theorem c_Mul_nn (a b : Int) (w : World) (h1 : a < 0) (h2 : b < 0) :
    Calls Tryz.prog 220 #[.int .i64 a, .int .i64 b] w fun e w' => e = .returned (.agg #[.int .i64 (wrap64 (IntKind.u64.wrap (IntKind.u64.wrap (mulHi (IntKind.u64.wrap a) (IntKind.u64.wrap b) - IntKind.u64.wrap b) - IntKind.u64.wrap a))), .int .u64 (mulLo (IntKind.u64.wrap a) (IntKind.u64.wrap b))]) ∧ Below w.heap.size w w' := by
  go_enter Tryz.func220, Tryz.ntmps220
  go_wp2_with fail
  refine (c_Mul64 _ _ (u64_bd a) (u64_bd b) _).mono ?_
  rintro e w1 ⟨rfl, rfl⟩
  go_wp2
  refine bodyPost_ret (v := .agg #[.int .i64 (wrap64 (IntKind.u64.wrap (IntKind.u64.wrap (mulHi (IntKind.u64.wrap a) (IntKind.u64.wrap b) - IntKind.u64.wrap b) - IntKind.u64.wrap a))), .int .u64 (mulLo (IntKind.u64.wrap a) (IntKind.u64.wrap b))]) (by simp [results, Tryz.results220, go_sem]) rfl ⟨rfl, ?_⟩
  exact (Below.refl _ _).alloc (Nat.le_refl _) _


theorem c_Mul (a b : Int) (w : World) (ha : I64 a) (hb : I64 b) :
    Calls Tryz.prog 220 #[.int .i64 a, .int .i64 b] w fun e w' => e = .returned (wideV (a * b)) ∧ Below w.heap.size w w' := by
  unfold wideV
  rw [← mul_lo a b]
  rcases Int.lt_or_le a 0 with h1 | h1 <;> rcases Int.lt_or_le b 0 with h2 | h2
  · rw [← mul_nn a b ha hb h1 h2]; exact c_Mul_nn a b w h1 h2
  · rw [← mul_np a b ha hb h1 h2]; exact c_Mul_np a b w h1 h2
  · rw [← mul_pn a b ha hb h1 h2]; exact c_Mul_pn a b w h1 h2
  · rw [← mul_pp a b ha hb h1 h2]; exact c_Mul_pp a b w h1 h2

end Go.Proofs.YtbanjolokkghdaaGreatDoor
namespace Go.Proofs.YtbanjolokkghdaaGreatDoor
open Go.RowKit
instance (n : Int) : Decidable (I64 n) := by unfold I64; infer_instance
def inI (n : Int) : Bool := decide (I64 n)
theorem inI_in {n : Int} (h : I64 n) : inI n = true := by simp [inI, h]
theorem inI_iff (a : Int) (ha : W128 a) : (hiW a = hiW (wrap64 (loW a)) ∧ loW a = loW (wrap64 (loW a))) ↔ I64 a := by
  obtain ⟨_, _⟩ := ha; rw [wrap64_eq]; unfold I64 hiW loW; omega
theorem wrap_lo {a : Int} (h : I64 a) : wrap64 (loW a) = a := by rw [wrap64_eq]; obtain ⟨_, _⟩ := h; unfold loW; omega
theorem wv_lo (a : Int) : wv (inI a) (wrap64 (loW a)) = wv (inI a) a := by
  by_cases h : I64 a
  · rw [wrap_lo h]
  · simp [inI, h, wv]

set_option maxRecDepth 100000 in
set_option maxHeartbeats 400000 in
theorem c_toldI (a : Int) (f : Bool) (w : World) :
    Calls Tryz.prog 255 #[.int .i64 a, .bool f] w fun e w' => e = .returned (.tuple #[.int .i64 (wv f a), .int .i64 (we f)]) ∧ Below w.heap.size w w' := by
  cases f with
  | true =>
    have e1 : wv true a = a := rfl
    have e2 : we true = 0 := rfl
    rw [e1, e2]
    clear e1 e2
    go_enter Tryz.func255, Tryz.ntmps255
    go_wp2
    go_ret2
    exact ⟨rfl, Below.refl _ _⟩
  | false =>
    have e1 : wv false a = 0 := rfl
    have e2 : we false = 5 := rfl
    rw [e1, e2]
    clear e1 e2
    go_enter Tryz.func255, Tryz.ntmps255
    go_wp2
    go_ret2
    exact ⟨rfl, Below.refl _ _⟩

theorem wrap_I64 (n : Int) : I64 (wrap64 n) := by unfold I64; rw [wrap64_eq]; omega

set_option maxRecDepth 100000 in
set_option maxHeartbeats 400000 in
theorem c_Int (a : Int) (w : World) (ha : W128 a) :
    Calls Tryz.prog 217 #[wideV a] w fun e w' => e = .returned (.tuple #[.int .i64 (wv (inI a) a), .int .i64 (we (inI a))]) ∧ Below w.heap.size w w' := by
  unfold wideV
  go_enter Tryz.func217, Tryz.ntmps217
  go_wp2
  refine wp_facts (fun W => Below w.heap.size w W ∧ Blk W w.heap.size #[.int .i64 (hiW a), .int .u64 (loW a)] 238) ⟨(Below.refl _ _).alloc (Nat.le_refl _) _, (by repeat (first | (refine Blk.new' ?_; simp; done) | refine Blk.alloc ?_ _))⟩ ?_
  rintro W ⟨hW, b1⟩
  refine wp_region_nd 14 16 [] (fun W' => Rex [] W W' ∧ Blk W' w.heap.size #[.int .i64 (hiW a), .int .u64 (loW a)] 238) mixed (by kernel_rfl) rfl ⟨(Rex.refl _ _).drew, b1⟩ (fun w w' ⟨h0, h1⟩ hr => ⟨h0.trans hr, h1.rex hr (by simp <;> omega)⟩) (fun c a d v w h => by cases d <;> exact h) ?_
  iterate 7
    apply nd_det (hg := rfl) (hal := rfl)
    · intro a W' hC hE
      obtain ⟨_, k1⟩ := hC
      have k1 := k1.cell
      first
        | (simp [Oper.looksAt, Op.operands, Call.operands, envOf, Det] at hE; simp [go_sem, Act.eval, IntWalk.i64_left, hE, k1]; try rfl)
        | (clear hE; simp [go_sem, Act.eval, IntWalk.i64_left, k1]; try rfl)
  refine nd_callv2 rfl rfl (fun W' hC => c_Of (wrap64 (loW a)) W' (wrap_I64 _)) (fun a W' hC hE => ?_) ?_
  · obtain ⟨_, k1⟩ := hC
    have k1 := k1.cell
    first
      | (simp [Oper.looksAt, Op.operands, Call.operands, envOf, Det] at hE; simp [go_sem, Act.eval, IntWalk.i64_left, hE, k1]; try rfl)
      | (clear hE; simp [go_sem, Act.eval, IntWalk.i64_left, k1]; try rfl)
  unfold wideV
  have hiff := inI_iff a ha
  refine nd_det (.bool (inI a)) rfl rfl (fun a' W' hC hE => ?_) ?_
  · simp [Oper.looksAt, Op.operands, envOf, Det] at hE
    simp [go_sem, Act.eval, hE]
    unfold inI
    by_cases h : I64 a
    · obtain ⟨h1, h2⟩ := hiff.2 h
      rw [if_pos h1, if_pos h2, decide_eq_true h]
    · rw [decide_eq_false h]
      split
      · split
        · exact absurd (hiff.1 ⟨‹_›, ‹_›⟩) h
        · rfl
      · rfl
  refine nd_callv2 rfl rfl (fun W' hC => c_toldI (wrap64 (loW a)) (inI a) W') (fun a W' hC hE => ?_) ?_
  · obtain ⟨_, k1⟩ := hC
    have k1 := k1.cell
    first
      | (simp [Oper.looksAt, Op.operands, Call.operands, envOf, Det] at hE; simp [go_sem, Act.eval, IntWalk.i64_left, hE, k1]; try rfl)
      | (clear hE; simp [go_sem, Act.eval, IntWalk.i64_left, k1]; try rfl)
  iterate 4
    apply nd_det (hg := rfl) (hal := rfl)
    · intro a W' hC hE
      obtain ⟨_, k1⟩ := hC
      have k1 := k1.cell
      first
        | (simp [Oper.looksAt, Op.operands, Call.operands, envOf, Det] at hE; simp [go_sem, Act.eval, IntWalk.i64_left, hE, k1]; try rfl)
        | (clear hE; simp [go_sem, Act.eval, IntWalk.i64_left, k1]; try rfl)
  rintro W2 ⟨hR, c1⟩
  simp only [ndFinR, Det, forall_eq]
  intros
  repeat (rename GDet _ _ _ _ => hgd; clear hgd)
  simp only [Act.put, List.setIfInBounds_toArray, List.set_cons_zero, List.set_cons_succ]
  refine wpList_nil ?_
  clear hiff
  go_wp2
  go_ret2
  exact ⟨by simp [wv_lo], hW.trans (hR.of_priv hW.size)⟩
end Go.Proofs.YtbanjolokkghdaaGreatDoor
namespace Go.Proofs.YtbanjolokkghdaaGreatDoor
open Go.RowKit

def len64 (x : Int) : Int := (Go.bitLen x.toNat : Int)
theorem len_div (x d : Int) (b : Nat) (hd : d = ((2 ^ b : Nat) : Int)) (h : d ≤ x) : len64 x = b + len64 (x / d) := by
  have hp : 0 < 2 ^ b := Nat.two_pow_pos b
  have e : (x / d).toNat = x.toNat / 2 ^ b := by
    subst hd
    obtain ⟨n, rfl⟩ := Int.eq_ofNat_of_zero_le (show 0 ≤ x by omega)
    rw [← Int.natCast_ediv]; rfl
  have hne : x.toNat / 2 ^ b ≠ 0 := by
    have : 2 ^ b ≤ x.toNat := by omega
    have := Nat.div_pos this hp
    omega
  unfold len64
  rw [e, Go.bitLen_shift x.toNat b hne]
  omega
theorem len_small (x : Int) (h0 : 0 ≤ x) (h : x < 256) : 0 ≤ len64 x ∧ len64 x ≤ 8 := by
  have := Go.bitLen_le8 x.toNat (by omega); unfold len64; omega
theorem ret_int {k : IntKind} {a b : Int} (h : a = b) : Ending.returned (.int k a) = .returned (.int k b) := by rw [h]

set_option maxRecDepth 100000 in
set_option maxHeartbeats 1000000 in
theorem c_Len64 (x : Int) (w : World) (h0 : 0 ≤ x) (h1 : x < 18446744073709551616) :
    Calls Tryz.prog 280 #[.int .u64 x] w fun e w' => e = .returned (.int .i64 (len64 x)) ∧ w' = w := by
  go_enter Tryz.func280, Tryz.ntmps280
  go_wp2
  all_goals
    simp only [Go.len8tab_get]
    go_ret
    refine ⟨ret_int ?_, rfl⟩
  all_goals
    (try simp only [wrap64_eq])
    first
      | (have a := len_div x 4294967296 32 rfl (by omega); have b := len_div (x / 4294967296) 65536 16 rfl (by omega); have c := len_div (x / 4294967296 / 65536) 256 8 rfl (by omega); have d := len_small (x / 4294967296 / 65536 / 256) (by omega) (by omega); unfold len64 at *; omega)
      | (have a := len_div x 4294967296 32 rfl (by omega); have b := len_div (x / 4294967296) 65536 16 rfl (by omega); have d := len_small (x / 4294967296 / 65536) (by omega) (by omega); unfold len64 at *; omega)
      | (have a := len_div x 4294967296 32 rfl (by omega); have c := len_div (x / 4294967296) 256 8 rfl (by omega); have d := len_small (x / 4294967296 / 256) (by omega) (by omega); unfold len64 at *; omega)
      | (have a := len_div x 4294967296 32 rfl (by omega); have d := len_small (x / 4294967296) (by omega) (by omega); unfold len64 at *; omega)
      | (have b := len_div x 65536 16 rfl (by omega); have c := len_div (x / 65536) 256 8 rfl (by omega); have d := len_small (x / 65536 / 256) (by omega) (by omega); unfold len64 at *; omega)
      | (have b := len_div x 65536 16 rfl (by omega); have d := len_small (x / 65536) (by omega) (by omega); unfold len64 at *; omega)
      | (have c := len_div x 256 8 rfl (by omega); have d := len_small (x / 256) (by omega) (by omega); unfold len64 at *; omega)
      | (have d := len_small x (by omega) (by omega); unfold len64 at *; omega)

theorem len64_bd (x : Int) (h0 : 1 ≤ x) (h1 : x < 18446744073709551616) : ∃ l : Nat, len64 x = l ∧ 1 ≤ l ∧ l ≤ 64 ∧ ((2 ^ (l - 1) : Nat) : Int) ≤ x ∧ x < ((2 ^ l : Nat) : Int) := by
  obtain ⟨a, b⟩ := Go.bitLen_spec x.toNat
  have b := b (by omega)
  refine ⟨Go.bitLen x.toNat, rfl, ?_, ?_, by omega, by omega⟩
  · rcases Nat.eq_zero_or_pos (Go.bitLen x.toNat) with h | h
    · rw [h] at a; simp at a; omega
    · exact h
  · rcases Nat.lt_or_ge 64 (Go.bitLen x.toNat) with h | h
    · have : 2 ^ 64 ≤ 2 ^ (Go.bitLen x.toNat - 1) := Nat.pow_le_pow_right (by decide) (by omega)
      omega
    · exact h

set_option maxRecDepth 100000 in
set_option maxHeartbeats 1000000 in
theorem c_LZ64 (x : Int) (w : World) (h0 : 1 ≤ x) (h1 : x < 18446744073709551616) :
    Calls Tryz.prog 275 #[.int .u64 x] w fun e w' => e = .returned (.int .i64 (64 - len64 x)) ∧ w' = w := by
  obtain ⟨l, e, a, b, _, _⟩ := len64_bd x h0 h1
  have g : 0 ≤ len64 x ∧ len64 x ≤ 64 := by omega
  clear a b e
  obtain ⟨g1, g2⟩ := g
  go_enter Tryz.func275, Tryz.ntmps275
  go_wp2_with fail
  refine (c_Len64 x _ (by omega) h1).mono ?_
  rintro e w1 ⟨rfl, rfl⟩
  go_wp2
  go_ret
  exact ⟨rfl, rfl⟩
end Go.Proofs.YtbanjolokkghdaaGreatDoor
namespace Go.Proofs.YtbanjolokkghdaaGreatDoor
open Go.RowKit

/-! ### One step of the division: a guess that is lowered -/
/-- The guess q, with what it leaves: not below the true quotient. -/
structure Guess (Y p z U t q r : Int) : Prop where
  eq : q * p + r = U
  q0 : 0 ≤ q
  qt : q ≤ 4294967297
  r0 : 0 ≤ r
  rt : r < 4294967296
  ge : (U * 4294967296 + t) / Y ≤ q

structure Divs (Y p z U t : Int) : Prop where
  y : Y = p * 4294967296 + z
  p1 : 2147483648 ≤ p
  p2 : p < 4294967296
  z1 : 0 ≤ z
  z2 : z < 4294967296
  u1 : 0 ≤ U
  u2 : U < Y
  t1 : 0 ≤ t
  t2 : t < 4294967296

theorem Divs.quo_lt {Y p z U t : Int} (D : Divs Y p z U t) : (U * 4294967296 + t) / Y < 4294967296 := by
  obtain ⟨_, _, _, _, _, _, _, _, _⟩ := D
  exact Int.ediv_lt_of_lt_mul (by omega) (by omega)
theorem Divs.start {Y p z U t : Int} (D : Divs Y p z U t) : Guess Y p z U t (U / p) (U - U / p * p) := by
  obtain ⟨hy, p1, p2, z1, z2, u1, u2, t1, t2⟩ := D
  have hm := Int.emod_add_mul_ediv U p
  have hl := Int.emod_lt_of_pos U (show 0 < p by omega)
  have hn := Int.emod_nonneg U (show p ≠ 0 by omega)
  have hc : p * (U / p) = U / p * p := Int.mul_comm _ _
  refine ⟨by omega, Int.ediv_nonneg u1 (by omega), ?_, by omega, by omega, ?_⟩
  · have : U / p < 4294967298 := Int.ediv_lt_of_lt_mul (by omega) (by omega)
    omega
  · have : (U * 4294967296 + t) / Y < U / p + 1 := Int.ediv_lt_of_lt_mul (by omega) (by
      rw [hy, Int.mul_add, ← Int.mul_assoc]
      have h1 : (U / p + 1) * p = U / p * p + p := by rw [Int.add_mul]; omega
      have h2 : 0 ≤ (U / p + 1) * z := Int.mul_nonneg (by have := Int.ediv_nonneg u1 (show 0 ≤ p by omega); omega) z1
      rw [h1]
      omega)
    omega
theorem Guess.dec {Y p z U t q r : Int} (D : Divs Y p z U t) (G : Guess Y p z U t q r) (hc : 4294967296 ≤ q ∨ 4294967296 * r + t < q * z) : (U * 4294967296 + t) / Y ≤ q - 1 ∧ (q - 1) * p + (r + p) = U ∧ 0 ≤ q - 1 := by
  have hl := D.quo_lt
  have h0 : 0 ≤ (U * 4294967296 + t) / Y := Int.ediv_nonneg (by have := D.u1; have := D.t1; omega) (by have := D.u1; have := D.u2; omega)
  have hge : (U * 4294967296 + t) / Y < q := by
    rcases hc with h | h
    · omega
    · refine Int.ediv_lt_of_lt_mul (by have := D.u1; have := D.u2; omega) ?_
      rw [D.y, Int.mul_add, ← Int.mul_assoc]
      have := G.eq
      omega
  refine ⟨by omega, ?_, by omega⟩
  have := G.eq
  rw [Int.sub_mul]
  omega
theorem Guess.done {Y p z U t q r : Int} (D : Divs Y p z U t) (G : Guess Y p z U t q r) (h : q * z ≤ 4294967296 * r + t) : q = (U * 4294967296 + t) / Y := by
  have : q ≤ (U * 4294967296 + t) / Y := (Int.le_ediv_iff_mul_le (by have := D.u1; have := D.u2; omega)).2 (by
    rw [D.y, Int.mul_add, ← Int.mul_assoc]
    have := G.eq
    omega)
  have := G.ge
  omega
theorem Guess.broken {Y p z U t q r : Int} (D : Divs Y p z U t) (hge : (U * 4294967296 + t) / Y ≤ q) (heq : q * p + r = U) (hq0 : 0 ≤ q) (hq : q ≤ 4294967296) (hr : 4294967296 ≤ r) : q = (U * 4294967296 + t) / Y := by
  have hz : q * z ≤ 4294967296 * 4294967296 := Int.mul_le_mul hq (by have := D.z2; omega) D.z1 (by decide)
  have : q ≤ (U * 4294967296 + t) / Y := (Int.le_ediv_iff_mul_le (by have := D.u1; have := D.u2; omega)).2 (by
    rw [D.y, Int.mul_add, ← Int.mul_assoc]
    have := D.t1
    omega)
  omega
/-- What is left of a step, in words that wrap. -/
theorem Divs.rest {Y p z U t : Int} (D : Divs Y p z U t) (hY : Y < 18446744073709551616) : IntKind.u64.wrap (IntKind.u64.wrap (IntKind.u64.wrap (U * 4294967296) + t) - IntKind.u64.wrap ((U * 4294967296 + t) / Y * Y)) = (U * 4294967296 + t) % Y := by
  have hm := Int.emod_add_mul_ediv (U * 4294967296 + t) Y
  have hl := Int.emod_lt_of_pos (U * 4294967296 + t) (show 0 < Y by have := D.u1; have := D.u2; omega)
  have hn := Int.emod_nonneg (U * 4294967296 + t) (show Y ≠ 0 by have := D.u1; have := D.u2; omega)
  have hc : Y * ((U * 4294967296 + t) / Y) = (U * 4294967296 + t) / Y * Y := Int.mul_comm _ _
  simp only [u64_eq]
  omega
theorem guess_bd {q z : Int} (h0 : 0 ≤ q) (h : q < 4294967296) (z1 : 0 ≤ z) (z2 : z < 4294967296) : 0 ≤ q * z ∧ q * z ≤ 18446744073709551615 := by
  refine ⟨Int.mul_nonneg h0 z1, ?_⟩
  have : q * z ≤ 4294967295 * 4294967295 := Int.mul_le_mul (by omega) (by omega) z1 (by decide)
  omega

theorem Divs.next {Y p z U t t0 : Int} (D : Divs Y p z U t) (h1 : 0 ≤ t0) (h2 : t0 < 4294967296) : Divs Y p z ((U * 4294967296 + t) % Y) t0 :=
  ⟨D.y, D.p1, D.p2, D.z1, D.z2, Int.emod_nonneg _ (by have := D.u1; have := D.u2; omega), Int.emod_lt_of_pos _ (by have := D.u1; have := D.u2; omega), h1, h2⟩

set_option maxRecDepth 100000 in
set_option maxHeartbeats 4000000 in
theorem div_core (hi lo y s Y p z U T t1 t0 Q V Q2 V2 : Int) (w : World) (h0 : 1 ≤ hi) (h1 : hi < y) (h2 : y < 18446744073709551616) (l0 : 0 ≤ lo) (l1 : lo < 18446744073709551616) (g1 : 0 ≤ s) (g2 : s ≤ 63)
    (hlz : Calls Tryz.prog 275 #[.int .u64 y] w fun e w' => e = .returned (.int .i64 s) ∧ w' = w)
    (hY : IntKind.u64.wrap (y * 2 ^ s.toNat) = Y) (hp : Y / 4294967296 = p) (hz : bits .and .u64 Y 4294967295 = z) (hU : bits .or .u64 (IntKind.u64.wrap (hi * 2 ^ s.toNat)) (lo / 2 ^ (64 - s).toNat) = U)
    (hT : IntKind.u64.wrap (lo * 2 ^ s.toNat) = T) (ht1 : T / 4294967296 = t1) (ht0 : bits .and .u64 T 4294967295 = t0) (D : Hid (Divs Y p z U t1)) (p1 : 2147483648 ≤ p) (p2 : p < 4294967296) (z1 : 0 ≤ z) (z2 : z < 4294967296) (u1 : 0 ≤ U) (u2 : U < 18446744073709551616)
    (a1 : 0 ≤ t1) (a2 : t1 < 4294967296) (b1 : 0 ≤ t0) (b2 : t0 < 4294967296) (HY : Hid (Y < 18446744073709551616))
    (HQ : Hid ((U * 4294967296 + t1) / Y = Q)) (HV : Hid ((U * 4294967296 + t1) % Y = V)) (HQ2 : Hid ((V * 4294967296 + t0) / Y = Q2)) (HV2 : Hid ((V * 4294967296 + t0) % Y = V2)) :
    Calls Tryz.prog 269 #[.int .u64 hi, .int .u64 lo, .int .u64 y] w fun e w' => e = .returned (.tuple #[.int .u64 (IntKind.u64.wrap (IntKind.u64.wrap (Q * 4294967296) + Q2)), .int .u64 (V2 / 2 ^ s.toNat)]) ∧ w' = w := by
  have G0 := D.out.start
  have c1 : 0 ≤ U / p * p := Int.mul_nonneg G0.q0 (by omega)
  have c2 : U / p * p ≤ U := by have := G0.eq; have := G0.r0; omega
  have G0 := Lib.hid G0
  have D2 := D.out.next b1 b2
  rw [HV.out] at D2
  have v1 := D2.u1
  have v2 : V ≤ 18446744073709551615 := by have := D2.u2; have := HY.out; omega
  have G1 := D2.start
  have c3 : 0 ≤ V / p * p := Int.mul_nonneg G1.q0 (by omega)
  have c4 : V / p * p ≤ V := by have := G1.eq; have := G1.r0; omega
  have G1 := Lib.hid G1
  have D2 := Lib.hid D2
  have E1 := D.out.rest HY.out
  rw [HQ.out, HV.out] at E1
  have E2 := D2.out.rest HY.out
  rw [HQ2.out, HV2.out] at E2
  have E1 := Lib.hid E1
  have E2 := Lib.hid E2
  have C34 := Lib.hid (And.intro c3 c4)
  clear c3 c4
  go_enter Tryz.func269, Tryz.ntmps269
  go_wp2_with fail
  refine hlz.mono ?_
  rintro e w1 ⟨rfl, rfl⟩
  clear hlz
  go_upto_block 0 with (fail)
  clear hY hp hz hU hT ht1 ht0 c1 c2 h0 h1 h2 l0 l1
  go_cut [15] (fun qv wx => qv = .int .u64 Q ∧ wx = w1)
  case first =>
    go_wp2
    go_loop [15, 16] (fun qv rv => ∃ q r : Int, qv = .int .u64 q ∧ rv = .int .u64 r ∧ Hid (Guess Y p z U t1 q r)) (fun _ rv => (4294967296 - intOf rv).toNat)
    case atStart => exact ⟨U / p, _, rfl, rfl, G0.out⟩
    case round =>
      obtain ⟨q, r, rfl, rfl, G⟩ := hrel
      have e0 := G.out.q0
      have e1 := G.out.qt
      have e2 := G.out.r0
      have e3 := G.out.rt
      clear G0
      by_cases k1 : 4294967296 ≤ q
      · obtain ⟨d1, d2, d3⟩ := G.out.dec D.out (.inl k1)
        have HD := Lib.hid (And.intro d1 d2)
        clear d1 d2
        by_cases k2 : 4294967296 ≤ r + p
        · go_wp2
          go_meet
          exact ⟨by rw [Guess.broken D.out HD.out.1 HD.out.2 d3 (by omega) k2, HQ.out], rfl⟩
        · go_wp2
          go_round
          case rel => exact ⟨q - 1, r + p, rfl, rfl, ⟨HD.out.2, d3, by omega, by omega, by omega, HD.out.1⟩⟩
          case measure => simp [intOf]; omega
      · obtain ⟨m1, m2⟩ := guess_bd e0 (by omega) z1 z2
        by_cases k3 : 4294967296 * r + t1 < q * z
        · obtain ⟨d1, d2, d3⟩ := G.out.dec D.out (.inr k3)
          have HD := Lib.hid (And.intro d1 d2)
          clear d1 d2
          by_cases k2 : 4294967296 ≤ r + p
          · go_wp2
            go_meet
            exact ⟨by rw [Guess.broken D.out HD.out.1 HD.out.2 d3 (by omega) k2, HQ.out], rfl⟩
          · go_wp2
            go_round
            case rel => exact ⟨q - 1, r + p, rfl, rfl, ⟨HD.out.2, d3, by omega, by omega, by omega, HD.out.1⟩⟩
            case measure => simp [intOf]; omega
        · have HD := Lib.hid (G.out.done D.out (by omega))
          go_wp2
          go_meet
          exact ⟨by rw [HD.out, HQ.out], rfl⟩
  case rest =>
    obtain ⟨rfl, hwx⟩ := hcut
    subst wc
    obtain ⟨c3, c4⟩ := C34.out
    have E1 := E1.out
    clear G0
    go_upto_block 2 with (fail)
    clear E1 c3 c4
    go_cut [18] (fun qv wy => qv = .int .u64 Q2 ∧ wy = w1)
    case first =>
      go_wp2
      go_loop [18, 16] (fun qv rv => ∃ q r : Int, qv = .int .u64 q ∧ rv = .int .u64 r ∧ Hid (Guess Y p z V t0 q r)) (fun _ rv => (4294967296 - intOf rv).toNat)
      case atStart => exact ⟨V / p, _, rfl, rfl, G1.out⟩
      case round =>
        obtain ⟨q, r, rfl, rfl, G⟩ := hrel
        have e0 := G.out.q0
        have e1 := G.out.qt
        have e2 := G.out.r0
        have e3 := G.out.rt
        clear G1
        by_cases k1 : 4294967296 ≤ q
        · obtain ⟨d1, d2, d3⟩ := G.out.dec D2.out (.inl k1)
          have HD := Lib.hid (And.intro d1 d2)
          clear d1 d2
          by_cases k2 : 4294967296 ≤ r + p
          · go_wp2
            go_meet
            exact ⟨by rw [Guess.broken D2.out HD.out.1 HD.out.2 d3 (by omega) k2, HQ2.out], rfl⟩
          · go_wp2
            go_round
            case rel => exact ⟨q - 1, r + p, rfl, rfl, ⟨HD.out.2, d3, by omega, by omega, by omega, HD.out.1⟩⟩
            case measure => simp [intOf]; omega
        · obtain ⟨m1, m2⟩ := guess_bd e0 (by omega) z1 z2
          by_cases k3 : 4294967296 * r + t0 < q * z
          · obtain ⟨d1, d2, d3⟩ := G.out.dec D2.out (.inr k3)
            have HD := Lib.hid (And.intro d1 d2)
            clear d1 d2
            by_cases k2 : 4294967296 ≤ r + p
            · go_wp2
              go_meet
              exact ⟨by rw [Guess.broken D2.out HD.out.1 HD.out.2 d3 (by omega) k2, HQ2.out], rfl⟩
            · go_wp2
              go_round
              case rel => exact ⟨q - 1, r + p, rfl, rfl, ⟨HD.out.2, d3, by omega, by omega, by omega, HD.out.1⟩⟩
              case measure => simp [intOf]; omega
          · have HD := Lib.hid (G.out.done D2.out (by omega))
            go_wp2
            go_meet
            exact ⟨by rw [HD.out, HQ2.out], rfl⟩
    case rest =>
      obtain ⟨rfl, hwx⟩ := hcut
      subst wc
      have E2 := E2.out
      clear G1
      go_wp2
      go_ret2
      exact ⟨rfl, rfl⟩
end Go.Proofs.YtbanjolokkghdaaGreatDoor
namespace Go.Proofs.YtbanjolokkghdaaGreatDoor
open Go.RowKit

theorem or_shift (a b s : Nat) (ha : 2 ^ s * a < 18446744073709551616) (hb : b < 2 ^ s) (hs : s ≤ 63) : bits .or .u64 ((2 ^ s * a : Nat) : Int) (b : Int) = ((2 ^ s * a + b : Nat) : Int) := by
  have h1 : 2 ^ s ≤ 2 ^ 63 := Nat.pow_le_pow_right (by decide) hs
  rw [bits_or_u64_nat _ _ ha (by omega), Nat.two_pow_add_eq_or_of_lt hb]

/-- Numbers with powers of two, taken apart. -/
structure Shf (hi lo y e f : Nat) : Prop where
  ef : e * f = 18446744073709551616
  e1 : 1 ≤ e
  f2 : 2 ≤ f
  hy : hi < y
  y1 : 9223372036854775808 ≤ y * e
  y2 : y * e < 18446744073709551616
  l : lo < 18446744073709551616

theorem Shf.lo_eq {hi lo y e f : Nat} (S : Shf hi lo y e f) : lo * e = lo / f * 18446744073709551616 + lo * e % 18446744073709551616 := by
  have h1 : lo * e / 18446744073709551616 = lo / f := by
    rw [← S.ef, Nat.mul_comm lo e]
    exact Nat.mul_div_mul_left _ _ (by have := S.e1; omega)
  have := Nat.div_add_mod (lo * e) 18446744073709551616
  rw [h1] at this
  omega
theorem Shf.num {hi lo y e f : Nat} (S : Shf hi lo y e f) : (e * hi + lo / f) * 18446744073709551616 + lo * e % 18446744073709551616 = (hi * 18446744073709551616 + lo) * e := by
  have := S.lo_eq
  rw [Nat.add_mul, Nat.add_mul, Nat.mul_right_comm hi, Nat.mul_comm e hi]
  omega
theorem Shf.lt {hi lo y e f : Nat} (S : Shf hi lo y e f) : e * hi + lo / f < y * e := by
  have h1 : (hi * 18446744073709551616 + lo) * e < y * e * 18446744073709551616 := by
    have : hi * 18446744073709551616 + lo < y * 18446744073709551616 := by have := S.hy; have := S.l; omega
    calc (hi * 18446744073709551616 + lo) * e < (y * 18446744073709551616) * e := Nat.mul_lt_mul_of_pos_right this (by have := S.e1; omega)
      _ = y * e * 18446744073709551616 := by rw [Nat.mul_right_comm]
  have := S.num
  omega
theorem Shf.ehi {hi lo y e f : Nat} (S : Shf hi lo y e f) : e * hi < 18446744073709551616 := by
  exact Nat.lt_of_le_of_lt (Nat.le_add_right _ _) (Nat.lt_trans S.lt S.y2)

theorem div_uniq {m q r N : Nat} (h : m * q + r = N) (hr : r < m) : N / m = q ∧ N % m = r := by
  subst h
  exact ⟨by rw [Nat.mul_add_div (by omega), Nat.div_eq_of_lt hr]; rfl, by rw [Nat.mul_add_mod, Nat.mod_eq_of_lt hr]⟩
theorem castq (U t Y : Nat) : ((U : Int) * 4294967296 + (t : Int)) / (Y : Int) = (((U * 4294967296 + t) / Y : Nat) : Int) := by simp
theorem castr (U t Y : Nat) : ((U : Int) * 4294967296 + (t : Int)) % (Y : Int) = (((U * 4294967296 + t) % Y : Nat) : Int) := by simp

theorem div_two (A B N y e : Nat) (Q V Q2 V2 : Nat) (hy : 0 < y * e) (h1 : (A * 4294967296 + B / 4294967296) / (y * e) = Q) (h2 : (A * 4294967296 + B / 4294967296) % (y * e) = V)
    (h3 : (V * 4294967296 + B % 4294967296) / (y * e) = Q2) (h4 : (V * 4294967296 + B % 4294967296) % (y * e) = V2) (hN : A * 18446744073709551616 + B = N * e) (he : 0 < e) :
    Q * 4294967296 + Q2 = N / y ∧ V2 / e = N % y := by
  have d1 := Nat.div_add_mod (A * 4294967296 + B / 4294967296) (y * e)
  have d2 := Nat.div_add_mod (V * 4294967296 + B % 4294967296) (y * e)
  have l2 := Nat.mod_lt (V * 4294967296 + B % 4294967296) hy
  rw [h1, h2] at d1
  rw [h3, h4] at d2
  rw [h4] at l2
  have hb := Nat.div_add_mod B 4294967296
  have e1 : y * e * (Q * 4294967296 + Q2) + V2 = N * e := by
    have hx : y * e * (Q * 4294967296 + Q2) = y * e * Q * 4294967296 + y * e * Q2 := by rw [Nat.mul_add, Nat.mul_assoc (y * e) Q]
    omega
  have hq : N * e / (y * e) = N / y := Nat.mul_div_mul_right _ _ he
  have hr : N * e % (y * e) = N % y * e := Nat.mul_mod_mul_right _ _ _
  obtain ⟨hu, hv⟩ := div_uniq e1 l2
  refine ⟨by rw [← hu, hq], ?_⟩
  rw [← hv, hr]
  exact Nat.mul_div_cancel _ he

theorem c_Div64n (hi lo y : Nat) (w : World) (h0 : 1 ≤ hi) (h1 : hi < y) (h2 : y < 18446744073709551616) (l1 : lo < 18446744073709551616) :
    Calls Tryz.prog 269 #[.int .u64 hi, .int .u64 lo, .int .u64 y] w fun e w' => e = .returned (.tuple #[.int .u64 (((hi * 18446744073709551616 + lo) / y : Nat) : Int), .int .u64 (((hi * 18446744073709551616 + lo) % y : Nat) : Int)]) ∧ w' = w := by
  obtain ⟨l, e, la, lb, lc, ld⟩ := len64_bd y (by omega) (by omega)
  have hlz := c_LZ64 y w (by omega) (by omega)
  have hs : 64 - len64 y = ((64 - l : Nat) : Int) := by omega
  rw [hs] at hlz
  have hef : 2 ^ (64 - l) * 2 ^ l = 18446744073709551616 := by rw [← Nat.pow_add, show 64 - l + l = 64 by omega]
  have hl2 : 2 ^ l = 2 * 2 ^ (l - 1) := by rw [show l = l - 1 + 1 by omega, Nat.pow_succ]; simp; omega
  have S : Shf hi lo y (2 ^ (64 - l)) (2 ^ l) := by
    refine ⟨hef, Nat.one_le_two_pow, by have := @Nat.one_le_two_pow (l - 1); omega, h1, ?_, ?_, l1⟩
    · have : 2 ^ (l - 1) * 2 ^ (64 - l) ≤ y * 2 ^ (64 - l) := Nat.mul_le_mul_right _ (by omega)
      have h3 : 2 ^ (l - 1) * 2 ^ (64 - l) = 9223372036854775808 := by rw [← Nat.pow_add, show l - 1 + (64 - l) = 63 by omega]
      omega
    · have : y * 2 ^ (64 - l) < 2 ^ l * 2 ^ (64 - l) := Nat.mul_lt_mul_of_pos_right (by omega) (Nat.two_pow_pos _)
      rw [Nat.mul_comm (2 ^ l), hef] at this
      exact this
  have hpow : (2 : Int) ^ (((64 - l : Nat) : Int)).toNat = ((2 ^ (64 - l) : Nat) : Int) := by simp
  have hpow2 : (2 : Int) ^ (64 - ((64 - l : Nat) : Int)).toNat = ((2 ^ l : Nat) : Int) := by
    rw [show (64 - ((64 - l : Nat) : Int)).toNat = l by omega]; simp
  have hlt := S.lt
  have hehi := S.ehi
  have hnum := S.num
  have hY1 := S.y1
  have hY2 := S.y2
  have hlf : lo / 2 ^ l < 2 ^ (64 - l) := Nat.div_lt_of_lt_mul (by rw [Nat.mul_comm, hef]; exact l1)
  have hT := Nat.mod_lt (lo * 2 ^ (64 - l)) (show 0 < 18446744073709551616 by decide)
  have hor := or_shift hi (lo / 2 ^ l) (64 - l) hehi hlf (by omega)
  have D : Divs ((y * 2 ^ (64 - l) : Nat) : Int) ((y * 2 ^ (64 - l) / 4294967296 : Nat) : Int) ((y * 2 ^ (64 - l) % 4294967296 : Nat) : Int) ((2 ^ (64 - l) * hi + lo / 2 ^ l : Nat) : Int) ((lo * 2 ^ (64 - l) % 18446744073709551616 / 4294967296 : Nat) : Int) := by
    generalize y * 2 ^ (64 - l) = Y at *
    generalize 2 ^ (64 - l) * hi + lo / 2 ^ l = U at *
    generalize lo * 2 ^ (64 - l) % 18446744073709551616 = T at *
    exact ⟨by omega, by omega, by omega, by omega, by omega, by omega, by omega, by omega, by omega⟩
  have fin := div_two (2 ^ (64 - l) * hi + lo / 2 ^ l) (lo * 2 ^ (64 - l) % 18446744073709551616) (hi * 18446744073709551616 + lo) y (2 ^ (64 - l)) _ _ _ _ (by omega) rfl rfl rfl rfl hnum (Nat.two_pow_pos _)
  have hquo : (hi * 18446744073709551616 + lo) / y < 18446744073709551616 := Nat.div_lt_of_lt_mul (by omega)
  have key := div_core hi lo y ((64 - l : Nat) : Int) ((y * 2 ^ (64 - l) : Nat) : Int) ((y * 2 ^ (64 - l) / 4294967296 : Nat) : Int) ((y * 2 ^ (64 - l) % 4294967296 : Nat) : Int) ((2 ^ (64 - l) * hi + lo / 2 ^ l : Nat) : Int)
    ((lo * 2 ^ (64 - l) % 18446744073709551616 : Nat) : Int) ((lo * 2 ^ (64 - l) % 18446744073709551616 / 4294967296 : Nat) : Int) ((lo * 2 ^ (64 - l) % 18446744073709551616 % 4294967296 : Nat) : Int) _ _ _ _ w (by omega) (by omega) (by omega) (by omega) (by omega) (by omega) (by omega) hlz
    (by rw [hpow, ← Int.natCast_mul]; exact u64_nat _ hY2) (div32 _) (low32 _ hY2)
    (by rw [hpow, hpow2, ← Int.natCast_mul, Nat.mul_comm hi, u64_nat _ hehi, ← Int.natCast_ediv]; exact hor)
    (by rw [hpow, ← Int.natCast_mul]; exact u64_mod _) (div32 _) (low32 _ hT) D D.p1 D.p2 D.z1 D.z2 D.u1 (by have := D.u2; omega) D.t1 D.t2 (by omega) (by omega) (by show ((y * 2 ^ (64 - l) : Nat) : Int) < _; omega)
    (castq _ _ _) (castr _ _ _) (castq _ _ _) (castr _ _ _)
  refine key.mono fun e w' ⟨he, hw⟩ => ⟨?_, hw⟩
  rw [he, ← fin.1, ← fin.2, hpow]
  have hq := hquo
  rw [← fin.1] at hq
  clear fin hor hnum D key he
  have e1 : ∀ a b : Nat, a * 4294967296 + b < 18446744073709551616 → IntKind.u64.wrap (IntKind.u64.wrap ((a : Int) * 4294967296) + (b : Int)) = ((a * 4294967296 + b : Nat) : Int) := fun a b h => by
    rw [u64_eq, u64_eq]; omega
  rw [e1 _ _ hq]
  simp
set_option maxRecDepth 100000 in
set_option maxHeartbeats 1000000 in
theorem c_Div64z (lo y : Int) (w : World) (h1 : 1 ≤ y) (h2 : y < 18446744073709551616) (l0 : 0 ≤ lo) (l1 : lo < 18446744073709551616) :
    Calls Tryz.prog 269 #[.int .u64 0, .int .u64 lo, .int .u64 y] w fun e w' => e = .returned (.tuple #[.int .u64 (lo / y), .int .u64 (lo % y)]) ∧ Below w.heap.size w w' := by
  have hy : ¬ y = 0 := by omega
  have e1 : IntKind.u64.wrap (lo.tdiv y) = lo / y := IntWalk.u64_quo _ _ ⟨l0, by omega, h1⟩
  have e2 : IntKind.u64.wrap (lo.tmod y) = lo % y := by
    have a := Int.emod_nonneg lo hy
    have b := Int.emod_lt_of_pos lo (show 0 < y by omega)
    rw [IntWalk.rem_in _ _ l0, IntWalk.u64_in _ (by omega)]
  have e3 : lo.tmod y = lo % y := IntWalk.rem_in _ _ l0
  have E := Lib.hid (And.intro e1 (And.intro e2 e3))
  clear e1 e2 e3
  go_enter Tryz.func269, Tryz.ntmps269
  go_wp2
  obtain ⟨e1, e2, e3⟩ := E.out
  refine wp_region_nd 8 135 [] (fun W' => Rex [] w W') mixed (by kernel_rfl) rfl (Rex.refl _ _).drew (fun w w' h0 hr => h0.trans hr) (fun c a d v w h => by cases d <;> exact h) ?_
  iterate 8
    apply nd_det (hg := rfl) (hal := rfl)
    · intro a W' hC hE
      obtain _ := hC
      first
        | (simp [Oper.looksAt, Op.operands, Call.operands, envOf, Det] at hE; simp [go_sem, Act.eval, IntWalk.i64_left, hE, hy, e1, e2, e3]; try rfl)
        | (clear hE; simp [go_sem, Act.eval, IntWalk.i64_left, hy, e1, e2, e3]; try rfl)
  rintro W2 hR
  simp only [ndFinR, Det, forall_eq]
  intros
  repeat (rename GDet _ _ _ _ => hgd; clear hgd)
  simp only [Act.put, List.setIfInBounds_toArray, List.set_cons_zero, List.set_cons_succ]
  refine wpList_nil ?_
  clear e1 e2 e3
  go_wp2
  go_ret2
  exact ⟨rfl, hR.of_priv (Nat.le_refl _)⟩

theorem c_Div64 (hi lo y : Int) (w : World) (h0 : 0 ≤ hi) (h1 : hi < y) (h2 : y < 18446744073709551616) (l0 : 0 ≤ lo) (l1 : lo < 18446744073709551616) :
    Calls Tryz.prog 269 #[.int .u64 hi, .int .u64 lo, .int .u64 y] w fun e w' => e = .returned (.tuple #[.int .u64 ((hi * 18446744073709551616 + lo) / y), .int .u64 ((hi * 18446744073709551616 + lo) % y)]) ∧ Below w.heap.size w w' := by
  rcases Int.lt_or_le 0 hi with h | h
  · obtain ⟨hi, rfl⟩ := Int.eq_ofNat_of_zero_le h0
    obtain ⟨lo, rfl⟩ := Int.eq_ofNat_of_zero_le l0
    obtain ⟨y, rfl⟩ := Int.eq_ofNat_of_zero_le (show 0 ≤ y by omega)
    refine (c_Div64n hi lo y w (by omega) (by omega) (by omega) (by omega)).mono fun e w' ⟨he, hw⟩ => ⟨?_, by rw [hw]; exact Below.refl _ _⟩
    rw [he]
    simp
  · obtain rfl : hi = 0 := by omega
    have := c_Div64z lo y w (by omega) h2 l0 l1
    simpa using this
end Go.Proofs.YtbanjolokkghdaaGreatDoor
namespace Go.Proofs.YtbanjolokkghdaaGreatDoor
open Go.RowKit

def szHi (a : Int) : Int := (if 0 ≤ a then a else -a) / 18446744073709551616
def szLo (a : Int) : Int := (if 0 ≤ a then a else -a) % 18446744073709551616

theorem sz_pos (a : Int) (ha : W128 a) (h : 0 ≤ a) : IntKind.u64.wrap (hiW a) = szHi a ∧ loW a = szLo a := by
  unfold szHi szLo; rw [if_pos h, u64_eq]; unfold hiW loW; obtain ⟨_, _⟩ := ha; omega
theorem sz_neg (a : Int) (ha : W128 a) (h : a < 0) : difLo 0 (loW a) 0 = szLo a ∧ difLo 0 (IntKind.u64.wrap (hiW a)) (difC 0 (loW a) 0) = szHi a := by
  unfold szHi szLo; rw [if_neg (by omega), u64_eq]; unfold difLo difC hiW loW; obtain ⟨_, _⟩ := ha
  refine ⟨by omega, ?_⟩
  split <;> omega
theorem sz_bd (a : Int) (ha : W128 a) : (0 ≤ szHi a ∧ szHi a < 18446744073709551616) ∧ (0 ≤ szLo a ∧ szLo a < 18446744073709551616) := by
  unfold szHi szLo; obtain ⟨_, _⟩ := ha; split <;> omega

set_option maxRecDepth 100000 in
set_option maxHeartbeats 1000000 in
theorem size_pos (ah al : Int) (w : World) (h : 0 ≤ ah) :
    Calls Tryz.prog 251 #[.agg #[.int .i64 ah, .int .u64 al]] w fun e w' => e = .returned (.tuple #[.int .u64 (IntKind.u64.wrap ah), .int .u64 al]) ∧ Below w.heap.size w w' := by
  go_enter Tryz.func251, Tryz.ntmps251
  go_wp2
  refine wp_facts (fun W => Below w.heap.size w W ∧ Blk W w.heap.size #[.int .i64 ah, .int .u64 al] 238) ⟨(Below.refl _ _).alloc (Nat.le_refl _) _, (by repeat (first | (refine Blk.new' ?_; simp; done) | refine Blk.alloc ?_ _))⟩ ?_
  rintro W ⟨hW, b1⟩
  refine wp_region_nd 7 32 [] (fun W' => Rex [] W W' ∧ Blk W' w.heap.size #[.int .i64 ah, .int .u64 al] 238) mixed (by kernel_rfl) rfl ⟨(Rex.refl _ _).drew, b1⟩ (fun w w' ⟨h0, h1⟩ hr => ⟨h0.trans hr, h1.rex hr (by simp <;> omega)⟩) (fun c a d v w h => by cases d <;> exact h) ?_
  iterate 7
    apply nd_det (hg := rfl) (hal := rfl)
    · intro a W' hC hE
      obtain ⟨_, k1⟩ := hC
      have k1 := k1.cell
      first
        | (simp [Oper.looksAt, Op.operands, Call.operands, envOf, Det] at hE; simp [go_sem, Act.eval, IntWalk.i64_left, hE, k1]; try rfl)
        | (clear hE; simp [go_sem, Act.eval, IntWalk.i64_left, k1]; try rfl)
  rintro W2 ⟨hR, c1⟩
  simp only [ndFinR, Det, forall_eq]
  intros
  repeat (rename GDet _ _ _ _ => hgd; clear hgd)
  simp only [Act.put, List.setIfInBounds_toArray, List.set_cons_zero, List.set_cons_succ]
  refine wpList_nil ?_
  go_wp2
  go_ret2
  exact ⟨rfl, hW.trans (hR.of_priv hW.size)⟩

set_option maxRecDepth 100000 in
set_option maxHeartbeats 1000000 in
theorem size_neg (ah al : Int) (w : World) (h : ah < 0) (h1 : 0 ≤ al) (h2 : al < 18446744073709551616) :
    Calls Tryz.prog 251 #[.agg #[.int .i64 ah, .int .u64 al]] w fun e w' => e = .returned (.tuple #[.int .u64 (difLo 0 (IntKind.u64.wrap ah) (difC 0 al 0)), .int .u64 (difLo 0 al 0)]) ∧ Below w.heap.size w w' := by
  have hc := difC_bd 0 al 0
  have a1 := sub64 0 al 0 (by decide) (by decide) h1 h2 (by decide) (by decide)
  have U1 := u64_bd ah
  have a2 := sub64 0 (IntKind.u64.wrap ah) (difC 0 al 0) (by decide) (by decide) U1.1 U1.2 hc.1 hc.2
  clear hc h1 h2 U1
  go_enter Tryz.func251, Tryz.ntmps251
  go_wp2
  go_ret2
  exact ⟨rfl, (Below.refl _ _).alloc (Nat.le_refl _) _⟩

theorem c_size (a : Int) (w : World) (ha : W128 a) :
    Calls Tryz.prog 251 #[wideV a] w fun e w' => e = .returned (.tuple #[.int .u64 (szHi a), .int .u64 (szLo a)]) ∧ Below w.heap.size w w' := by
  rcases Int.lt_or_le a 0 with h | h
  · obtain ⟨e1, e2⟩ := sz_neg a ha h
    rw [← e1, ← e2]
    exact size_neg (hiW a) (loW a) w (by unfold hiW; omega) (loW_bd a).1 (loW_bd a).2
  · obtain ⟨e1, e2⟩ := sz_pos a ha h
    rw [← e1, ← e2]
    exact size_pos (hiW a) (loW a) w (by unfold hiW; omega)

def ptQ (hi lo m : Int) : Int := (hi % m * 18446744073709551616 + lo) / m
def ptR (hi lo m : Int) : Int := (hi % m * 18446744073709551616 + lo) % m
set_option maxRecDepth 100000 in
set_option maxHeartbeats 1000000 in
theorem c_parts (hi lo m : Int) (w : World) (h0 : 0 ≤ hi) (h1 : hi < 18446744073709551616) (l0 : 0 ≤ lo) (l1 : lo < 18446744073709551616) (m0 : 1 ≤ m) (m1 : m < 18446744073709551616) :
    Calls Tryz.prog 252 #[.int .u64 hi, .int .u64 lo, .int .u64 m] w fun e w' => e = .returned (.tuple #[.int .u64 (hi / m), .int .u64 (ptQ hi lo m), .int .u64 (ptR hi lo m)]) ∧ Below w.heap.size w w' := by
  have hn := Int.emod_nonneg hi (show m ≠ 0 by omega)
  have hl := Int.emod_lt_of_pos hi (show 0 < m by omega)
  have hc := fun w => c_Div64 (hi % m) lo m w hn hl m1 l0 l1
  go_enter Tryz.func252, Tryz.ntmps252
  go_wp2_with fail
  refine (hc _).mono ?_
  rintro e w1 ⟨rfl, hb1⟩
  clear hc
  go_wp2
  go_ret3
  exact ⟨rfl, hb1⟩

/-- The number so far from 0. -/
def sgn (b : Bool) (n : Int) : Int := if b = true then -n else n

set_option maxRecDepth 100000 in
set_option maxHeartbeats 1000000 in
theorem signed_f (hi lo : Int) (w : World) :
    Calls Tryz.prog 253 #[.bool false, .int .u64 hi, .int .u64 lo] w fun e w' => e = .returned (.tuple #[.agg #[.int .i64 (wrap64 hi), .int .u64 lo], .bool (decide (hi < 9223372036854775808))]) ∧ Below w.heap.size w w' := by
  go_enter Tryz.func253, Tryz.ntmps253
  go_wp2
  refine bodyPost_ret (v := .tuple #[.agg #[.int .i64 (wrap64 hi), .int .u64 lo], .bool (decide (hi < 9223372036854775808))]) (by simp [results, Tryz.results253, go_sem]) rfl ⟨rfl, ?_⟩
  exact (Below.refl _ _).alloc (Nat.le_refl _) _

set_option maxRecDepth 100000 in
set_option maxHeartbeats 1000000 in
theorem signed_t (hi lo rh rl : Int) (f : Bool) (w : World) (hc : ∀ w, Calls Tryz.prog 254 #[.agg #[.int .i64 0, .int .u64 0], .agg #[.int .i64 (wrap64 hi), .int .u64 lo]] w fun e w' => e = .returned (.tuple #[.agg #[.int .i64 rh, .int .u64 rl], .bool f]) ∧ Below w.heap.size w w') :
    Calls Tryz.prog 253 #[.bool true, .int .u64 hi, .int .u64 lo] w fun e w' => e = .returned (.tuple #[.agg #[.int .i64 rh, .int .u64 rl], .bool (decide (hi < 9223372036854775808) || (hi == 9223372036854775808 && lo == 0))]) ∧ Below w.heap.size w w' := by
  go_enter Tryz.func253, Tryz.ntmps253
  go_wp2_with fail
  refine (hc _).mono ?_
  rintro e w1 ⟨rfl, hb1⟩
  obtain ⟨hc1, hf1⟩ := bcell hb1
  have hz1 := hb1.size
  simp at hz1
  clear hc
  go_upto_region 4 with (fail)
  have hbk : Blk w1 w.heap.size #[.int .i64 0, .int .u64 0] 238 := (hb1.block _ (by simp)).trans (heap_alloc_new w _)
  refine wp_facts (fun W => Below w.heap.size w W ∧ Blk W w.heap.size #[.int .i64 0, .int .u64 0] 238 ∧ Blk W w1.heap.size #[.int .i64 rh, .int .u64 rl] 238) ?_ ?_
  · have h0 : Below w.heap.size w w1 := ((Below.refl _ _).alloc (Nat.le_refl _) _).trans (hb1.mono (by simp))
    exact ⟨h0.alloc (by omega) _, hbk.alloc _, Blk.new' rfl⟩
  clear hc1 hf1 hbk hb1
  rintro W ⟨hW, b1, b2⟩
  have hne : w1.heap.size ≠ w.heap.size := by omega
  refine wp_region_sq 13 38 [(11, w.heap.size)] (fun W' => Rex [w.heap.size] W W' ∧ Blk W' w1.heap.size #[.int .i64 rh, .int .u64 rl] 238) (by kernel_rfl) rfl ⟨(Rex.refl _ _), b2⟩ (fun w w' ⟨h0, h1⟩ hr => ⟨h0.trans hr, h1.rex hr (by simp <;> omega)⟩) ?_
  iterate 4
    apply nd_det (hg := rfl) (hal := rfl)
    · intro a W' hC hE
      obtain ⟨_, k1⟩ := hC
      have k1 := k1.cell
      first
        | (simp [Oper.looksAt, Op.operands, Call.operands, envOf, Det] at hE; simp [go_sem, Act.eval, IntWalk.i64_left, hE, k1]; try rfl)
        | (clear hE; simp [go_sem, Act.eval, IntWalk.i64_left, k1]; try rfl)
  iterate 3
    apply nd_detg (p := true) (hg := rfl) (hd := rfl) (hal := rfl)
    · intro v W' h
      simp [envOf, Det, GDet] at h
      simp
      exact h
    · intro hp hx a W' hC hE
      obtain ⟨_, k1⟩ := hC
      have k1 := k1.cell
      simp [Oper.looksAt, Op.operands, Call.operands, envOf, Det, GDet, hx] at hE
      simp [go_sem, Act.eval, IntWalk.i64_left, hE, k1]
      try rfl
  iterate 2
    apply nd_detg (p := _) (hg := rfl) (hd := rfl) (hal := rfl)
    · intro v W' h
      exact h
    · intro hp hx a W' hC hE
      obtain ⟨_, k1⟩ := hC
      have k1 := k1.cell
      try simp at hp
      try simp at hx
      simp [Oper.looksAt, Op.operands, Call.operands, envOf, Det, GDet, hp, hx] at hE
      simp [go_sem, Act.eval, IntWalk.i64_left, hE, k1]
      try rfl
  apply nd_pickg_and (p := true) (ho := rfl) (hg := rfl) (hd := rfl)
  · intro v W' h
    simp [envOf, Det, GDet] at h
    simp
    exact h
  · intro _ hx v W' h
    simp [envOf, Det, GDet, hx] at h
    exact h
  · intro _ hx v W' h hy
    simp [envOf, GDet, hx, hy] at h
    exact h
  apply nd_pick_or (ho := rfl) (hg := rfl)
  · intro v W' h
    simp [envOf, Det] at h
    exact h
  · intro v W' h hx
    simp [envOf, GDet, hx] at h
    exact h
  apply nd_storeA (w.heap.size) #[.int .i64 0, .int .u64 0] #[.int .i64 rh, .int .u64 rl] 238 238 _ _ rfl rfl rfl (by simp [others]) rfl (by kernel_rfl) (by simp [Value.oneCell'])
  · exact fun W' hC => b1.shape hC.1 (by simp)
  · intro a W' hE
    simp [Oper.looksAt, Op.operands, envOf, Det] at hE
    simp [Act.eval, hE]
  iterate 1
    apply nd_det (hg := rfl) (hal := rfl)
    · intro a W' hC hE
      obtain ⟨_, k1⟩ := hC
      have k1 := k1.cell
      first
        | (simp [Oper.looksAt, Op.operands, Call.operands, envOf, Det] at hE; simp [go_sem, Act.eval, IntWalk.i64_left, hE, k1]; try rfl)
        | (clear hE; simp [go_sem, Act.eval, IntWalk.i64_left, k1]; try rfl)
  rintro W2 ⟨hR, c1⟩
  simp only [ndFinR, Det, forall_eq]
  intros
  repeat (rename GDet _ _ _ _ => hgd; clear hgd)
  simp only [Act.put, List.setIfInBounds_toArray, List.set_cons_zero, List.set_cons_succ]
  refine wpList_nil ?_
  go_wp2
  exact bodyPost_ret (results_ct (d := (Tryz.prog.underlying 238).getD default) rfl rfl (by assumption) (by kernel_rfl) (by kernel_rfl) (by kernel_rfl)) rfl ⟨rfl, hW.trans (hR.of_priv hW.size)⟩

theorem sg_f (hi lo : Int) (h0 : 0 ≤ hi) (h1 : hi < 18446744073709551616) (l0 : 0 ≤ lo) (l1 : lo < 18446744073709551616) :
    wrap64 hi = hiW (wrapW (hi * 18446744073709551616 + lo)) ∧ lo = loW (wrapW (hi * 18446744073709551616 + lo)) ∧ decide (hi < 9223372036854775808) = inW (hi * 18446744073709551616 + lo) := by
  rw [wrap64_eq]
  refine ⟨by unfold hiW wrapW; omega, by unfold loW wrapW; omega, ?_⟩
  unfold inW
  rw [decide_eq_decide]
  unfold W128
  omega
theorem sg_t (hi lo : Int) (h0 : 0 ≤ hi) (h1 : hi < 18446744073709551616) (l0 : 0 ≤ lo) (l1 : lo < 18446744073709551616) :
    wrapW (0 - wrapW (hi * 18446744073709551616 + lo)) = wrapW (-(hi * 18446744073709551616 + lo)) ∧ (decide (hi < 9223372036854775808) || (hi == 9223372036854775808 && lo == 0)) = inW (-(hi * 18446744073709551616 + lo)) := by
  refine ⟨by unfold wrapW; omega, ?_⟩
  unfold inW
  by_cases h : W128 (-(hi * 18446744073709551616 + lo))
  · rw [decide_eq_true h]
    unfold W128 at h
    by_cases h2 : hi < 9223372036854775808
    · simp [h2]
    · have a : hi = 9223372036854775808 := by omega
      have b : lo = 0 := by omega
      simp [a, b]
  · rw [decide_eq_false h]
    unfold W128 at h
    have a : ¬ hi < 9223372036854775808 := by omega
    have b : ¬ (hi = 9223372036854775808 ∧ lo = 0) := by omega
    simp only [decide_eq_false a, Bool.false_or]
    rw [Bool.eq_false_iff]
    intro h3
    simp only [Bool.and_eq_true, beq_iff_eq] at h3
    exact b h3
theorem c_signed (b : Bool) (hi lo : Int) (w : World) (h0 : 0 ≤ hi) (h1 : hi < 18446744073709551616) (l0 : 0 ≤ lo) (l1 : lo < 18446744073709551616) :
    Calls Tryz.prog 253 #[.bool b, .int .u64 hi, .int .u64 lo] w fun e w' =>
      e = .returned (.tuple #[wideV (wrapW (sgn b (hi * 18446744073709551616 + lo))), .bool (inW (sgn b (hi * 18446744073709551616 + lo)))]) ∧ Below w.heap.size w w' := by
  obtain ⟨e1, e2, e3⟩ := sg_f hi lo h0 h1 l0 l1
  cases b with
  | false =>
    have := signed_f hi lo w
    show Calls _ _ _ _ fun e w' => e = .returned (.tuple #[wideV (wrapW (hi * 18446744073709551616 + lo)), .bool (inW (hi * 18446744073709551616 + lo))]) ∧ Below w.heap.size w w'
    unfold wideV
    rw [← e1, ← e2, ← e3]
    exact this
  | true =>
    obtain ⟨f1, f2⟩ := sg_t hi lo h0 h1 l0 l1
    show Calls _ _ _ _ fun e w' => e = .returned (.tuple #[wideV (wrapW (-(hi * 18446744073709551616 + lo))), .bool (inW (-(hi * 18446744073709551616 + lo)))]) ∧ Below w.heap.size w w'
    rw [← f2]
    unfold wideV
    refine signed_t hi lo _ _ (inW (0 - wrapW (hi * 18446744073709551616 + lo))) w fun w => ?_
    have := c_difference 0 (wrapW (hi * 18446744073709551616 + lo)) w (by decide) (W128_wrap _)
    rw [f1] at this
    rw [wide0] at this
    unfold wideV at this
    rw [← e1, ← e2] at this
    exact this
end Go.Proofs.YtbanjolokkghdaaGreatDoor
