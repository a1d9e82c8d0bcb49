/- Parts of the proof that follows: The document's lines: At told. | Rows of a call's own, kept by steps that make memory. No condition. | The document's runs of times, plainly: that runs may be is just that their times rise, and that they are those of their times. No condition. | The document's times of runs: Times. | The document's times: Rising. -/
import Derived.Test.YtbanjolokkghdaaGreatDoorMz18
set_option maxRecDepth 100000
set_option maxHeartbeats 8000000
set_option linter.unusedSimpArgs false
set_option linter.unusedVariables false
namespace Go.Proofs.YtbanjolokkghdaaGreatDoor
open Go.RowKit
theorem at_bounds {A R n d t : Int} (h : isLine A R n d = true) (h0 : 0 <= t) (h1 : t <= 281474976710656) :
  (-9223372036854775808 <= n /\ n <= 9223372036854775807) /\ (-9223372036854775808 <= t /\ t <= 9223372036854775807) /\ (-9223372036854775808 <= R /\ R <= 9223372036854775807) /\ (-9223372036854775808 <= A /\ A <= 9223372036854775807) /\ (1 <= d /\ d <= 281474976710656) /\
   n.natAbs < 2 ^ 64 /\ t.natAbs < 2 ^ 64 /\ A.natAbs < 2 ^ 64 /\ d.natAbs < 2 ^ 64 /\ (n * t).natAbs < 2 ^ 128 /\ R.natAbs < 2 ^ 64 /\ (A * d).natAbs < 2 ^ 128 /\ (n * t + R).natAbs < 2 ^ 129 /\ (n * t + R + A * d).natAbs < 2 ^ 130 := by
 unfold isLine at h
 simp only [Bool.and_eq_true, decide_eq_true_eq] at h
 obtain ⟨⟨⟨⟨ha, hs⟩, _⟩, hR0⟩, hR1⟩ := h
 have ha := isBack_iff.1 ha
 have hs := isSlope_bd hs
 have e1 : (n * t).natAbs < 2 ^ 128 := by
  rw [Int.natAbs_mul, show (2 : Nat) ^ 128 = 2 ^ 64 * 2 ^ 64 by rw [<- Nat.pow_add]]
  exact Nat.mul_lt_mul'' (by omega) (by omega)
 have e2 : (A * d).natAbs < 2 ^ 128 := by
  rw [Int.natAbs_mul, show (2 : Nat) ^ 128 = 2 ^ 64 * 2 ^ 64 by rw [<- Nat.pow_add]]
  exact Nat.mul_lt_mul'' (by omega) (by omega)
 exact ⟨by omega, by omega, by omega, by omega, by omega, by omega, by omega, by omega, by omega, e1, by omega, e2, by omega, by omega⟩
theorem at_div {A R n d t : Int} (hd : 1 <= d) : (n * t + R + A * d) / d = lineVal A R n d t := by
 unfold lineVal
 exact Int.add_mul_ediv_right _ _ (by omega)
theorem c_rat_times {A R n d t : Int} (h : isLine A R n d = true) (h0 : 0 <= t) (h1 : t <= 281474976710656) (w : World) :
  Calls Tryz.prog 82 #[.agg #[.int .i64 A, .int .i64 R, .int .i64 n, .int .i64 d], .int .i64 t] w fun e w' => ∃ v, e = .returned v /\ NumIs w' v (n * t + R + A * d) /\ Below w.heap.size w w' := by
 obtain ⟨a1, a2, a3, a4, a5, a6, a7, a8, a9, a10, a11, a12, a13, a14⟩ := at_bounds h h0 h1
 exact rtimes_w A R n d t w a1 a2 a3 a4 (by omega) (lt_pow2 64 400 a6 (by omega)) (lt_pow2 64 400 a7 (by omega)) (lt_pow2 64 400 a8 (by omega)) (lt_pow2 64 400 a9 (by omega)) (lt_pow2 128 900 a10 (by omega)) (lt_pow2 64 900 a11 (by omega)) (lt_pow2 129 900 a13 (by omega)) (lt_pow2 128 900 a12 (by omega))
theorem c_rat_yes {A R n d t : Int} (h : isLine A R n d = true) (h0 : 0 <= t) (h1 : t <= 281474976710656) (hb : isBack (lineVal A R n d t) = true) (w : World) :
  Calls Tryz.prog 60 #[.agg #[.int .i64 A, .int .i64 R, .int .i64 n, .int .i64 d], .int .i64 t] w fun e w' => e = .returned (.tuple #[.int .i64 (lineVal A R n d t), .bool true]) /\ Below w.heap.size w w' := by
 obtain ⟨a1, a2, a3, a4, a5, a6, a7, a8, a9, a10, a11, a12, a13, a14⟩ := at_bounds h h0 h1
 rw [<- at_div a5.1] at hb ⊢
 have hb' := isBack_iff.1 hb
 exact rat_yes A R n d t _ w (by omega) (lt_pow2 130 800 a14 (by omega)) (by omega) (lt_pow2 64 800 a9 (by omega)) (fun W => c_rat_times h h0 h1 W) (fun W va hv => c_refValue va _ W hv (by omega) (by omega)) hb
theorem c_rat_no {A R n d t : Int} (h : isLine A R n d = true) (h0 : 0 <= t) (h1 : t <= 281474976710656) (hb : isBack (lineVal A R n d t) = false) (w : World) :
  Calls Tryz.prog 60 #[.agg #[.int .i64 A, .int .i64 R, .int .i64 n, .int .i64 d], .int .i64 t] w fun e w' => e = .returned (.tuple #[.int .i64 0, .bool false]) /\ Below w.heap.size w w' := by
 obtain ⟨a1, a2, a3, a4, a5, a6, a7, a8, a9, a10, a11, a12, a13, a14⟩ := at_bounds h h0 h1
 rw [<- at_div a5.1] at hb
 by_cases hf : -9223372036854775808 <= (n * t + R + A * d) / d /\ (n * t + R + A * d) / d < 9223372036854775808
 ·exact rat_back A R n d t _ w (by omega) (lt_pow2 130 800 a14 (by omega)) (by omega) (lt_pow2 64 800 a9 (by omega)) (fun W => c_rat_times h h0 h1 W) (fun W va hv => c_refValue va _ W hv hf.1 hf.2) hb
 ·refine rat_over A R n d t _ w (by omega) (lt_pow2 130 800 a14 (by omega)) (by omega) (lt_pow2 64 800 a9 (by omega)) (fun W => c_rat_times h h0 h1 W) (fun W va hv => c_refValue_no va _ W hv ?_ hf)
  have : ((n * t + R + A * d) / d).natAbs <= (n * t + R + A * d).natAbs := by
   have := Int.natAbs_ediv_le_natAbs (n * t + R + A * d) d
   omega
  exact Nat.lt_of_le_of_lt this (lt_pow2 130 900 a14 (by omega))
structure OwnR (W : World) (B : Nat) (e : TypeId) (s : Nat) (v : Value) (n : Nat) (xs : List Value) : Prop where
 own : W.ownsRow B e s v n xs
theorem OwnR.below {w w' : World} {B : Nat} {e : TypeId} {s : Nat} {v : Value} {n : Nat} {xs : List Value} (h : OwnR w B e s v n xs) (hb : Below w.heap.size w w') : OwnR w' B e s v n xs := by
 obtain ⟨h1, h2⟩ := h.own
 refine ⟨h1, ?_⟩
 rcases h2 with h2 | ⟨g, cap, cur, hv, hg, hh, rest⟩
 ·exact .inl h2
 ·exact .inr ⟨g, cap, cur, hv, hg, (hb.block g (Array.getElem?_eq_some_iff.1 hh).1).trans hh, rest⟩
theorem OwnR.rex {L : List Nat} {w w' : World} {B : Nat} {e : TypeId} {s : Nat} {v : Value} {n : Nat} {xs : List Value} (h : OwnR w B e s v n xs) (hr : Rex L w w') (hL : L = []) : OwnR w' B e s v n xs := by subst hL; exact h.below hr.below
theorem OwnR.drew {w : World} {B : Nat} {e : TypeId} {s : Nat} {v : Value} {n : Nat} {xs : List Value} (h : OwnR w B e s v n xs) : OwnR w.drew B e s v n xs := ⟨h.own⟩
theorem OwnR.mono {w : World} {B B' : Nat} {e : TypeId} {s : Nat} {v : Value} {n : Nat} {xs : List Value} (h : OwnR w B e s v n xs) (hB : B' <= B) : OwnR w B' e s v n xs := by
 obtain ⟨h1, h2⟩ := h.own
 refine ⟨h1, ?_⟩
 rcases h2 with h2 | ⟨g, cap, cur, hv, hg, rest⟩
 ·exact .inl h2
 ·exact .inr ⟨g, cap, cur, hv, Nat.le_trans hB hg, rest⟩
theorem OwnR.nil (W : World) (B : Nat) (e : TypeId) (s : Nat) : OwnR W B e s (.slice none 0 0) 0 [] := ⟨World.ownsRow_nil _ _ _ _⟩
theorem Blk.grown {W w1 : World} {B g : Nat} {cs : Array Value} {t e : TypeId} {s n : Nat} {v : Value} {xs : List Value} {o : Obj} (h : Blk W g cs t) (hown : W.ownsRow B e s v n xs) (ht : t ≠ e) (hgr : (W.alloc o).grownBy w1 v.ownBlock) : Blk w1 g cs t := by
 have hlt := h.lt
 have h' : (W.alloc o).heap[g]? = some (.cells cs t (0, 0)) := (h.alloc o : Blk (W.alloc o) g cs t)
 refine (hgr.block g (by simp; omega) fun e1 => ?_).trans h'
 rcases hown.2 with ⟨rfl, _⟩ | ⟨g', cap, cur, rfl, _, hb, _⟩
 ·simp [Value.ownBlock] at e1
 ·have : g = g' := by simpa [Value.ownBlock] using e1
  subst this
  unfold Blk at h
  rw [h] at hb
  injection hb with hb
  injection hb with _ h2 _
  exact ht h2
theorem OwnR.form {W : World} {B n : Nat} {e : TypeId} {s : Nat} {v : Value} {xs : List Value} (h : OwnR W B e s v n xs) : ∃ p cap, v = .slice p n cap /\ n <= cap /\ cap <= 9223372036854775807 /\ (p = none -> n = 0 /\ cap = 0) /\ (∀ a, p = some a -> a = ⟨a.block, 0, none⟩ /\ B <= a.block) := by
 rcases h.own.2 with ⟨rfl, h0⟩ | ⟨g, cap, cur, rfl, hg, hb, hn, hmx, _⟩
 ·subst h0; exact ⟨none, 0, rfl, Nat.le_refl _, by omega, fun _ => ⟨rfl, rfl⟩, fun a e => by cases e⟩
 ·exact ⟨some ⟨g, 0, none⟩, cap, rfl, hn, by unfold maxLen at hmx; omega, (fun e => by cases e), fun a e => by cases e; exact ⟨rfl, hg⟩⟩
theorem OwnR.ints {W : World} {B n : Nat} {e : TypeId} {p : Option Addr} {cap : Nat} {l : List Int} (h : OwnR W B e 1 (.slice p n cap) n (l.map (Value.int .i64))) : IntsIn W p l := by
 rcases h.own.2 with ⟨h1, h0⟩ | ⟨g, cap', cur, h1, hg, hb, hn, hmx, _, ht⟩
 ·have := h.own.1
  simp at this
  subst h0
  have : l = [] := List.length_eq_zero_iff.1 this
  subst this
  exact ⟨fun i x hx => by simp at hx⟩
 ·injection h1 with h2 _ _
  subst h2
  exact cloneInt_in hb (by simpa using ht)
theorem OwnR.runs {W : World} {B n : Nat} {e : TypeId} {p : Option Addr} {cap : Nat} {l : List RunT} (h : OwnR W B e 3 (.slice p n cap) n (flatCells l)) : RunsIn W p l := by
 rcases h.own.2 with ⟨h1, h0⟩ | ⟨g, cap', cur, h1, hg, hb, hn, hmx, _, ht⟩
 ·have := h.own.1
  rw [length_flatCells] at this
  subst h0
  have : l = [] := List.length_eq_zero_iff.1 (by omega)
  subst this
  exact ⟨fun i x hx => by simp at hx⟩
 ·injection h1 with h2 _ _
  subst h2
  exact cloneRun_in hb ht
structure IntsP (w : World) (b o : Nat) (l : List Int) : Prop where
 ints : IntsIn w (some ⟨b, o, none⟩) l
theorem IntsP.below {w w' : World} {b o : Nat} {l : List Int} (h : IntsP w b o l) (hb : Below w.heap.size w w') : IntsP w' b o l := ⟨h.ints.below hb⟩
theorem IntsP.rex {L : List Nat} {w w' : World} {b o : Nat} {l : List Int} (h : IntsP w b o l) (hr : Rex L w w') (hL : L = []) : IntsP w' b o l := by subst hL; exact h.below hr.below
theorem IntsP.drew {w : World} {b o : Nat} {l : List Int} (h : IntsP w b o l) : IntsP w.drew b o l := ⟨⟨h.ints.at'⟩⟩
theorem IntsP.cellAt {w : World} {b o : Nat} {l : List Int} (h : IntsP w b o l) {i : Nat} {x : Int} (hx : l[i]? = some x) : w.cell? ⟨b, o + i, none⟩ = some (.int .i64 x) := by
 obtain ⟨b', o', e, h1⟩ := h.ints.at' i x hx
 cases e
 exact h1
instance : DecidableEq RunT := fun a b =>
 if h : a.f = b.f /\ a.s = b.s /\ a.c = b.c then isTrue (by obtain ⟨a1, a2, a3⟩ := a; obtain ⟨b1, b2, b3⟩ := b; obtain ⟨h1, h2, h3⟩ := h; simp at h1 h2 h3; subst h1; subst h2; subst h3; rfl)
 else isFalse (fun e => h (by subst e; exact ⟨rfl, rfl, rfl⟩))
def extn (s p : Int) : List Int -> Nat
 | [] => 0
 | t :: l => if t - p = s then extn s t l + 1 else 0
theorem extn_le (s : Int) : ∀ (l : List Int) (p : Int), extn s p l <= l.length
 | [], _ => Nat.le_refl _
 | t :: l, p => by
  simp only [extn, List.length_cons]
  split
  ·have := extn_le s l t; omega
  ·omega
theorem step_succ (s p : Int) (k : Nat) : p + s + s * ((k : Int) + 1) = p + s * (((k + 1 : Nat) : Int) + 1) := by
 have : s * (((k + 1 : Nat) : Int) + 1) = s + s * ((k : Int) + 1) := by
  rw [show (((k + 1 : Nat) : Int) + 1) = 1 + ((k : Int) + 1) by omega, Int.mul_add, Int.mul_one]
 omega
theorem extn_take (s : Int) : ∀ (l : List Int) (p : Int), l.take (extn s p l) = (List.range (extn s p l)).map fun (k : Nat) => p + s * ((k : Int) + 1)
 | [], _ => rfl
 | t :: l, p => by
  simp only [extn]
  split
  ·next h =>
   rw [List.take_succ_cons, extn_take s l t, List.range_succ_eq_map, List.map_cons, List.map_map]
   congr 1
   ·simp; omega
   ·apply List.map_congr_left
    intro k _
    show t + s * ((k : Int) + 1) = p + s * (((k + 1 : Nat) : Int) + 1)
    rw [<- step_succ, show t = p + s by omega]
  ·simp
theorem extn_stop (s : Int) : ∀ (l : List Int) (p t : Int) (m : List Int), l.drop (extn s p l) = t :: m -> t - (p + s * (extn s p l : Int)) ≠ s
 | [], p, t, m, h => by simp at h
 | x :: l, p, t, m, h => by
  simp only [extn] at h ⊢
  split at h
  ·next hx =>
   rw [if_pos hx]
   rw [List.drop_succ_cons] at h
   have ih := extn_stop s l x t m h
   have e : p + s * ((extn s x l + 1 : Nat) : Int) = x + s * (extn s x l : Int) := by
    rw [show x = p + s by omega, show ((extn s (p + s) l + 1 : Nat) : Int) = 1 + (extn s (p + s) l : Int) by omega, Int.mul_add, Int.mul_one]
    omega
   rw [e]; exact ih
  ·next hx =>
   rw [if_neg hx]
   simp at h
   simp
   rw [<- h.1]; exact hx
def ofL : List Int -> List RunT
 | [] => []
 | [t] => [⟨t, 0, 1⟩]
 | a :: b :: l => ⟨a, b - a, ((extn (b - a) b l + 2 : Nat) : Int)⟩ :: ofL (l.drop (extn (b - a) b l))
termination_by l => l.length
decreasing_by simp; omega
theorem ofL_nil : ofL [] = [] := by rw [ofL]
theorem ofL_one (t : Int) : ofL [t] = [⟨t, 0, 1⟩] := by rw [ofL]
theorem ofL_more (a b : Int) (l : List Int) : ofL (a :: b :: l) = ⟨a, b - a, ((extn (b - a) b l + 2 : Nat) : Int)⟩ :: ofL (l.drop (extn (b - a) b l)) := by rw [ofL]
theorem timesR_more (a b : Int) (l : List Int) : timesR ⟨a, b - a, ((extn (b - a) b l + 2 : Nat) : Int)⟩ = a :: b :: l.take (extn (b - a) b l) := by
 unfold timesR
 simp only []
 rw [Int.toNat_natCast, List.range_succ_eq_map, List.map_cons, List.map_map, List.range_succ_eq_map, List.map_cons, List.map_map, extn_take]
 congr 1
 ·simp
 ·congr 1
  ·simp [Function.comp]; omega
  ·apply List.map_congr_left
   intro k _
   show a + (b - a) * ((k + 1 + 1 : Nat) : Int) = b + (b - a) * ((k : Int) + 1)
   rw [show ((k + 1 + 1 : Nat) : Int) = 1 + ((k : Int) + 1) by omega, Int.mul_add, Int.mul_one]
   omega
theorem times_of : ∀ (n : Nat) (t : List Int), t.length <= n -> timesL (ofL t) = t
 | _, [], _ => by rw [ofL_nil]; rfl
 | _, [t], _ => by rw [ofL_one]; simp [timesL, timesR]
 | 0, a :: b :: l, h => by simp at h
 | n + 1, a :: b :: l, h => by
  rw [ofL_more]
  show timesR _ ++ timesL _ = _
  rw [timesR_more, times_of n _ (by simp at h ⊢; omega)]
  simp
structure Rising (t : List Int) : Prop where
 up : t.Pairwise (· < ·)
 lo : ∀ x, x ∈ t -> 0 <= x /\ x <= 281474976710656
theorem Rising.tail {a : Int} {t : List Int} (h : Rising (a :: t)) : Rising t := ⟨(List.pairwise_cons.1 h.up).2, fun x hx => h.lo x (by simp [hx])⟩
theorem Rising.drop {t : List Int} (h : Rising t) (k : Nat) : Rising (t.drop k) := ⟨h.up.sublist (List.drop_sublist k t), fun x hx => h.lo x (List.mem_of_mem_drop hx)⟩
theorem of_first {t : List Int} {q : RunT} (h : (ofL t).head? = some q) : t.head? = some q.f := by
 match t, h with
 | [], h => simp [ofL_nil] at h
 | [x], h => simp [ofL_one] at h; subst h; rfl
 | a :: b :: l, h => rw [ofL_more] at h; simp at h; subst h; rfl
theorem last_more (a b : Int) (l : List Int) : lastI ⟨a, b - a, ((extn (b - a) b l + 2 : Nat) : Int)⟩ = b + (b - a) * (extn (b - a) b l : Int) := by
 unfold lastI
 simp only []
 rw [show ((extn (b - a) b l + 2 : Nat) : Int) - 1 = 1 + (extn (b - a) b l : Int) by omega, Int.mul_add, Int.mul_one]
 omega
theorem last_mem (a b : Int) (l : List Int) : b + (b - a) * (extn (b - a) b l : Int) ∈ b :: l.take (extn (b - a) b l) := by
 rw [extn_take]
 rcases Nat.eq_zero_or_pos (extn (b - a) b l) with h | h
 ·rw [h]; simp
 ·refine List.mem_cons_of_mem _ (List.mem_map.2 ⟨extn (b - a) b l - 1, List.mem_range.2 (by omega), ?_⟩)
  rw [show ((extn (b - a) b l - 1 : Nat) : Int) + 1 = (extn (b - a) b l : Int) by omega]
theorem of_each : ∀ (n : Nat) (t : List Int), t.length <= n -> t.length <= 256 -> Rising t -> (∀ r, r ∈ ofL t -> RunOk r) /\ Chain (ofL t)
 | _, [], _, _, _ => by rw [ofL_nil]; exact ⟨by simp, trivial⟩
 | _, [t], _, _, h => by
  rw [ofL_one]
  have := h.lo t (by simp)
  refine ⟨?_, ?_⟩
  ·intro r hr
   simp at hr
   subst hr
   exact ⟨by simp; omega, by simp; omega, by simp, by simp, by simp, by simp, by simp, by simp [lastI]; omega⟩
  ·exact ⟨by simp, trivial⟩
 | 0, a :: b :: l, h, _, _ => by simp at h
 | n + 1, a :: b :: l, hn, h256, h => by
  have hk := extn_le (b - a) l b
  have ih := of_each n (l.drop (extn (b - a) b l)) (by simp at hn ⊢; omega) (by simp at h256 ⊢; omega) (h.tail.tail.drop _)
  have ha := h.lo a (by simp)
  have hb := h.lo b (by simp)
  have hab : a < b := (List.pairwise_cons.1 h.up).1 b (by simp)
  have hlm : b + (b - a) * (extn (b - a) b l : Int) ∈ b :: l := by
   have := last_mem a b l
   rcases List.mem_cons.1 this with e | e
   ·rw [e]; simp
   ·exact List.mem_cons_of_mem _ (List.mem_of_mem_take e)
  have hlast := h.lo _ (List.mem_cons_of_mem a hlm)
  rw [ofL_more]
  refine ⟨?_, ?_⟩
  ·intro r hr
   rcases List.mem_cons.1 hr with e | e
   ·subst e
    refine ⟨ha.1, ha.2, by simp; omega, by simp; omega, by simp; omega, by simp at h256; simp; omega, by simp; omega, ?_⟩
    rw [last_more]; exact hlast.2
   ·exact ih.1 r e
  ·refine ⟨?_, ih.2⟩
   intro q hq
   have h1 := of_first hq
   cases hd : l.drop (extn (b - a) b l) with
   | nil => rw [hd] at h1; simp at h1
   | cons x m =>
    rw [hd] at h1
    simp at h1
    have hs := extn_stop _ l b x m hd
    refine ⟨⟨?_, ?_⟩, by simp; omega⟩
    ·rw [last_more, <- h1]
     have hu : (b :: l).Pairwise (· < ·) := (List.pairwise_cons.1 h.up).2
     have e : b :: l = (b :: l.take (extn (b - a) b l)) ++ (x :: m) := by rw [<- hd, List.cons_append, List.take_append_drop]
     rw [e, List.pairwise_append] at hu
     exact hu.2.2 _ (last_mem a b l) x (by simp)
    ·rw [last_more, <- h1]; exact hs
theorem length_of_cnt {l : List RunT} (h : ∀ r, r ∈ l -> RunOk r) : ((timesL l).length : Int) = cnt l := length_timesL l fun r hr => by have := (h r hr).c0; omega
theorem cnt_ge : ∀ (l : List RunT), (∀ r, r ∈ l -> 1 <= r.c) -> (l.length : Int) <= cnt l
 | [], _ => by simp [cnt]
 | r :: l, h => by
  have := cnt_ge l fun r hr => h r (by simp [hr])
  have := h r (by simp)
  simp [cnt]; omega
theorem of_runs {t : List Int} (h : Rising t) (h0 : 0 < t.length) (h1 : t.length <= 256) : RunsOk (ofL t) := by
 obtain ⟨he, hc⟩ := of_each t.length t (Nat.le_refl _) h1 h
 have ht := times_of t.length t (Nat.le_refl _)
 have hn := length_of_cnt he
 rw [ht] at hn
 have hg := cnt_ge _ fun r hr => (he r hr).c0
 refine ⟨?_, by omega, he, by omega, hc⟩
 cases hl : ofL t with
 | nil => rw [hl] at ht; simp [timesL] at ht; subst ht; simp at h0
 | cons r l => simp
theorem extn_run (s : Int) : ∀ (k : Nat) (p : Int) (m : List Int), (∀ x, m.head? = some x -> x - (p + s * (k : Int)) ≠ s) -> extn s p ((List.range k).map (fun (i : Nat) => p + s * ((i : Int) + 1)) ++ m) = k
 | 0, p, [], _ => rfl
 | 0, p, x :: m, h => by
  have := h x rfl
  simp at this
  simp [extn, this]
 | k + 1, p, m, h => by
  rw [List.range_succ_eq_map, List.map_cons, List.map_map, List.cons_append]
  simp only [extn]
  rw [if_pos (by simp; omega)]
  congr 1
  have e : (fun (i : Nat) => p + s * ((i : Int) + 1)) ∘ Nat.succ = fun (i : Nat) => (p + s) + s * ((i : Int) + 1) := by
   funext i
   exact (step_succ s p i).symm
  rw [e]
  have := extn_run s k (p + s) m fun x hx => by
   have h1 := h x hx
   rw [show ((k + 1 : Nat) : Int) = 1 + (k : Int) by omega, Int.mul_add, Int.mul_one] at h1
   intro h2; apply h1; omega
  simpa using this
theorem of_times : ∀ (l : List RunT), (∀ r, r ∈ l -> RunOk r) -> Chain l -> ofL (timesL l) = l
 | [], _, _ => by simp [timesL, ofL_nil]
 | r :: l, he, hc => by
  have hr := he r (by simp)
  have ih := of_times l (fun q hq => he q (by simp [hq])) hc.tail
  have c0 := hr.c0
  by_cases h1 : r.c = 1
  ·have hl : l = [] := by
    cases l with
    | nil => rfl
    | cons q l => have := (hc.1 q rfl).2; omega
   subst hl
   obtain ⟨f, s, c⟩ := r
   simp at h1
   subst h1
   have hs : s = 0 := hr.one.1 rfl
   subst hs
   simp [timesL, timesR, ofL_one]
  ·obtain ⟨k, hk⟩ : ∃ k : Nat, r.c = ((k + 2 : Nat) : Int) := ⟨(r.c - 2).toNat, by omega⟩
   obtain ⟨f, s, c⟩ := r
   simp at hk
   subst hk
   have e : timesR ⟨f, s, (k : Int) + 2⟩ = f :: (f + s) :: (List.range k).map fun (i : Nat) => (f + s) + s * ((i : Int) + 1) := by
    unfold timesR
    simp only []
    rw [show ((k : Int) + 2).toNat = k + 1 + 1 by omega, List.range_succ_eq_map, List.map_cons, List.map_map, List.range_succ_eq_map, List.map_cons, List.map_map]
    congr 1
    ·simp
    ·congr 1
     ·simp [Function.comp]
     ·apply List.map_congr_left
      intro i _
      show f + s * ((i + 1 + 1 : Nat) : Int) = _
      rw [show ((i + 1 + 1 : Nat) : Int) = 1 + ((i : Int) + 1) by omega, Int.mul_add, Int.mul_one]
      omega
   have hx : extn s (f + s) ((List.range k).map (fun (i : Nat) => (f + s) + s * ((i : Int) + 1)) ++ timesL l) = k := extn_run s k (f + s) _ fun x hx => by
    cases l with
    | nil => simp [timesL] at hx
    | cons q l =>
     obtain ⟨⟨h2, h3⟩, -⟩ := hc.1 q rfl
     have hq := he q (by simp)
     have : (timesL (q :: l)).head? = some q.f := by
      obtain ⟨j, hj⟩ : ∃ j : Nat, q.c.toNat = j + 1 := ⟨q.c.toNat - 1, by have := hq.c0; omega⟩
      show (timesR q ++ timesL l).head? = _
      unfold timesR
      rw [hj, List.range_succ_eq_map]
      simp
     rw [this] at hx
     cases hx
     unfold lastI at h3
     simp only [] at h3
     rw [show (k : Int) + 2 - 1 = 1 + (k : Int) by omega, Int.mul_add, Int.mul_one] at h3
     intro h4; apply h3; omega
   show ofL (timesR _ ++ timesL l) = _
   rw [e, List.cons_append, List.cons_append, ofL_more, show f + s - f = s by omega, hx, List.drop_left' (by simp), ih]
   simp
def fitR (r : RunT) : Bool := decide (1 <= r.c) && decide (r.c <= 256) && decide (0 <= r.s) && decide (r.s <= 281474976710656) && decide (0 <= r.f) && decide (r.f <= 281474976710656)
def fitL (l : List RunT) : Bool := l.all fitR && decide (cnt l <= 256)
def timesG (l : List RunT) : List Int := if fitL l then timesL l else []
def risingB (t : List Int) : Bool := decide (1 <= t.length) && decide (t.length <= 256) && decide (t.Pairwise (· < ·)) && t.all fun x => decide (0 <= x) && decide (x <= 281474976710656)
theorem risingB_iff (t : List Int) : risingB t = true ↔ 1 <= t.length /\ t.length <= 256 /\ Rising t := by
 unfold risingB
 simp only [Bool.and_eq_true, decide_eq_true_eq, List.all_eq_true]
 constructor
 ·rintro ⟨⟨⟨a, b⟩, c⟩, d⟩; exact ⟨a, b, c, d⟩
 ·rintro ⟨a, b, c, d⟩; exact ⟨⟨⟨a, b⟩, c⟩, d⟩
def rightR (l : List RunT) : Bool := risingB (timesG l) && decide (ofL (timesG l) = l)
theorem fit_ok {l : List RunT} (h : RunsOk l) : fitL l = true := by
 unfold fitL
 simp only [Bool.and_eq_true, decide_eq_true_eq, List.all_eq_true]
 refine ⟨fun r hr => ?_, h.count⟩
 have := h.each r hr
 have a := this.f0; have b := this.f1; have c := this.s0; have d := this.s1; have e := this.c0; have f := this.c1
 unfold fitR
 simp [a, b, c, d, e, f]
theorem times_ok {l : List RunT} (h : RunsOk l) : timesG l = timesL l := by unfold timesG; rw [if_pos (fit_ok h)]
theorem rising_ok {l : List RunT} (h : RunsOk l) : Rising (timesL l) := ⟨times_pairwise l h.each h.chain, times_in l h⟩
theorem cnt_one {l : List RunT} (h : RunsOk l) : 1 <= cnt l := by
 have := cnt_ge l fun r hr => (h.each r hr).c0
 have := h.some'
 omega
theorem rightR_is (l : List RunT) : rightR l = risesB l := by
 rw [Bool.eq_iff_iff, risesB_iff]
 unfold rightR
 rw [Bool.and_eq_true, risingB_iff, decide_eq_true_eq]
 constructor
 ·rintro ⟨⟨h1, h2, h3⟩, h4⟩
  rw [<- h4]
  exact of_runs h3 (by omega) h2
 ·intro h
  have hn := length_of_cnt h.each
  have := cnt_one h
  have := h.count
  rw [times_ok h]
  exact ⟨⟨by omega, by omega, rising_ok h⟩, of_times l h.each h.chain⟩
theorem Tryz.infoI64 : (Tryz.prog.info? 2).map (fun i => (i.zero, i.size, i.bytes)) = some (some (.int .i64 0), 1, 8) := by kernel_rfl
def tiRel (w : World) (p : Option Addr) (l : List RunT) (cap : Nat) (a' : Act) (W : World) : Prop :=
 Below w.heap.size w W /\ ∃ (i : Nat) (T : List Int) (v : Value), (∃ u : Nat -> Value, a' = { tmps := #[.slice p l.length cap, u 1, .slice none 0 0, v, .int .i64 (i : Int), u 5, u 6, u 7, u 8, u 9, u 10, u 11, u 12, u 13, u 14, u 15, u 16, u 17, u 18, u 19, u 20, u 21, u 22, u 23, u 24, u 25, u 26, u 27, u 28, u 29, u 30, u 31, u 32, u 33, u 34, u 35, u 36, u 37, u 38, u 39, u 40, u 41, u 42, u 43, u 44, u 45, u 46, u 47, u 48, u 49, u 50, u 51, u 52, u 53, u 54, u 55, u 56, u 57, u 58, u 59, u 60, u 61, u 62, u 63, u 64, u 65, u 66, u 67, u 68, u 69], defers := [] }) /\
  OwnR W w.heap.size 2 1 v T.length (T.map (Value.int .i64)) /\ T = timesL (l.take i) /\ i <= l.length /\ (∀ r, r ∈ l.take i -> fitR r = true) /\ cnt (l.take i) <= 256
def tjRel (w : World) (p : Option Addr) (l : List RunT) (cap i : Nat) (T : List Int) (r : RunT) (g : Nat) (a' : Act) (W : World) : Prop :=
 Below w.heap.size w W /\ Blk W g #[.int .i64 r.f, .int .i64 r.s, .int .i64 r.c] 94 /\ ∃ (k : Nat) (T1 : List Int) (v : Value), (∃ u : Nat -> Value, a' = { tmps := #[.slice p l.length cap, u 1, .slice none 0 0, v, .int .i64 (i : Int), .pointer (some ⟨g, 0, none⟩), .int .i64 (k : Int), u 7, u 8, u 9, u 10, u 11, u 12, u 13, u 14, u 15, u 16, u 17, u 18, u 19, u 20, u 21, u 22, u 23, u 24, u 25, u 26, u 27, u 28, u 29, u 30, u 31, u 32, u 33, u 34, u 35, u 36, u 37, u 38, u 39, u 40, u 41, u 42, u 43, u 44, u 45, u 46, u 47, u 48, u 49, u 50, u 51, u 52, u 53, u 54, u 55, u 56, u 57, u 58, u 59, u 60, u 61, u 62, u 63, u 64, u 65, u 66, u 67, u 68, u 69], defers := [] }) /\
  OwnR W w.heap.size 2 1 v T1.length (T1.map (Value.int .i64)) /\ T1 = T ++ (List.range k).map (fun (j : Nat) => r.f + r.s * (j : Int)) /\ (k : Int) <= r.c
theorem cnt_takeLe : ∀ (l : List RunT) (k : Nat), (∀ r, r ∈ l -> 1 <= r.c) -> cnt (l.take k) <= cnt l
 | [], k, _ => by simp
 | r :: l, 0, h => by
  have := cnt_ge (r :: l) h
  simp [cnt] at this ⊢
  have : cnt ([] : List RunT) = 0 := rfl
  omega
 | r :: l, k + 1, h => by
  have := cnt_takeLe l k fun q hq => h q (by simp [hq])
  simp only [List.take_succ_cons, cnt]
  omega
theorem reftimes_w (p : Option Addr) (cap : Nat) (l : List RunT) (w : World) (h : RunsIn w p l) (hlen : l.length <= 1000) :
  Calls Tryz.prog 30 #[.slice p l.length cap] w fun e w' => ∃ v, e = .returned v /\ OwnR w' w.heap.size 2 1 v (timesG l).length ((timesG l).map (Value.int .i64)) /\ Below w.heap.size w w' := by
 obtain ⟨i0, hi, hz0, hz1, hz2⟩ := info_parts Tryz.infoI64
 go_enter Tryz.func30, Tryz.ntmps30
 go_wp2
 refine wp_loop (tiRel w p l cap) (fun a' _ => l.length - (intAt (a'.tmps.getD 4 undef)).toNat) ?_ ?_
 ·unfold tiRel
  exact ⟨Below.refl _ _, 0, [], _, frame_ex rfl, OwnR.nil _ _ _ _, by simp [timesL], by omega, by simp, by simp [cnt]⟩
 ·rintro a' W ⟨hW0, i, T, v, ⟨u, rfl⟩, hown, hT, hi', hfit, hcnt⟩
  have hz := hW0.size
  obtain ⟨pv, cv, rfl, hcv, hcm, -, -⟩ := hown.form
  have hTl : (T.length : Int) = cnt (l.take i) := by
   rw [hT]; exact length_timesL _ fun r hr => by have := hfit r hr; unfold fitR at this; simp at this; omega
  have hT256 : T.length <= 256 := by omega
  replace hT := Lib.hid hT
  replace hfit := Lib.hid hfit
  replace hcnt := Lib.hid hcnt
  replace hTl := Lib.hid hTl
  rcases Nat.lt_or_ge i l.length with hlt | hge
  ·obtain ⟨r, hri⟩ : ∃ r, l[i]? = some r := ⟨l[i]'(by omega), List.getElem?_eq_getElem (by omega)⟩
   obtain ⟨b, o, rfl, k0, k1, k2⟩ := (h.below hW0).at' i r hri
   replace hri := Lib.hid hri
   obtain ⟨S, hS⟩ : ∃ S, wrap64 ((T.length : Int) + r.c) = S := ⟨_, rfl⟩
   replace hS := Lib.hid hS
   go_upto_region 6 with (fail)
   refine wp_cutB W (Bc W.heap.size #[.int .i64 r.f, .int .i64 r.s, .int .i64 r.c] 94 <| Rc (fun W' => OwnR W' w.heap.size 2 1 (.slice pv T.length cv) T.length (T.map (Value.int .i64))) <| Bz) ?_ (hI := by exact belowAny) (hR := (Bc.mk (by exact blkAny2) <| Rc.mk (by exact hown.below belowAny) <| trivial))
   rintro W1 hW z2 hL
   obtain ⟨⟨b1, yb1, k1, f1⟩, b2, -⟩ := id hL
   clear k1 f1
   refine wp_regS 36 70 hW hL ?_
   iterate 4 refine dE (fun W' hC => hS.out) ?_
   iterate 3 refine gE (fun W' hC => hS.out) ?_
   refine pO ?_
   refine dE (fun W' hC => hS.out) ?_
   iterate 6 refine gE (fun W' hC => hS.out) ?_
   refine pO ?_
   refine dE (fun W' hC => hS.out) ?_
   iterate 3 refine gE (fun W' hC => hS.out) ?_
   refine pO ?_
   refine dE (fun W' hC => hS.out) ?_
   iterate 3 refine gE (fun W' hC => hS.out) ?_
   refine pO ?_
   refine dE (fun W' hC => hS.out) ?_
   iterate 3 refine gE (fun W' hC => hS.out) ?_
   refine pO ?_
   refine dE (fun W' hC => hS.out) ?_
   iterate 3 refine gE (fun W' hC => hS.out) ?_
   refine pO ?_
   clear hW hL b1 b2
   rintro W3 hW z4 hL
   simp only [ndR]
   intros
   simp only [ndS]
   refine wpList_nil ?_
   obtain ⟨⟨b1, yb1, k1, f1⟩, b2, -⟩ := hL
   obtain ⟨F, hF⟩ : ∃ F, (decide (r.c < 1) || decide (256 < r.c) || decide (256 < S) || decide (r.s < 0) || decide (281474976710656 < r.s) || decide (r.f < 0) || decide (281474976710656 < r.f)) = F := ⟨_, rfl⟩
   rw [hF]
   have hrt := Lib.hid (show (l.take (i + 1)) = l.take i ++ [r] by rw [List.take_succ_eq_append_getElem hlt]; have := hri.out; rw [List.getElem?_eq_getElem hlt] at this; injection this with this; rw [this])
   cases F with
   | true =>
    have hG : timesG l = [] := by
     unfold timesG
     rw [if_neg]
     intro hh
     unfold fitL at hh
     simp only [Bool.and_eq_true, List.all_eq_true, decide_eq_true_eq] at hh
     have hr := hh.1 r (List.mem_of_getElem? hri.out)
     unfold fitR at hr
     simp at hr
     simp at hF
     have hc2 := cnt_takeLe l (i + 1) fun q hq => by have := hh.1 q hq; unfold fitR at this; simp at this; omega
     rw [hrt.out, cnt_append] at hc2
     simp only [cnt] at hc2
     have h3 := hTl.out
     have h4 := hS.out
     rw [wrap64_eq] at h4
     omega
    clear hF
    replace hG := Lib.hid hG
    go_wp2
    go_ret
    exact ⟨_, rfl, by rw [hG.out]; exact OwnR.nil _ _ _ _, hW0.trans (hW.mono hz)⟩
   | false =>
    simp only [Bool.or_eq_false_iff, decide_eq_false_iff_not] at hF
    obtain ⟨⟨⟨⟨⟨⟨f1, f2⟩, f3⟩, f4⟩, f5⟩, f6⟩, f7⟩ := hF
    have hSS : S = T.length + r.c := by have h4 := hS.out; rw [wrap64_eq] at h4; omega
    clear hS
    subst hSS
    have zb := b1.lt
    have zz := Nat.le_trans hz hW.size
    have hB1 := hW0.trans (hW.mono hz)
    clear hW hown k0 k1 k2
    go_wp2
    refine wp_loop (tjRel w (some ⟨b, o, none⟩) l cap i T r W.heap.size) (fun a' _ => r.c.toNat - (intAt (a'.tmps.getD 6 undef)).toNat) ?_ ?_
    ·unfold tjRel
     exact ⟨hB1, b1, 0, T, _, frame_ex rfl, b2, by simp, by omega⟩
    ·rintro a' W2 ⟨hW1, b1, k, T1, v, ⟨u, rfl⟩, hown, hT1, hk⟩
     have ya1 := hW1.size
     have zb2 := b1.lt
     have hl1 : T1.length = T.length + k := by rw [hT1]; simp
     have hl9 : T1.length <= 256 := by omega
     replace hT1 := Lib.hid hT1
     replace hl1 := Lib.hid hl1
     have k1 := b1.cell
     have g1 := b1.frozen
     rcases Int.lt_or_le (k : Int) r.c with hkc | hkc
     ·obtain ⟨M, hM⟩ : ∃ M, (k : Int) * r.s = M := ⟨_, rfl⟩
      have m0 : 0 <= M := hM ▸ Int.mul_nonneg (by omega) (by omega)
      have m1 : M <= 256 * 281474976710656 := hM ▸ Int.mul_le_mul (by omega) (by omega) (by omega) (by omega)
      have hown' := hown.own
      go_wp2_with (at_builtin; refine wpList_append_own _ rfl (.tmp 59) (.tmp 67) 27 rfl w.heap.size 2 i0 (.int .i64 0) 1 8 (by kernel_rfl) hi hz0 hz1 hz2 rfl (by decide) _ _ _ rfl (hown'.alloc _) ⟨W2.heap.size, 0, none⟩ 1 1 [.int .i64 (r.f + M)] rfl rfl (cell_one_new _ _ _) (by simp [Value.oneCell']) (by simp [maxLen]; omega) (by omega) (by simp; omega) ?_)
      intro v' w1 hown2 hgr _
      have hB := Lib.hid (below_append hW1 ya1 hown' hgr)
      have b2 := b1.grown hown' (by decide) hgr
      clear hgr hown' hown
      replace hown2 := Lib.hid hown2
      clear b1 k1 g1
      go_wp2
      rw [show (k : Int) + 1 = ((k + 1 : Nat) : Int) by omega]
      refine ⟨?_, by simp [intAt]; omega⟩
      unfold tjRel
      exact ⟨hB.out, b2, k + 1, T1 ++ [r.f + M], v', frame_ex rfl, ⟨by simpa using hown2.out⟩, by rw [hT1.out, List.range_succ, List.map_append, List.append_assoc, <- hM, Int.mul_comm]; rfl, by omega⟩
     ·have hkc2 : (k : Int) = r.c := by omega
      have hTT := Lib.hid (show T1 = timesL (l.take (i + 1)) by
       rw [hrt.out, timesL_append, hT1.out, <- hT.out]
       show _ = T ++ (timesR r ++ [])
       rw [List.append_nil]
       unfold timesR
       rw [show r.c.toNat = k by omega])
      have hfit2 := Lib.hid (show ∀ q, q ∈ l.take (i + 1) -> fitR q = true by
       intro q hq
       rw [hrt.out] at hq
       rcases List.mem_append.1 hq with hq | hq
       ·exact hfit.out q hq
       ·rw [List.mem_singleton.1 hq]
        unfold fitR
        simp
        omega)
      have hcnt2 := Lib.hid (show cnt (l.take (i + 1)) <= 256 by
       rw [hrt.out, cnt_append, <- hTl.out]
       simp only [cnt]
       omega)
      clear hkc2 f3
      go_wp2
      rw [show (i : Int) + 1 = ((i + 1 : Nat) : Int) by omega]
      refine ⟨?_, by simp [intAt]; omega⟩
      unfold tiRel
      exact ⟨hW1, i + 1, T1, v, frame_ex rfl, hown, hTT.out, by omega, hfit2.out, hcnt2.out⟩
  ·obtain rfl : i = l.length := by omega
   have hG : timesG l = T := by
    unfold timesG fitL
    have h1 := hfit.out
    have h2 := hcnt.out
    rw [List.take_length] at h1 h2
    rw [if_pos (by simp only [Bool.and_eq_true, List.all_eq_true, decide_eq_true_eq]; exact ⟨h1, h2⟩), hT.out, List.take_length]
   replace hG := Lib.hid hG
   go_wp2
   go_ret
   exact ⟨_, rfl, by rw [hG.out]; exact hown, hW0⟩
structure UpTo (T : List Int) (n : Nat) : Prop where
 lo : ∀ (k : Nat) (x : Int), k < n -> T[k]? = some x -> 0 <= x /\ x <= 281474976710656
 up : ∀ (k : Nat) (x y : Int), k + 1 < n -> T[k]? = some x -> T[k + 1]? = some y -> x < y
theorem UpTo.pair : ∀ {T : List Int}, UpTo T T.length -> T.Pairwise (· < ·)
 | [], _ => List.Pairwise.nil
 | [a], _ => by simp
 | a :: b :: l, h => by
  have ht : UpTo (b :: l) (b :: l).length := ⟨fun k x hk hx => h.lo (k + 1) x (by simp at hk ⊢; omega) (by simpa using hx), fun k x y hk hx hy => h.up (k + 1) x y (by simp at hk ⊢; omega) (by simpa using hx) (by simpa using hy)⟩
  have ih := ht.pair
  have hab : a < b := h.up 0 a b (by simp) (by simp) (by simp)
  refine List.pairwise_cons.2 ⟨fun c hc => ?_, ih⟩
  rcases List.mem_cons.1 hc with rfl | hc
  ·exact hab
  ·have := (List.pairwise_cons.1 ih).1 c hc; omega
theorem UpTo.rising {T : List Int} (h : UpTo T T.length) (h0 : 1 <= T.length) (h1 : T.length <= 256) : risingB T = true :=
 (risingB_iff T).2 ⟨h0, h1, h.pair, fun x hx => by
  obtain ⟨k, hk⟩ := List.getElem?_of_mem hx
  exact h.lo k x (List.getElem?_eq_some_iff.1 hk).1 hk⟩
theorem rising_bad {T : List Int} (h : ¬ (1 <= T.length /\ T.length <= 256 /\ Rising T)) : risingB T = false := by
 rcases hb : risingB T with _ | _
 ·rfl
 ·exact absurd ((risingB_iff T).1 hb) h
def risRel (w : World) (b o cap : Nat) (T : List Int) (a' : Act) (W : World) : Prop :=
 Below w.heap.size w W /\ ∃ (i : Nat), (∃ u : Nat -> Value, a' = { tmps := #[.slice (some ⟨b, o, none⟩) T.length cap, u 1, .bool false, .int .i64 (i : Int), u 4, u 5, u 6, u 7, u 8, u 9, u 10, u 11, u 12, u 13, u 14, u 15, u 16, u 17, u 18, u 19, u 20, u 21, u 22, u 23, u 24, u 25, u 26, u 27, u 28, u 29, u 30, u 31, u 32, u 33, u 34, u 35, u 36, u 37, u 38, u 39, u 40, u 41, u 42, u 43, u 44, u 45], defers := [] }) /\ i <= T.length /\ UpTo T i
theorem c_refrising (p : Option Addr) (cap : Nat) (T : List Int) (w : World) (hlen : T.length <= 1000000) (hT0 : IntsIn w p T) :
  Calls Tryz.prog 54 #[.slice p T.length cap] w fun e w' => e = .returned (.bool (risingB T)) /\ Below w.heap.size w w' := by
 go_enter Tryz.func54, Tryz.ntmps54
 rcases Nat.lt_or_ge T.length 1 with h1 | h1
 ·have hr := rising_bad (T := T) (by omega)
  rw [hr]
  clear hr
  go_wp2
  go_ret
  exact ⟨rfl, Below.refl _ _⟩
 rcases Nat.lt_or_ge 256 T.length with h2 | h2
 ·have hr := rising_bad (T := T) (by omega)
  rw [hr]
  clear hr
  go_wp2
  go_ret
  exact ⟨rfl, Below.refl _ _⟩
 obtain ⟨b, o, rfl⟩ : ∃ b o, p = some ⟨b, o, none⟩ := by
  obtain ⟨b, o, e, _⟩ := hT0.at' 0 _ (List.getElem?_eq_getElem (show 0 < T.length by omega))
  exact ⟨b, o, e⟩
 go_wp2
 refine wp_loop (risRel w b o cap T) (fun a' _ => T.length - (intAt (a'.tmps.getD 3 undef)).toNat) ?_ ?_
 ·unfold risRel
  exact ⟨Below.refl _ _, 0, frame_ex rfl, by omega, ⟨fun k x hk => by omega, fun k x y hk => by omega⟩⟩
 ·rintro a' W ⟨hW0, i, ⟨u, rfl⟩, hi', hup⟩
  have hz := hW0.size
  have hT : IntsP W b o T := ⟨hT0.below hW0⟩
  replace hup := Lib.hid hup
  rcases Nat.lt_or_ge i T.length with hlt | hge
  ·obtain ⟨x, tx⟩ : ∃ x, T[i]? = some x := ⟨T[i]'(by omega), List.getElem?_eq_getElem (by omega)⟩
   replace tx := Lib.hid tx
   rcases Nat.eq_zero_or_pos i with hi0 | hi0
   ·have e10 := Lib.hid (show decide (0 < (i : Int)) = false by simp; omega)
    replace hi0 := Lib.hid hi0
    go_upto_region 6 with (fail)
    refine wp_cutB W (Rc (fun W' => IntsP W' b o T) <| Bz) ?_ (hI := by exact belowAny) (hR := (Rc.mk (by exact hT.below belowAny) <| trivial))
    rintro W1 hW z2 hL
    obtain ⟨b1, -⟩ := id hL
    refine wp_regQ 28 46 hW hL ?_
    iterate 6 refine dE (fun W' hC => aI (hC.2.1.cellAt tx.out) (aI hlt e10.out)) ?_
    iterate 5 refine gE (fun W' hC => aI (hC.2.1.cellAt tx.out) (aI hlt e10.out)) ?_
    refine pO ?_
    refine dE (fun W' hC => aI (hC.2.1.cellAt tx.out) (aI hlt e10.out)) ?_
    iterate 3 refine gE (fun W' hC => aI (hC.2.1.cellAt tx.out) (aI hlt e10.out)) ?_
    apply nd_detg (p := _) (c := undef) (hg := rfl) (hd := rfl) (hal := rfl)
    ·intro v W' h
     exact h
    ·intro hp hx
     exfalso
     simp at hx
     have := hi0.out
     omega
    apply nd_detg (p := _) (c := undef) (hg := rfl) (hd := rfl) (hal := rfl)
    ·intro v W' h
     exact h
    ·intro hp hx
     exfalso
     simp at hx
     have := hi0.out
     omega
    apply nd_detg (p := _) (c := undef) (hg := rfl) (hd := rfl) (hal := rfl)
    ·intro v W' h
     exact h
    ·intro hp hx
     exfalso
     simp at hx
     have := hi0.out
     omega
    apply nd_detg (p := _) (c := undef) (hg := rfl) (hd := rfl) (hal := rfl)
    ·intro v W' h
     exact h
    ·intro hp hx
     exfalso
     simp at hx
     have := hi0.out
     omega
    apply nd_detg (p := _) (c := undef) (hg := rfl) (hd := rfl) (hal := rfl)
    ·intro v W' h
     exact h
    ·intro hp hx
     exfalso
     simp at hx
     have := hi0.out
     omega
    apply nd_detg (p := _) (c := undef) (hg := rfl) (hd := rfl) (hal := rfl)
    ·intro v W' h
     exact h
    ·intro hp hx
     exfalso
     simp at hx
     have := hi0.out
     omega
    apply nd_detg (p := _) (c := undef) (hg := rfl) (hd := rfl) (hal := rfl)
    ·intro v W' h
     exact h
    ·intro hp hx
     exfalso
     simp at hx
     have := hi0.out
     omega
    apply nd_detg (p := _) (c := undef) (hg := rfl) (hd := rfl) (hal := rfl)
    ·intro v W' h
     exact h
    ·intro hp hx
     exfalso
     simp at hx
     have := hi0.out
     omega
    apply nd_detg (p := _) (c := undef) (hg := rfl) (hd := rfl) (hal := rfl)
    ·intro v W' h
     exact h
    ·intro hp hx
     exfalso
     simp at hx
     have := hi0.out
     omega
    apply nd_detg (p := _) (c := undef) (hg := rfl) (hd := rfl) (hal := rfl)
    ·intro v W' h
     exact h
    ·intro hp hx
     exfalso
     simp at hx
     have := hi0.out
     omega
    apply nd_pickg_and (y := false) (p := true) (ho := rfl) (hg := rfl) (hd := rfl)
    ·intro v W' h
     simp [envOf, Det] at h
     simp
     exact h
    ·intro _ hx v W' h
     simp [envOf, Det, GDet, hx] at h
     exact h
    ·intro hp hx v W' h hy
     exfalso
     simp at hy
     have := hi0.out
     omega
    refine pO ?_
    clear hW hL b1
    rintro W3 hW z4 hL
    simp only [ndR]
    intros
    repeat (rename GDet _ _ _ _ => hgd; clear hgd)
    simp only [ndS]
    refine wpList_nil ?_
    obtain ⟨b1, -⟩ := hL
    obtain ⟨F, hF⟩ : ∃ F, (decide (x < 0) || decide (281474976710656 < x) || false) = F := ⟨_, rfl⟩
    rw [hF]
    cases F with
    | true =>
     have hr := Lib.hid (show risingB T = false from rising_bad (fun hh => by
      have h3 := hh.2.2.lo x (List.mem_of_getElem? tx.out)
      simp at hF; omega))
     clear hF
     go_wp2
     go_ret
     exact ⟨by rw [hr.out]; rfl, hW0.trans (hW.mono hz)⟩
    | false =>
     have hup' := Lib.hid (show UpTo T (i + 1) from ⟨fun k v hk hv => by
       rcases Nat.lt_or_ge k i with h | h
       ·exact hup.out.lo k v h hv
       ·obtain rfl : k = i := by omega
        rw [tx.out] at hv
        injection hv with hv
        subst hv
        simp at hF; omega, fun k v v' hk hv hw => by
       rcases Nat.lt_or_ge (k + 1) i with h | h
       ·exact hup.out.up k v v' h hv hw
       ·have e : k + 1 = i := by omega
        have := hi0.out; omega⟩)
     clear hF
     go_wp2
     rw [show (i : Int) + 1 = ((i + 1 : Nat) : Int) by omega]
     refine ⟨?_, by simp [intAt]; omega⟩
     unfold risRel
     exact ⟨hW0.trans (hW.mono hz), i + 1, frame_ex rfl, by omega, hup'.out⟩
   ·obtain ⟨y, ty⟩ : ∃ y, T[i - 1]? = some y := ⟨T[i - 1]'(by omega), List.getElem?_eq_getElem (by omega)⟩
    replace ty := Lib.hid ty
    have e8 := Lib.hid (show wrap64 ((i : Int) - 1) = ((i - 1 : Nat) : Int) by rw [wrap64_eq]; omega)
    have e9 : i - 1 < T.length := by omega
    have e10 := Lib.hid (show decide (0 < (i : Int)) = true by simp; omega)
    go_upto_region 6 with (fail)
    refine wp_cutB W (Rc (fun W' => IntsP W' b o T) <| Bz) ?_ (hI := by exact belowAny) (hR := (Rc.mk (by exact hT.below belowAny) <| trivial))
    rintro W1 hW z2 hL
    obtain ⟨b1, -⟩ := id hL
    refine wp_regQ 28 46 hW hL ?_
    iterate 6 refine dE (fun W' hC => aI (hC.2.1.cellAt tx.out) (aI (hC.2.1.cellAt ty.out) (aI e8.out (aI e9 (aI e10.out hlt))))) ?_
    iterate 5 refine gE (fun W' hC => aI (hC.2.1.cellAt tx.out) (aI (hC.2.1.cellAt ty.out) (aI e8.out (aI e9 (aI e10.out hlt))))) ?_
    refine pO ?_
    refine dE (fun W' hC => aI (hC.2.1.cellAt tx.out) (aI (hC.2.1.cellAt ty.out) (aI e8.out (aI e9 (aI e10.out hlt))))) ?_
    iterate 3 refine gE (fun W' hC => aI (hC.2.1.cellAt tx.out) (aI (hC.2.1.cellAt ty.out) (aI e8.out (aI e9 (aI e10.out hlt))))) ?_
    iterate 10 refine gF (fun W' hC => aI (hC.2.1.cellAt tx.out) (aI (hC.2.1.cellAt ty.out) (aI e8.out (aI e9 (aI e10.out hlt))))) ?_
    refine pgA ?_
    refine pO ?_
    clear hW hL b1
    rintro W3 hW z4 hL
    simp only [ndR]
    intros
    repeat (rename GDet _ _ _ _ => hgd; clear hgd)
    simp only [ndS]
    refine wpList_nil ?_
    obtain ⟨b1, -⟩ := hL
    obtain ⟨F, hF⟩ : ∃ F, (decide (x < 0) || decide (281474976710656 < x) || decide (0 < i) && decide (x <= y)) = F := ⟨_, rfl⟩
    rw [hF]
    cases F with
    | true =>
     have hr := Lib.hid (show risingB T = false from rising_bad (fun hh => by
      have h3 := hh.2.2.lo x (List.mem_of_getElem? tx.out)
      have h4 := List.pairwise_iff_getElem.1 hh.2.2.up (i - 1) i e9 hlt (by omega); have t1 := tx.out; have t2 := ty.out; rw [List.getElem?_eq_getElem hlt] at t1; rw [List.getElem?_eq_getElem e9] at t2; injection t1 with t1; injection t2 with t2; rw [t1, t2] at h4; simp at hF; omega))
     clear hF
     go_wp2
     go_ret
     exact ⟨by rw [hr.out]; rfl, hW0.trans (hW.mono hz)⟩
    | false =>
     have hup' := Lib.hid (show UpTo T (i + 1) from ⟨fun k v hk hv => by
       rcases Nat.lt_or_ge k i with h | h
       ·exact hup.out.lo k v h hv
       ·obtain rfl : k = i := by omega
        rw [tx.out] at hv
        injection hv with hv
        subst hv
        simp at hF; omega, fun k v v' hk hv hw => by
       rcases Nat.lt_or_ge (k + 1) i with h | h
       ·exact hup.out.up k v v' h hv hw
       ·have e : k + 1 = i := by omega
        rw [e, tx.out] at hw; rw [show k = i - 1 by omega, ty.out] at hv; injection hv with hv; injection hw with hw; subst hv; subst hw; simp at hF; omega⟩)
     clear hF
     go_wp2
     rw [show (i : Int) + 1 = ((i + 1 : Nat) : Int) by omega]
     refine ⟨?_, by simp [intAt]; omega⟩
     unfold risRel
     exact ⟨hW0.trans (hW.mono hz), i + 1, frame_ex rfl, by omega, hup'.out⟩
  ·obtain rfl : i = T.length := by omega
   have hr := Lib.hid (hup.out.rising h1 h2)
   go_wp2
   go_ret
   exact ⟨by rw [hr.out]; rfl, hW0⟩
end Go.Proofs.YtbanjolokkghdaaGreatDoor
