/- Parts of the proof that follows: Runs, plainly: their times, how many are below one, the one of a place. No condition. | Layer runs: Check, Count, below. | Layer runs: At, Find, Clip. | Layer runs: Clip, placed; a copy into a block that is known whole. | Layer runs: pieces, plainly; a row of runs as cells. | Layer runs: pieces, Pieces. | Layer runs: Pieces. | Layer seg: numbers in a row; the least, the greatest, whether all may be told. | Layer seg: span, lineIs, the kinds of lines. -/
import Derived.Laws.EntriesVeiled
import Derived.Laws.CopyOwn
import Derived.Laws.MakeOwn
import Derived.Test.YtidfcoooccblaaaGreatTogether4
set_option maxRecDepth 100000
set_option maxHeartbeats 8000000
set_option linter.unusedSimpArgs false
set_option linter.unusedVariables false
namespace Go.Proofs.YtidfcoooccblaaaGreat
open Go.RowKit
structure RunOk (r : RunT) : Prop where
 f0 : 0 <= r.f
 f1 : r.f <= 281474976710656
 s0 : 0 <= r.s
 s1 : r.s <= 281474976710656
 c0 : 1 <= r.c
 c1 : r.c <= 256
 one : r.c = 1 ↔ r.s = 0
 last : lastI r <= 281474976710656
def cnt : List RunT -> Int
 | [] => 0
 | r :: l => r.c + cnt l
def timesR (r : RunT) : List Int := (List.range r.c.toNat).map fun (k : Nat) => r.f + r.s * (k : Int)
def timesL : List RunT -> List Int
 | [] => []
 | r :: l => timesR r ++ timesL l
def Next (q r : RunT) : Prop := lastI q < r.f /\ r.f - lastI q ≠ q.s
def Chain : List RunT -> Prop
 | [] => True
 | r :: l => (∀ q, l.head? = some q -> Next r q /\ 1 < r.c) /\ Chain l
structure RunsOk (l : List RunT) : Prop where
 some' : 0 < l.length
 few : l.length <= 256
 each : ∀ r, r ∈ l -> RunOk r
 count : cnt l <= 256
 chain : Chain l
theorem cnt_append (a b : List RunT) : cnt (a ++ b) = cnt a + cnt b := by
 induction a with
 | nil => simp [cnt]
 | cons r a ih => simp [cnt, ih]; omega
theorem countTo_take (l : List RunT) : ∀ n, n <= l.length -> countTo l n = cnt (l.take n)
 | 0, _ => by simp [countTo, cnt]
 | n + 1, h => by
  have hn : n < l.length := by omega
  simp only [countTo]
  rw [countTo_take l n (by omega), List.take_succ_eq_append_getElem hn, cnt_append, List.getElem?_eq_getElem hn]
  simp [cnt]
theorem countTo_all (l : List RunT) : countTo l l.length = cnt l := by rw [countTo_take l _ (Nat.le_refl _), List.take_length]
theorem okTo_at {l : List RunT} : ∀ {n i : Nat}, okTo l n = true -> i < n -> okAt l i = true
 | 0, _, _, h => by omega
 | n + 1, i, hk, h => by
  simp only [okTo, Bool.and_eq_true] at hk
  rcases Nat.lt_or_ge i n with k | k
  ·exact okTo_at hk.1 k
  ·have : i = n := by omega
   subst this; exact hk.2
theorem okTo_of {l : List RunT} : ∀ {n : Nat}, (∀ i, i < n -> okAt l i = true) -> okTo l n = true
 | 0, _ => rfl
 | n + 1, h => by simp only [okTo, Bool.and_eq_true]; exact ⟨okTo_of fun i hi => h i (by omega), h n (by omega)⟩
theorem run12 {n i : Nat} {r : RunT} : (run1 r = true /\ run2 n i r = true) ↔ RunOk r /\ (1 < r.c ∨ (i : Int) = (n : Int) - 1) := by
 unfold run1 run2
 constructor
 ·intro ⟨h1, h2⟩
  simp at h1 h2
  exact ⟨⟨by omega, by omega, by omega, by omega, by omega, by omega, by
   have := h2.1.1
   constructor <;> intro k
   ·simpa [k] using this
   ·simpa [k] using this, by omega⟩, h2.1.2⟩
 ·intro ⟨h, k⟩
  have a := h.f0; have b := h.f1; have c := h.s0; have d := h.s1; have e := h.c0; have f := h.c1; have g := h.last
  simp
  exact ⟨by omega, ⟨by by_cases j : r.c = 1 <;> simp [j, h.one.1, <- h.one], k⟩, by omega⟩
theorem chain_iff : ∀ (l : List RunT), Chain l ↔ ∀ (i : Nat) (q r : RunT), l[i]? = some q -> l[i + 1]? = some r -> Next q r /\ 1 < q.c
 | [] => by simp [Chain]
 | a :: l => by
  simp only [Chain]
  constructor
  ·rintro ⟨h, k⟩ i q r hq hr
   cases i with
   | zero =>
    simp at hq
    subst hq
    exact h r (by simpa [List.head?_eq_getElem?] using hr)
   | succ i => exact (chain_iff l).1 k i q r (by simpa using hq) (by simpa using hr)
  ·intro h
   exact ⟨fun q hq => h 0 a q (by simp) (by simpa [List.head?_eq_getElem?] using hq), (chain_iff l).2 fun i q r hq hr => h (i + 1) q r (by simpa using hq) (by simpa using hr)⟩
theorem risesB_iff (l : List RunT) : risesB l = true ↔ RunsOk l := by
 unfold risesB
 simp only [Bool.and_eq_true, decide_eq_true_eq, countTo_all]
 constructor
 ·rintro ⟨⟨⟨h1, h2⟩, h3⟩, h4⟩
  have at' : ∀ (i : Nat) (r : RunT), l[i]? = some r -> (RunOk r /\ (1 < r.c ∨ (i : Int) = (l.length : Int) - 1)) /\ (i = 0 ∨ ∀ q, l[i - 1]? = some q -> run3 q r = true) := by
   intro i r hr
   have hi : i < l.length := by
    rw [List.getElem?_eq_some_iff] at hr; exact hr.1
   have := okTo_at h3 hi
   unfold okAt at this
   rw [hr] at this
   simp only [Bool.and_eq_true, Bool.or_eq_true, decide_eq_true_eq] at this
   refine ⟨run12.1 ⟨this.1.1, this.1.2⟩, this.2.imp id fun h q hq => ?_⟩
   rw [hq] at h; exact h
  refine ⟨h1, by omega, fun r hr => ?_, h4, (chain_iff l).2 fun i q r hq hr => ?_⟩
  ·obtain ⟨i, hi⟩ := List.getElem?_of_mem hr
   exact (at' i r hi).1.1
  ·have a := (at' (i + 1) r hr).2
   have b := (at' i q hq).1.2
   have hi : i + 1 < l.length := by
    rw [List.getElem?_eq_some_iff] at hr; exact hr.1
   rcases a with a | a
   ·omega
   ·have := a q (by simpa using hq)
    unfold run3 at this
    simp at this
    exact ⟨⟨by omega, this.2⟩, by omega⟩
 ·intro h
  refine ⟨⟨⟨h.some', by have := h.few; omega⟩, okTo_of fun i hi => ?_⟩, h.count⟩
  obtain ⟨r, hr⟩ : ∃ r, l[i]? = some r := ⟨l[i], List.getElem?_eq_getElem hi⟩
  have hm : r ∈ l := List.mem_of_getElem? hr
  have hc := (chain_iff l).1 h.chain
  unfold okAt
  rw [hr]
  simp only [Bool.and_eq_true, Bool.or_eq_true, decide_eq_true_eq]
  refine ⟨run12.2 ⟨h.each r hm, ?_⟩, ?_⟩
  ·rcases Nat.lt_or_ge (i + 1) l.length with k | k
   ·exact .inl (hc i r _ hr (List.getElem?_eq_getElem k)).2
   ·right; omega
  ·cases i with
   | zero => exact .inl rfl
   | succ i =>
    right
    have hi' : i < l.length := by omega
    have := (hc i _ r (List.getElem?_eq_getElem hi') hr).1
    have e : l[i + 1 - 1]? = some l[i] := by simp [hi']
    rw [e]
    unfold run3
    simp
    exact ⟨this.1, this.2⟩
theorem lastI_le {r : RunT} (h : RunOk r) : r.f <= lastI r := by
 have m0 : 0 <= r.s * (r.c - 1) := Int.mul_nonneg h.s0 (by have := h.c0; omega)
 unfold lastI; omega
theorem run_at_le {r : RunT} (h : RunOk r) {k : Int} (h1 : k <= r.c - 1) : r.f + r.s * k <= lastI r := by
 have := Int.mul_le_mul_of_nonneg_left h1 h.s0
 unfold lastI; omega
theorem run_at_ge {r : RunT} (h : RunOk r) {k : Int} (h0 : 0 <= k) : r.f <= r.f + r.s * k := by
 have := Int.mul_nonneg h.s0 h0
 omega
theorem run_at_lt {r : RunT} (h : RunOk r) {j k : Int} (h0 : 0 <= j) (h1 : j < k) (h2 : k < r.c) : r.f + r.s * j < r.f + r.s * k := by
 have hs : 0 < r.s := by
  have := h.s0
  rcases Int.lt_or_eq_of_le this with k | k
  ·exact k
  ·have := h.one.2 k.symm; omega
 have := Int.mul_lt_mul_of_pos_left h1 hs
 omega
theorem length_timesR (r : RunT) : (timesR r).length = r.c.toNat := by simp [timesR]
theorem length_timesL : ∀ (l : List RunT), (∀ r, r ∈ l -> 0 <= r.c) -> ((timesL l).length : Int) = cnt l
 | [], _ => rfl
 | r :: l, h => by
  simp only [timesL, List.length_append, cnt, length_timesR]
  have := length_timesL l fun r hr => h r (by simp [hr])
  have := h r (by simp)
  omega
theorem timesR_at (r : RunT) (k : Nat) (h : (k : Int) < r.c) : (timesR r)[k]? = some (r.f + r.s * (k : Int)) := by
 unfold timesR
 rw [List.getElem?_map, List.getElem?_range (by omega)]
 rfl
theorem timesL_at_here (r : RunT) (l : List RunT) (k : Nat) (h : (k : Int) < r.c) : (timesL (r :: l))[k]? = some (r.f + r.s * (k : Int)) := by
 simp only [timesL]
 rw [List.getElem?_append_left (by rw [length_timesR]; omega), timesR_at r k h]
theorem timesL_at_on (r : RunT) (l : List RunT) (k : Nat) (h : r.c <= (k : Int)) : (timesL (r :: l))[k]? = (timesL l)[k - r.c.toNat]? := by
 simp only [timesL]
 rw [List.getElem?_append_right (by rw [length_timesR]; omega), length_timesR]
def atL : List RunT -> Int -> Option Int
 | [], _ => none
 | r :: l, i => if i < r.c then some (r.f + r.s * i) else atL l (i - r.c)
theorem atL_eq : ∀ (l : List RunT) (i : Nat), (∀ r, r ∈ l -> 0 <= r.c) -> atL l (i : Int) = (timesL l)[i]?
 | [], i, _ => by simp [atL, timesL]
 | r :: l, i, h => by
  have hr := h r (by simp)
  simp only [atL]
  by_cases k : (i : Int) < r.c
  ·rw [if_pos k, timesL_at_here r l i k]
  ·rw [if_neg k, timesL_at_on r l i (by omega), <- atL_eq l (i - r.c.toNat) fun r hr => h r (by simp [hr])]
   congr 1; omega
def belowL : List RunT -> Int -> Int
 | [], _ => 0
 | r :: l, t => if t <= r.f then 0 else if lastI r < t then r.c + belowL l t else (t - r.f - 1) / r.s + 1
theorem Chain.tail {r : RunT} {l : List RunT} (h : Chain (r :: l)) : Chain l := h.2
theorem times_above : ∀ (l : List RunT) (x : Int), (∀ r, r ∈ l -> RunOk r) -> Chain l -> (∀ r, l.head? = some r -> x < r.f) -> ∀ t, t ∈ timesL l -> x < t
 | [], _, _, _, _, t, ht => by simp [timesL] at ht
 | r :: l, x, h, hc, hx, t, ht => by
  have hr := h r (by simp)
  have h0 := hx r (by simp)
  simp only [timesL, List.mem_append] at ht
  rcases ht with ht | ht
  ·simp only [timesR, List.mem_map, List.mem_range] at ht
   obtain ⟨k, hk, rfl⟩ := ht
   have := run_at_ge hr (show (0 : Int) <= k by omega)
   omega
  ·have := times_above l (lastI r) (fun r hr => h r (by simp [hr])) hc.2 (fun q hq => ((hc.1 q hq).1).1) t ht
   have := lastI_le hr
   omega
theorem times_pairwise : ∀ (l : List RunT), (∀ r, r ∈ l -> RunOk r) -> Chain l -> (timesL l).Pairwise (· < ·)
 | [], _, _ => by simp [timesL]
 | r :: l, h, hc => by
  have hr := h r (by simp)
  simp only [timesL]
  rw [List.pairwise_append]
  refine ⟨?_, times_pairwise l (fun r hr => h r (by simp [hr])) hc.2, fun a ha b hb => ?_⟩
  ·unfold timesR
   rw [List.pairwise_map]
   refine List.Pairwise.imp_of_mem ?_ (List.pairwise_lt_range)
   intro a b ha hb hab
   simp at ha hb
   exact run_at_lt hr (by omega) (by omega) (by omega)
  ·simp only [timesR, List.mem_map, List.mem_range] at ha
   obtain ⟨k, hk, rfl⟩ := ha
   have := times_above l (lastI r) (fun r hr => h r (by simp [hr])) hc.2 (fun q hq => ((hc.1 q hq).1).1) b hb
   have := run_at_le hr (show (k : Int) <= r.c - 1 by omega)
   omega
theorem times_in (l : List RunT) (h : RunsOk l) : ∀ t, t ∈ timesL l -> 0 <= t /\ t <= 281474976710656 := by
 intro t ht
 have : ∀ (l : List RunT), (∀ r, r ∈ l -> RunOk r) -> t ∈ timesL l -> 0 <= t /\ t <= 281474976710656 := by
  intro l
  induction l with
  | nil => intro _ h; simp [timesL] at h
  | cons r l ih =>
   intro h ht
   simp only [timesL, List.mem_append] at ht
   rcases ht with ht | ht
   ·simp only [timesR, List.mem_map, List.mem_range] at ht
    obtain ⟨k, hk, rfl⟩ := ht
    have hr := h r (by simp)
    have := run_at_ge hr (show (0 : Int) <= k by omega)
    have := run_at_le hr (show (k : Int) <= r.c - 1 by omega)
    have := hr.f0; have := hr.last
    omega
   ·exact ih (fun r hr => h r (by simp [hr])) ht
 exact this l h.each ht
theorem quo_facts {r : RunT} (h : RunOk r) {t : Int} (h1 : r.f < t) (h2 : t <= lastI r) : 1 <= r.s /\ 0 <= (t - r.f - 1) / r.s /\ (t - r.f - 1) / r.s + 1 <= r.c - 1 /\ r.f + r.s * ((t - r.f - 1) / r.s) < t /\ t <= r.f + r.s * ((t - r.f - 1) / r.s + 1) := by
 have hs : 1 <= r.s := by
  have := h.s0
  rcases Int.lt_or_eq_of_le this with k | k
  ·omega
  ·unfold lastI at h2; rw [<- k] at h2; simp at h2; omega
 have q0 : 0 <= (t - r.f - 1) / r.s := Int.ediv_nonneg (by omega) (by omega)
 have e := Int.mul_ediv_add_emod (t - r.f - 1) r.s
 have m0 := Int.emod_nonneg (t - r.f - 1) (show r.s ≠ 0 by omega)
 have m1 := Int.emod_lt_of_pos (t - r.f - 1) (show 0 < r.s by omega)
 refine ⟨hs, q0, ?_, by omega, by rw [Int.mul_add]; omega⟩
 have k : r.s * ((t - r.f - 1) / r.s) < r.s * (r.c - 1) := by unfold lastI at h2; omega
 have := Int.lt_of_mul_lt_mul_left k (by omega)
 omega
theorem below_is : ∀ (l : List RunT) (t : Int), (∀ r, r ∈ l -> RunOk r) -> Chain l -> 0 <= belowL l t /\ belowL l t <= cnt l /\ ∀ (k : Nat) (x : Int), (timesL l)[k]? = some x -> (x < t ↔ (k : Int) < belowL l t)
 | [], t, _, _ => by simp [belowL, cnt, timesL]
 | r :: l, t, h, hc => by
  have hr := h r (by simp)
  have hl : ∀ r, r ∈ l -> RunOk r := fun r hr => h r (by simp [hr])
  have ab := times_above l (lastI r) hl hc.2 (fun q hq => ((hc.1 q hq).1).1)
  obtain ⟨i0, i1, i2⟩ := below_is l t hl hc.2
  have c0 := hr.c0
  have len := length_timesL l fun r hr => by have := (hl r hr).c0; omega
  have split : ∀ (k : Nat) (x : Int), (timesL (r :: l))[k]? = some x -> ((k : Int) < r.c /\ x = r.f + r.s * k) ∨ (r.c <= (k : Int) /\ (timesL l)[k - r.c.toNat]? = some x /\ lastI r < x) := by
   intro k x hx
   by_cases hk : (k : Int) < r.c
   ·rw [timesL_at_here r l k hk] at hx
    exact .inl ⟨hk, by simpa using hx.symm⟩
   ·rw [timesL_at_on r l k (by omega)] at hx
    exact .inr ⟨by omega, hx, ab x (List.mem_of_getElem? hx)⟩
  have ll := lastI_le hr
  simp only [belowL, cnt]
  by_cases h1 : t <= r.f
  ·rw [if_pos h1]
   refine ⟨by omega, by omega, fun k x hx => ?_⟩
   rcases split k x hx with ⟨hk, rfl⟩ | ⟨hk, hx', hlt⟩
   ·have := run_at_ge hr (show (0 : Int) <= k by omega)
    omega
   ·omega
  ·rw [if_neg h1]
   by_cases h2 : lastI r < t
   ·rw [if_pos h2]
    refine ⟨by omega, by omega, fun k x hx => ?_⟩
    rcases split k x hx with ⟨hk, rfl⟩ | ⟨hk, hx', hlt⟩
    ·have := run_at_le hr (show (k : Int) <= r.c - 1 by omega)
     omega
    ·have := i2 _ x hx'
     omega
   ·rw [if_neg h2]
    obtain ⟨s1, q0, q1, q2, q3⟩ := quo_facts hr (show r.f < t by omega) (show t <= lastI r by omega)
    generalize hq : (t - r.f - 1) / r.s = q at *
    refine ⟨by omega, by omega, fun k x hx => ?_⟩
    rcases split k x hx with ⟨hk, rfl⟩ | ⟨hk, hx', hlt⟩
    ·constructor
     ·intro hlt
      have : r.s * (k : Int) < r.s * (q + 1) := by omega
      exact Int.lt_of_mul_lt_mul_left this (by omega)
     ·intro hlt
      have := Int.mul_le_mul_of_nonneg_left (show (k : Int) <= q by omega) (show 0 <= r.s by omega)
      omega
    ·omega
theorem c_rcheck (p : Option Addr) (cap : Nat) (l : List RunT) (w : World) (hlen : l.length <= 9223372036854775807) (h : RunsIn w p l) :
  Calls Tryz.prog 178 #[.slice p l.length cap] w fun e w' => e = .returned (.int .i64 (if risesB l then 0 else 170)) /\ Below w.heap.size w w' := by
 have c1 := fun W (hW : Below w.heap.size w W) => rises_w p cap l W hlen (h.below hW)
 by_cases hb : risesB l = true
 ·rw [if_pos hb]
  rw [hb] at c1
  have H_c1 := Lib.hid c1
  clear c1
  go_enter Tryz.func178, Tryz.ntmps178
  have c1 := H_c1.out
  go_wp2_with fail
  refine (c1 _ (belowAny)).mono ?_
  rintro e w1 ⟨rfl, hb1⟩
  clear c1
  have z2 := hb1.size
  try simp at z2
  have hW : Below w.heap.size w w1 := belowAny
  clear hb1
  go_wp2
  refine bodyPost_ret (v := .int .i64 0) (by simp [results, Tryz.results178, go_sem]) rfl ⟨rfl, by exact belowAny⟩
 ·rw [if_neg hb]
  rw [eq_false_of_ne_true hb] at c1
  have H_c1 := Lib.hid c1
  clear c1
  go_enter Tryz.func178, Tryz.ntmps178
  have c1 := H_c1.out
  go_wp2_with fail
  refine (c1 _ (belowAny)).mono ?_
  rintro e w1 ⟨rfl, hb1⟩
  clear c1
  have z2 := hb1.size
  try simp at z2
  have hW : Below w.heap.size w w1 := belowAny
  clear hb1
  go_wp2
  refine bodyPost_ret (v := .int .i64 170) (by simp [results, Tryz.results178, go_sem]) rfl ⟨rfl, by exact belowAny⟩
theorem c_rcount (p : Option Addr) (cap : Nat) (l : List RunT) (w : World) (hlen : l.length <= 9223372036854775807) (h : RunsIn w p l) :
  Calls Tryz.prog 99 #[.slice p l.length cap] w fun e w' => e = .returned (.int .i64 (if risesB l then cnt l else 0)) /\ Below w.heap.size w w' := by
 have c1 := fun W (hW : Below w.heap.size w W) => rises_w p cap l W hlen (h.below hW)
 by_cases hb : risesB l = true
 ·rw [if_pos hb]
  rw [hb] at c1
  have hl := (risesB_iff l).1 hb
  have c2 := fun W (hW : Below w.heap.size w W) => many_w p l.length cap l W rfl hl.few (h.below hW) (fun i r hr => by have hh := hl.each r (List.mem_of_getElem? hr); have := hh.c0; have := hh.c1; omega)
  rw [countTo_all] at c2
  have H_c1 := Lib.hid c1
  clear c1
  have H_c2 := Lib.hid c2
  clear c2
  go_enter Tryz.func99, Tryz.ntmps99
  have c1 := H_c1.out
  go_wp2_with fail
  refine (c1 _ (belowAny)).mono ?_
  rintro e w1 ⟨rfl, hb1⟩
  clear c1
  have z2 := hb1.size
  try simp at z2
  have hW : Below w.heap.size w w1 := belowAny
  clear hb1
  have c2 := H_c2.out
  go_wp2_with fail
  refine (c2 _ (belowAny)).mono ?_
  rintro e w3 ⟨rfl, hb3⟩
  clear c2
  have z4 := hb3.size
  try simp at z4
  have hW : Below w.heap.size w w3 := belowAny
  clear hb3
  go_wp2
  refine bodyPost_ret (v := .int .i64 (cnt l)) (by simp [results, Tryz.results99, go_sem]) rfl ⟨rfl, by exact belowAny⟩
 ·rw [if_neg hb]
  rw [eq_false_of_ne_true hb] at c1
  have H_c1 := Lib.hid c1
  clear c1
  go_enter Tryz.func99, Tryz.ntmps99
  have c1 := H_c1.out
  go_wp2_with fail
  refine (c1 _ (belowAny)).mono ?_
  rintro e w1 ⟨rfl, hb1⟩
  clear c1
  have z2 := hb1.size
  try simp at z2
  have hW : Below w.heap.size w w1 := belowAny
  clear hb1
  go_wp2
  refine bodyPost_ret (v := .int .i64 0) (by simp [results, Tryz.results99, go_sem]) rfl ⟨rfl, by exact belowAny⟩
theorem belowL_drop {l : List RunT} {i : Nat} {r : RunT} (hr : l[i]? = some r) (t : Int) : belowL (l.drop i) t = if t <= r.f then 0 else if lastI r < t then r.c + belowL (l.drop (i + 1)) t else (t - r.f - 1) / r.s + 1 := by
 rw [List.getElem?_eq_some_iff] at hr
 obtain ⟨hi, rfl⟩ := hr
 rw [List.drop_eq_getElem_cons hi, belowL]
theorem cnt_drop {l : List RunT} {i : Nat} {r : RunT} (hr : l[i]? = some r) : cnt (l.drop i) = r.c + cnt (l.drop (i + 1)) := by
 rw [List.getElem?_eq_some_iff] at hr
 obtain ⟨hi, rfl⟩ := hr
 rw [List.drop_eq_getElem_cons hi, cnt]
theorem cnt_nonneg : ∀ (l : List RunT), (∀ r, r ∈ l -> RunOk r) -> 0 <= cnt l
 | [], _ => by simp [cnt]
 | r :: l, h => by
  have := cnt_nonneg l fun r hr => h r (by simp [hr])
  have := (h r (by simp)).c0
  simp only [cnt]; omega
theorem below_w (p : Option Addr) (cap : Nat) (l : List RunT) (t : Int) (w : World) (hl : RunsOk l) (h : RunsIn w p l) :
  Calls Tryz.prog 208 #[.slice p l.length cap, .int .i64 t] w fun e w' => e = .returned (.int .i64 (belowL l t)) /\ Below w.heap.size w w' := by
 have hlen := hl.few
 go_enter Tryz.func208, Tryz.ntmps208
 go_wp2
 refine wp_loop (fun a' W => Below w.heap.size w W /\ ∃ (i : Nat) (n : Int), (∃ u : Nat -> Value, a' = { tmps := #[(.slice p l.length cap), .int .i64 t, u 2, u 3, .int .i64 0, .int .i64 n, u 6, u 7, (.slice p l.length cap), .int .i64 (l.length : Int), .int .i64 (i : Int), u 11, u 12, u 13, u 14, u 15, u 16, u 17, u 18, u 19, u 20, u 21, u 22, u 23, u 24, u 25, u 26, u 27, u 28, u 29, u 30, u 31, u 32, u 33, u 34, u 35, u 36, u 37, u 38, u 39, u 40, u 41], defers := [] }) /\ i <= l.length /\ n + belowL (l.drop i) t = belowL l t /\ 0 <= n /\ n + cnt (l.drop i) <= 256) (fun a' _ => l.length - (intAt (a'.tmps.getD 10 undef)).toNat) ?_ ?_
 ·exact ⟨belowAny, 0, 0, frame_ex rfl, by omega, by simp, by omega, by have := hl.count; simp; omega⟩
 ·rintro a' W ⟨hW, i, n, ⟨u, rfl⟩, hi, hn, hn0, hn1⟩
  have hz := hW.size
  rcases Nat.lt_or_ge i l.length with hlt | hge
  ·obtain ⟨r, hri⟩ : ∃ r, l[i]? = some r := ⟨l[i]'(by omega), List.getElem?_eq_getElem (by omega)⟩
   have hr := hl.each r (List.mem_of_getElem? hri)
   obtain ⟨b, o, rfl, k0, k1, k2⟩ := (h.below hW).at' i r hri
   have hd2 := belowL_drop hri t
   have hc2 := cnt_drop hri
   have hc3 := cnt_nonneg (l.drop (i + 1)) fun r hr => hl.each r (List.mem_of_mem_drop hr)
   have r1 := hr.f0; have r2 := hr.f1; have r3 := hr.s0; have r4 := hr.s1; have r5 := hr.c0; have r6 := hr.c1; have r7 := lastI_le hr; have r8 := hr.last
   by_cases h1 : t <= r.f
   ·rw [if_pos h1] at hd2
    rw [hd2] at hn
    clear hd2
    have hd := hn
    clear hn
    go_wp2
    go_ret
    exact ⟨ret_int (by omega), belowAny⟩
   ·rw [if_neg h1] at hd2
    by_cases h2 : lastI r < t
    ·rw [if_pos h2] at hd2
     rw [hd2] at hn
     replace hn := Lib.hid hn
     clear hd2
     replace hri := Lib.hid hri
     go_upto_region 8 with (fail)
     refine wp_facts (fun W' => Below w.heap.size w W' /\ Blk W' W.heap.size #[.int .i64 r.f, .int .i64 r.s, .int .i64 r.c] 144) ⟨by exact belowAny, by exact blkAny⟩ ?_
     clear hW
     rintro W1 ⟨hW, b1⟩
     have z2 := hW.size
     have z3 := b1.lt
     have k1 := b1.cell
     have f1 := b1.frozen
     go_wp2_with fail
     refine (c_last r _ ⟨hr.f0, hr.f1⟩ ⟨hr.s0, hr.s1⟩ ⟨hr.c0, hr.c1⟩).mono ?_
     rintro e w4 ⟨rfl, hb4⟩
     have z5 := hb4.size
     try simp at z5
     clear k1 f1
     have b1 : Blk w4 W.heap.size #[.int .i64 r.f, .int .i64 r.s, .int .i64 r.c] 144 := blkAny
     have hW : Below w.heap.size w w4 := belowAny
     have z6 := b1.lt
     clear hb4
     have k1 := b1.cell
     have f1 := b1.frozen
     go_wp2
     rw [show (i : Int) + 1 = ((i + 1 : Nat) : Int) by omega]
     exact ⟨⟨hW, i + 1, n + r.c, frame_ex rfl, by omega, by have := hn.out; omega, by omega, by omega⟩, by simp [intAt]; omega⟩
    ·rw [if_neg h2] at hd2
     rw [hd2] at hn
     obtain ⟨s1, q0, q1, q2, q3⟩ := quo_facts hr (show r.f < t by omega) (show t <= lastI r by omega)
     replace hn := Lib.hid hn
     clear hd2 q2 q3
     replace hri := Lib.hid hri
     go_upto_region 8 with (fail)
     refine wp_facts (fun W' => Below w.heap.size w W' /\ Blk W' W.heap.size #[.int .i64 r.f, .int .i64 r.s, .int .i64 r.c] 144) ⟨by exact belowAny, by exact blkAny⟩ ?_
     clear hW
     rintro W1 ⟨hW, b1⟩
     have z2 := hW.size
     have z3 := b1.lt
     have k1 := b1.cell
     have f1 := b1.frozen
     go_wp2_with fail
     refine (c_last r _ ⟨hr.f0, hr.f1⟩ ⟨hr.s0, hr.s1⟩ ⟨hr.c0, hr.c1⟩).mono ?_
     rintro e w4 ⟨rfl, hb4⟩
     have z5 := hb4.size
     try simp at z5
     clear k1 f1
     have b1 : Blk w4 W.heap.size #[.int .i64 r.f, .int .i64 r.s, .int .i64 r.c] 144 := blkAny
     have hW : Below w.heap.size w w4 := belowAny
     have z6 := b1.lt
     clear hb4
     have k1 := b1.cell
     have f1 := b1.frozen
     go_wp2
     go_ret
     exact ⟨ret_int (by have := hn.out; omega), belowAny⟩
  ·have e : l.drop i = [] := List.drop_eq_nil_of_le hge
   rw [e] at hn
   simp [belowL] at hn
   replace hn := Lib.hid hn
   clear e
   go_wp2
   go_ret
   exact ⟨ret_int (by have := hn.out; omega), hW⟩
def atV (l : List RunT) (i : Int) : Int := (atL l i).getD 0
def atE (l : List RunT) (i : Int) : Int := if (atL l i).isSome then 0 else 4
theorem atV_some {l : List RunT} {i v : Int} (h : atL l i = some v) : atV l i = v := by simp [atV, h]
theorem atE_some {l : List RunT} {i v : Int} (h : atL l i = some v) : atE l i = 0 := by simp [atE, h]
theorem atV_none {l : List RunT} {i : Int} (h : atL l i = none) : atV l i = 0 := by simp [atV, h]
theorem atE_none {l : List RunT} {i : Int} (h : atL l i = none) : atE l i = 4 := by simp [atE, h]
theorem atL_drop {l : List RunT} {k : Nat} {r : RunT} (hr : l[k]? = some r) (i : Int) : atL (l.drop k) i = if i < r.c then some (r.f + r.s * i) else atL (l.drop (k + 1)) (i - r.c) := by
 rw [List.getElem?_eq_some_iff] at hr
 obtain ⟨hi, rfl⟩ := hr
 rw [List.drop_eq_getElem_cons hi, atL]
def atRel (p : Option Addr) (cap : Nat) (l : List RunT) (i : Int) (w : World) (a' : Act) (W : World) : Prop := Below w.heap.size w W /\ ∃ (k : Nat) (j : Int), (∃ u : Nat -> Value, a' = { tmps := #[(.slice p l.length cap), j, u 2, u 3, u 4, u 5, u 6, u 7, u 8, u 9, u 10, u 11, u 12, (.slice p l.length cap), .int .i64 (l.length : Int), .int .i64 (k : Int), u 16, u 17, u 18, u 19, u 20, u 21, u 22, u 23, u 24, u 25, u 26, u 27, u 28, u 29, u 30, u 31, u 32, u 33, u 34], defers := [] }) /\ k <= l.length /\ atL (l.drop k) j = atL l i /\ 0 <= j /\ j <= i
theorem at_w (p : Option Addr) (cap : Nat) (l : List RunT) (i : Int) (w : World) (hl : RunsOk l) (h : RunsIn w p l) (hi0 : 0 <= i) (hi1 : i <= 9223372036854775807) :
  Calls Tryz.prog 112 #[.slice p l.length cap, i] w fun e w' => e = .returned (.tuple #[.int .i64 (atV l i), .int .i64 (atE l i)]) /\ Below w.heap.size w w' := by
 have hlen := hl.few
 have c1 := fun W (hW : Below w.heap.size w W) => rises_w p cap l W (by omega) (h.below hW)
 rw [(risesB_iff l).2 hl] at c1
 have H_c1 := Lib.hid c1
 clear c1
 go_enter Tryz.func112, Tryz.ntmps112
 have c1 := H_c1.out
 go_wp2_with fail
 refine (c1 _ (belowAny)).mono ?_
 rintro e w1 ⟨rfl, hb1⟩
 clear c1
 have z2 := hb1.size
 try simp at z2
 have hW : Below w.heap.size w w1 := belowAny
 clear hb1
 go_wp2
 refine wp_loop (atRel p cap l i w) (fun a' _ => l.length - (intAt (a'.tmps.getD 15 undef)).toNat) ?_ ?_
 ·unfold atRel
  exact ⟨hW, 0, i, frame_ex rfl, by omega, by simp, by omega, by omega⟩
 ·clear hW
  rintro a' W ⟨hW, k, j, ⟨u, rfl⟩, hk, hn, hj0, hj1⟩
  have hz := hW.size
  rcases Nat.lt_or_ge k l.length with hlt | hge
  ·obtain ⟨r, hri⟩ : ∃ r, l[k]? = some r := ⟨l[k]'(by omega), List.getElem?_eq_getElem (by omega)⟩
   have hr := hl.each r (List.mem_of_getElem? hri)
   obtain ⟨b, o, rfl, k0, k1, k2⟩ := (h.below hW).at' k r hri
   have hd2 := atL_drop hri j
   have r1 := hr.f0; have r2 := hr.f1; have r3 := hr.s0; have r4 := hr.s1; have r5 := hr.c0; have r6 := hr.c1; have r7 := lastI_le hr; have r8 := hr.last
   by_cases h1 : j < r.c
   ·rw [if_pos h1] at hd2
    rw [hd2] at hn
    have m0 : 0 <= r.s * j := Int.mul_nonneg r3 hj0
    have m1 : r.f + r.s * j <= lastI r := run_at_le hr (by omega)
    replace hn := Lib.hid hn
    clear hd2
    replace hri := Lib.hid hri
    go_wp2
    refine bodyPost_ret (v := .tuple #[.int .i64 (r.f + r.s * j), .int .i64 (0)]) (by simp [results, Tryz.results112, go_sem]) rfl ⟨by rw [atV_some hn.out.symm, atE_some hn.out.symm], belowAny⟩
   ·rw [if_neg h1] at hd2
    rw [hd2] at hn
    replace hn := Lib.hid hn
    clear hd2
    replace hri := Lib.hid hri
    go_wp2
    rw [show (k : Int) + 1 = ((k + 1 : Nat) : Int) by omega]
    refine ⟨?_, by simp [intAt]; omega⟩
    unfold atRel
    exact ⟨belowAny, k + 1, j - r.c, frame_ex rfl, by omega, hn.out, by omega, by omega⟩
  ·have e : l.drop k = [] := List.drop_eq_nil_of_le hge
   rw [e] at hn
   simp only [atL] at hn
   replace hn := Lib.hid hn
   clear e
   go_wp2
   refine bodyPost_ret (v := .tuple #[.int .i64 (0), .int .i64 (4)]) (by simp [results, Tryz.results112, go_sem]) rfl ⟨by rw [atV_none hn.out.symm, atE_none hn.out.symm], belowAny⟩
def findL (l : List RunT) (t : Int) : Option Int := if atL l (belowL l t) = some t then some (belowL l t) else none
section
variable (P : Program)
theorem run_copyK (w : World) (dT sT ty elem : TypeId) (k g dLen dCap : Nat) (a : Addr) (sLen sCap : Nat) (cur : Array Value) (t : TypeId) (cs : List Value)
  (hu : P.underlying dT = some (.slice elem)) (hs : (P.info? elem).map (·.size) = some k)
  (hg : w.heap[g]? = some (.cells cur t (0, 0))) (hn : cs.length = Nat.min sLen dLen * k)
  (hsrc : ∀ j v, cs[j]? = some v -> w.cell? (a.add j) = some v) (hfit : cs.length = cur.size) (h1 : ∀ v ∈ cs, v.oneCell' = true) :
  (Builtin.copy_ #[dT, sT] ty #[.slice (some ⟨g, 0, none⟩) dLen dCap, .slice (some a) sLen sCap]).run P w =
   .ok (goInt (Nat.min sLen dLen)) (w.setRow g cs.toArray) := by
 have hl := run_loadCells_list (P := P) w a cs hsrc
 have hst := run_storeCells_at P g 0 t cs 0 cur w hg (by omega) h1
 have e : cur.toList.take (0 + 0) ++ cs ++ cur.toList.drop (0 + 0 + cs.length) = cs := by
  have : cur.toList.drop cs.length = [] := List.drop_eq_nil_of_le (by simp [hfit])
  simp [this]
 rw [e] at hst
 cases hq : P.info? elem with
 | none => simp [hq] at hs
 | some i =>
  have hi : i.size = k := by simpa [hq] using hs
  have hm : k * min sLen dLen = cs.length := by rw [hn, Nat.mul_comm]
  have hm' : min sLen dLen * k = cs.length := hn.symm
  simp [Builtin.copy_, run_underlying hu, Builtin.lenOf, Builtin.firstCells, sizeOf, typeInfo, hq, hi, hm, hm', hl, hst]
end
def clipI (l : List RunT) (a : Int) : Int := belowL l a
def clipJ (l : List RunT) (a b : Int) : Int := if 281474976710656 <= b then cnt l else if belowL l a < belowL l (b + 1) then belowL l (b + 1) else belowL l a
theorem clip_w (p : Option Addr) (cap : Nat) (l : List RunT) (a b : Int) (w : World) (hl : RunsOk l) (h : RunsIn w p l) (hb : -9223372036854775808 <= b) :
  Calls Tryz.prog 189 #[.slice p l.length cap, a, b] w fun e w' => e = .returned (.tuple #[.int .i64 (clipI l a), .int .i64 (clipJ l a b)]) /\ Below w.heap.size w w' := by
 have hlen := hl.few
 have c1 := fun W (hW : Below w.heap.size w W) => rises_w p cap l W (by omega) (h.below hW)
 rw [(risesB_iff l).2 hl] at c1
 have c2 := fun W (hW : Below w.heap.size w W) => below_w p cap l a W hl (h.below hW)
 unfold clipI clipJ
 by_cases hm : 281474976710656 <= b
 ·rw [if_pos hm]
  have c3 := fun W (hW : Below w.heap.size w W) => many_w p l.length cap l W rfl hl.few (h.below hW) (fun i r hr => by have hh := hl.each r (List.mem_of_getElem? hr); have := hh.c0; have := hh.c1; omega)
  rw [countTo_all] at c3
  generalize belowL l a = i at *
  clear hl
  have H_c1 := Lib.hid c1
  clear c1
  have H_c2 := Lib.hid c2
  clear c2
  have H_c3 := Lib.hid c3
  clear c3
  go_enter Tryz.func189, Tryz.ntmps189
  have c1 := H_c1.out
  go_wp2_with fail
  refine (c1 _ (belowAny)).mono ?_
  rintro e w1 ⟨rfl, hb1⟩
  clear c1
  have z2 := hb1.size
  try simp at z2
  have hW : Below w.heap.size w w1 := belowAny
  clear hb1
  have c2 := H_c2.out
  go_wp2_with fail
  refine (c2 _ (belowAny)).mono ?_
  rintro e w3 ⟨rfl, hb3⟩
  clear c2
  have z4 := hb3.size
  try simp at z4
  have hW : Below w.heap.size w w3 := belowAny
  clear hb3
  have c3 := H_c3.out
  go_wp2_with fail
  refine (c3 _ (belowAny)).mono ?_
  rintro e w5 ⟨rfl, hb5⟩
  clear c3
  have z6 := hb5.size
  try simp at z6
  have hW : Below w.heap.size w w5 := belowAny
  clear hb5
  go_wp2
  refine bodyPost_ret (v := .tuple #[i, .int .i64 (cnt l)]) (by simp [results, Tryz.results189, go_sem]) rfl ⟨rfl, by exact belowAny⟩
 ·rw [if_neg hm]
  have c3 := fun W (hW : Below w.heap.size w W) => below_w p cap l (b + 1) W hl (h.below hW)
  clear hl
  generalize belowL l a = i at *
  generalize belowL l (b + 1) = j at *
  by_cases hij : i < j
  ·rw [if_pos hij]
   have H_c1 := Lib.hid c1
   clear c1
   have H_c2 := Lib.hid c2
   clear c2
   have H_c3 := Lib.hid c3
   clear c3
   go_enter Tryz.func189, Tryz.ntmps189
   have c1 := H_c1.out
   go_wp2_with fail
   refine (c1 _ (belowAny)).mono ?_
   rintro e w1 ⟨rfl, hb1⟩
   clear c1
   have z2 := hb1.size
   try simp at z2
   have hW : Below w.heap.size w w1 := belowAny
   clear hb1
   have c2 := H_c2.out
   go_wp2_with fail
   refine (c2 _ (belowAny)).mono ?_
   rintro e w3 ⟨rfl, hb3⟩
   clear c2
   have z4 := hb3.size
   try simp at z4
   have hW : Below w.heap.size w w3 := belowAny
   clear hb3
   have c3 := H_c3.out
   go_wp2_with fail
   refine (c3 _ (belowAny)).mono ?_
   rintro e w5 ⟨rfl, hb5⟩
   clear c3
   have z6 := hb5.size
   try simp at z6
   have hW : Below w.heap.size w w5 := belowAny
   clear hb5
   go_wp2
   refine bodyPost_ret (v := .tuple #[i, j]) (by simp [results, Tryz.results189, go_sem]) rfl ⟨rfl, by exact belowAny⟩
  ·rw [if_neg hij]
   have H_c1 := Lib.hid c1
   clear c1
   have H_c2 := Lib.hid c2
   clear c2
   have H_c3 := Lib.hid c3
   clear c3
   go_enter Tryz.func189, Tryz.ntmps189
   have c1 := H_c1.out
   go_wp2_with fail
   refine (c1 _ (belowAny)).mono ?_
   rintro e w1 ⟨rfl, hb1⟩
   clear c1
   have z2 := hb1.size
   try simp at z2
   have hW : Below w.heap.size w w1 := belowAny
   clear hb1
   have c2 := H_c2.out
   go_wp2_with fail
   refine (c2 _ (belowAny)).mono ?_
   rintro e w3 ⟨rfl, hb3⟩
   clear c2
   have z4 := hb3.size
   try simp at z4
   have hW : Below w.heap.size w w3 := belowAny
   clear hb3
   have c3 := H_c3.out
   go_wp2_with fail
   refine (c3 _ (belowAny)).mono ?_
   rintro e w5 ⟨rfl, hb5⟩
   clear c3
   have z6 := hb5.size
   try simp at z6
   have hW : Below w.heap.size w w5 := belowAny
   clear hb5
   go_wp2
   refine bodyPost_ret (v := .tuple #[i, i]) (by simp [results, Tryz.results189, go_sem]) rfl ⟨rfl, by exact belowAny⟩
theorem placed_w (p : Option Addr) (cap : Nat) (l : List RunT) (i j : Int) (w : World) (hl : RunsOk l) (h : RunsIn w p l) (h0 : 0 <= i) (h1 : i < j) (h2 : j <= cnt l) :
  Calls Tryz.prog 231 #[.slice p l.length cap, i, j] w fun e w' => e = .returned (.int .i64 0) /\ Below w.heap.size w w' := by
 have hlen := hl.few
 have c1 := fun W (hW : Below w.heap.size w W) => rises_w p cap l W (by omega) (h.below hW)
 rw [(risesB_iff l).2 hl] at c1
 have c2 := fun W (hW : Below w.heap.size w W) => many_w p l.length cap l W rfl hl.few (h.below hW) (fun i r hr => by have hh := hl.each r (List.mem_of_getElem? hr); have := hh.c0; have := hh.c1; omega)
 rw [countTo_all] at c2
 clear hl
 have H_c1 := Lib.hid c1
 clear c1
 have H_c2 := Lib.hid c2
 clear c2
 go_enter Tryz.func231, Tryz.ntmps231
 have c1 := H_c1.out
 go_wp2_with fail
 refine (c1 _ (belowAny)).mono ?_
 rintro e w1 ⟨rfl, hb1⟩
 clear c1
 have z2 := hb1.size
 try simp at z2
 have hW : Below w.heap.size w w1 := belowAny
 clear hb1
 have c2 := H_c2.out
 go_wp2_with fail
 refine (c2 _ (belowAny)).mono ?_
 rintro e w3 ⟨rfl, hb3⟩
 clear c2
 have z4 := hb3.size
 try simp at z4
 have hW : Below w.heap.size w w3 := belowAny
 clear hb3
 go_wp2
 refine bodyPost_ret (v := .int .i64 0) (by simp [results, Tryz.results231, go_sem]) rfl ⟨rfl, by exact belowAny⟩
def mx (x y : Int) : Int := if y > x then y else x
def mn (x y : Int) : Int := if y < x then y else x
theorem mx_spec (x y : Int) : x <= mx x y /\ y <= mx x y /\ (mx x y = x ∨ mx x y = y) := by unfold mx; split <;> omega
theorem mn_spec (x y : Int) : mn x y <= x /\ mn x y <= y /\ (mn x y = x ∨ mn x y = y) := by unfold mn; split <;> omega
def pieceOf (r : RunT) (i j : Int) : List RunT := if mx i 0 < mn j r.c then [⟨r.f + r.s * mx i 0, r.s, mn j r.c - mx i 0⟩] else []
def piecesL : List RunT -> Int -> Int -> List RunT
 | [], _, _ => []
 | r :: l, i, j => pieceOf r i j ++ piecesL l (i - r.c) (j - r.c)
theorem piecesL_append (a b : List RunT) : ∀ (i j : Int), piecesL (a ++ b) i j = piecesL a i j ++ piecesL b (i - cnt a) (j - cnt a) := by
 induction a with
 | nil => intro i j; simp [piecesL, cnt]
 | cons r a ih =>
  intro i j
  simp only [List.cons_append, piecesL, ih, cnt, List.append_assoc]
  rw [show i - r.c - cnt a = i - (r.c + cnt a) by omega, show j - r.c - cnt a = j - (r.c + cnt a) by omega]
theorem piecesL_take {l : List RunT} {k : Nat} {r : RunT} (hr : l[k]? = some r) (i j : Int) : piecesL (l.take (k + 1)) i j = piecesL (l.take k) i j ++ pieceOf r (i - cnt (l.take k)) (j - cnt (l.take k)) := by
 rw [List.getElem?_eq_some_iff] at hr
 obtain ⟨hi, rfl⟩ := hr
 rw [List.take_succ_eq_append_getElem hi, piecesL_append]
 simp [piecesL]
theorem cnt_take {l : List RunT} {k : Nat} {r : RunT} (hr : l[k]? = some r) : cnt (l.take (k + 1)) = cnt (l.take k) + r.c := by
 rw [List.getElem?_eq_some_iff] at hr
 obtain ⟨hi, rfl⟩ := hr
 rw [List.take_succ_eq_append_getElem hi, cnt_append]
 simp [cnt]
theorem cnt_take_le {l : List RunT} (h : ∀ r, r ∈ l -> RunOk r) (k : Nat) : 0 <= cnt (l.take k) /\ cnt (l.take k) <= cnt l := by
 have a := cnt_nonneg (l.take k) fun r hr => h r (List.mem_of_mem_take hr)
 have b := cnt_nonneg (l.drop k) fun r hr => h r (List.mem_of_mem_drop hr)
 have e := cnt_append (l.take k) (l.drop k)
 rw [List.take_append_drop] at e
 omega
theorem length_pieceOf (r : RunT) (i j : Int) : (pieceOf r i j).length <= 1 := by unfold pieceOf; split <;> simp
theorem length_piecesL : ∀ (l : List RunT) (i j : Int), (piecesL l i j).length <= l.length
 | [], _, _ => by simp [piecesL]
 | r :: l, i, j => by
  simp only [piecesL, List.length_append, List.length_cons]
  have := length_pieceOf r i j
  have := length_piecesL l (i - r.c) (j - r.c)
  omega
def flatCells : List RunT -> List Value
 | [] => []
 | r :: l => .int .i64 r.f :: .int .i64 r.s :: .int .i64 r.c :: flatCells l
def runCells (l : List RunT) : Array Value := (flatCells l).toArray
theorem length_flatCells : ∀ l, (flatCells l).length = l.length * 3
 | [] => rfl
 | r :: l => by simp only [flatCells, List.length_cons, length_flatCells l]; omega
theorem flat_at : ∀ (l : List RunT) (i : Nat) (r : RunT), l[i]? = some r -> (flatCells l)[i * 3]? = some (r.f) /\ (flatCells l)[i * 3 + 1]? = some (r.s) /\ (flatCells l)[i * 3 + 2]? = some (r.c)
 | [], i, r, h => by simp at h
 | a :: l, 0, r, h => by
  simp at h
  subst h
  simp [flatCells]
 | a :: l, i + 1, r, h => by
  have := flat_at l i r (by simpa using h)
  rw [show (i + 1) * 3 = i * 3 + 3 by omega]
  simpa [flatCells] using this
theorem flat_set : ∀ (l : List RunT) (i : Nat) (r : RunT), i < l.length -> (((flatCells l).set (i * 3) (r.f)).set (i * 3 + 1) (r.s)).set (i * 3 + 2) (r.c) = flatCells (l.set i r)
 | [], i, r, h => by simp at h
 | a :: l, 0, r, h => by simp [flatCells]
 | a :: l, i + 1, r, h => by
  have := flat_set l i r (by simpa using h)
  rw [show (i + 1) * 3 = i * 3 + 3 by omega]
  simpa [flatCells] using this
theorem row_set (l : List RunT) (i : Nat) (r : RunT) (h : i < l.length) : (((runCells l).setIfInBounds (i * 3) (r.f)).setIfInBounds (i * 3 + 1) (r.s)).setIfInBounds (i * 3 + 2) (r.c) = runCells (l.set i r) := by
 unfold runCells
 simp only [List.setIfInBounds_toArray]
 rw [flat_set l i r h]
theorem flat_mem : ∀ (l : List RunT) (v : Value), v ∈ flatCells l -> ∃ x, v = .int .i64 x
 | [], v, h => by simp [flatCells] at h
 | r :: l, v, h => by
  simp only [flatCells, List.mem_cons] at h
  rcases h with rfl | rfl | rfl | h
  ·exact ⟨_, rfl⟩
  ·exact ⟨_, rfl⟩
  ·exact ⟨_, rfl⟩
  ·exact flat_mem l v h
theorem flat_at' (l : List RunT) (j : Nat) (v : Value) (h : (flatCells l)[j]? = some v) : ∃ i r, l[i]? = some r /\ ((j = i * 3 /\ v = r.f) ∨ (j = i * 3 + 1 /\ v = r.s) ∨ (j = i * 3 + 2 /\ v = r.c)) := by
 have hlt : j < l.length * 3 := by
  rw [List.getElem?_eq_some_iff] at h
  rw [<- length_flatCells]; exact h.1
 have hi : j / 3 < l.length := by omega
 refine ⟨j / 3, l[j / 3], List.getElem?_eq_getElem hi, ?_⟩
 obtain ⟨a, b, c⟩ := flat_at l (j / 3) _ (List.getElem?_eq_getElem hi)
 have hm : j % 3 = 0 ∨ j % 3 = 1 ∨ j % 3 = 2 := by omega
 rcases hm with m | m | m
 ·left
  have e : j = j / 3 * 3 := by omega
  rw [<- e, h] at a
  exact ⟨e, by simpa using a⟩
 ·right; left
  have e : j = j / 3 * 3 + 1 := by omega
  rw [<- e, h] at b
  exact ⟨e, by simpa using b⟩
 ·right; right
  have e : j = j / 3 * 3 + 2 := by omega
  rw [<- e, h] at c
  exact ⟨e, by simpa using c⟩
theorem RunsIn.of_blk {w : World} {g : Nat} {l : List RunT} {t : TypeId} (h : Blk w g (runCells l) t) (d m : List RunT) (e : l = d ++ m) : RunsIn w (some ⟨g, 0, none⟩) d := ⟨fun i r hr => by
 subst e
 have hr' : (d ++ m)[i]? = some r := by
  rw [List.getElem?_append_left]
  ·exact hr
  ·rw [List.getElem?_eq_some_iff] at hr; exact hr.1
 obtain ⟨a, b, c⟩ := flat_at _ i r hr'
 have k := h.cell
 refine ⟨g, 0, rfl, ?_, ?_, ?_⟩
 ·rw [k]; simpa [runCells] using a
 ·rw [k]; simpa [runCells] using b
 ·rw [k]; simpa [runCells] using c⟩
theorem RunsIn.flat {w : World} {a : Addr} {l : List RunT} (h : RunsIn w (some a) l) (j : Nat) (v : Value) (hv : (flatCells l)[j]? = some v) : w.cell? (a.add j) = some v := by
 obtain ⟨i, r, hr, h'⟩ := flat_at' l j v hv
 obtain ⟨b, o, e, c0, c1, c2⟩ := h.at' i r hr
 simp at e
 subst e
 have hadd : (⟨b, o, none⟩ : Addr).add j = ⟨b, o + j, none⟩ := by unfold Addr.add; split <;> simp_all
 rw [hadd]
 rcases h' with ⟨rfl, rfl⟩ | ⟨rfl, rfl⟩ | ⟨rfl, rfl⟩
 ·exact c0
 ·exact c1
 ·exact c2
theorem Tryz.infoRun : (Tryz.prog.info? 144).map (fun i => (i.zero, i.size, i.bytes)) = some (some (.agg #[.int .i64 0, .int .i64 0, .int .i64 0]), 3, 24) := by kernel_rfl
theorem make_runs (n : Nat) (hn : n <= 256) : ∃ C : Array Value, C.size = n * 3 /\ ∀ W, (Instr.makeSlice 93 (.int .i64 (n : Int)) (.int .i64 (n : Int))).run Tryz.prog W = .ok (.slice (some ⟨W.heap.size, 0, none⟩) n n) (W.alloc (.cells C 144)) := by
 obtain ⟨i, hi, hz0, hz1, hz2⟩ := info_parts Tryz.infoRun
 refine ⟨madeCells #[.int .i64 0, .int .i64 0, .int .i64 0] (n * 3), ?_, fun W => ?_⟩
 rotate_left
 ·have := run_make (P := Tryz.prog) W 93 144 i _ rfl hi hz0 .i64 .i64 (n : Int) (n : Int) (by omega) (by omega) (by rw [hz2]; omega) (by omega)
  simpa [hz1, Value.cells] using this
 ·simp [size_madeCells]
attribute [local simp] Oper.looksAt Op.operands Call.operands envOf Det GDet
theorem Blk.write3 {W : World} {g n : Nat} {L : List RunT} {t : TypeId} {r : RunT} (h : Blk W g (runCells L) t) (hn : n < L.length) (L' : List RunT) (e : L.set n r = L') :
  Blk (((W.setCell ⟨g, n * 3, none⟩ (r.f)).setCell ⟨g, n * 3 + 1, none⟩ (r.s)).setCell ⟨g, n * 3 + 2, none⟩ (r.c)) g (runCells L') t := by
 subst e
 rw [<- row_set L n r hn]
 exact ((h.set _ _).set _ _).set _ _
theorem Blk.three {W : World} {g n : Nat} {L : List RunT} {t : TypeId} (h : Blk W g (runCells L) t) (hn : n < L.length) :
  ∃ a b c, W.cell? ⟨g, n * 3, none⟩ = some a /\ W.cell? ⟨g, n * 3 + 1, none⟩ = some b /\ W.cell? ⟨g, n * 3 + 2, none⟩ = some c := by
 obtain ⟨a, b, c⟩ := flat_at L n _ (List.getElem?_eq_getElem hn)
 have k := h.cell
 exact ⟨.int .i64 L[n].f, .int .i64 L[n].s, .int .i64 L[n].c, by rw [k]; simpa [runCells] using a, by rw [k]; simpa [runCells] using b, by rw [k]; simpa [runCells] using c⟩
theorem set_here {D l : List RunT} (r : RunT) (h : D.length < l.length) : (D ++ l.drop D.length).set D.length r = D ++ [r] ++ l.drop (D.length + 1) := by
 rw [List.set_append_right _ _ (Nat.le_refl _), Nat.sub_self, List.drop_eq_getElem_cons h, List.set_cons_zero, List.append_assoc]
 rfl
def piecesRel (p : Option Addr) (cap : Nat) (l : List RunT) (i j : Int) (w : World) (a' : Act) (W : World) : Prop :=
 Below w.heap.size w W /\ ∃ k : Nat, (∃ u : Nat -> Value, a' = { tmps := #[(.slice p l.length cap), .int .i64 (i - cnt (l.take k)), .int .i64 (j - cnt (l.take k)), u 3, u 4, u 5, u 6, .slice (some ⟨w.heap.size, 0, none⟩) l.length l.length, .int .i64 ((piecesL (l.take k) i j).length : Int), u 9, u 10, u 11, u 12, u 13, u 14, u 15, u 16, u 17, u 18, (.slice p l.length cap), .int .i64 (l.length : Int), .int .i64 (k : Int), u 22, u 23, u 24, u 25, u 26, u 27, u 28, u 29, u 30, u 31, u 32, u 33, u 34, u 35, u 36, u 37, u 38, u 39, u 40, u 41, u 42, u 43, u 44, u 45, u 46, u 47, u 48, u 49, u 50, u 51, u 52, u 53, u 54, u 55, u 56, u 57, u 58, u 59, u 60, u 61, u 62, u 63, u 64], defers := [] }) /\ k <= l.length /\ Blk W w.heap.size (runCells (piecesL (l.take k) i j ++ l.drop (piecesL (l.take k) i j).length)) 144
theorem pieces_w (a : Addr) (cap : Nat) (l : List RunT) (i j : Int) (w : World) (hl : RunsOk l) (h : RunsIn w (some a) l) (hi0 : 0 <= i) (hij : i < j) (hj : j <= cnt l) :
  Calls Tryz.prog 232 #[.slice (some a) l.length cap, i, j] w fun e w' =>
   e = .returned (.slice (some ⟨w.heap.size, 0, none⟩) (piecesL l i j).length (piecesL l i j).length) /\ Below w.heap.size w w' /\ RunsIn w' (some ⟨w.heap.size, 0, none⟩) (piecesL l i j) := by
 have hlen := hl.few
 have hcnt := hl.count
 obtain ⟨C, hC, hmk⟩ := make_runs l.length hlen
 go_enter Tryz.func232, Tryz.ntmps232
 go_upto_region 2 with (fail)
 refine wp_facts (fun W' => Below w.heap.size w W' /\ Blk W' w.heap.size C 144) ⟨belowAny, blkAny⟩ ?_
 rintro W1 ⟨hW, b1⟩
 have z1 := hW.size
 have z2 := b1.lt
 have hcp := run_copyK Tryz.prog W1 93 93 3 144 3 w.heap.size l.length l.length a l.length cap C 144 (flatCells l) (by kernel_rfl) (by kernel_rfl) b1 (by rw [length_flatCells]; simp) (h.below hW).flat (by rw [length_flatCells, hC]) (fun v hv => by obtain ⟨x, rfl⟩ := flat_mem l v hv; rfl)
 rw [show Nat.min l.length l.length = l.length from Nat.min_self _] at hcp
 go_upto_region 4 with (fail)
 clear hcp hmk
 refine wp_facts (fun W' => Below w.heap.size w W' /\ Blk W' w.heap.size (runCells l) 144) ⟨below_setRow hW (Nat.le_refl _) _, setRow_heap W1 _ _ _ _ (0, 0) b1⟩ ?_
 clear hW b1 z1 z2
 rintro W2 ⟨hW, b1⟩
 have z1 := hW.size
 have z2 := b1.lt
 go_wp2
 refine wp_loop (piecesRel (some a) cap l i j w) (fun a' _ => l.length - (intAt (a'.tmps.getD 21 undef)).toNat) ?_ ?_
 ·unfold piecesRel
  refine ⟨hW, 0, frame_ex ?_, by omega, by simpa [piecesL] using b1⟩
  simp [cnt, piecesL]
 ·clear hW b1 z1 z2
  rintro a' W ⟨hW, k, ⟨u, rfl⟩, hk, b1⟩
  have hz := hW.size
  have hz1 := b1.lt
  rcases Nat.lt_or_ge k l.length with hlt | hge
  ·obtain ⟨r, hri⟩ : ∃ r, l[k]? = some r := ⟨l[k]'(by omega), List.getElem?_eq_getElem (by omega)⟩
   have hr := hl.each r (List.mem_of_getElem? hri)
   obtain ⟨b, o, ha, k0, k1, k2⟩ := (h.below hW).at' k r hri
   cases ha
   obtain ⟨t0, t1⟩ := cnt_take_le hl.each k
   have t2 := cnt_take hri
   obtain ⟨t3, t4⟩ := cnt_take_le hl.each (k + 1)
   have hp := length_piecesL (l.take k) i j
   have hp' : (l.take k).length <= k := by simp; omega
   have hP := Lib.hid (piecesL_take hri i j)
   have r1 := hr.f0; have r2 := hr.f1; have r3 := hr.s0; have r4 := hr.s1; have r5 := hr.c0; have r6 := hr.c1; have r7 := lastI_le hr; have r8 := hr.last
   generalize hD : piecesL (l.take k) i j = D at *
   generalize hi' : i - cnt (l.take k) = i' at *
   generalize hj' : j - cnt (l.take k) = j' at *
   obtain ⟨x1, x2, -⟩ := mx_spec i' 0
   obtain ⟨y1, y2, -⟩ := mn_spec j' r.c
   have E1 := Lib.hid (show wrap64 (i' - r.c) = i' - r.c by rw [wrap64_eq]; omega)
   have E2 := Lib.hid (show wrap64 (j' - r.c) = j' - r.c by rw [wrap64_eq]; omega)
   have E3 := Lib.hid (show i' - r.c = i - cnt (l.take (k + 1)) by omega)
   have E4 := Lib.hid (show j' - r.c = j - cnt (l.take (k + 1)) by omega)
   replace hri := Lib.hid hri
   go_upto_region 7 with (fail)
   refine wp_facts (fun W' => Below w.heap.size w W' /\ Blk W' w.heap.size (runCells (D ++ l.drop D.length)) 144 /\ Blk W' W.heap.size #[r.f, r.s, r.c] 144) ⟨by exact belowAny, by exact blkAny, by exact blkAny⟩ ?_
   clear b1 hW
   rintro W1 ⟨hW, b1, b2⟩
   have z2 := hW.size
   have z3 := b1.lt
   have z4 := b2.lt
   refine wp_region_nd 8 65 [] (fun W' => Rex [] W1 W' /\ Blk W' w.heap.size (runCells (D ++ l.drop D.length)) 144 /\ Blk W' W.heap.size #[r.f, r.s, r.c] 144) mixed (by kernel_rfl) rfl ⟨(Rex.refl _ _).drew, b1, b2⟩ (fun w w' ⟨h0, h1, h2⟩ hr => ⟨h0.trans hr, h1.rex hr (by simp <;> omega), h2.rex hr (by simp <;> omega)⟩) (fun c a d v w h => by cases d <;> exact h) ?_
   iterate 1
    apply nd_det (hg := rfl) (hal := rfl)
    ·intro a W' hC hE
     obtain ⟨_, k1, k2⟩ := hC
     have k2 := k2.cell
     first
      | (simp at hE; simp [go_sem, Act.eval, IntWalk.i64_left, hE, k2]; try rfl)
      | (clear hE; simp [go_sem, Act.eval, IntWalk.i64_left, k2]; try rfl)
   apply nd_det (c := .int .i64 (mx i' 0)) (hg := rfl) (hal := rfl)
   ·intro a W' hC hE
    simp at hE
    simp [go_sem, Act.eval, hE, mx, mn]
   iterate 3
    apply nd_det (hg := rfl) (hal := rfl)
    ·intro a W' hC hE
     obtain ⟨_, k1, k2⟩ := hC
     have k2 := k2.cell
     first
      | (simp at hE; simp [go_sem, Act.eval, IntWalk.i64_left, hE, k2]; try rfl)
      | (clear hE; simp [go_sem, Act.eval, IntWalk.i64_left, k2]; try rfl)
   apply nd_det (c := .int .i64 (mn j' r.c)) (hg := rfl) (hal := rfl)
   ·intro a W' hC hE
    simp at hE
    simp [go_sem, Act.eval, hE, mx, mn]
   iterate 2
    apply nd_det (hg := rfl) (hal := rfl)
    ·intro a W' hC hE
     obtain ⟨_, k1, k2⟩ := hC
     have k2 := k2.cell
     first
      | (simp at hE; simp [go_sem, Act.eval, IntWalk.i64_left, hE, k2]; try rfl)
      | (clear hE; simp [go_sem, Act.eval, IntWalk.i64_left, k2]; try rfl)
   rintro W5 ⟨hR, d1, d2⟩
   simp only [ndFinR, Det, forall_eq]
   intros
   repeat (rename GDet _ _ _ _ => hgd; clear hgd)
   simp only [Act.put, List.setIfInBounds_toArray, List.set_cons_zero, List.set_cons_succ]
   refine wpList_nil ?_
   replace hW := hW.trans (hR.of_priv hW.size)
   clear hR b1 b2
   have b1 := d1
   clear d1
   have b2 := d2
   clear d2
   by_cases hm : mx i' 0 < mn j' r.c
   ·have m0 : 0 <= r.s * mx i' 0 := Int.mul_nonneg r3 x2
    have m1 : r.f + r.s * mx i' 0 <= lastI r := run_at_le hr (by omega)
    have eD : piecesL (l.take (k + 1)) i j = D ++ [⟨r.f + r.s * mx i' 0, r.s, mn j' r.c - mx i' 0⟩] := by rw [hP.out]; unfold pieceOf; rw [if_pos hm]
    have eL := set_here (⟨r.f + r.s * mx i' 0, r.s, mn j' r.c - mx i' 0⟩ : RunT) (show D.length < l.length by omega)
    replace eL := Lib.hid eL
    replace eD := Lib.hid eD
    obtain ⟨v0, v1, v2, q0, q1, q2⟩ := b1.three (n := D.length) (by simp; omega)
    have f1 := b1.frozen
    have k2 := b2.cell
    have f2 := b2.frozen
    go_upto_region 11 with (fail)
    clear q0 q1 q2 f1 k2 f2
    refine wp_facts (fun W' => Below w.heap.size w W' /\ Blk W' w.heap.size (runCells (piecesL (l.take (k + 1)) i j ++ l.drop (piecesL (l.take (k + 1)) i j).length)) 144 /\ Blk W' W.heap.size #[r.f, r.s, r.c] 144) ⟨belowAny, ?_, blkAny⟩ ?_
    ·rw [eD.out, List.length_append, List.length_singleton]
     have t := b1.write3 (n := D.length) (by simp; omega) _ eL.out
     dsimp only at t
     exact t
    have hL : (D.length : Int) + 1 = ((piecesL (l.take (k + 1)) i j).length : Int) := by rw [eD.out]; simp
    replace hL := Lib.hid hL
    clear b1 b2 hW
    rintro W8 ⟨hW, b1, b2⟩
    have z8 := hW.size
    have z9 := b1.lt
    have z10 := b2.lt
    refine wp_region_nd 10 65 [] (fun W' => Rex [] W8 W' /\ Blk W' w.heap.size (runCells (piecesL (l.take (k + 1)) i j ++ l.drop (piecesL (l.take (k + 1)) i j).length)) 144 /\ Blk W' W.heap.size #[r.f, r.s, r.c] 144) mixed (by kernel_rfl) rfl ⟨(Rex.refl _ _).drew, b1, b2⟩ (fun w w' ⟨h0, h1, h2⟩ hr => ⟨h0.trans hr, h1.rex hr (by simp <;> omega), h2.rex hr (by simp <;> omega)⟩) (fun c a d v w h => by cases d <;> exact h) ?_
    iterate 10
     apply nd_det (hg := rfl) (hal := rfl)
     ·intro a W' hC hE
      obtain ⟨_, k1, k2⟩ := hC
      have k2 := k2.cell
      first
       | (simp at hE; simp [go_sem, Act.eval, IntWalk.i64_left, hE, k1, k2, E1.out, E2.out]; try rfl)
       | (clear hE; simp [go_sem, Act.eval, IntWalk.i64_left, k1, k2, E1.out, E2.out]; try rfl)
    rintro W6 ⟨hR, d1, d2⟩
    simp only [ndFinR, Det, forall_eq]
    intros
    repeat (rename GDet _ _ _ _ => hgd; clear hgd)
    simp only [Act.put, List.setIfInBounds_toArray, List.set_cons_zero, List.set_cons_succ]
    refine wpList_nil ?_
    replace hW := hW.trans (hR.of_priv hW.size)
    clear hR b1 b2
    go_wp2
    rw [E3.out, E4.out, hL.out, show (k : Int) + 1 = ((k + 1 : Nat) : Int) by omega]
    refine ⟨?_, by simp [intAt]; omega⟩
    unfold piecesRel
    exact ⟨hW, k + 1, frame_ex rfl, by omega, d1⟩
   ·have eD : piecesL (l.take (k + 1)) i j = D := by rw [hP.out]; unfold pieceOf; rw [if_neg hm, List.append_nil]
    replace eD := Lib.hid eD
    have k1 := b1.cell
    have f1 := b1.frozen
    have k2 := b2.cell
    have f2 := b2.frozen
    go_upto_region 11 with (fail)
    clear k1 f1 k2 f2
    refine wp_facts (fun W' => Below w.heap.size w W' /\ Blk W' w.heap.size (runCells (piecesL (l.take (k + 1)) i j ++ l.drop (piecesL (l.take (k + 1)) i j).length)) 144 /\ Blk W' W.heap.size #[r.f, r.s, r.c] 144) ⟨belowAny, by rw [eD.out]; exact b1, blkAny⟩ ?_
    have hL : (D.length : Int) = ((piecesL (l.take (k + 1)) i j).length : Int) := by rw [eD.out]
    replace hL := Lib.hid hL
    clear b1 b2 hW
    rintro W8 ⟨hW, b1, b2⟩
    have z8 := hW.size
    have z9 := b1.lt
    have z10 := b2.lt
    refine wp_region_nd 10 65 [] (fun W' => Rex [] W8 W' /\ Blk W' w.heap.size (runCells (piecesL (l.take (k + 1)) i j ++ l.drop (piecesL (l.take (k + 1)) i j).length)) 144 /\ Blk W' W.heap.size #[r.f, r.s, r.c] 144) mixed (by kernel_rfl) rfl ⟨(Rex.refl _ _).drew, b1, b2⟩ (fun w w' ⟨h0, h1, h2⟩ hr => ⟨h0.trans hr, h1.rex hr (by simp <;> omega), h2.rex hr (by simp <;> omega)⟩) (fun c a d v w h => by cases d <;> exact h) ?_
    iterate 10
     apply nd_det (hg := rfl) (hal := rfl)
     ·intro a W' hC hE
      obtain ⟨_, k1, k2⟩ := hC
      have k2 := k2.cell
      first
       | (simp at hE; simp [go_sem, Act.eval, IntWalk.i64_left, hE, k1, k2, E1.out, E2.out]; try rfl)
       | (clear hE; simp [go_sem, Act.eval, IntWalk.i64_left, k1, k2, E1.out, E2.out]; try rfl)
    rintro W6 ⟨hR, d1, d2⟩
    simp only [ndFinR, Det, forall_eq]
    intros
    repeat (rename GDet _ _ _ _ => hgd; clear hgd)
    simp only [Act.put, List.setIfInBounds_toArray, List.set_cons_zero, List.set_cons_succ]
    refine wpList_nil ?_
    replace hW := hW.trans (hR.of_priv hW.size)
    clear hR b1 b2
    go_wp2
    rw [E3.out, E4.out, hL.out, show (k : Int) + 1 = ((k + 1 : Nat) : Int) by omega]
    refine ⟨?_, by simp [intAt]; omega⟩
    unfold piecesRel
    exact ⟨hW, k + 1, frame_ex rfl, by omega, d1⟩
  ·have e : k = l.length := by omega
   subst e
   rw [List.take_length] at b1 ⊢
   have hlp := length_piecesL l i j
   have k1 := b1.cell
   have f1 := b1.frozen
   go_wp2
   go_ret
   exact ⟨rfl, hW, RunsIn.of_blk b1 (piecesL l i j) _ rfl⟩
end Go.Proofs.YtidfcoooccblaaaGreat
namespace Go.Proofs.YtidfcoooccblaaaGreat
open Go.RowKit
def PiecesOut (w : World) (l : List RunT) (v : Value) (w' : World) : Prop := ∃ g, v = .slice (some ⟨g, 0, none⟩) l.length l.length /\ w.heap.size <= g /\ RunsIn w' (some ⟨g, 0, none⟩) l
theorem c_pieces (a : Addr) (cap : Nat) (l : List RunT) (i j : Int) (w : World) (hl : RunsOk l) (h : RunsIn w (some a) l) (hi0 : 0 <= i) (hij : i < j) (hj : j <= cnt l) :
  Calls Tryz.prog 216 #[.slice (some a) l.length cap, i, j] w fun e w' =>
   ∃ g, w.heap.size <= g /\ e = .returned (.tuple #[.slice (some ⟨g, 0, none⟩) (piecesL l i j).length (piecesL l i j).length, .int .i64 0]) /\ Below w.heap.size w w' /\ RunsIn w' (some ⟨g, 0, none⟩) (piecesL l i j) := by
 have c1 := fun W (hW : Below w.heap.size w W) => placed_w (some a) cap l i j W hl (h.below hW) hi0 hij hj
 have H_c1 := Lib.hid c1
 clear c1
 go_enter Tryz.func216, Tryz.ntmps216
 have c1 := H_c1.out
 go_wp2_with fail
 refine (c1 _ (belowAny)).mono ?_
 rintro e w1 ⟨rfl, hb1⟩
 clear c1
 have z2 := hb1.size
 try simp at z2
 have hW : Below w.heap.size w w1 := belowAny
 clear hb1
 go_wp2_with fail
 refine (pieces_w a cap l i j _ hl (h.below hW) hi0 hij hj).mono ?_
 rintro e W5 ⟨rfl, hB, hR⟩
 go_wp2
 refine bodyPost_ret (v := .tuple #[.slice (some ⟨_, 0, none⟩) (piecesL l i j).length (piecesL l i j).length, .int .i64 0]) (by simp [results, Tryz.results216, go_sem]) rfl ⟨_, ?_, rfl, belowAny, hR⟩
 assumption
attribute [local simp] Oper.looksAt Op.operands Call.operands envOf Det GDet
structure IntsIn (w : World) (p : Option Addr) (l : List Int) : Prop where
 at' : ∀ (i : Nat) (x : Int), l[i]? = some x -> ∃ b o, p = some ⟨b, o, none⟩ /\ w.cell? ⟨b, o + i, none⟩ = some (x)
theorem IntsIn.below {w w' : World} {p : Option Addr} {l : List Int} (h : IntsIn w p l) (hb : Below w.heap.size w w') : IntsIn w' p l := ⟨fun i r hr => by
 obtain ⟨b, o, e, h1⟩ := h.at' i r hr
 have hB := (bcell hb).1
 exact ⟨b, o, e, (hB b _ (cell_lt h1)).trans h1⟩⟩
theorem IntsIn.drew {w : World} {p : Option Addr} {l : List Int} (h : IntsIn w p l) : IntsIn w.drew p l := ⟨h.at'⟩
def minL : List Int -> Int
 | [] => 0
 | x :: l => l.foldl mn x
def maxL : List Int -> Int
 | [] => 0
 | x :: l => l.foldl mx x
theorem minL_take {l : List Int} {i : Nat} {v : Int} (hv : l[i]? = some v) (hi : 1 <= i) : minL (l.take (i + 1)) = mn (minL (l.take i)) v := by
 rw [List.getElem?_eq_some_iff] at hv
 obtain ⟨h, rfl⟩ := hv
 cases l with
 | nil => simp at h
 | cons x l =>
  obtain ⟨j, rfl⟩ : ∃ j, i = j + 1 := ⟨i - 1, by omega⟩
  have h' : j < l.length := by simpa using h
  rw [List.take_succ_cons, List.take_succ_cons, List.take_succ_eq_append_getElem h']
  simp only [minL, List.foldl_append, List.foldl_cons, List.foldl_nil, List.getElem_cons_succ]
theorem maxL_take {l : List Int} {i : Nat} {v : Int} (hv : l[i]? = some v) (hi : 1 <= i) : maxL (l.take (i + 1)) = mx (maxL (l.take i)) v := by
 rw [List.getElem?_eq_some_iff] at hv
 obtain ⟨h, rfl⟩ := hv
 cases l with
 | nil => simp at h
 | cons x l =>
  obtain ⟨j, rfl⟩ : ∃ j, i = j + 1 := ⟨i - 1, by omega⟩
  have h' : j < l.length := by simpa using h
  rw [List.take_succ_cons, List.take_succ_cons, List.take_succ_eq_append_getElem h']
  simp only [maxL, List.foldl_append, List.foldl_cons, List.foldl_nil, List.getElem_cons_succ]
def minRel (p : Option Addr) (cap : Nat) (l : List Int) (w : World) (a' : Act) (W : World) : Prop :=
 Below w.heap.size w W /\ ∃ (i : Nat) (m : Int), (∃ u : Nat -> Value, a' = { tmps := #[(.slice p l.length cap), u 1, u 2, m, .int .i64 (i : Int), u 5, u 6, u 7, u 8, u 9, u 10, u 11, u 12, u 13, u 14, u 15, u 16, u 17, u 18, u 19, u 20, u 21, u 22, u 23, u 24], defers := [] }) /\ 1 <= i /\ i <= l.length /\ m = minL (l.take i)
theorem min_w (p : Option Addr) (cap : Nat) (l : List Int) (w : World) (h0 : 0 < l.length) (hlen : l.length <= 1000000) (h : IntsIn w p l) :
  Calls Tryz.prog 221 #[.slice p l.length cap] w fun e w' => e = .returned (.int .i64 (minL l)) /\ Below w.heap.size w w' := by
 obtain ⟨x, hx⟩ : ∃ x, l[0]? = some x := ⟨l[0], List.getElem?_eq_getElem h0⟩
 obtain ⟨b, o, hp, k0⟩ := h.at' 0 x hx
 subst hp
 rw [Nat.add_zero] at k0
 go_enter Tryz.func221, Tryz.ntmps221
 go_wp2
 clear k0
 refine wp_loop (minRel (some ⟨b, o, none⟩) cap l w) (fun a' _ => l.length - (intAt (a'.tmps.getD 4 undef)).toNat) ?_ ?_
 ·unfold minRel
  exact ⟨belowAny, 1, x, frame_ex rfl, by omega, by omega, by cases l with | nil => simp at hx | cons y l => simp at hx; subst hx; simp [minL]⟩
 ·rintro a' W ⟨hW, i, m, ⟨u, rfl⟩, hi0, hi, hm⟩
  have hz := hW.size
  replace hm := Lib.hid hm
  rcases Nat.lt_or_ge i l.length with hlt | hge
  ·obtain ⟨v, hv⟩ : ∃ v, l[i]? = some v := ⟨l[i], List.getElem?_eq_getElem hlt⟩
   obtain ⟨b', o', e, k1⟩ := (h.below hW).at' i v hv
   cases e
   have hn : minL (l.take (i + 1)) = mn m v := by rw [hm.out]; exact minL_take hv hi0
   replace hn := Lib.hid hn
   replace hv := Lib.hid hv
   by_cases hc : v < m
   ·have hm' : mn m v = v := by unfold mn; rw [if_pos hc]
    replace hm' := Lib.hid hm'
    go_wp2
    rw [show (i : Int) + 1 = ((i + 1 : Nat) : Int) by omega]
    refine ⟨?_, by simp [intAt]; omega⟩
    unfold minRel
    exact ⟨hW, i + 1, v, frame_ex rfl, by omega, by omega, by rw [hn.out, hm'.out]⟩
   ·have hm' : mn m v = m := by unfold mn; rw [if_neg hc]
    replace hm' := Lib.hid hm'
    go_wp2
    rw [show (i : Int) + 1 = ((i + 1 : Nat) : Int) by omega]
    refine ⟨?_, by simp [intAt]; omega⟩
    unfold minRel
    exact ⟨hW, i + 1, m, frame_ex rfl, by omega, by omega, by rw [hn.out, hm'.out]⟩
  ·have e : i = l.length := by omega
   subst e
   have hm' := hm.out
   rw [List.take_length] at hm'
   replace hm' := Lib.hid hm'
   go_wp2
   go_ret
   exact ⟨ret_int hm'.out, hW⟩
def maxRel (p : Option Addr) (cap : Nat) (l : List Int) (w : World) (a' : Act) (W : World) : Prop :=
 Below w.heap.size w W /\ ∃ (i : Nat) (m : Int), (∃ u : Nat -> Value, a' = { tmps := #[(.slice p l.length cap), u 1, u 2, m, .int .i64 (i : Int), u 5, u 6, u 7, u 8, u 9, u 10, u 11, u 12, u 13, u 14, u 15, u 16, u 17, u 18, u 19, u 20, u 21, u 22, u 23, u 24], defers := [] }) /\ 1 <= i /\ i <= l.length /\ m = maxL (l.take i)
theorem max_w (p : Option Addr) (cap : Nat) (l : List Int) (w : World) (h0 : 0 < l.length) (hlen : l.length <= 1000000) (h : IntsIn w p l) :
  Calls Tryz.prog 222 #[.slice p l.length cap] w fun e w' => e = .returned (.int .i64 (maxL l)) /\ Below w.heap.size w w' := by
 obtain ⟨x, hx⟩ : ∃ x, l[0]? = some x := ⟨l[0], List.getElem?_eq_getElem h0⟩
 obtain ⟨b, o, hp, k0⟩ := h.at' 0 x hx
 subst hp
 rw [Nat.add_zero] at k0
 go_enter Tryz.func222, Tryz.ntmps222
 go_wp2
 clear k0
 refine wp_loop (maxRel (some ⟨b, o, none⟩) cap l w) (fun a' _ => l.length - (intAt (a'.tmps.getD 4 undef)).toNat) ?_ ?_
 ·unfold maxRel
  exact ⟨belowAny, 1, x, frame_ex rfl, by omega, by omega, by cases l with | nil => simp at hx | cons y l => simp at hx; subst hx; simp [maxL]⟩
 ·rintro a' W ⟨hW, i, m, ⟨u, rfl⟩, hi0, hi, hm⟩
  have hz := hW.size
  replace hm := Lib.hid hm
  rcases Nat.lt_or_ge i l.length with hlt | hge
  ·obtain ⟨v, hv⟩ : ∃ v, l[i]? = some v := ⟨l[i], List.getElem?_eq_getElem hlt⟩
   obtain ⟨b', o', e, k1⟩ := (h.below hW).at' i v hv
   cases e
   have hn : maxL (l.take (i + 1)) = mx m v := by rw [hm.out]; exact maxL_take hv hi0
   replace hn := Lib.hid hn
   replace hv := Lib.hid hv
   by_cases hc : m < v
   ·have hm' : mx m v = v := by unfold mx; rw [if_pos hc]
    replace hm' := Lib.hid hm'
    go_wp2
    rw [show (i : Int) + 1 = ((i + 1 : Nat) : Int) by omega]
    refine ⟨?_, by simp [intAt]; omega⟩
    unfold maxRel
    exact ⟨hW, i + 1, v, frame_ex rfl, by omega, by omega, by rw [hn.out, hm'.out]⟩
   ·have hm' : mx m v = m := by unfold mx; rw [if_neg hc]
    replace hm' := Lib.hid hm'
    go_wp2
    rw [show (i : Int) + 1 = ((i + 1 : Nat) : Int) by omega]
    refine ⟨?_, by simp [intAt]; omega⟩
    unfold maxRel
    exact ⟨hW, i + 1, m, frame_ex rfl, by omega, by omega, by rw [hn.out, hm'.out]⟩
  ·have e : i = l.length := by omega
   subst e
   have hm' := hm.out
   rw [List.take_length] at hm'
   replace hm' := Lib.hid hm'
   go_wp2
   go_ret
   exact ⟨ret_int hm'.out, hW⟩
theorem c_sback (v : Int) (w : World) : Calls Tryz.prog 220 #[v] w fun e w' => e = .returned (.bool (isBack v)) /\ Below w.heap.size w w' := by
 unfold isBack
 go_enter Tryz.func220, Tryz.ntmps220
 go_upto_region 1 with (fail)
 refine wp_facts (fun W' => Below w.heap.size w W' /\ True) ⟨by exact belowAny, trivial⟩ ?_
 rintro W1 ⟨hW, _⟩
 have z2 := hW.size
 refine wp_region_sq 7 9 [] (fun W' => Rex [] W1 W') (by kernel_rfl) rfl (Rex.refl _ _) (fun w w' h0 hr => h0.trans hr) ?_
 iterate 3
  apply nd_det (hg := rfl) (hal := rfl)
  ·intro a W' hC hE
   obtain _ := hC
   first
    | (simp at hE; simp [go_sem, Act.eval, IntWalk.i64_left, hE]; try rfl)
    | (clear hE; simp [go_sem, Act.eval, IntWalk.i64_left]; try rfl)
 iterate 2
  apply nd_detg (p := true) (hg := rfl) (hd := rfl) (hal := rfl)
  ·intro v W' h
   simp at h
   simp
   exact h
  ·intro hp hx a W' hC hE
   obtain _ := hC
   simp [hx] at hE
   simp [go_sem, Act.eval, IntWalk.i64_left, hE]
   try rfl
 apply nd_pick_and (ho := rfl) (hg := rfl)
 ·intro v W' h
  simp at h
  exact h
 ·intro v W' h hx
  simp [hx] at h
  exact h
 iterate 1
  apply nd_det (hg := rfl) (hal := rfl)
  ·intro a W' hC hE
   obtain _ := hC
   first
    | (simp at hE; simp [go_sem, Act.eval, IntWalk.i64_left, hE]; try rfl)
    | (clear hE; simp [go_sem, Act.eval, IntWalk.i64_left]; try rfl)
 rintro W3 hR
 simp only [ndFinR, Det, forall_eq]
 intros
 repeat (rename GDet _ _ _ _ => hgd; clear hgd)
 simp only [Act.put, List.setIfInBounds_toArray, List.set_cons_zero, List.set_cons_succ]
 refine wpList_nil ?_
 replace hW := hW.trans (hR.of_priv hW.size)
 clear hR
 go_wp2
 refine bodyPost_ret (v := .bool (decide (-2305844108725321728 <= v) && decide (v <= 2305844108725321728))) (by simp [results, Tryz.results220, go_sem]) rfl ⟨rfl, by exact belowAny⟩
theorem c_rawis1 (v : Int) (w : World) : Calls Tryz.prog 219 #[v] w fun e w' => e = .returned (.bool (!isBack v)) /\ Below w.heap.size w w' := by
 have c1 := fun W => c_sback v W
 have H_c1 := Lib.hid c1
 clear c1
 go_enter Tryz.func219, Tryz.ntmps219
 have c1 := H_c1.out
 go_wp2_with fail
 refine (c1 _).mono ?_
 rintro e w1 ⟨rfl, hb1⟩
 clear c1
 have z2 := hb1.size
 try simp at z2
 have hW : Below w.heap.size w w1 := belowAny
 clear hb1
 go_wp2
 refine bodyPost_ret (v := .bool (!isBack v)) (by simp [results, Tryz.results219, go_sem]) rfl ⟨rfl, by exact belowAny⟩
def idxRel (p : Option Addr) (cap : Nat) (l : List Int) (w : World) (a' : Act) (W : World) : Prop :=
 Below w.heap.size w W /\ ∃ i : Nat, (∃ u : Nat -> Value, a' = { tmps := #[(.slice p l.length cap), .func (.func 219) #[] #[], u 2, u 3, u 4, u 5, (.slice p l.length cap), .int .i64 (l.length : Int), .int .i64 (i : Int), u 9, u 10, u 11, u 12, u 13, u 14, u 15, u 16, u 17, u 18], defers := [] }) /\ i <= l.length /\ (l.take i).all isBack = true
def IdxOut (l : List Int) (w : World) (e : Ending) (w' : World) : Prop := ∃ r : Int, e = .returned (r) /\ decide (0 <= r) = !(l.all isBack) /\ -1 <= r /\ Below w.heap.size w w'
theorem all_take {l : List Int} {i : Nat} {v : Int} (hv : l[i]? = some v) (h : (l.take i).all isBack = true) : (l.take (i + 1)).all isBack = isBack v := by
 rw [List.getElem?_eq_some_iff] at hv
 obtain ⟨hi, rfl⟩ := hv
 rw [List.take_succ_eq_append_getElem hi, List.all_append, h]
 simp
theorem all_false {l : List Int} {i : Nat} {v : Int} (hv : l[i]? = some v) (h : isBack v = false) : l.all isBack = false := by
 rw [List.all_eq_false]
 exact ⟨v, List.mem_of_getElem? hv, by simp [h]⟩
theorem index_w (p : Option Addr) (cap : Nat) (l : List Int) (w : World) (hlen : l.length <= 1000000) (h : IntsIn w p l) :
  Calls Tryz.prog 237 #[.slice p l.length cap, .func (.func 219) #[] #[]] w (IdxOut l w) := by
 go_enter Tryz.func237, Tryz.ntmps237
 go_wp2
 refine wp_loop (idxRel p cap l w) (fun a' _ => l.length - (intAt (a'.tmps.getD 8 undef)).toNat) ?_ ?_
 ·unfold idxRel
  exact ⟨belowAny, 0, frame_ex rfl, by omega, by simp⟩
 ·rintro a' W ⟨hW, i, ⟨u, rfl⟩, hi, hm⟩
  have hz := hW.size
  replace hm := Lib.hid hm
  rcases Nat.lt_or_ge i l.length with hlt | hge
  ·obtain ⟨v, hv⟩ : ∃ v, l[i]? = some v := ⟨l[i], List.getElem?_eq_getElem hlt⟩
   obtain ⟨b', o', e, k1⟩ := (h.below hW).at' i v hv
   cases e
   have hn := Lib.hid (all_take hv hm.out)
   replace hv := Lib.hid hv
   go_wp2_with fail
   refine (c_rawis1 v _).mono ?_
   rintro e w4 ⟨rfl, hb4⟩
   have hz4 := hb4.size
   clear k1
   cases hb : isBack v with
   | true =>
    rw [hb] at hn
    go_wp2
    rw [show (i : Int) + 1 = ((i + 1 : Nat) : Int) by omega]
    refine ⟨?_, by simp [intAt]; omega⟩
    unfold idxRel
    exact ⟨belowAny, i + 1, frame_ex rfl, by omega, hn.out⟩
   | false =>
    have hf := Lib.hid (all_false hv.out hb)
    clear hn
    go_wp2
    go_ret
    exact ⟨_, rfl, by rw [hf.out]; simp, by omega, belowAny⟩
  ·have e : i = l.length := by omega
   subst e
   have hm' := hm.out
   rw [List.take_length] at hm'
   replace hm' := Lib.hid hm'
   clear hm
   go_wp2
   go_ret
   exact ⟨_, rfl, by rw [hm'.out]; simp, by omega, hW⟩
theorem c_contains (p : Option Addr) (cap : Nat) (l : List Int) (w : World) (hlen : l.length <= 1000000) (h : IntsIn w p l) :
  Calls Tryz.prog 218 #[.slice p l.length cap, .func (.func 219) #[] #[]] w fun e w' => e = .returned (.bool (!(l.all isBack))) /\ Below w.heap.size w w' := by
 go_enter Tryz.func218, Tryz.ntmps218
 go_wp2_with fail
 refine (index_w p cap l _ hlen h).mono ?_
 rintro e w4 ⟨r, rfl, hr, hr1, hb4⟩
 have hr' := Lib.hid hr
 clear hr
 go_wp2
 go_ret
 exact ⟨by rw [<- hr'.out]; rfl, hb4⟩
theorem span_w (K A R n d E : Int) (p q : Option Addr) (len cap m vc : Nat) (w : World) (x y N : Int) (hx : 0 <= x /\ x <= 281474976710656) (hy : 0 <= y /\ y <= 281474976710656) (hN : 0 <= N /\ N <= 256)
  (c1 : ∀ W, Below w.heap.size w W -> Calls Tryz.prog 112 #[.slice p len cap, .int .i64 0] W fun e w' => e = .returned (.tuple #[x, .int .i64 0]) /\ Below W.heap.size W w')
  (c2 : ∀ W, Below w.heap.size w W -> Calls Tryz.prog 99 #[.slice p len cap] W fun e w' => e = .returned (N) /\ Below W.heap.size W w')
  (c3 : ∀ W, Below w.heap.size w W -> Calls Tryz.prog 112 #[.slice p len cap, .int .i64 (N - 1)] W fun e w' => e = .returned (.tuple #[y, .int .i64 0]) /\ Below W.heap.size W w') :
  Calls Tryz.prog 183 #[.agg #[K, .slice p len cap, A, R, n, d, .slice q m vc, E]] w fun e w' => e = .returned (.tuple #[x, .int .i64 (y - x)]) /\ Below w.heap.size w w' := by
 have e1 := Lib.hid (show wrap64 (N - 1) = N - 1 by rw [wrap64_eq]; omega)
 have H_c1 := Lib.hid c1
 clear c1
 have H_c2 := Lib.hid c2
 clear c2
 have H_c3 := Lib.hid c3
 clear c3
 go_enter Tryz.func183, Tryz.ntmps183
 go_upto_region 1 with (fail)
 refine wp_facts (fun W' => Below w.heap.size w W' /\ Blk W' w.heap.size #[K, .slice p len cap, A, R, n, d, .slice q m vc, E] 179) ⟨by exact belowAny, by exact blkAny⟩ ?_
 rintro W1 ⟨hW, b1⟩
 have z2 := hW.size
 have z3 := b1.lt
 have k1 := b1.cell
 have f1 := b1.frozen
 have c1 := H_c1.out
 go_wp2_with fail
 refine (c1 _ (belowAny)).mono ?_
 rintro e w4 ⟨rfl, hb4⟩
 clear c1
 have z5 := hb4.size
 try simp at z5
 clear k1 f1
 have b1 : Blk w4 w.heap.size #[K, .slice p len cap, A, R, n, d, .slice q m vc, E] 179 := blkAny
 have hW : Below w.heap.size w w4 := belowAny
 have z6 := b1.lt
 clear hb4
 have k1 := b1.cell
 have f1 := b1.frozen
 go_upto_region 2 with (fail)
 clear k1 f1
 refine wp_facts (fun W' => Below w.heap.size w W' /\ Blk W' w.heap.size #[K, .slice p len cap, A, R, n, d, .slice q m vc, E] 179) ⟨by exact belowAny, by exact blkAny⟩ ?_
 clear b1 hW
 rintro W7 ⟨hW, b1⟩
 have z8 := hW.size
 have z9 := b1.lt
 have c2 := H_c2.out
 have c3 := H_c3.out
 refine wp_region_nd 14 31 [] (fun W' => Rex [] W7 W' /\ Blk W' w.heap.size #[K, .slice p len cap, A, R, n, d, .slice q m vc, E] 179) mixed (by kernel_rfl) rfl ⟨(Rex.refl _ _).drew, b1⟩ (fun w w' ⟨h0, h1⟩ hr => ⟨h0.trans hr, h1.rex hr (by simp <;> omega)⟩) (fun c a d v w h => by cases d <;> exact h) ?_
 iterate 6
  apply nd_det (hg := rfl) (hal := rfl)
  ·intro a W' hC hE
   obtain ⟨_, k1⟩ := hC
   have k1 := k1.cell
   first
    | (simp at hE; simp [go_sem, Act.eval, IntWalk.i64_left, hE, k1, e1.out]; try rfl)
    | (clear hE; simp [go_sem, Act.eval, IntWalk.i64_left, k1, e1.out]; try rfl)
 refine nd_callv2 rfl rfl (fun W' hC => c2 W' (hW.trans (hC.1.of_priv hW.size))) (fun a W' hC hE => ?_) ?_
 ·obtain ⟨_, k1⟩ := hC
  have k1 := k1.cell
  first
   | (simp at hE; simp [go_sem, Act.eval, IntWalk.i64_left, hE, k1, e1.out]; try rfl)
   | (clear hE; simp [go_sem, Act.eval, IntWalk.i64_left, k1, e1.out]; try rfl)
 iterate 1
  apply nd_det (hg := rfl) (hal := rfl)
  ·intro a W' hC hE
   obtain ⟨_, k1⟩ := hC
   have k1 := k1.cell
   first
    | (simp at hE; simp [go_sem, Act.eval, IntWalk.i64_left, hE, k1, e1.out]; try rfl)
    | (clear hE; simp [go_sem, Act.eval, IntWalk.i64_left, k1, e1.out]; try rfl)
 refine nd_callv2 rfl rfl (fun W' hC => c3 W' (hW.trans (hC.1.of_priv hW.size))) (fun a W' hC hE => ?_) ?_
 ·obtain ⟨_, k1⟩ := hC
  have k1 := k1.cell
  first
   | (simp at hE; simp [go_sem, Act.eval, IntWalk.i64_left, hE, k1, e1.out]; try rfl)
   | (clear hE; simp [go_sem, Act.eval, IntWalk.i64_left, k1, e1.out]; try rfl)
 iterate 5
  apply nd_det (hg := rfl) (hal := rfl)
  ·intro a W' hC hE
   obtain ⟨_, k1⟩ := hC
   have k1 := k1.cell
   first
    | (simp at hE; simp [go_sem, Act.eval, IntWalk.i64_left, hE, k1, e1.out]; try rfl)
    | (clear hE; simp [go_sem, Act.eval, IntWalk.i64_left, k1, e1.out]; try rfl)
 rintro W10 ⟨hR, d1⟩
 simp only [ndFinR, Det, forall_eq]
 intros
 repeat (rename GDet _ _ _ _ => hgd; clear hgd)
 simp only [Act.put, List.setIfInBounds_toArray, List.set_cons_zero, List.set_cons_succ]
 refine wpList_nil ?_
 replace hW := hW.trans (hR.of_priv hW.size)
 clear hR
 clear c2
 clear c3
 try clear b1
 have b1 := d1
 clear d1
 go_wp2
 have y_1 := b1.lt
 refine bodyPost_ret (v := .tuple #[x, .int .i64 (y - x)]) (by simp [results, Tryz.results183, go_sem, y_1]) rfl ⟨rfl, by exact belowAny⟩
theorem lineis_yes (K A R n d E : Int) (p q : Option Addr) (len cap m vc : Nat) (w : World) (x L a b : Int)
  (c1 : ∀ W, Below w.heap.size w W -> Calls Tryz.prog 183 #[.agg #[K, .slice p len cap, A, R, n, d, .slice q 0 vc, E]] W fun e w' => e = .returned (.tuple #[x, L]) /\ Below W.heap.size W w')
  (c2 : ∀ W, Below w.heap.size w W -> Calls Tryz.prog 215 #[.agg #[A, R, n, d], .int .i64 0, L] W fun e w' => e = .returned (.tuple #[.agg #[a, b], .int .i64 0]) /\ Below W.heap.size W w') :
  Calls Tryz.prog 198 #[.agg #[K, .slice p len cap, A, R, n, d, .slice q 0 vc, E]] w fun e w' => e = .returned (.bool true) /\ Below w.heap.size w w' := by
 have H_c1 := Lib.hid c1
 clear c1
 have H_c2 := Lib.hid c2
 clear c2
 go_enter Tryz.func198, Tryz.ntmps198
 go_upto_region 1 with (fail)
 refine wp_facts (fun W' => Below w.heap.size w W' /\ Blk W' w.heap.size #[K, .slice p len cap, A, R, n, d, .slice q 0 vc, E] 179) ⟨by exact belowAny, by exact blkAny⟩ ?_
 rintro W1 ⟨hW, b1⟩
 have z2 := hW.size
 have z3 := b1.lt
 have k1 := b1.cell
 have f1 := b1.frozen
 have c1 := H_c1.out
 go_wp2_with fail
 refine (c1 _ (belowAny)).mono ?_
 rintro e w4 ⟨rfl, hb4⟩
 clear c1
 have z5 := hb4.size
 try simp at z5
 clear k1 f1
 have b1 : Blk w4 w.heap.size #[K, .slice p len cap, A, R, n, d, .slice q 0 vc, E] 179 := blkAny
 have hW : Below w.heap.size w w4 := belowAny
 have z6 := b1.lt
 clear hb4
 have k1 := b1.cell
 have f1 := b1.frozen
 have c2 := H_c2.out
 go_wp2_with fail
 refine (c2 _ (belowAny)).mono ?_
 rintro e w7 ⟨rfl, hb7⟩
 clear c2
 have z8 := hb7.size
 try simp at z8
 clear k1 f1
 have b1 : Blk w7 w.heap.size #[K, .slice p len cap, A, R, n, d, .slice q 0 vc, E] 179 := blkAny
 have hW : Below w.heap.size w w7 := belowAny
 have z9 := b1.lt
 clear hb7
 have k1 := b1.cell
 have f1 := b1.frozen
 go_wp2
 have y_1 := b1.lt
 refine bodyPost_ret (v := .bool true) (by simp [results, Tryz.results198, go_sem, k1, f1, y_1]) rfl ⟨rfl, by exact belowAny⟩
theorem lineis_raw (K A R n d E : Int) (p q : Option Addr) (len cap m vc : Nat) (w : World) (x L a b : Int) (hm : ¬ m = 0)
  (c1 : ∀ W, Below w.heap.size w W -> Calls Tryz.prog 183 #[.agg #[K, .slice p len cap, A, R, n, d, .slice q m vc, E]] W fun e w' => e = .returned (.tuple #[x, L]) /\ Below W.heap.size W w')
  (c2 : ∀ W, Below w.heap.size w W -> Calls Tryz.prog 215 #[.agg #[A, R, n, d], .int .i64 0, L] W fun e w' => e = .returned (.tuple #[.agg #[a, b], .int .i64 0]) /\ Below W.heap.size W w') :
  Calls Tryz.prog 198 #[.agg #[K, .slice p len cap, A, R, n, d, .slice q m vc, E]] w fun e w' => e = .returned (.bool false) /\ Below w.heap.size w w' := by
 have H_c1 := Lib.hid c1
 clear c1
 have H_c2 := Lib.hid c2
 clear c2
 go_enter Tryz.func198, Tryz.ntmps198
 go_upto_region 1 with (fail)
 refine wp_facts (fun W' => Below w.heap.size w W' /\ Blk W' w.heap.size #[K, .slice p len cap, A, R, n, d, .slice q m vc, E] 179) ⟨by exact belowAny, by exact blkAny⟩ ?_
 rintro W1 ⟨hW, b1⟩
 have z2 := hW.size
 have z3 := b1.lt
 have k1 := b1.cell
 have f1 := b1.frozen
 have c1 := H_c1.out
 go_wp2_with fail
 refine (c1 _ (belowAny)).mono ?_
 rintro e w4 ⟨rfl, hb4⟩
 clear c1
 have z5 := hb4.size
 try simp at z5
 clear k1 f1
 have b1 : Blk w4 w.heap.size #[K, .slice p len cap, A, R, n, d, .slice q m vc, E] 179 := blkAny
 have hW : Below w.heap.size w w4 := belowAny
 have z6 := b1.lt
 clear hb4
 have k1 := b1.cell
 have f1 := b1.frozen
 have c2 := H_c2.out
 go_wp2_with fail
 refine (c2 _ (belowAny)).mono ?_
 rintro e w7 ⟨rfl, hb7⟩
 clear c2
 have z8 := hb7.size
 try simp at z8
 clear k1 f1
 have b1 : Blk w7 w.heap.size #[K, .slice p len cap, A, R, n, d, .slice q m vc, E] 179 := blkAny
 have hW : Below w.heap.size w w7 := belowAny
 have z9 := b1.lt
 clear hb7
 have k1 := b1.cell
 have f1 := b1.frozen
 go_wp2
 have y_1 := b1.lt
 refine bodyPost_ret (v := .bool false) (by simp [results, Tryz.results198, go_sem, k1, f1, y_1, hm]) rfl ⟨rfl, by exact belowAny⟩
theorem lineis_over (K A R n d E : Int) (p q : Option Addr) (len cap m vc : Nat) (w : World) (x L a b : Int)
  (c1 : ∀ W, Below w.heap.size w W -> Calls Tryz.prog 183 #[.agg #[K, .slice p len cap, A, R, n, d, .slice q m vc, E]] W fun e w' => e = .returned (.tuple #[x, L]) /\ Below W.heap.size W w')
  (c2 : ∀ W, Below w.heap.size w W -> Calls Tryz.prog 215 #[.agg #[A, R, n, d], .int .i64 0, L] W fun e w' => e = .returned (.tuple #[.agg #[a, b], .int .i64 5]) /\ Below W.heap.size W w') :
  Calls Tryz.prog 198 #[.agg #[K, .slice p len cap, A, R, n, d, .slice q m vc, E]] w fun e w' => e = .returned (.bool false) /\ Below w.heap.size w w' := by
 have H_c1 := Lib.hid c1
 clear c1
 have H_c2 := Lib.hid c2
 clear c2
 go_enter Tryz.func198, Tryz.ntmps198
 go_upto_region 1 with (fail)
 refine wp_facts (fun W' => Below w.heap.size w W' /\ Blk W' w.heap.size #[K, .slice p len cap, A, R, n, d, .slice q m vc, E] 179) ⟨by exact belowAny, by exact blkAny⟩ ?_
 rintro W1 ⟨hW, b1⟩
 have z2 := hW.size
 have z3 := b1.lt
 have k1 := b1.cell
 have f1 := b1.frozen
 have c1 := H_c1.out
 go_wp2_with fail
 refine (c1 _ (belowAny)).mono ?_
 rintro e w4 ⟨rfl, hb4⟩
 clear c1
 have z5 := hb4.size
 try simp at z5
 clear k1 f1
 have b1 : Blk w4 w.heap.size #[K, .slice p len cap, A, R, n, d, .slice q m vc, E] 179 := blkAny
 have hW : Below w.heap.size w w4 := belowAny
 have z6 := b1.lt
 clear hb4
 have k1 := b1.cell
 have f1 := b1.frozen
 have c2 := H_c2.out
 go_wp2_with fail
 refine (c2 _ (belowAny)).mono ?_
 rintro e w7 ⟨rfl, hb7⟩
 clear c2
 have z8 := hb7.size
 try simp at z8
 clear k1 f1
 have b1 : Blk w7 w.heap.size #[K, .slice p len cap, A, R, n, d, .slice q m vc, E] 179 := blkAny
 have hW : Below w.heap.size w w7 := belowAny
 have z9 := b1.lt
 clear hb7
 have k1 := b1.cell
 have f1 := b1.frozen
 go_wp2
 have y_1 := b1.lt
 refine bodyPost_ret (v := .bool false) (by simp [results, Tryz.results198, go_sem, k1, f1, y_1]) rfl ⟨rfl, by exact belowAny⟩
theorem lineis_no (K A R n d E : Int) (p q : Option Addr) (len cap m vc : Nat) (w : World) (x L a b : Int)
  (c1 : ∀ W, Below w.heap.size w W -> Calls Tryz.prog 183 #[.agg #[K, .slice p len cap, A, R, n, d, .slice q m vc, E]] W fun e w' => e = .returned (.tuple #[x, L]) /\ Below W.heap.size W w')
  (c2 : ∀ W, Below w.heap.size w W -> Calls Tryz.prog 215 #[.agg #[A, R, n, d], .int .i64 0, L] W fun e w' => e = .returned (.tuple #[.agg #[a, b], .int .i64 150]) /\ Below W.heap.size W w') :
  Calls Tryz.prog 198 #[.agg #[K, .slice p len cap, A, R, n, d, .slice q m vc, E]] w fun e w' => e = .returned (.bool false) /\ Below w.heap.size w w' := by
 have H_c1 := Lib.hid c1
 clear c1
 have H_c2 := Lib.hid c2
 clear c2
 go_enter Tryz.func198, Tryz.ntmps198
 go_upto_region 1 with (fail)
 refine wp_facts (fun W' => Below w.heap.size w W' /\ Blk W' w.heap.size #[K, .slice p len cap, A, R, n, d, .slice q m vc, E] 179) ⟨by exact belowAny, by exact blkAny⟩ ?_
 rintro W1 ⟨hW, b1⟩
 have z2 := hW.size
 have z3 := b1.lt
 have k1 := b1.cell
 have f1 := b1.frozen
 have c1 := H_c1.out
 go_wp2_with fail
 refine (c1 _ (belowAny)).mono ?_
 rintro e w4 ⟨rfl, hb4⟩
 clear c1
 have z5 := hb4.size
 try simp at z5
 clear k1 f1
 have b1 : Blk w4 w.heap.size #[K, .slice p len cap, A, R, n, d, .slice q m vc, E] 179 := blkAny
 have hW : Below w.heap.size w w4 := belowAny
 have z6 := b1.lt
 clear hb4
 have k1 := b1.cell
 have f1 := b1.frozen
 have c2 := H_c2.out
 go_wp2_with fail
 refine (c2 _ (belowAny)).mono ?_
 rintro e w7 ⟨rfl, hb7⟩
 clear c2
 have z8 := hb7.size
 try simp at z8
 clear k1 f1
 have b1 : Blk w7 w.heap.size #[K, .slice p len cap, A, R, n, d, .slice q m vc, E] 179 := blkAny
 have hW : Below w.heap.size w w7 := belowAny
 have z9 := b1.lt
 clear hb7
 have k1 := b1.cell
 have f1 := b1.frozen
 go_wp2
 have y_1 := b1.lt
 refine bodyPost_ret (v := .bool false) (by simp [results, Tryz.results198, go_sem, k1, f1, y_1]) rfl ⟨rfl, by exact belowAny⟩
theorem kind1_flat (K A R n d E : Int) (p q : Option Addr) (len cap m vc : Nat) (w : World) (b : Bool)
  (c1 : ∀ W, Below w.heap.size w W -> Calls Tryz.prog 198 #[.agg #[K, .slice p len cap, A, R, .int .i64 0, d, .slice q m vc, E]] W fun e w' => e = .returned (.bool b) /\ Below W.heap.size W w') :
  Calls Tryz.prog 197 #[.agg #[K, .slice p len cap, A, R, .int .i64 0, d, .slice q m vc, E]] w fun e w' => e = .returned (.bool b) /\ Below w.heap.size w w' := by
 have H_c1 := Lib.hid c1
 clear c1
 go_enter Tryz.func197, Tryz.ntmps197
 go_upto_region 1 with (fail)
 refine wp_facts (fun W' => Below w.heap.size w W' /\ Blk W' w.heap.size #[K, .slice p len cap, A, R, .int .i64 0, d, .slice q m vc, E] 179) ⟨by exact belowAny, by exact blkAny⟩ ?_
 rintro W1 ⟨hW, b1⟩
 have z2 := hW.size
 have z3 := b1.lt
 have k1 := b1.cell
 have f1 := b1.frozen
 have c1 := H_c1.out
 go_wp2_with fail
 refine (c1 _ (belowAny)).mono ?_
 rintro e w4 ⟨rfl, hb4⟩
 clear c1
 have z5 := hb4.size
 try simp at z5
 clear k1 f1
 have b1 : Blk w4 w.heap.size #[K, .slice p len cap, A, R, .int .i64 0, d, .slice q m vc, E] 179 := blkAny
 have hW : Below w.heap.size w w4 := belowAny
 have z6 := b1.lt
 clear hb4
 have k1 := b1.cell
 have f1 := b1.frozen
 go_wp2
 have y_1 := b1.lt
 refine bodyPost_ret (v := .bool b) (by simp [results, Tryz.results197, go_sem, k1, f1, y_1]) rfl ⟨rfl, by exact belowAny⟩
theorem kind1_no (K A R n d E : Int) (p q : Option Addr) (len cap m vc : Nat) (w : World) (b : Bool) (hn : (n == 0) = false)
   :
  Calls Tryz.prog 197 #[.agg #[K, .slice p len cap, A, R, n, d, .slice q m vc, E]] w fun e w' => e = .returned (.bool false) /\ Below w.heap.size w w' := by
 go_enter Tryz.func197, Tryz.ntmps197
 go_upto_region 1 with (fail)
 refine wp_facts (fun W' => Below w.heap.size w W' /\ Blk W' w.heap.size #[K, .slice p len cap, A, R, n, d, .slice q m vc, E] 179) ⟨by exact belowAny, by exact blkAny⟩ ?_
 rintro W1 ⟨hW, b1⟩
 have z2 := hW.size
 have z3 := b1.lt
 have k1 := b1.cell
 have f1 := b1.frozen
 go_wp2
 have y_1 := b1.lt
 refine bodyPost_ret (v := .bool false) (by simp [results, Tryz.results197, go_sem, k1, f1, y_1]) rfl ⟨rfl, by exact belowAny⟩
theorem kind2_tilt (K A R n d E : Int) (p q : Option Addr) (len cap m vc : Nat) (w : World) (b : Bool) (hn : (n != 0) = true)
  (c1 : ∀ W, Below w.heap.size w W -> Calls Tryz.prog 198 #[.agg #[K, .slice p len cap, A, .int .i64 0, n, d, .slice q m vc, E]] W fun e w' => e = .returned (.bool b) /\ Below W.heap.size W w') :
  Calls Tryz.prog 199 #[.agg #[K, .slice p len cap, A, .int .i64 0, n, d, .slice q m vc, E]] w fun e w' => e = .returned (.bool b) /\ Below w.heap.size w w' := by
 have H_c1 := Lib.hid c1
 clear c1
 go_enter Tryz.func199, Tryz.ntmps199
 go_upto_region 1 with (fail)
 refine wp_facts (fun W' => Below w.heap.size w W' /\ Blk W' w.heap.size #[K, .slice p len cap, A, .int .i64 0, n, d, .slice q m vc, E] 179) ⟨by exact belowAny, by exact blkAny⟩ ?_
 rintro W1 ⟨hW, b1⟩
 have z2 := hW.size
 have z3 := b1.lt
 have k1 := b1.cell
 have f1 := b1.frozen
 have c1 := H_c1.out
 go_wp2_with fail
 refine (c1 _ (belowAny)).mono ?_
 rintro e w4 ⟨rfl, hb4⟩
 clear c1
 have z5 := hb4.size
 try simp at z5
 clear k1 f1
 have b1 : Blk w4 w.heap.size #[K, .slice p len cap, A, .int .i64 0, n, d, .slice q m vc, E] 179 := blkAny
 have hW : Below w.heap.size w w4 := belowAny
 have z6 := b1.lt
 clear hb4
 have k1 := b1.cell
 have f1 := b1.frozen
 go_wp2
 have y_1 := b1.lt
 refine bodyPost_ret (v := .bool b) (by simp [results, Tryz.results199, go_sem, k1, f1, y_1]) rfl ⟨rfl, by exact belowAny⟩
theorem kind2_flat (K A R n d E : Int) (p q : Option Addr) (len cap m vc : Nat) (w : World) (b : Bool)
   :
  Calls Tryz.prog 199 #[.agg #[K, .slice p len cap, A, R, .int .i64 0, d, .slice q m vc, E]] w fun e w' => e = .returned (.bool false) /\ Below w.heap.size w w' := by
 go_enter Tryz.func199, Tryz.ntmps199
 go_upto_region 1 with (fail)
 refine wp_facts (fun W' => Below w.heap.size w W' /\ Blk W' w.heap.size #[K, .slice p len cap, A, R, .int .i64 0, d, .slice q m vc, E] 179) ⟨by exact belowAny, by exact blkAny⟩ ?_
 rintro W1 ⟨hW, b1⟩
 have z2 := hW.size
 have z3 := b1.lt
 have k1 := b1.cell
 have f1 := b1.frozen
 go_wp2
 have y_1 := b1.lt
 refine bodyPost_ret (v := .bool false) (by simp [results, Tryz.results199, go_sem, k1, f1, y_1]) rfl ⟨rfl, by exact belowAny⟩
theorem kind2_free (K A R n d E : Int) (p q : Option Addr) (len cap m vc : Nat) (w : World) (b : Bool) (hn : (n != 0) = true) (hR : (R == 0) = false)
   :
  Calls Tryz.prog 199 #[.agg #[K, .slice p len cap, A, R, n, d, .slice q m vc, E]] w fun e w' => e = .returned (.bool false) /\ Below w.heap.size w w' := by
 go_enter Tryz.func199, Tryz.ntmps199
 go_upto_region 1 with (fail)
 refine wp_facts (fun W' => Below w.heap.size w W' /\ Blk W' w.heap.size #[K, .slice p len cap, A, R, n, d, .slice q m vc, E] 179) ⟨by exact belowAny, by exact blkAny⟩ ?_
 rintro W1 ⟨hW, b1⟩
 have z2 := hW.size
 have z3 := b1.lt
 have k1 := b1.cell
 have f1 := b1.frozen
 go_wp2
 have y_1 := b1.lt
 refine bodyPost_ret (v := .bool false) (by simp [results, Tryz.results199, go_sem, k1, f1, y_1]) rfl ⟨rfl, by exact belowAny⟩
theorem kind3_free (K A R n d E : Int) (p q : Option Addr) (len cap m vc : Nat) (w : World) (b : Bool) (hR : (R != 0) = true)
  (c1 : ∀ W, Below w.heap.size w W -> Calls Tryz.prog 198 #[.agg #[K, .slice p len cap, A, R, n, d, .slice q m vc, E]] W fun e w' => e = .returned (.bool b) /\ Below W.heap.size W w') :
  Calls Tryz.prog 200 #[.agg #[K, .slice p len cap, A, R, n, d, .slice q m vc, E]] w fun e w' => e = .returned (.bool b) /\ Below w.heap.size w w' := by
 have H_c1 := Lib.hid c1
 clear c1
 go_enter Tryz.func200, Tryz.ntmps200
 go_upto_region 1 with (fail)
 refine wp_facts (fun W' => Below w.heap.size w W' /\ Blk W' w.heap.size #[K, .slice p len cap, A, R, n, d, .slice q m vc, E] 179) ⟨by exact belowAny, by exact blkAny⟩ ?_
 rintro W1 ⟨hW, b1⟩
 have z2 := hW.size
 have z3 := b1.lt
 have k1 := b1.cell
 have f1 := b1.frozen
 have c1 := H_c1.out
 go_wp2_with fail
 refine (c1 _ (belowAny)).mono ?_
 rintro e w4 ⟨rfl, hb4⟩
 clear c1
 have z5 := hb4.size
 try simp at z5
 clear k1 f1
 have b1 : Blk w4 w.heap.size #[K, .slice p len cap, A, R, n, d, .slice q m vc, E] 179 := blkAny
 have hW : Below w.heap.size w w4 := belowAny
 have z6 := b1.lt
 clear hb4
 have k1 := b1.cell
 have f1 := b1.frozen
 go_wp2
 have y_1 := b1.lt
 refine bodyPost_ret (v := .bool b) (by simp [results, Tryz.results200, go_sem, k1, f1, y_1]) rfl ⟨rfl, by exact belowAny⟩
theorem kind3_no (K A R n d E : Int) (p q : Option Addr) (len cap m vc : Nat) (w : World) (b : Bool)
   :
  Calls Tryz.prog 200 #[.agg #[K, .slice p len cap, A, .int .i64 0, n, d, .slice q m vc, E]] w fun e w' => e = .returned (.bool false) /\ Below w.heap.size w w' := by
 go_enter Tryz.func200, Tryz.ntmps200
 go_upto_region 1 with (fail)
 refine wp_facts (fun W' => Below w.heap.size w W' /\ Blk W' w.heap.size #[K, .slice p len cap, A, .int .i64 0, n, d, .slice q m vc, E] 179) ⟨by exact belowAny, by exact blkAny⟩ ?_
 rintro W1 ⟨hW, b1⟩
 have z2 := hW.size
 have z3 := b1.lt
 have k1 := b1.cell
 have f1 := b1.frozen
 go_wp2
 have y_1 := b1.lt
 refine bodyPost_ret (v := .bool false) (by simp [results, Tryz.results200, go_sem, k1, f1, y_1]) rfl ⟨rfl, by exact belowAny⟩
end Go.Proofs.YtidfcoooccblaaaGreat
