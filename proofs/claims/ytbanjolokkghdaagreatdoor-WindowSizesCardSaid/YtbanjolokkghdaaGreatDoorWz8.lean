/- Parts of the proof that follows: Layer runs: rises. | Runs, plainly: their times, how many are below one, the one of a place. No condition. | Layer runs: Check, Count, below. | Layer runs: At, Find, Clip. | Layer runs: Clip, placed; a copy into a block that is known whole. | Layer runs: pieces, plainly; a row of runs as cells. -/
import Derived.Laws.EntriesVeiled
import Derived.Laws.CopyOwn
import Derived.Laws.MakeOwn
import Derived.Test.YtbanjolokkghdaaGreatDoorWz7
set_option linter.unusedSimpArgs false
set_option linter.unusedVariables false
namespace Go.Proofs.YtbanjolokkghdaaGreatDoor
open Go.RowKit
theorem c_sure (b : Bool) (w : World) : Calls Tryz.prog 181 #[.bool b] w fun e w' => w' = w ∧ (b = true ∧ e = .returned (.tuple #[]) ∨ b = false ∧ e = .panicked [{ v := .iface 31 (.int .i64 170), recovered := false }]) := by
  cases b with
  | true => exact (sure_t w).mono fun e w' ⟨h1, h2⟩ => ⟨h2, .inl ⟨rfl, h1⟩⟩
  | false => exact (sure_f w).mono fun e w' ⟨h1, h2⟩ => ⟨h2, .inr ⟨rfl, h1⟩⟩
def MT : Int := 281474976710656
def lastI (r : RunT) : Int := r.f + r.s * (r.c - 1)
def run1 (r : RunT) : Bool := decide (1 ≤ r.c) && decide (r.c ≤ 256) && decide (0 ≤ r.f) && decide (r.f ≤ 281474976710656) && decide (0 ≤ r.s) && decide (r.s ≤ 281474976710656)
def run2 (len i : Nat) (r : RunT) : Bool := (decide (r.c = 1) == decide (r.s = 0)) && (decide (1 < r.c) || decide ((i : Int) = (len : Int) - 1)) && decide (lastI r ≤ 281474976710656)
def run3 (q r : RunT) : Bool := decide (lastI q < r.f) && (r.f - lastI q != q.s)
def okAt (l : List RunT) (i : Nat) : Bool := match l[i]? with
  | some r => run1 r && run2 l.length i r && (decide (i = 0) || (match l[i - 1]? with | some q => run3 q r | none => true))
  | none => true
def okTo (l : List RunT) : Nat → Bool
  | 0 => true
  | i + 1 => okTo l i && okAt l i
def risesB (l : List RunT) : Bool := (decide (0 < l.length) && decide ((l.length : Int) ≤ 256)) && okTo l l.length && decide (countTo l l.length ≤ 256)

theorem run1_bd {r : RunT} (h : run1 r = true) : (0 ≤ r.f ∧ r.f ≤ 281474976710656) ∧ (0 ≤ r.s ∧ r.s ≤ 281474976710656) ∧ 1 ≤ r.c ∧ r.c ≤ 256 := by
  unfold run1 at h; simp at h; omega
theorem okAt_1 {l : List RunT} {i : Nat} {r : RunT} (hr : l[i]? = some r) (h : run1 r = false) : okAt l i = false := by unfold okAt; rw [hr]; simp [h]
theorem okAt_2 {l : List RunT} {i : Nat} {r : RunT} (hr : l[i]? = some r) (h : run2 l.length i r = false) : okAt l i = false := by unfold okAt; rw [hr]; simp [h]
theorem okAt_3 {l : List RunT} {i : Nat} {q r : RunT} (hr : l[i]? = some r) (hi : 0 < i) (hq : l[i - 1]? = some q) (h : run3 q r = false) : okAt l i = false := by unfold okAt; rw [hr]; simp [hq, h]; omega
theorem c_last (r : RunT) (w : World) (hf : 0 ≤ r.f ∧ r.f ≤ 281474976710656) (hs : 0 ≤ r.s ∧ r.s ≤ 281474976710656) (hc : 1 ≤ r.c ∧ r.c ≤ 256) :
    Calls Tryz.prog 129 #[.agg #[.int .i64 r.f, .int .i64 r.s, .int .i64 r.c]] w fun e w' => e = .returned (.int .i64 (lastI r)) ∧ Below w.heap.size w w' := by
  have m : (r.s * (r.c - 1)).natAbs ≤ 281474976710656 * 256 := natAbs_mul_le (by omega) (by omega)
  exact last_w r.f r.s r.c (r.c - 1) (r.s * (r.c - 1)) (lastI r) w (by rw [wrap64_eq]; omega) (by rw [wrap64_eq]; omega) (by unfold lastI; rw [wrap64_eq]; omega)
theorem okTo_false {l : List RunT} {i : Nat} (h : okAt l i = false) : ∀ n, i < n → okTo l n = false
  | 0, hn => by omega
  | n + 1, hn => by
    simp only [okTo]
    rcases Nat.lt_or_ge i n with k | k
    · rw [okTo_false h n k]; rfl
    · have : i = n := by omega
      subst this; rw [h, Bool.and_false]
theorem risesB_false {l : List RunT} {i : Nat} (h : okAt l i = false) (hi : i < l.length) : risesB l = false := by
  unfold risesB; rw [okTo_false h _ hi, Bool.and_false, Bool.false_and]

theorem rises_out (w W : World) (tmps : Array Value) (d : List Deferred) (u : TypeId) (pv : Value) (hs : tmps[2]?.getD undef = .pointer (some ⟨w.heap.size, 0, none⟩)) (hd : d = [{ target := .fn (.func 180) #[.pointer (some ⟨w.heap.size, 0, none⟩)], args := #[] }])
    (hW : Below w.heap.size w W) (hb : Blk W w.heap.size #[.bool false] 4) (b : Bool) (hf : b = false) :
    Leaves Tryz.prog Tryz.f128 tmps (fun e w' => e = .returned (.bool b) ∧ Below w.heap.size w w') d (.panicking [{ v := .iface u pv, recovered := false }]) W := by
  subst hd hf
  refine leaves_cons (f := 180) (args := #[.pointer (some ⟨w.heap.size, 0, none⟩)]) (by simp) (by simp [go_sem]) ?_
  have k1 := hb.cell
  have f1 := hb.frozen
  refine (catch_panicking ⟨w.heap.size, 0, none⟩ false u pv [] W (by simp [k1]) (by simp [f1])).mono ?_
  rintro e u' w'' ⟨rfl, rfl, rfl⟩
  refine ⟨.bool false, by simp [results, Tryz.results128, go_sem, hs, k1, f1], rfl, belowAny⟩
theorem rises_ret (w W : World) (tmps : Array Value) (d : List Deferred) (hs : tmps[2]?.getD undef = .pointer (some ⟨w.heap.size, 0, none⟩)) (hd : d = [{ target := .fn (.func 180) #[.pointer (some ⟨w.heap.size, 0, none⟩)], args := #[] }])
    (hW : Below w.heap.size w W) (v : Bool) (hb : Blk W w.heap.size #[.bool v] 4) (b : Bool) (hf : b = v) :
    Leaves Tryz.prog Tryz.f128 tmps (fun e w' => e = .returned (.bool b) ∧ Below w.heap.size w w') d .returning W := by
  subst hd hf
  refine leaves_cons (f := 180) (args := #[.pointer (some ⟨w.heap.size, 0, none⟩)]) (by simp) (by simp [go_sem]) ?_
  have k1 := hb.cell
  have f1 := hb.frozen
  refine (catch_idle ⟨w.heap.size, 0, none⟩ W).mono ?_
  rintro e u' w'' ⟨rfl, rfl, rfl⟩
  refine ⟨.bool b, by simp [results, Tryz.results128, go_sem, hs, k1, f1], rfl, hW⟩

theorem okTo_step {l : List RunT} {i : Nat} {r : RunT} (hok : okTo l i = true) (hr : l[i]? = some r) (g1 : run1 r = true) (g2 : run2 l.length i r = true) (h : i = 0 ∨ ∃ q, l[i - 1]? = some q ∧ run3 q r = true) : okTo l (i + 1) = true := by
  simp only [okTo, okAt, hr, hok, g1, g2, Bool.true_and, Bool.and_true]
  rcases h with rfl | ⟨q, hq, g3⟩
  · simp
  · simp [hq, g3]
theorem okTo_run1 {l : List RunT} : ∀ {i j : Nat} {q : RunT}, okTo l i = true → j < i → l[j]? = some q → run1 q = true
  | 0, _, _, _, hj, _ => by omega
  | i + 1, j, q, h, hj, hq => by
    simp only [okTo, Bool.and_eq_true] at h
    rcases Nat.lt_or_ge j i with k | k
    · exact okTo_run1 h.1 k hq
    · have : j = i := by omega
      subst this
      have := h.2
      unfold okAt at this
      rw [hq] at this
      simp at this
      exact this.1.1
theorem lastI_bd {r : RunT} (hf : 0 ≤ r.f ∧ r.f ≤ 281474976710656) (hs : 0 ≤ r.s ∧ r.s ≤ 281474976710656) (hc : 1 ≤ r.c ∧ r.c ≤ 256) : 0 ≤ lastI r ∧ lastI r ≤ 281474976710656 * 257 := by
  have m : (r.s * (r.c - 1)).natAbs ≤ 281474976710656 * 256 := natAbs_mul_le (by omega) (by omega)
  have m0 : 0 ≤ r.s * (r.c - 1) := Int.mul_nonneg (by omega) (by omega)
  unfold lastI; omega
theorem RunsIn.cells {w : World} {b o : Nat} {l : List RunT} (h : RunsIn w (some ⟨b, o, none⟩) l) {i : Nat} {r : RunT} (hr : l[i]? = some r) : w.cell? ⟨b, o + i * 3, none⟩ = some (.int .i64 r.f) ∧ w.cell? ⟨b, o + i * 3 + 1, none⟩ = some (.int .i64 r.s) ∧ w.cell? ⟨b, o + i * 3 + 2, none⟩ = some (.int .i64 r.c) := by
  obtain ⟨b', o', e, h1, h2, h3⟩ := h.at' i r hr
  cases e
  exact ⟨h1, h2, h3⟩
theorem RunsIn.rex {L : List Nat} {w w' : World} {p : Option Addr} {l : List RunT} (h : RunsIn w p l) (hr : Rex L w w') (hL : L = []) : RunsIn w' p l := by subst hL; exact h.below hr.below

theorem prev_facts {l : List RunT} {i : Nat} {r : RunT} (hok : okTo l i = true) (hlt : i < l.length) (hlen : l.length ≤ 256) : 0 < i → run1 r = true → ∃ q, l[i - 1]? = some q ∧ ((0 ≤ q.f ∧ q.f ≤ 281474976710656) ∧ (0 ≤ q.s ∧ q.s ≤ 281474976710656) ∧ (1 ≤ q.c ∧ q.c ≤ 256)) ∧ wrap64 ((i : Int) - 1) = ((i - 1 : Nat) : Int) ∧ i - 1 < l.length ∧ decide (0 < (i : Int)) = true ∧ wrap64 (r.f - lastI q) = r.f - lastI q := by
  intro hi0 g1
  obtain ⟨q, hq⟩ : ∃ q, l[i - 1]? = some q := ⟨l[i - 1]'(by omega), List.getElem?_eq_getElem (by omega)⟩
  obtain ⟨a1, a2, a3⟩ := run1_bd (okTo_run1 hok (show i - 1 < i by omega) hq)
  obtain ⟨r1, r2, r3⟩ := run1_bd g1
  have hlq := lastI_bd a1 a2 a3
  exact ⟨q, hq, ⟨a1, a2, a3⟩, by rw [wrap64_eq]; omega, by omega, by simp; omega, by rw [wrap64_eq]; omega⟩

set_option maxRecDepth 100000 in
set_option maxHeartbeats 4000000 in
theorem rises_w (p : Option Addr) (cap : Nat) (l : List RunT) (w : World) (hlen : l.length ≤ 9223372036854775807) (h : RunsIn w p l) :
    Calls Tryz.prog 128 #[.slice p l.length cap] w fun e w' => e = .returned (.bool (risesB l)) ∧ Below w.heap.size w w' := by
  have hmf : ∀ (fn : Fn) (first cap : Array Value) (w : World), (Instr.makeFunc fn first cap).run Tryz.prog w = .ok (.func fn first cap) w := fun _ _ _ _ => rfl
  go_enter_defers Tryz.func128, Tryz.ntmps128
  go_upto_region 2 with (fail)
  refine wp_cutB w (Bc w.heap.size #[.bool false] 4 <| Bz) ?_
  rintro W1 hW z2 hL
  refine wp_regS 8 109 hW hL ?_
  iterate 4 refine dA ?_
  iterate 3 refine gA ?_
  refine pA ?_
  clear hW hL
  rintro W3 hW z4 hL
  simp only [ndR]
  intros
  repeat (rename GDet _ _ _ _ => hgd; clear hgd)
  simp only [ndS]
  obtain ⟨⟨b1, yb1, k1, f1⟩, -⟩ := hL
  go_wp2_with fail
  refine (c_sure _ _).mono ?_
  rintro e w' ⟨rfl, hh⟩
  rcases hh with ⟨hb, rfl⟩ | ⟨hb, rfl⟩
  · have hlen' : 0 < l.length ∧ l.length ≤ 256 := by simp at hb; omega
    clear hlen
    go_wp2
    refine wp_loop (fun a' W => Below w.heap.size w W ∧ Blk W w.heap.size #[.bool false] 4 ∧ ∃ (i : Nat) (n : Int), (∃ u : Nat → Value, a' = { tmps := #[(.slice p l.length cap), u 1, .pointer (some ⟨w.heap.size, 0, none⟩), .int .i64 n, u 4, u 5, u 6, .func (.func 180) #[] #[.pointer (some ⟨w.heap.size, 0, none⟩)], u 8, u 9, u 10, u 11, u 12, u 13, u 14, u 15, u 16, (.slice p l.length cap), .int .i64 (l.length : Int), .int .i64 (i : Int), u 20, u 21, u 22, u 23, u 24, u 25, u 26, u 27, u 28, u 29, u 30, u 31, u 32, u 33, u 34, u 35, u 36, u 37, u 38, u 39, u 40, u 41, u 42, u 43, u 44, u 45, u 46, u 47, u 48, u 49, u 50, u 51, u 52, u 53, u 54, u 55, u 56, u 57, u 58, u 59, u 60, u 61, u 62, u 63, u 64, u 65, u 66, u 67, u 68, u 69, u 70, u 71, u 72, u 73, u 74, u 75, u 76, u 77, u 78, u 79, u 80, u 81, u 82, u 83, u 84, u 85, u 86, u 87, u 88, u 89, u 90, u 91, u 92, u 93, u 94, u 95, u 96, u 97, u 98, u 99, u 100, u 101, u 102, u 103, u 104, u 105, u 106, u 107, u 108], defers := [{ target := .fn (.func 180) #[.pointer (some ⟨w.heap.size, 0, none⟩)], args := #[] }] }) ∧ i ≤ l.length ∧ okTo l i = true ∧ n = countTo l i ∧ 0 ≤ n ∧ n ≤ 256 * (i : Int)) (fun a' _ => l.length - (intAt (a'.tmps.getD 19 undef)).toNat) ?_ ?_
    · exact ⟨hW, b1, 0, 0, frame_ex rfl, by omega, rfl, rfl, by omega, by omega⟩
    · rintro a' W0 ⟨hW, b1, i, n, ⟨u, rfl⟩, hi, hok, hn, hn0, hn1⟩
      have hz := hW.size
      subst hn
      rcases Nat.lt_or_ge i l.length with hlt | hge
      · have hd : decide ((i : Int) < (l.length : Int)) = true := by simp; omega
        obtain ⟨r, hr⟩ : ∃ r, l[i]? = some r := ⟨l[i]'(by omega), List.getElem?_eq_getElem (by omega)⟩
        obtain ⟨b, o, rfl, q0, q1, q2⟩ := (h.below hW).at' i r hr
        have hprev : 0 < i → run1 r = true → ∃ q, l[i - 1]? = some q ∧ ((0 ≤ q.f ∧ q.f ≤ 281474976710656) ∧ (0 ≤ q.s ∧ q.s ≤ 281474976710656) ∧ (1 ≤ q.c ∧ q.c ≤ 256)) ∧ wrap64 ((i : Int) - 1) = ((i - 1 : Nat) : Int) ∧ i - 1 < l.length ∧ decide (0 < (i : Int)) = true ∧ wrap64 (r.f - lastI q) = r.f - lastI q := prev_facts hok hlt (by omega)
        replace hprev := Lib.hid hprev
        go_upto_region 7 with (fail)
        refine wp_cutB w (Bc w.heap.size #[.bool false] 4 <| Bc W0.heap.size #[.int .i64 r.f, .int .i64 r.s, .int .i64 r.c] 94 <| Bz) ?_
        clear b1 hW
        rintro W1 hW z2 hL
        refine wp_regS 28 109 hW hL ?_
        iterate 4 refine dA ?_
        iterate 3 refine gA ?_
        refine pA ?_
        refine dA ?_
        iterate 3 refine gA ?_
        refine pA ?_
        refine dA ?_
        iterate 3 refine gA ?_
        refine pA ?_
        refine dA ?_
        iterate 3 refine gA ?_
        refine pA ?_
        refine dA ?_
        iterate 3 refine gA ?_
        refine pA ?_
        clear hW hL
        rintro W3 hW z4 hL
        simp only [ndR]
        intros
        repeat (rename GDet _ _ _ _ => hgd; clear hgd)
        simp only [ndS]
        obtain ⟨⟨b1, yb1, k1, f1⟩, ⟨b2, yb2, k2, f2⟩, -⟩ := hL
        clear q0 q1 q2
        go_wp2_with fail
        refine (c_sure _ _).mono ?_
        rintro e w' ⟨rfl, hh⟩
        rcases hh with ⟨hb, rfl⟩ | ⟨hb, rfl⟩
        rotate_left
        · exact rises_out w _ _ _ _ _ rfl rfl hW b1 _ (risesB_false (okAt_1 hr hb) hlt)
        have g1 : run1 r = true := hb
        obtain ⟨⟨rf0, rf1⟩, ⟨rs0, rs1⟩, rc0, rc1⟩ := run1_bd g1
        have e0 := Lib.hid (show wrap64 ((l.length : Int) - 1) = (l.length : Int) - 1 by rw [wrap64_eq]; omega)
        go_upto_region 8 with (fail)
        clear k1 f1 k2 f2
        refine wp_cutB w (Bc w.heap.size #[.bool false] 4 <| Bc W0.heap.size #[.int .i64 r.f, .int .i64 r.s, .int .i64 r.c] 94 <| Bz) ?_
        clear b1 b2 hW
        rintro W5 hW z6 hL
        refine wp_regS 24 109 hW hL ?_
        iterate 8 refine dE (fun W' hC => e0.out) ?_
        iterate 4 refine gE (fun W' hC => e0.out) ?_
        iterate 5 refine gF (fun W' hC => e0.out) ?_
        refine pgO ?_
        refine pA ?_
        refine dE (fun W' hC => e0.out) ?_
        refine gE (fun W' hC => e0.out) ?_
        apply nd_callvg2 (p := true) (hg := rfl) (hd := rfl) (hal := rfl)
        · intro v W' h
          simp [envOf, Det] at h
          simp
          exact h
        · intro hp hx W' hC
          exact c_last r W' ⟨rf0, rf1⟩ ⟨rs0, rs1⟩ ⟨rc0, rc1⟩
        · intro hp hx a W' hC hE
          obtain ⟨_, ⟨-, -, k1, -⟩, ⟨-, -, k2, -⟩, -⟩ := hC
          first
            | (simp [Oper.looksAt, Op.operands, Call.operands, envOf, Det, GDet, hx] at hE; simp [go_sem, Act.eval, IntWalk.i64_left, hE, k1, k2, e0.out]; try rfl)
            | (clear hE; simp [go_sem, Act.eval, IntWalk.i64_left, k1, k2, e0.out]; try rfl)
        refine gE (fun W' hC => e0.out) ?_
        refine pA ?_
        clear hW hL
        rintro W7 hW z8 hL
        simp only [ndR]
        intros
        repeat (rename GDet _ _ _ _ => hgd; clear hgd)
        simp only [ndS]
        obtain ⟨⟨b1, yb1, k1, f1⟩, ⟨b2, yb2, k2, f2⟩, -⟩ := hL
        go_wp2_with fail
        refine (c_sure _ _).mono ?_
        rintro e w' ⟨rfl, hh⟩
        rcases hh with ⟨hb, rfl⟩ | ⟨hb, rfl⟩
        rotate_left
        · exact rises_out w _ _ _ _ _ rfl rfl hW b1 _ (risesB_false (okAt_2 hr hb) hlt)
        have g2 : run2 l.length i r = true := hb
        have e5 := Lib.hid (show countTo l (i + 1) = countTo l i + r.c by simp [countTo, hr])
        clear e0
        rcases Nat.eq_zero_or_pos i with hi0 | hi0
        · subst hi0
          have k1 := b1.cell
          have f1 := b1.frozen
          have k2 := b2.cell
          have f2 := b2.frozen
          go_wp2
          exact ⟨⟨hW, b1, 1, countTo l 0 + r.c, frame_ex rfl, by omega, okTo_step hok hr g1 g2 (.inl rfl), e5.out.symm, by omega, by omega⟩, by simp [intAt]; omega⟩
        · obtain ⟨q, hq, ⟨qf, qs, qc⟩, e8, e9, hi1, e10⟩ := hprev.out hi0 g1
          replace e8 := Lib.hid e8
          replace e10 := Lib.hid e10
          have k1 := b1.cell
          have f1 := b1.frozen
          have k2 := b2.cell
          have f2 := b2.frozen
          go_upto_region 10 with (fail)
          clear k1 f1 k2 f2
          refine wp_cutB w (Bc w.heap.size #[.bool false] 4 <| Bc W0.heap.size #[.int .i64 r.f, .int .i64 r.s, .int .i64 r.c] 94 <| Rc (fun W' => RunsIn W' (some ⟨b, o, none⟩) l) <| Bz) ?_ (hI := by exact belowAny) (hR := (Bc.mk (by exact blkAny2) <| Bc.mk (by exact blkAny2) <| Rc.mk (by exact h.below (belowAny)) <| trivial))
          clear b1 b2 hW
          rintro W9 hW z10 hL
          obtain ⟨⟨b1, yb1, k1, f1⟩, ⟨b2, yb2, k2, f2⟩, b3, -⟩ := id hL
          clear k1 f1 k2 f2
          refine wp_regQ 10 109 hW hL ?_
          iterate 7 refine dE (fun W' hC => aI e8.out (aI e9 (aI e10.out (hC.2.2.2.1.cells hq)))) ?_
          refine cE (fun W' hC => aI e8.out (aI e9 (aI e10.out (hC.2.2.2.1.cells hq)))) (fun W' hC => c_last q W' qf qs qc) ?_
          iterate 2 refine dE (fun W' hC => aI e8.out (aI e9 (aI e10.out (hC.2.2.2.1.cells hq)))) ?_
          clear hW hL b1 b2 b3
          rintro W11 hW z12 hL
          simp only [ndR]
          intros
          simp only [ndS]
          refine wpList_nil ?_
          obtain ⟨⟨b1, yb1, k1, f1⟩, ⟨b2, yb2, k2, f2⟩, b3, -⟩ := hL
          go_upto_region 11 with (fail)
          clear k1 f1 k2 f2
          refine wp_cutB w (Bc w.heap.size #[.bool false] 4 <| Bc W0.heap.size #[.int .i64 r.f, .int .i64 r.s, .int .i64 r.c] 94 <| Rc (fun W' => RunsIn W' (some ⟨b, o, none⟩) l) <| Bz) ?_ (hI := by exact belowAny) (hR := (Bc.mk (by exact blkAny2) <| Bc.mk (by exact blkAny2) <| Rc.mk (by exact h.below (belowAny)) <| trivial))
          clear b1 b2 b3 hW
          rintro W13 hW z14 hL
          obtain ⟨⟨b1, yb1, k1, f1⟩, ⟨b2, yb2, k2, f2⟩, b3, -⟩ := id hL
          clear k1 f1 k2 f2
          refine wp_regS 12 109 hW hL ?_
          iterate 3 refine dE (fun W' hC => aI e8.out (aI e9 (hC.2.2.2.1.cells hq))) ?_
          iterate 8 refine gE (fun W' hC => aI e8.out (aI e9 (hC.2.2.2.1.cells hq))) ?_
          refine pA ?_
          clear hW hL b1 b2 b3
          rintro W15 hW z16 hL
          simp only [ndR]
          intros
          simp only [ndS]
          obtain ⟨⟨b1, yb1, k1, f1⟩, ⟨b2, yb2, k2, f2⟩, b3, -⟩ := hL
          go_wp2_with fail
          refine (c_sure _ _).mono ?_
          rintro e w' ⟨rfl, hh⟩
          rcases hh with ⟨hb, rfl⟩ | ⟨hb, rfl⟩
          rotate_left
          · exact rises_out w _ _ _ _ _ rfl rfl hW b1 _ (risesB_false (okAt_3 hr hi0 hq hb) hlt)
          have HB := Lib.hid (okTo_step hok hr g1 g2 (.inr ⟨q, hq, hb⟩))
          clear hb hq qf qs qc e8 e9 e10 hi1 hprev b3 g1 g2 hr hok
          go_wp2
          rw [show (i : Int) + 1 = ((i + 1 : Nat) : Int) by omega]
          exact ⟨⟨hW, b1, i + 1, countTo l i + r.c, frame_ex rfl, by omega, HB.out, e5.out.symm, by omega, by omega⟩, by simp [intAt]; omega⟩
      · have hd : decide ((i : Int) < (l.length : Int)) = false := by simp; omega
        have e : i = l.length := by omega
        subst e
        have k1 := b1.cell
        have f1 := b1.frozen
        go_wp2
        refine rises_ret w _ _ _ rfl rfl (belowAny) (decide (countTo l l.length ≤ 256)) (blkAny) _ ?_
        unfold risesB
        rw [hok, hb]
        rfl
  · exact rises_out w _ _ _ _ _ rfl rfl hW b1 _ (by unfold risesB; rw [hb, Bool.false_and, Bool.false_and])
end Go.Proofs.YtbanjolokkghdaaGreatDoor
namespace Go.Proofs.YtbanjolokkghdaaGreatDoor
open Go.RowKit

/-- A run of a row that may be. -/
structure RunOk (r : RunT) : Prop where
  f0 : 0 ≤ r.f
  f1 : r.f ≤ 281474976710656
  s0 : 0 ≤ r.s
  s1 : r.s ≤ 281474976710656
  c0 : 1 ≤ r.c
  c1 : r.c ≤ 256
  one : r.c = 1 ↔ r.s = 0
  last : lastI r ≤ 281474976710656
def cnt : List RunT → Int
  | [] => 0
  | r :: l => r.c + cnt l
def timesR (r : RunT) : List Int := (List.range r.c.toNat).map fun (k : Nat) => r.f + r.s * (k : Int)
def timesL : List RunT → List Int
  | [] => []
  | r :: l => timesR r ++ timesL l
def Next (q r : RunT) : Prop := lastI q < r.f ∧ r.f - lastI q ≠ q.s
/-- Each one's first time is above the last one of the one ahead. -/
def Chain : List RunT → Prop
  | [] => True
  | r :: l => (∀ q, l.head? = some q → Next r q ∧ 1 < r.c) ∧ Chain l
structure RunsOk (l : List RunT) : Prop where
  some' : 0 < l.length
  few : l.length ≤ 256
  each : ∀ r, r ∈ l → RunOk r
  count : cnt l ≤ 256
  chain : Chain l

theorem cnt_append (a b : List RunT) : cnt (a ++ b) = cnt a + cnt b := by
  induction a with
  | nil => simp [cnt]
  | cons r a ih => simp [cnt, ih]; omega
theorem countTo_take (l : List RunT) : ∀ n, n ≤ l.length → countTo l n = cnt (l.take n)
  | 0, _ => by simp [countTo, cnt]
  | n + 1, h => by
    have hn : n < l.length := by omega
    simp only [countTo]
    rw [countTo_take l n (by omega), List.take_succ_eq_append_getElem hn, cnt_append, List.getElem?_eq_getElem hn]
    simp [cnt]
theorem countTo_all (l : List RunT) : countTo l l.length = cnt l := by rw [countTo_take l _ (Nat.le_refl _), List.take_length]

theorem okTo_at {l : List RunT} : ∀ {n i : Nat}, okTo l n = true → i < n → okAt l i = true
  | 0, _, _, h => by omega
  | n + 1, i, hk, h => by
    simp only [okTo, Bool.and_eq_true] at hk
    rcases Nat.lt_or_ge i n with k | k
    · exact okTo_at hk.1 k
    · have : i = n := by omega
      subst this; exact hk.2
theorem okTo_of {l : List RunT} : ∀ {n : Nat}, (∀ i, i < n → okAt l i = true) → okTo l n = true
  | 0, _ => rfl
  | n + 1, h => by simp only [okTo, Bool.and_eq_true]; exact ⟨okTo_of fun i hi => h i (by omega), h n (by omega)⟩

theorem run12 {n i : Nat} {r : RunT} : (run1 r = true ∧ run2 n i r = true) ↔ RunOk r ∧ (1 < r.c ∨ (i : Int) = (n : Int) - 1) := by
  unfold run1 run2
  constructor
  · intro ⟨h1, h2⟩
    simp at h1 h2
    exact ⟨⟨by omega, by omega, by omega, by omega, by omega, by omega, by
      have := h2.1.1
      constructor <;> intro k
      · simpa [k] using this
      · simpa [k] using this, by omega⟩, h2.1.2⟩
  · intro ⟨h, k⟩
    have a := h.f0; have b := h.f1; have c := h.s0; have d := h.s1; have e := h.c0; have f := h.c1; have g := h.last
    simp
    exact ⟨by omega, ⟨by by_cases j : r.c = 1 <;> simp [j, h.one.1, ← h.one], k⟩, by omega⟩

theorem chain_iff : ∀ (l : List RunT), Chain l ↔ ∀ (i : Nat) (q r : RunT), l[i]? = some q → l[i + 1]? = some r → Next q r ∧ 1 < q.c
  | [] => by simp [Chain]
  | a :: l => by
    simp only [Chain]
    constructor
    · rintro ⟨h, k⟩ i q r hq hr
      cases i with
      | zero =>
        simp at hq
        subst hq
        exact h r (by simpa [List.head?_eq_getElem?] using hr)
      | succ i => exact (chain_iff l).1 k i q r (by simpa using hq) (by simpa using hr)
    · intro h
      exact ⟨fun q hq => h 0 a q (by simp) (by simpa [List.head?_eq_getElem?] using hq), (chain_iff l).2 fun i q r hq hr => h (i + 1) q r (by simpa using hq) (by simpa using hr)⟩

theorem risesB_iff (l : List RunT) : risesB l = true ↔ RunsOk l := by
  unfold risesB
  simp only [Bool.and_eq_true, decide_eq_true_eq, countTo_all]
  constructor
  · rintro ⟨⟨⟨h1, h2⟩, h3⟩, h4⟩
    have at' : ∀ (i : Nat) (r : RunT), l[i]? = some r → (RunOk r ∧ (1 < r.c ∨ (i : Int) = (l.length : Int) - 1)) ∧ (i = 0 ∨ ∀ q, l[i - 1]? = some q → run3 q r = true) := by
      intro i r hr
      have hi : i < l.length := by
        rw [List.getElem?_eq_some_iff] at hr; exact hr.1
      have := okTo_at h3 hi
      unfold okAt at this
      rw [hr] at this
      simp only [Bool.and_eq_true, Bool.or_eq_true, decide_eq_true_eq] at this
      refine ⟨run12.1 ⟨this.1.1, this.1.2⟩, this.2.imp id fun h q hq => ?_⟩
      rw [hq] at h; exact h
    refine ⟨h1, by omega, fun r hr => ?_, h4, (chain_iff l).2 fun i q r hq hr => ?_⟩
    · obtain ⟨i, hi⟩ := List.getElem?_of_mem hr
      exact (at' i r hi).1.1
    · have a := (at' (i + 1) r hr).2
      have b := (at' i q hq).1.2
      have hi : i + 1 < l.length := by
        rw [List.getElem?_eq_some_iff] at hr; exact hr.1
      rcases a with a | a
      · omega
      · have := a q (by simpa using hq)
        unfold run3 at this
        simp at this
        exact ⟨⟨by omega, this.2⟩, by omega⟩
  · intro h
    refine ⟨⟨⟨h.some', by have := h.few; omega⟩, okTo_of fun i hi => ?_⟩, h.count⟩
    obtain ⟨r, hr⟩ : ∃ r, l[i]? = some r := ⟨l[i], List.getElem?_eq_getElem hi⟩
    have hm : r ∈ l := List.mem_of_getElem? hr
    have hc := (chain_iff l).1 h.chain
    unfold okAt
    rw [hr]
    simp only [Bool.and_eq_true, Bool.or_eq_true, decide_eq_true_eq]
    refine ⟨run12.2 ⟨h.each r hm, ?_⟩, ?_⟩
    · rcases Nat.lt_or_ge (i + 1) l.length with k | k
      · exact .inl (hc i r _ hr (List.getElem?_eq_getElem k)).2
      · right; omega
    · cases i with
      | zero => exact .inl rfl
      | succ i =>
        right
        have hi' : i < l.length := by omega
        have := (hc i _ r (List.getElem?_eq_getElem hi') hr).1
        have e : l[i + 1 - 1]? = some l[i] := by simp [hi']
        rw [e]
        unfold run3
        simp
        exact ⟨this.1, this.2⟩

theorem lastI_le {r : RunT} (h : RunOk r) : r.f ≤ lastI r := by
  have m0 : 0 ≤ r.s * (r.c - 1) := Int.mul_nonneg h.s0 (by have := h.c0; omega)
  unfold lastI; omega
theorem run_at_le {r : RunT} (h : RunOk r) {k : Int} (h1 : k ≤ r.c - 1) : r.f + r.s * k ≤ lastI r := by
  have := Int.mul_le_mul_of_nonneg_left h1 h.s0
  unfold lastI; omega
theorem run_at_ge {r : RunT} (h : RunOk r) {k : Int} (h0 : 0 ≤ k) : r.f ≤ r.f + r.s * k := by
  have := Int.mul_nonneg h.s0 h0
  omega
theorem run_at_lt {r : RunT} (h : RunOk r) {j k : Int} (h0 : 0 ≤ j) (h1 : j < k) (h2 : k < r.c) : r.f + r.s * j < r.f + r.s * k := by
  have hs : 0 < r.s := by
    have := h.s0
    rcases Int.lt_or_eq_of_le this with k | k
    · exact k
    · have := h.one.2 k.symm; omega
  have := Int.mul_lt_mul_of_pos_left h1 hs
  omega

theorem length_timesR (r : RunT) : (timesR r).length = r.c.toNat := by simp [timesR]
theorem length_timesL : ∀ (l : List RunT), (∀ r, r ∈ l → 0 ≤ r.c) → ((timesL l).length : Int) = cnt l
  | [], _ => rfl
  | r :: l, h => by
    simp only [timesL, List.length_append, cnt, length_timesR]
    have := length_timesL l fun r hr => h r (by simp [hr])
    have := h r (by simp)
    omega
theorem timesR_at (r : RunT) (k : Nat) (h : (k : Int) < r.c) : (timesR r)[k]? = some (r.f + r.s * (k : Int)) := by
  unfold timesR
  rw [List.getElem?_map, List.getElem?_range (by omega)]
  rfl
theorem timesL_at_here (r : RunT) (l : List RunT) (k : Nat) (h : (k : Int) < r.c) : (timesL (r :: l))[k]? = some (r.f + r.s * (k : Int)) := by
  simp only [timesL]
  rw [List.getElem?_append_left (by rw [length_timesR]; omega), timesR_at r k h]
theorem timesL_at_on (r : RunT) (l : List RunT) (k : Nat) (h : r.c ≤ (k : Int)) : (timesL (r :: l))[k]? = (timesL l)[k - r.c.toNat]? := by
  simp only [timesL]
  rw [List.getElem?_append_right (by rw [length_timesR]; omega), length_timesR]

/-- The one of a place. -/
def atL : List RunT → Int → Option Int
  | [], _ => none
  | r :: l, i => if i < r.c then some (r.f + r.s * i) else atL l (i - r.c)
theorem atL_eq : ∀ (l : List RunT) (i : Nat), (∀ r, r ∈ l → 0 ≤ r.c) → atL l (i : Int) = (timesL l)[i]?
  | [], i, _ => by simp [atL, timesL]
  | r :: l, i, h => by
    have hr := h r (by simp)
    simp only [atL]
    by_cases k : (i : Int) < r.c
    · rw [if_pos k, timesL_at_here r l i k]
    · rw [if_neg k, timesL_at_on r l i (by omega), ← atL_eq l (i - r.c.toNat) fun r hr => h r (by simp [hr])]
      congr 1; omega

/-- How many are below a time. -/
def belowL : List RunT → Int → Int
  | [], _ => 0
  | r :: l, t => if t ≤ r.f then 0 else if lastI r < t then r.c + belowL l t else (t - r.f - 1) / r.s + 1

theorem Chain.tail {r : RunT} {l : List RunT} (h : Chain (r :: l)) : Chain l := h.2
theorem times_above : ∀ (l : List RunT) (x : Int), (∀ r, r ∈ l → RunOk r) → Chain l → (∀ r, l.head? = some r → x < r.f) → ∀ t, t ∈ timesL l → x < t
  | [], _, _, _, _, t, ht => by simp [timesL] at ht
  | r :: l, x, h, hc, hx, t, ht => by
    have hr := h r (by simp)
    have h0 := hx r (by simp)
    simp only [timesL, List.mem_append] at ht
    rcases ht with ht | ht
    · simp only [timesR, List.mem_map, List.mem_range] at ht
      obtain ⟨k, hk, rfl⟩ := ht
      have := run_at_ge hr (show (0 : Int) ≤ k by omega)
      omega
    · have := times_above l (lastI r) (fun r hr => h r (by simp [hr])) hc.2 (fun q hq => ((hc.1 q hq).1).1) t ht
      have := lastI_le hr
      omega
theorem times_pairwise : ∀ (l : List RunT), (∀ r, r ∈ l → RunOk r) → Chain l → (timesL l).Pairwise (· < ·)
  | [], _, _ => by simp [timesL]
  | r :: l, h, hc => by
    have hr := h r (by simp)
    simp only [timesL]
    rw [List.pairwise_append]
    refine ⟨?_, times_pairwise l (fun r hr => h r (by simp [hr])) hc.2, fun a ha b hb => ?_⟩
    · unfold timesR
      rw [List.pairwise_map]
      refine List.Pairwise.imp_of_mem ?_ (List.pairwise_lt_range)
      intro a b ha hb hab
      simp at ha hb
      exact run_at_lt hr (by omega) (by omega) (by omega)
    · simp only [timesR, List.mem_map, List.mem_range] at ha
      obtain ⟨k, hk, rfl⟩ := ha
      have := times_above l (lastI r) (fun r hr => h r (by simp [hr])) hc.2 (fun q hq => ((hc.1 q hq).1).1) b hb
      have := run_at_le hr (show (k : Int) ≤ r.c - 1 by omega)
      omega
theorem times_in (l : List RunT) (h : RunsOk l) : ∀ t, t ∈ timesL l → 0 ≤ t ∧ t ≤ 281474976710656 := by
  intro t ht
  have : ∀ (l : List RunT), (∀ r, r ∈ l → RunOk r) → t ∈ timesL l → 0 ≤ t ∧ t ≤ 281474976710656 := by
    intro l
    induction l with
    | nil => intro _ h; simp [timesL] at h
    | cons r l ih =>
      intro h ht
      simp only [timesL, List.mem_append] at ht
      rcases ht with ht | ht
      · simp only [timesR, List.mem_map, List.mem_range] at ht
        obtain ⟨k, hk, rfl⟩ := ht
        have hr := h r (by simp)
        have := run_at_ge hr (show (0 : Int) ≤ k by omega)
        have := run_at_le hr (show (k : Int) ≤ r.c - 1 by omega)
        have := hr.f0; have := hr.last
        omega
      · exact ih (fun r hr => h r (by simp [hr])) ht
  exact this l h.each ht

end Go.Proofs.YtbanjolokkghdaaGreatDoor
namespace Go.Proofs.YtbanjolokkghdaaGreatDoor
open Go.RowKit
theorem c_rises (p : Option Addr) (cap : Nat) (l : List RunT) (w : World) (hlen : l.length ≤ 9223372036854775807) (h : RunsIn w p l) (b : Bool) (hb : risesB l = b) :
    Calls Tryz.prog 128 #[.slice p l.length cap] w fun e w' => e = .returned (.bool b) ∧ Below w.heap.size w w' := hb ▸ rises_w p cap l w hlen h

set_option maxRecDepth 100000 in
set_option maxHeartbeats 2000000 in
theorem c_rcheck (p : Option Addr) (cap : Nat) (l : List RunT) (w : World) (hlen : l.length ≤ 9223372036854775807) (h : RunsIn w p l) :
    Calls Tryz.prog 93 #[.slice p l.length cap] w fun e w' => e = .returned (.int .i64 (if risesB l then 0 else 170)) ∧ Below w.heap.size w w' := by
  have c1 := fun W (hW : Below w.heap.size w W) => rises_w p cap l W hlen (h.below hW)
  by_cases hb : risesB l = true
  · rw [if_pos hb]
    rw [hb] at c1
    have H_c1 := Lib.hid c1
    clear c1
    go_enter Tryz.func93, Tryz.ntmps93
    go_wp2_with fail
    refine (H_c1.out _ (belowAny)).mono ?_
    rintro e w1 ⟨rfl, hb1⟩
    have z2 := hb1.size
    try simp at z2
    refine haveB w w1 (Bz) ?_
    rintro hW z3 ⟨-⟩
    clear hb1
    go_wp2
    refine bodyPost_ret (by simp [results, Tryz.results93, go_sem]) rfl ⟨rfl, by exact belowAny⟩
  · rw [if_neg hb]
    rw [eq_false_of_ne_true hb] at c1
    have H_c1 := Lib.hid c1
    clear c1
    go_enter Tryz.func93, Tryz.ntmps93
    go_wp2_with fail
    refine (H_c1.out _ (belowAny)).mono ?_
    rintro e w1 ⟨rfl, hb1⟩
    have z2 := hb1.size
    try simp at z2
    refine haveB w w1 (Bz) ?_
    rintro hW z3 ⟨-⟩
    clear hb1
    go_wp2
    refine bodyPost_ret (by simp [results, Tryz.results93, go_sem]) rfl ⟨rfl, by exact belowAny⟩
set_option maxRecDepth 100000 in
set_option maxHeartbeats 2000000 in
theorem c_rcount (p : Option Addr) (cap : Nat) (l : List RunT) (w : World) (hlen : l.length ≤ 9223372036854775807) (h : RunsIn w p l) :
    Calls Tryz.prog 171 #[.slice p l.length cap] w fun e w' => e = .returned (.int .i64 (if risesB l then cnt l else 0)) ∧ Below w.heap.size w w' := by
  have c1 := fun W (hW : Below w.heap.size w W) => rises_w p cap l W hlen (h.below hW)
  by_cases hb : risesB l = true
  · rw [if_pos hb]
    rw [hb] at c1
    have hl := (risesB_iff l).1 hb
    have c2 := fun W (hW : Below w.heap.size w W) => many_w p l.length cap l W rfl hl.few (h.below hW) (fun i r hr => by have hh := hl.each r (List.mem_of_getElem? hr); have := hh.c0; have := hh.c1; omega)
    rw [countTo_all] at c2
    have H_c1 := Lib.hid c1
    clear c1
    have H_c2 := Lib.hid c2
    clear c2
    go_enter Tryz.func171, Tryz.ntmps171
    go_wp2_with fail
    refine (H_c1.out _ (belowAny)).mono ?_
    rintro e w1 ⟨rfl, hb1⟩
    have z2 := hb1.size
    try simp at z2
    refine haveB w w1 (Bz) ?_
    rintro hW z3 ⟨-⟩
    clear hb1
    go_wp2_with fail
    refine (H_c2.out _ (belowAny)).mono ?_
    rintro e w4 ⟨rfl, hb4⟩
    have z5 := hb4.size
    try simp at z5
    refine haveB w w4 (Bz) ?_
    clear hW
    rintro hW z6 ⟨-⟩
    clear hb4
    go_wp2
    refine bodyPost_ret (by simp [results, Tryz.results171, go_sem]) rfl ⟨rfl, by exact belowAny⟩
  · rw [if_neg hb]
    rw [eq_false_of_ne_true hb] at c1
    have H_c1 := Lib.hid c1
    clear c1
    go_enter Tryz.func171, Tryz.ntmps171
    go_wp2_with fail
    refine (H_c1.out _ (belowAny)).mono ?_
    rintro e w1 ⟨rfl, hb1⟩
    have z2 := hb1.size
    try simp at z2
    refine haveB w w1 (Bz) ?_
    rintro hW z3 ⟨-⟩
    clear hb1
    go_wp2
    refine bodyPost_ret (by simp [results, Tryz.results171, go_sem]) rfl ⟨rfl, by exact belowAny⟩

theorem cnt_nonneg : ∀ (l : List RunT), (∀ r, r ∈ l → RunOk r) → 0 ≤ cnt l
  | [], _ => by simp [cnt]
  | r :: l, h => by
    have := cnt_nonneg l fun r hr => h r (by simp [hr])
    have := (h r (by simp)).c0
    simp only [cnt]; omega

end Go.Proofs.YtbanjolokkghdaaGreatDoor
namespace Go.Proofs.YtbanjolokkghdaaGreatDoor
open Go.RowKit
def atV (l : List RunT) (i : Int) : Int := (atL l i).getD 0
def atE (l : List RunT) (i : Int) : Int := if (atL l i).isSome then 0 else 4
theorem atV_some {l : List RunT} {i v : Int} (h : atL l i = some v) : atV l i = v := by simp [atV, h]
theorem atE_some {l : List RunT} {i v : Int} (h : atL l i = some v) : atE l i = 0 := by simp [atE, h]
theorem atV_none {l : List RunT} {i : Int} (h : atL l i = none) : atV l i = 0 := by simp [atV, h]
theorem atE_none {l : List RunT} {i : Int} (h : atL l i = none) : atE l i = 4 := by simp [atE, h]
theorem atL_drop {l : List RunT} {k : Nat} {r : RunT} (hr : l[k]? = some r) (i : Int) : atL (l.drop k) i = if i < r.c then some (r.f + r.s * i) else atL (l.drop (k + 1)) (i - r.c) := by
  rw [List.getElem?_eq_some_iff] at hr
  obtain ⟨hi, rfl⟩ := hr
  rw [List.drop_eq_getElem_cons hi, atL]

def atRel (p : Option Addr) (cap : Nat) (l : List RunT) (i : Int) (w : World) (a' : Act) (W : World) : Prop := Below w.heap.size w W ∧ ∃ (k : Nat) (j : Int), (∃ u : Nat → Value, a' = { tmps := #[(.slice p l.length cap), .int .i64 j, u 2, u 3, u 4, u 5, u 6, u 7, u 8, u 9, u 10, u 11, u 12, (.slice p l.length cap), .int .i64 (l.length : Int), .int .i64 (k : Int), u 16, u 17, u 18, u 19, u 20, u 21, u 22, u 23, u 24, u 25, u 26, u 27, u 28, u 29, u 30, u 31, u 32, u 33, u 34], defers := [] }) ∧ k ≤ l.length ∧ atL (l.drop k) j = atL l i ∧ 0 ≤ j ∧ j ≤ i
set_option maxRecDepth 100000 in
set_option maxHeartbeats 2000000 in
theorem at_w (p : Option Addr) (cap : Nat) (l : List RunT) (i : Int) (w : World) (hl : RunsOk l) (h : RunsIn w p l) (hi0 : 0 ≤ i) (hi1 : i ≤ 9223372036854775807) :
    Calls Tryz.prog 191 #[.slice p l.length cap, .int .i64 i] w fun e w' => e = .returned (.tuple #[.int .i64 (atV l i), .int .i64 (atE l i)]) ∧ Below w.heap.size w w' := by
  have hlen := hl.few
  have c1 := fun W (hW : Below w.heap.size w W) => rises_w p cap l W (by omega) (h.below hW)
  rw [(risesB_iff l).2 hl] at c1
  have H_c1 := Lib.hid c1
  clear c1
  go_enter Tryz.func191, Tryz.ntmps191
  go_wp2_with fail
  refine (H_c1.out _ (belowAny)).mono ?_
  rintro e w1 ⟨rfl, hb1⟩
  have z2 := hb1.size
  try simp at z2
  refine haveB w w1 (Bz) ?_
  rintro hW z3 ⟨-⟩
  clear hb1
  go_wp2
  refine wp_loop (atRel p cap l i w) (fun a' _ => l.length - (intAt (a'.tmps.getD 15 undef)).toNat) ?_ ?_
  · unfold atRel
    exact ⟨hW, 0, i, frame_ex rfl, by omega, by simp, by omega, by omega⟩
  · clear hW
    rintro a' W ⟨hW, k, j, ⟨u, rfl⟩, hk, hn, hj0, hj1⟩
    have hz := hW.size
    rcases Nat.lt_or_ge k l.length with hlt | hge
    · obtain ⟨r, hri⟩ : ∃ r, l[k]? = some r := ⟨l[k]'(by omega), List.getElem?_eq_getElem (by omega)⟩
      have hr := hl.each r (List.mem_of_getElem? hri)
      obtain ⟨b, o, rfl, k0, k1, k2⟩ := (h.below hW).at' k r hri
      have hd2 := atL_drop hri j
      have r1 := hr.f0; have r2 := hr.f1; have r3 := hr.s0; have r4 := hr.s1; have r5 := hr.c0; have r6 := hr.c1; have r7 := lastI_le hr; have r8 := hr.last
      by_cases h1 : j < r.c
      · rw [if_pos h1] at hd2
        rw [hd2] at hn
        have m0 : 0 ≤ r.s * j := Int.mul_nonneg r3 hj0
        have m1 : r.f + r.s * j ≤ lastI r := run_at_le hr (by omega)
        replace hn := Lib.hid hn
        clear hd2
        replace hri := Lib.hid hri
        go_wp2
        refine bodyPost_ret (v := .tuple #[.int .i64 (r.f + r.s * j), .int .i64 (0)]) (by simp [results, Tryz.results191, go_sem]) rfl ⟨by rw [atV_some hn.out.symm, atE_some hn.out.symm], belowAny⟩
      · rw [if_neg h1] at hd2
        rw [hd2] at hn
        replace hn := Lib.hid hn
        clear hd2
        replace hri := Lib.hid hri
        go_wp2
        rw [show (k : Int) + 1 = ((k + 1 : Nat) : Int) by omega]
        refine ⟨?_, by simp [intAt]; omega⟩
        unfold atRel
        exact ⟨belowAny, k + 1, j - r.c, frame_ex rfl, by omega, hn.out, by omega, by omega⟩
    · have e : l.drop k = [] := List.drop_eq_nil_of_le hge
      rw [e] at hn
      simp only [atL] at hn
      replace hn := Lib.hid hn
      clear e
      go_wp2
      refine bodyPost_ret (v := .tuple #[.int .i64 (0), .int .i64 (4)]) (by simp [results, Tryz.results191, go_sem]) rfl ⟨by rw [atV_none hn.out.symm, atE_none hn.out.symm], belowAny⟩

/-- The place of a time. -/
def findL (l : List RunT) (t : Int) : Option Int := if atL l (belowL l t) = some t then some (belowL l t) else none
end Go.Proofs.YtbanjolokkghdaaGreatDoor
namespace Go.Proofs.YtbanjolokkghdaaGreatDoor
open Go.RowKit
section
variable (P : Program)
end
/-- The places of the times from a to b. -/
def clipI (l : List RunT) (a : Int) : Int := belowL l a
def clipJ (l : List RunT) (a b : Int) : Int := if 281474976710656 ≤ b then cnt l else if belowL l a < belowL l (b + 1) then belowL l (b + 1) else belowL l a
end Go.Proofs.YtbanjolokkghdaaGreatDoor
namespace Go.Proofs.YtbanjolokkghdaaGreatDoor
open Go.RowKit
def mx (x y : Int) : Int := if y > x then y else x
def mn (x y : Int) : Int := if y < x then y else x
/-- What is left of a run, of the places from i to j. -/
def pieceOf (r : RunT) (i j : Int) : List RunT := if mx i 0 < mn j r.c then [⟨r.f + r.s * mx i 0, r.s, mn j r.c - mx i 0⟩] else []
def piecesL : List RunT → Int → Int → List RunT
  | [], _, _ => []
  | r :: l, i, j => pieceOf r i j ++ piecesL l (i - r.c) (j - r.c)
def flatCells : List RunT → List Value
  | [] => []
  | r :: l => .int .i64 r.f :: .int .i64 r.s :: .int .i64 r.c :: flatCells l
def runCells (l : List RunT) : Array Value := (flatCells l).toArray
theorem length_flatCells : ∀ l, (flatCells l).length = l.length * 3
  | [] => rfl
  | r :: l => by simp only [flatCells, List.length_cons, length_flatCells l]; omega
theorem flat_at : ∀ (l : List RunT) (i : Nat) (r : RunT), l[i]? = some r → (flatCells l)[i * 3]? = some (.int .i64 r.f) ∧ (flatCells l)[i * 3 + 1]? = some (.int .i64 r.s) ∧ (flatCells l)[i * 3 + 2]? = some (.int .i64 r.c)
  | [], i, r, h => by simp at h
  | a :: l, 0, r, h => by
    simp at h
    subst h
    simp [flatCells]
  | a :: l, i + 1, r, h => by
    have := flat_at l i r (by simpa using h)
    rw [show (i + 1) * 3 = i * 3 + 3 by omega]
    simpa [flatCells] using this
theorem flat_mem : ∀ (l : List RunT) (v : Value), v ∈ flatCells l → ∃ x, v = .int .i64 x
  | [], v, h => by simp [flatCells] at h
  | r :: l, v, h => by
    simp only [flatCells, List.mem_cons] at h
    rcases h with rfl | rfl | rfl | h
    · exact ⟨_, rfl⟩
    · exact ⟨_, rfl⟩
    · exact ⟨_, rfl⟩
    · exact flat_mem l v h
theorem flat_at' (l : List RunT) (j : Nat) (v : Value) (h : (flatCells l)[j]? = some v) : ∃ i r, l[i]? = some r ∧ ((j = i * 3 ∧ v = .int .i64 r.f) ∨ (j = i * 3 + 1 ∧ v = .int .i64 r.s) ∨ (j = i * 3 + 2 ∧ v = .int .i64 r.c)) := by
  have hlt : j < l.length * 3 := by
    rw [List.getElem?_eq_some_iff] at h
    rw [← length_flatCells]; exact h.1
  have hi : j / 3 < l.length := by omega
  refine ⟨j / 3, l[j / 3], List.getElem?_eq_getElem hi, ?_⟩
  obtain ⟨a, b, c⟩ := flat_at l (j / 3) _ (List.getElem?_eq_getElem hi)
  have hm : j % 3 = 0 ∨ j % 3 = 1 ∨ j % 3 = 2 := by omega
  rcases hm with m | m | m
  · left
    have e : j = j / 3 * 3 := by omega
    rw [← e, h] at a
    exact ⟨e, by simpa using a⟩
  · right; left
    have e : j = j / 3 * 3 + 1 := by omega
    rw [← e, h] at b
    exact ⟨e, by simpa using b⟩
  · right; right
    have e : j = j / 3 * 3 + 2 := by omega
    rw [← e, h] at c
    exact ⟨e, by simpa using c⟩
/-- The cells of a row that came in. -/
theorem RunsIn.flat {w : World} {a : Addr} {l : List RunT} (h : RunsIn w (some a) l) (j : Nat) (v : Value) (hv : (flatCells l)[j]? = some v) : w.cell? (a.add j) = some v := by
  obtain ⟨i, r, hr, h'⟩ := flat_at' l j v hv
  obtain ⟨b, o, e, c0, c1, c2⟩ := h.at' i r hr
  simp at e
  subst e
  have hadd : (⟨b, o, none⟩ : Addr).add j = ⟨b, o + j, none⟩ := by unfold Addr.add; split <;> simp_all
  rw [hadd]
  rcases h' with ⟨rfl, rfl⟩ | ⟨rfl, rfl⟩ | ⟨rfl, rfl⟩
  · exact c0
  · exact c1
  · exact c2
theorem Tryz.infoRun : (Tryz.prog.info? 94).map (fun i => (i.zero, i.size, i.bytes)) = some (some (.agg #[.int .i64 0, .int .i64 0, .int .i64 0]), 3, 24) := by kernel_rfl
end Go.Proofs.YtbanjolokkghdaaGreatDoor
