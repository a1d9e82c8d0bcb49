/- Parts of the proof that follows: The references' numbers: word. | The references' numbers: Num, Int. | The references' numbers: Mul. | The references' numbers: Fits. | The references' numbers: Add. | The references' numbers: Value. | The references' numbers: Wide. -/
import Derived.Test.YtbanjolokkghdaaGreatDoorWz19
set_option linter.unusedSimpArgs false
set_option linter.unusedVariables false
namespace Go.Proofs.YtbanjolokkghdaaGreatDoor
open Go.RowKit
theorem valD_from {l : List Int} (h : Dig l) (f : Nat) : valD (l.drop f) = valD l / 2 ^ f := by
  rcases Nat.lt_or_ge l.length f with h1 | h1
  · rw [List.drop_eq_nil_of_le (by omega)]
    have := valD_pow h (Nat.le_of_lt h1)
    rw [Nat.div_eq_of_lt this]
    rfl
  · have e := valD_split (l := l) (k := f) h1
    have hb := valD_pow (h.take f) (k := f) (by simp; omega)
    rw [e, Nat.add_mul_div_left _ _ (Nat.pow_pos (by omega)), Nat.div_eq_of_lt hb, Nat.zero_add]
theorem mod_step {x y P : Nat} (hy : y < 2) : (y + 2 * x) % (2 * P) = y + 2 * (x % P) := by
  rcases Nat.eq_zero_or_pos P with rfl | hP
  · simp
  · have e := Nat.div_add_mod x P
    have hm := Nat.mod_lt x hP
    have : y + 2 * x = (y + 2 * (x % P)) + 2 * P * (x / P) := by
      rw [Nat.mul_assoc]
      omega
    rw [this, Nat.add_mul_mod_self_left, Nat.mod_eq_of_lt (by omega)]
theorem word_step {l : List Int} {i k acc y : Nat} (hy : y < 2) (hk : k < 64) (hd : valD (l.drop i) = y + 2 * valD (l.drop (i + 1))) (ha : acc = valD (l.drop (i + 1)) % 2 ^ (64 - (k + 1))) :
    y + 2 * acc = valD (l.drop i) % 2 ^ (64 - k) := by
  rw [hd, ha, show 64 - k = (64 - (k + 1)) + 1 by omega, Nat.pow_succ, Nat.mul_comm (2 ^ _) 2, mod_step hy]
def wordRel (w : World) (p : Option Addr) (l : List Int) (cap f : Nat) (a' : Act) (W : World) : Prop :=
  Below w.heap.size w W ∧ ∃ k acc : Nat, (∃ u : Nat → Value, a' = { tmps := #[.slice p l.length cap, .int .i64 (f : Int), u 2, u 3, u 4, .int .u64 (acc : Int), .int .i64 (((f + k : Nat) : Int) - 1), u 7, u 8, u 9, u 10, u 11, u 12, u 13, u 14, u 15, u 16, u 17, u 18, u 19, u 20, u 21, u 22, u 23, u 24, u 25, u 26, u 27, u 28, u 29], defers := [] }) ∧ k ≤ 64 ∧ acc = valD (l.drop (f + k)) % 2 ^ (64 - k)
set_option maxRecDepth 100000 in
set_option maxHeartbeats 8000000 in
theorem word_w (p : Option Addr) (l : List Int) (cap f : Nat) (w : World) (hi : DigsIn w p l) (hd : Dig l) (hl : l.length ≤ 1000) (hf : f ≤ 64) :
    Calls Tryz.prog 124 #[.slice p l.length cap, .int .i64 (f : Int)] w fun e w' => e = .returned (.int .u64 ((valD l / 2 ^ f % 2 ^ 64 : Nat) : Int)) ∧ Below w.heap.size w w' := by
  go_enter Tryz.func124, Tryz.ntmps124
  go_wp2
  refine wp_loop (wordRel w p l cap f) (fun a' _ => ((intAt (a'.tmps.getD 6 undef)) + 1).toNat - f) ?_ ?_
  · unfold wordRel
    refine ⟨Below.refl _ _, 64, 0, ?_, Nat.le_refl _, by simp [Nat.mod_one]⟩
    rw [show ((f + 64 : Nat) : Int) - 1 = (f : Int) + 63 by omega]
    exact frame_ex rfl
  · rintro a' W ⟨hW, k, acc, ⟨u, rfl⟩, hk, hacc⟩
    have hz := hW.size
    replace hacc := Lib.hid hacc
    cases k with
    | zero =>
      rw [show ((f + 0 : Nat) : Int) - 1 = (f : Int) - 1 by omega]
      have hres := Lib.hid (show ((valD l / 2 ^ f % 2 ^ 64 : Nat) : Int) = (acc : Int) by rw [hacc.out, ← valD_from hd]; rfl)
      go_wp2
      go_ret
      exact ⟨by rw [hres.out]; rfl, hW⟩
    | succ k =>
      obtain ⟨I, hI⟩ : ∃ I, I = f + k := ⟨_, rfl⟩
      rw [show ((f + (k + 1) : Nat) : Int) - 1 = (I : Int) by omega]
      have hge : f ≤ I := by omega
      have hIl : I ≤ 200 := by omega
      have hE := Lib.hid hI
      have hacc2 := Lib.hid (show acc = valD (l.drop (I + 1)) % 2 ^ (64 - (k + 1)) by rw [hacc.out, hE.out]; rfl)
      have hab : acc < 9223372036854775808 := by
        rw [hacc2.out]
        exact Nat.lt_of_lt_of_le (Nat.mod_lt _ (Nat.pow_pos (by omega))) (Nat.pow_le_pow_right (n := 2) (by omega) (show 64 - (k + 1) ≤ 63 by omega))
      clear hI hacc
      by_cases hlt : I < l.length
      · obtain ⟨y, hy⟩ : ∃ y, l[I]? = some y := ⟨l[I], List.getElem?_eq_getElem hlt⟩
        obtain ⟨g, o, rfl, q⟩ := (hi.below hW).at' _ y hy
        have hs := Lib.hid (valD_drop hy)
        have by01 := hd.at hy
        clear hy
        rcases by01 with rfl | rfl
        · have hn := Lib.hid (word_step (y := 0) (k := k) (by omega) (by omega) hs.out hacc2.out)
          go_wp2
          refine ⟨?_, by simp [intAt]; omega⟩
          rw [hE.out, show (acc : Int) * 2 = ((0 + 2 * acc : Nat) : Int) by omega]
          unfold wordRel
          exact ⟨hW, k, 0 + 2 * acc, frame_ex rfl, by omega, by rw [hn.out, hE.out]⟩
        · have hn := Lib.hid (word_step (y := 1) (k := k) (by omega) (by omega) hs.out hacc2.out)
          go_wp2
          refine ⟨?_, by simp [intAt]; omega⟩
          rw [hE.out, show (acc : Int) * 2 + 1 = ((1 + 2 * acc : Nat) : Int) by omega]
          unfold wordRel
          exact ⟨hW, k, 1 + 2 * acc, frame_ex rfl, by omega, by rw [hn.out, hE.out]⟩
      · have hs := Lib.hid (show valD (l.drop I) = 0 + 2 * valD (l.drop (I + 1)) by rw [List.drop_eq_nil_of_le (by omega), List.drop_eq_nil_of_le (by omega)]; rfl)
        have hn := Lib.hid (word_step (y := 0) (k := k) (by omega) (by omega) hs.out hacc2.out)
        go_wp2
        refine ⟨?_, by simp [intAt]; omega⟩
        rw [hE.out, show (acc : Int) * 2 = ((0 + 2 * acc : Nat) : Int) by omega]
        unfold wordRel
        exact ⟨hW, k, 0 + 2 * acc, frame_ex rfl, by omega, by rw [hn.out, hE.out]⟩
theorem c_word (v : Value) (n f : Nat) (w : World) (h : Bits w v n) (hf : f ≤ 64) :
    Calls Tryz.prog 124 #[v, .int .i64 (f : Int)] w fun e w' => e = .returned (.int .u64 ((n / 2 ^ f % 2 ^ 64 : Nat) : Int)) ∧ Below w.heap.size w w' := by
  obtain ⟨p, l, cap, rfl, _, hl, _, hi, hd, _, rfl⟩ := h
  exact word_w p l cap f w hi hd hl hf
end Go.Proofs.YtbanjolokkghdaaGreatDoor
namespace Go.Proofs.YtbanjolokkghdaaGreatDoor
open Go.RowKit
/-- The value v is the reference's number z. -/
def NumIs (w : World) (v : Value) (z : Int) : Prop := ∃ sz, v = .agg #[.bool (decide (z < 0)), sz] ∧ Bits w sz z.natAbs
theorem NumIs.below {w w' : World} {v : Value} {z : Int} (h : NumIs w v z) (hb : Below w.heap.size w w') : NumIs w' v z := by
  obtain ⟨sz, h1, h2⟩ := h
  exact ⟨sz, h1, h2.below hb⟩
theorem NumIs.rex {L : List Nat} {w w' : World} {v : Value} {z : Int} (h : NumIs w v z) (hr : Rex L w w') (hL : L = []) : NumIs w' v z := by subst hL; exact h.below hr.below
theorem NumIs.drew {w : World} {v : Value} {z : Int} (h : NumIs w v z) : NumIs w.drew v z := by
  obtain ⟨sz, h1, h2⟩ := h
  exact ⟨sz, h1, h2.drew⟩
theorem ty_setCell {w : World} {a : Addr} {cur : Array Value} {T : TypeId} {fz : Nat × Nat} (h : w.heap[a.block]? = some (.cells cur T fz)) (v : Value) : ∃ cur' fz', (w.setCell a v).heap[a.block]? = some (.cells cur' T fz') := by
  simp only [World.setCell, Array.getElem?_modify]
  rw [if_pos trivial, h]
  exact ⟨_, _, rfl⟩
theorem DigsIn.set {w : World} {p : Option Addr} {l : List Int} (h : DigsIn w p l) {a : Addr} {u : Value} (ha : w.cell? a = some u) (hu : ∀ x, u ≠ .int .i64 x) (v : Value) : DigsIn (w.setCell a v) p l := ⟨fun i x hx => by
  obtain ⟨b, o, e, hc⟩ := h.at' i x hx
  refine ⟨b, o, e, ?_⟩
  rw [World.cell?_setCell_other]
  · exact hc
  · rintro rfl
    rw [hc] at ha
    cases ha
    exact hu x rfl, fun b e => by
  obtain ⟨cur, fz, hh⟩ := h.typ b e
  by_cases hb : b.block = a.block
  · rw [hb] at hh ⊢
    exact ty_setCell hh v
  · exact ⟨cur, fz, (heap_setCell_other w a b.block v hb).trans hh⟩⟩
/-- Digits are not in a block of another type. -/
theorem DigsIn.setT {w : World} {p : Option Addr} {l : List Int} (h : DigsIn w p l) {g : Nat} {cs : Array Value} {T : TypeId} (hb : Blk w g cs T) (hT : T ≠ 3) (i : Nat) (v : Value) : DigsIn (w.setCell ⟨g, i, none⟩ v) p l := by
  have hne : ∀ a, p = some a → a.block ≠ g := fun a e e2 => by
    obtain ⟨cur, fz, hh⟩ := h.typ a e
    unfold Blk at hb
    rw [e2, hb] at hh
    injection hh with hh
    injection hh with _ h2 _
    exact hT h2
  refine ⟨fun k x hx => ?_, fun a e => ?_⟩
  · obtain ⟨b, o, e, hc⟩ := h.at' k x hx
    refine ⟨b, o, e, ?_⟩
    rw [World.cell?_setCell_other]
    · exact hc
    · intro e3
      have := hne _ e
      apply this
      have := congrArg Addr.block e3
      simpa using this.symm
  · obtain ⟨cur, fz, hh⟩ := h.typ a e
    exact ⟨cur, fz, (heap_setCell_other w ⟨g, i, none⟩ a.block v (hne a e)).trans hh⟩
theorem Bits.setT {w : World} {v : Value} {n : Nat} (h : Bits w v n) {g : Nat} {cs : Array Value} {T : TypeId} (hb : Blk w g cs T) (hT : T ≠ 3) (i : Nat) (v1 : Value) : Bits (w.setCell ⟨g, i, none⟩ v1) v n := by
  obtain ⟨p, l, cap, h1, h2, h3, h4, h5, h6⟩ := h
  exact ⟨p, l, cap, h1, h2, h3, h4, h5.setT hb hT i v1, h6⟩
theorem Bits.set {w : World} {v : Value} {n : Nat} (h : Bits w v n) {a : Addr} {u : Value} (ha : w.cell? a = some u) (hu : ∀ x, u ≠ .int .i64 x) (v1 : Value) : Bits (w.setCell a v1) v n := by
  obtain ⟨p, l, cap, h1, h2, h3, h4, h5, h6⟩ := h
  exact ⟨p, l, cap, h1, h2, h3, h4, h5.set ha hu v1, h6⟩
theorem Bits.store {w : World} {v : Value} {n g c d : Nat} {b : Bool} {p : Option Addr} {T : TypeId} (h : Bits w v n) (hb : Blk w g #[.bool b, .slice p c d] T) (v0 v1 : Value) :
    Bits ((w.setCell ⟨g, 0, none⟩ v0).setCell ⟨g, 1, none⟩ v1) v n := by
  refine (h.set (hb.cell 0) (by intro x e; cases e) v0).set ((hb.set 0 v0).cell 1) (u := .slice p c d) ?_ v1
  intro x e
  cases e
set_option maxRecDepth 100000 in
set_option maxHeartbeats 4000000 in
theorem c_refInt (n : Int) (w : World) (h1 : -9223372036854775808 ≤ n) (h2 : n ≤ 9223372036854775807) :
    Calls Tryz.prog 83 #[.int .i64 n] w fun e w' => ∃ v, e = .returned v ∧ NumIs w' v n ∧ Below w.heap.size w w' := by
  by_cases hneg : n < 0
  · obtain ⟨m, rfl⟩ : ∃ m : Nat, n = -(m : Int) := ⟨n.natAbs, by omega⟩
    obtain ⟨s, hs⟩ : ∃ s : Nat, s = 18446744073709551616 - m := ⟨_, rfl⟩
    have hs1 : ((s : Nat) : Int) = 18446744073709551616 - (m : Int) := by omega
    have cS := fun W => c_Size s W (by omega)
    have hw := Lib.hid (show IntKind.u64.wrap (-(m : Int)) = ((s : Nat) : Int) by simp [IntKind.wrap, IntKind.signed, IntKind.bits]; omega)
    have hm0 : 0 < m := by omega
    replace hs1 := Lib.hid hs1
    clear hs
    go_enter Tryz.func83, Tryz.ntmps83
    go_wp2_with fail
    rw [hw.out]
    go_wp2_with fail
    refine (cS _).mono ?_
    rintro e w1 ⟨v1, rfl, hq1, hb1⟩
    have z2 := hb1.size
    try simp at z2
    refine haveB w w1 (Bc w.heap.size #[.bool false, .slice none 0 0] 140 <| Bz) ?_
    rintro hW z3 ⟨⟨b1, yb1, k1, f1⟩, -⟩
    obtain ⟨p1, l1, k1', rfl, _, hl1⟩ := bits_len hq1
    replace hq1 := Lib.hid hq1
    go_wp2_with fail
    refine (c_power 64 _ (by omega)).mono ?_
    rintro e w4 ⟨v2, rfl, hq2, hb4⟩
    have z5 := hb4.size
    try simp at z5
    clear k1 f1
    refine haveB w w4 (Bc w.heap.size #[.bool false, .slice none 0 0] 140 <| Bz) ?_
    clear b1 hW
    rintro hW z6 ⟨⟨b1, yb1, k1, f1⟩, -⟩
    replace hq2 := Lib.hid hq2
    replace hq1 := Lib.hid (hq1.out.below hb4)
    have cm := Lib.hid (c_minus _ _ (2 ^ 64) s w4 hq2.out hq1.out (pow_lt2 64 900 (by omega)) (by have := hs1.out; omega))
    go_wp2_with fail
    refine (cm.out).mono ?_
    rintro e w7 ⟨v3, rfl, hq3, hb7⟩
    have z8 := hb7.size
    try simp at z8
    clear k1 f1
    refine haveB w w7 (Bc w.heap.size #[.bool false, .slice none 0 0] 140 <| Bz) ?_
    clear b1 hW
    rintro hW z9 ⟨⟨b1, yb1, k1, f1⟩, -⟩
    obtain ⟨p3, l3, k3', rfl, _, hl3⟩ := bits_len hq3
    rw [show 2 ^ 64 - s = m by have := hs1.out; omega] at hq3
    replace hq3 := Lib.hid hq3
    go_wp2_with fail
    refine (c_refmade true _ m _ hq3.out).mono ?_
    rintro e w10 ⟨rfl, hb10⟩
    have z11 := hb10.size
    try simp at z11
    clear k1 f1
    refine haveB w w10 (Bc w.heap.size #[.bool false, .slice none 0 0] 140 <| Bz) ?_
    clear b1 hW
    rintro hW z12 ⟨⟨b1, yb1, k1, f1⟩, -⟩
    replace hq3 := Lib.hid (hq3.out.below hb10)
    go_wp2
    refine bodyPost_ret (v := .agg #[.bool (true && decide (0 < m)), .slice p3 l3.length k3']) (by simp [results, Tryz.results83, go_sem, k1, f1, hm0]) rfl ⟨_, rfl, ⟨.slice p3 l3.length k3', by simp [hm0], ?_⟩, by exact belowAny⟩
    have hS := hq3.out.store b1 (.bool (true && decide (0 < m))) (.slice p3 l3.length k3')
    simpa [hm0] using hS
  · obtain ⟨m, rfl⟩ : ∃ m : Nat, n = (m : Int) := ⟨n.toNat, by omega⟩
    have cS := fun W => c_Size m W (by omega)
    go_enter Tryz.func83, Tryz.ntmps83
    go_wp2_with fail
    refine (cS _).mono ?_
    rintro e w1 ⟨v1, rfl, hq1, hb1⟩
    have z2 := hb1.size
    try simp at z2
    refine haveB w w1 (Bc w.heap.size #[.bool false, .slice none 0 0] 140 <| Bz) ?_
    rintro hW z3 ⟨⟨b1, yb1, k1, f1⟩, -⟩
    obtain ⟨p1, l1, k1', rfl, _, hl1⟩ := bits_len hq1
    replace hq1 := Lib.hid hq1
    go_wp2_with fail
    refine (c_refmade false _ m _ hq1.out).mono ?_
    rintro e w4 ⟨rfl, hb4⟩
    have z5 := hb4.size
    try simp at z5
    clear k1 f1
    refine haveB w w4 (Bc w.heap.size #[.bool false, .slice none 0 0] 140 <| Bz) ?_
    clear b1 hW
    rintro hW z6 ⟨⟨b1, yb1, k1, f1⟩, -⟩
    replace hq1 := Lib.hid (hq1.out.below hb4)
    go_wp2
    refine bodyPost_ret (v := .agg #[.bool (false && decide (0 < m)), .slice p1 l1.length k1']) (by simp [results, Tryz.results83, go_sem, k1, f1]) rfl ⟨_, rfl, ⟨.slice p1 l1.length k1', by simp, ?_⟩, by exact belowAny⟩
    have hS := hq1.out.store b1 (.bool (false && decide (0 < m))) (.slice p1 l1.length k1')
    simpa using hS
end Go.Proofs.YtbanjolokkghdaaGreatDoor
namespace Go.Proofs.YtbanjolokkghdaaGreatDoor
open Go.RowKit
/-- A size, as the spec of a drawn step. -/
def BS (n : Nat) : Spec := fun v w => Bits w v n
theorem BS.closed (n : Nat) : Closed [] (BS n) := fun _ _ _ hr h => Bits.rex h hr rfl
theorem BS.below {n : Nat} {v : Value} {w w' : World} (h : BS n v w) (hr : Below w.heap.size w w') : BS n v w' := Bits.below h hr
def NS (b : Bool) (n : Nat) : Spec := fun v w => ∃ sz, v = .agg #[.bool (b && decide (0 < n)), sz] ∧ BS n sz w
theorem NS.closed (b : Bool) (n : Nat) : Closed [] (NS b n) := fun _ _ _ hr ⟨sz, e, h⟩ => ⟨sz, e, Bits.rex h hr rfl⟩
set_option maxRecDepth 100000 in
set_option maxHeartbeats 4000000 in
theorem mul_w (sa sb : Bool) (pa pb : Option Addr) (la ca lb cb m n : Nat) (w : World) (ha : Bits w (.slice pa la ca) m) (hb : Bits w (.slice pb lb cb) n) (hm : m < 2 ^ 400) (hn : n < 2 ^ 400) :
    Calls Tryz.prog 121 #[.agg #[.bool sa, .slice pa la ca], .agg #[.bool sb, .slice pb lb cb]] w fun e w' => ∃ sz, e = .returned (.agg #[.bool ((sa != sb) && decide (0 < m * n)), sz]) ∧ Bits w' sz (m * n) ∧ Below w.heap.size w w' := by
  go_enter Tryz.func121, Tryz.ntmps121
  go_upto_region 1 with (fail)
  refine wp_facts (fun W' => Below w.heap.size w W' ∧ Blk W' w.heap.size #[.bool sa, .slice pa la ca] 140 ∧ Blk W' (w.heap.size + 1) #[.bool sb, .slice pb lb cb] 140 ∧ Blk W' (w.heap.size + 2) #[.bool false, .slice none 0 0] 140 ∧ Bits W' (.slice pa la ca) m ∧ Bits W' (.slice pb lb cb) n) ⟨by exact belowAny, by exact blkAny, by exact blkAny, by exact blkAny, by exact ha.below belowAny, by exact hb.below belowAny⟩ ?_
  rintro W1 ⟨hW, b1, b2, b3, b4, b5⟩
  have z2 := hW.size
  have z3 := b1.lt
  have z4 := b2.lt
  have z5 := b3.lt
  refine wp_region_nd 11 16 [] (fun W' => Rex [] W1 W' ∧ Blk W' w.heap.size #[.bool sa, .slice pa la ca] 140 ∧ Blk W' (w.heap.size + 1) #[.bool sb, .slice pb lb cb] 140 ∧ Blk W' (w.heap.size + 2) #[.bool false, .slice none 0 0] 140 ∧ Bits W' (.slice pa la ca) m ∧ Bits W' (.slice pb lb cb) n) mixed (by kernel_rfl) rfl ⟨(Rex.refl _ _).drew, b1, b2, b3, b4.drew, b5.drew⟩ (fun w w' ⟨h0, h1, h2, h3, h4, h5⟩ hr => ⟨h0.trans hr, h1.rex hr (by simp <;> omega), h2.rex hr (by simp <;> omega), h3.rex hr (by simp <;> omega), h4.rex hr (by simp <;> omega), h5.rex hr (by simp <;> omega)⟩) (fun c a d v w h => by cases d <;> exact h) ?_
  iterate 9
    apply nd_det (hg := rfl) (hal := rfl)
    · intro a W' hC hE
      obtain ⟨_, k1, k2, k3, k4, k5⟩ := hC
      have k1 := k1.cell
      have k2 := k2.cell
      first
        | (simp [Oper.looksAt, Op.operands, Call.operands, envOf, Det] at hE; simp [go_sem, Act.eval, IntWalk.i64_left, hE, k1, k2, k3, k4, k5]; try rfl)
        | (clear hE; simp [go_sem, Act.eval, IntWalk.i64_left, k1, k2, k3, k4, k5]; try rfl)
  apply nd_call (BS (m * n)) (hg := rfl) (hal := rfl)
  · exact BS.closed _
  · intro a W' hC hE
    refine ⟨_, _, ?_, (c_times (.slice pa la ca) (.slice pb lb cb) m n W' hC.2.2.2.2.1 hC.2.2.2.2.2 hm hn).mono ?_⟩
    · simp [Oper.looksAt, Op.operands, Call.operands, envOf, Det] at hE
      simp [go_sem, Act.eval, hE]
      try rfl
    · rintro e w' ⟨v, rfl, hB, hR⟩
      exact ⟨_, rfl, hR, hB⟩
  apply nd_call (NS (sa != sb) (m * n)) (hg := rfl) (hal := rfl)
  · exact NS.closed _ _
  · intro a W' hC hE
    simp [Oper.looksAt, Op.operands, Call.operands, envOf, Det] at hE
    refine ⟨_, _, ?_, (c_refmade (sa != sb) _ (m * n) W' hE.2).mono ?_⟩
    · simp [go_sem, Act.eval, hE.1]
      try (cases sa <;> cases sb <;> rfl)
    · rintro e w' ⟨rfl, hR⟩
      have hb := BS.below hE.2 hR
      exact ⟨_, rfl, hR, _, rfl, hb⟩
  rintro W2 ⟨hR, d1, d2, d3, d4, d5⟩
  simp only [ndFinR, Det, forall_eq]
  intros
  repeat (rename GDet _ _ _ _ => hgd; clear hgd)
  simp only [Act.put, List.setIfInBounds_toArray, List.set_cons_zero, List.set_cons_succ, List.drop_succ_cons, List.drop_zero]
  clear b1 b2 b3 b4 b5
  have b1 := d1
  have b2 := d2
  have b3 := d3
  clear d1 d2 d3 d4 d5
  obtain ⟨sz, rfl, hq⟩ := ‹NS _ _ _ _›
  obtain ⟨p1, l1, k1', rfl, _, hl1⟩ := bits_len hq
  replace hq := Lib.hid hq
  replace hW := hW.trans (hR.of_priv hW.size)
  clear hR
  have k1 := b1.cell
  have f1 := b1.frozen
  have k2 := b2.cell
  have f2 := b2.frozen
  have k3 := b3.cell
  have f3 := b3.frozen
  have y_1 := b1.lt
  have y_2 := b2.lt
  have y_3 := b3.lt
  obtain ⟨B, hB⟩ : ∃ B, B = ((sa != sb) && decide (0 < m * n)) := ⟨_, rfl⟩
  rw [← hB]
  replace hB := Lib.hid hB
  go_wp2
  refine bodyPost_ret (v := .agg #[.bool B, .slice p1 l1.length k1']) (by simp [results, Tryz.results121, go_sem, k1, f1, k2, f2, k3, f3, y_1, y_2, y_3]) rfl ⟨_, by rw [hB.out], ?_, by exact belowAny⟩
  have hS := hq.out.store b3 (.bool B) (.slice p1 l1.length k1')
  simpa using hS
theorem num_shape {w : World} {v : Value} {z : Int} (h : NumIs w v z) : ∃ p l c, v = .agg #[.bool (decide (z < 0)), .slice p l c] ∧ Bits w (.slice p l c) z.natAbs := by
  obtain ⟨sz, rfl, h⟩ := h
  obtain ⟨p, l, cap, rfl, _⟩ := bits_len h
  exact ⟨_, _, _, rfl, h⟩
theorem c_refMul (va vb : Value) (x y : Int) (w : World) (ha : NumIs w va x) (hb : NumIs w vb y) (hx : x.natAbs < 2 ^ 400) (hy : y.natAbs < 2 ^ 400) :
    Calls Tryz.prog 121 #[va, vb] w fun e w' => ∃ v, e = .returned v ∧ NumIs w' v (x * y) ∧ Below w.heap.size w w' := by
  obtain ⟨pa, la, ca, rfl, ha'⟩ := num_shape ha
  obtain ⟨pb, lb, cb, rfl, hb'⟩ := num_shape hb
  refine (mul_w _ _ pa pb la ca lb cb _ _ w ha' hb' hx hy).mono ?_
  rintro e w' ⟨sz, rfl, h, hB⟩
  rw [← Int.natAbs_mul] at h
  refine ⟨_, rfl, ⟨sz, ?_, h⟩, hB⟩
  congr 3
  rw [← Int.natAbs_mul]
  rcases Int.lt_trichotomy x 0 with h1 | rfl | h1
  · rcases Int.lt_trichotomy y 0 with h2 | rfl | h2
    · have := Int.mul_pos_of_neg_of_neg h1 h2
      simp [h1, h2]; omega
    · simp
    · have := Int.mul_neg_of_neg_of_pos h1 h2
      have h3 : ¬ y < 0 := by omega
      have h6 : 0 < (x * y).natAbs := by omega
      rw [decide_eq_true h1, decide_eq_false h3, decide_eq_true h6, decide_eq_true this]; rfl
  · simp
  · have h3 : ¬ x < 0 := by omega
    rcases Int.lt_trichotomy y 0 with h2 | rfl | h2
    · have := Int.mul_neg_of_pos_of_neg h1 h2
      have h6 : 0 < (x * y).natAbs := by omega
      rw [decide_eq_false h3, decide_eq_true h2, decide_eq_true h6, decide_eq_true this]; rfl
    · simp
    · have := Int.mul_pos h1 h2
      have h4 : ¬ y < 0 := by omega
      simp [h3, h4]; omega
end Go.Proofs.YtbanjolokkghdaaGreatDoor
namespace Go.Proofs.YtbanjolokkghdaaGreatDoor
open Go.RowKit
set_option maxRecDepth 100000 in
set_option maxHeartbeats 4000000 in
theorem fits_neg (pa : Option Addr) (la ca m k : Nat) (w : World) (ha : Bits w (.slice pa la ca) m) (hm9 : m < 2 ^ 900) (hk : k ≤ 890) (hk9 : 2 ^ k < 2 ^ 900) (e1 : ((k + 1 : Nat) : Int) - 1 = (k : Int)) (e2 : wrap64 (k : Int) = k) :
    Calls Tryz.prog 123 #[.agg #[.bool true, .slice pa la ca], .int .i64 ((k + 1 : Nat) : Int)] w fun e w' => e = .returned (.bool (!decide (2 ^ k < m))) ∧ Below w.heap.size w w' := by
  have H_e1 := Lib.hid e1
  clear e1
  have H_e2 := Lib.hid e2
  clear e2
  go_enter Tryz.func123, Tryz.ntmps123
  go_upto_region 2 with (fail)
  refine wp_facts (fun W' => Below w.heap.size w W' ∧ Blk W' w.heap.size #[.bool true, .slice pa la ca] 140 ∧ Bits W' (.slice pa la ca) m) ⟨by exact belowAny, by exact blkAny, by exact ha.below belowAny⟩ ?_
  rintro W1 ⟨hW, b1, b2⟩
  have z2 := hW.size
  have z3 := b1.lt
  have e1 := H_e1.out
  have e2 := H_e2.out
  refine wp_region_nd 7 20 [] (fun W' => Rex [] W1 W' ∧ Blk W' w.heap.size #[.bool true, .slice pa la ca] 140 ∧ Bits W' (.slice pa la ca) m) mixed (by kernel_rfl) rfl ⟨(Rex.refl _ _).drew, b1, b2.drew⟩ (fun w w' ⟨h0, h1, h2⟩ hr => ⟨h0.trans hr, h1.rex hr (by simp <;> omega), h2.rex hr (by simp <;> omega)⟩) (fun c a d v w h => by cases d <;> exact h) ?_
  iterate 2
    apply nd_det (hg := rfl) (hal := rfl)
    · intro a W' hC hE
      obtain ⟨_, k1, k2⟩ := hC
      have k1 := k1.cell
      first
        | (simp [Oper.looksAt, Op.operands, Call.operands, envOf, Det] at hE; simp [go_sem, Act.eval, IntWalk.i64_left, hE, k1, k2, e1, e2]; try rfl)
        | (clear hE; simp [go_sem, Act.eval, IntWalk.i64_left, k1, k2, e1, e2]; try rfl)
  apply nd_call (BS (2 ^ k)) (hg := rfl) (hal := rfl)
  · exact BS.closed _
  · intro a W' hC hE
    refine ⟨_, _, ?_, (c_power k W' (by omega)).mono ?_⟩
    · simp [Oper.looksAt, Op.operands, Call.operands, envOf, Det] at hE
      simp [go_sem, Act.eval, hE, e2]
      try rfl
    · rintro e w' ⟨v, rfl, hB, hR⟩
      exact ⟨_, rfl, hR, hB⟩
  iterate 2
    apply nd_det (hg := rfl) (hal := rfl)
    · intro a W' hC hE
      obtain ⟨_, k1, k2⟩ := hC
      have k1 := k1.cell
      first
        | (simp [Oper.looksAt, Op.operands, Call.operands, envOf, Det] at hE; simp [go_sem, Act.eval, IntWalk.i64_left, hE, k1, k2, e1, e2]; try rfl)
        | (clear hE; simp [go_sem, Act.eval, IntWalk.i64_left, k1, k2, e1, e2]; try rfl)
  apply nd_call (Det (.bool (decide (2 ^ k < m)))) (hg := rfl) (hal := rfl)
  · exact closed_det _ _
  · intro a W' hC hE
    simp [Oper.looksAt, Op.operands, Call.operands, envOf, Det] at hE
    refine ⟨_, _, ?_, (c_less _ (.slice pa la ca) (2 ^ k) m W' hE.1 hC.2.2 hk9 hm9).mono ?_⟩
    · simp [go_sem, Act.eval, hE.2]
      try rfl
    · rintro e w' ⟨rfl, hR⟩
      exact ⟨_, rfl, hR, rfl⟩
  iterate 1
    apply nd_det (hg := rfl) (hal := rfl)
    · intro a W' hC hE
      obtain ⟨_, k1, k2⟩ := hC
      have k1 := k1.cell
      first
        | (simp [Oper.looksAt, Op.operands, Call.operands, envOf, Det] at hE; simp [go_sem, Act.eval, IntWalk.i64_left, hE, k1, k2, e1, e2]; try rfl)
        | (clear hE; simp [go_sem, Act.eval, IntWalk.i64_left, k1, k2, e1, e2]; try rfl)
  rintro W2 ⟨hR, d1, d2⟩
  simp only [ndFinR, Det, forall_eq]
  intros
  repeat (rename GDet _ _ _ _ => hgd; clear hgd)
  simp only [Act.put, List.setIfInBounds_toArray, List.set_cons_zero, List.set_cons_succ, List.drop_succ_cons, List.drop_zero]
  clear b1 b2 e1 e2 d2
  have b1 := d1
  clear d1
  replace hW := hW.trans (hR.of_priv hW.size)
  clear hR
  have k1 := b1.cell
  have f1 := b1.frozen
  go_wp2
  go_ret
  exact ⟨rfl, hW⟩
set_option maxRecDepth 100000 in
set_option maxHeartbeats 4000000 in
theorem fits_pos (pa : Option Addr) (la ca m k : Nat) (w : World) (ha : Bits w (.slice pa la ca) m) (hm9 : m < 2 ^ 900) (hk : k ≤ 890) (hk9 : 2 ^ k < 2 ^ 900) (e1 : ((k + 1 : Nat) : Int) - 1 = (k : Int)) (e2 : wrap64 (k : Int) = k) :
    Calls Tryz.prog 123 #[.agg #[.bool false, .slice pa la ca], .int .i64 ((k + 1 : Nat) : Int)] w fun e w' => e = .returned (.bool (decide (m < 2 ^ k))) ∧ Below w.heap.size w w' := by
  have H_e1 := Lib.hid e1
  clear e1
  have H_e2 := Lib.hid e2
  clear e2
  go_enter Tryz.func123, Tryz.ntmps123
  go_upto_region 3 with (fail)
  refine wp_facts (fun W' => Below w.heap.size w W' ∧ Blk W' w.heap.size #[.bool false, .slice pa la ca] 140 ∧ Bits W' (.slice pa la ca) m) ⟨by exact belowAny, by exact blkAny, by exact ha.below belowAny⟩ ?_
  rintro W1 ⟨hW, b1, b2⟩
  have z2 := hW.size
  have z3 := b1.lt
  have e1 := H_e1.out
  have e2 := H_e2.out
  refine wp_region_nd 6 20 [] (fun W' => Rex [] W1 W' ∧ Blk W' w.heap.size #[.bool false, .slice pa la ca] 140 ∧ Bits W' (.slice pa la ca) m) mixed (by kernel_rfl) rfl ⟨(Rex.refl _ _).drew, b1, b2.drew⟩ (fun w w' ⟨h0, h1, h2⟩ hr => ⟨h0.trans hr, h1.rex hr (by simp <;> omega), h2.rex hr (by simp <;> omega)⟩) (fun c a d v w h => by cases d <;> exact h) ?_
  iterate 4
    apply nd_det (hg := rfl) (hal := rfl)
    · intro a W' hC hE
      obtain ⟨_, k1, k2⟩ := hC
      have k1 := k1.cell
      first
        | (simp [Oper.looksAt, Op.operands, Call.operands, envOf, Det] at hE; simp [go_sem, Act.eval, IntWalk.i64_left, hE, k1, k2, e1, e2]; try rfl)
        | (clear hE; simp [go_sem, Act.eval, IntWalk.i64_left, k1, k2, e1, e2]; try rfl)
  apply nd_call (BS (2 ^ k)) (hg := rfl) (hal := rfl)
  · exact BS.closed _
  · intro a W' hC hE
    refine ⟨_, _, ?_, (c_power k W' (by omega)).mono ?_⟩
    · simp [Oper.looksAt, Op.operands, Call.operands, envOf, Det] at hE
      simp [go_sem, Act.eval, hE, e2]
      try rfl
    · rintro e w' ⟨v, rfl, hB, hR⟩
      exact ⟨_, rfl, hR, hB⟩
  apply nd_call (Det (.bool (decide (m < 2 ^ k)))) (hg := rfl) (hal := rfl)
  · exact closed_det _ _
  · intro a W' hC hE
    simp [Oper.looksAt, Op.operands, Call.operands, envOf, Det] at hE
    refine ⟨_, _, ?_, (c_less (.slice pa la ca) _ m (2 ^ k) W' hC.2.2 hE.2 hm9 hk9).mono ?_⟩
    · simp [go_sem, Act.eval, hE.1]
      try rfl
    · rintro e w' ⟨rfl, hR⟩
      exact ⟨_, rfl, hR, rfl⟩
  rintro W2 ⟨hR, d1, d2⟩
  simp only [ndFinR, Det, forall_eq]
  intros
  repeat (rename GDet _ _ _ _ => hgd; clear hgd)
  simp only [Act.put, List.setIfInBounds_toArray, List.set_cons_zero, List.set_cons_succ, List.drop_succ_cons, List.drop_zero]
  clear b1 b2 e1 e2 d2
  have b1 := d1
  clear d1
  replace hW := hW.trans (hR.of_priv hW.size)
  clear hR
  have k1 := b1.cell
  have f1 := b1.frozen
  go_wp2
  go_ret
  exact ⟨rfl, hW⟩
theorem c_refFits (va : Value) (z : Int) (k : Nat) (w : World) (h : NumIs w va z) (hz : z.natAbs < 2 ^ 900) (hk : k ≤ 890) :
    Calls Tryz.prog 123 #[va, .int .i64 ((k + 1 : Nat) : Int)] w fun e w' => e = .returned (.bool (decide (-((2 ^ k : Nat) : Int) ≤ z ∧ z < ((2 ^ k : Nat) : Int)))) ∧ Below w.heap.size w w' := by
  obtain ⟨pa, la, ca, rfl, h'⟩ := num_shape h
  have hk9 : 2 ^ k < 2 ^ 900 := pow_lt2 k 900 (by omega)
  have e1 : ((k + 1 : Nat) : Int) - 1 = (k : Int) := by omega
  have e2 : wrap64 (k : Int) = k := by simp [wrap64]; omega
  by_cases hn : z < 0
  · rw [decide_eq_true hn]
    refine (fits_neg pa la ca z.natAbs k w h' hz hk hk9 e1 e2).mono ?_
    rintro e w' ⟨rfl, hB⟩
    refine ⟨?_, hB⟩
    congr 2
    generalize 2 ^ k = P at *
    rcases Nat.lt_or_ge P z.natAbs with h3 | h3
    · rw [decide_eq_true h3, decide_eq_false (by omega)]; rfl
    · rw [decide_eq_false (by omega), decide_eq_true (by omega)]; rfl
  · rw [decide_eq_false hn]
    refine (fits_pos pa la ca z.natAbs k w h' hz hk hk9 e1 e2).mono ?_
    rintro e w' ⟨rfl, hB⟩
    refine ⟨?_, hB⟩
    congr 2
    generalize 2 ^ k = P at *
    exact decide_eq_decide.2 ⟨fun h4 => by omega, fun h4 => by omega⟩
end Go.Proofs.YtbanjolokkghdaaGreatDoor
namespace Go.Proofs.YtbanjolokkghdaaGreatDoor
open Go.RowKit
set_option maxRecDepth 100000 in
set_option maxHeartbeats 4000000 in
theorem add_same (sa : Bool) (pa pb : Option Addr) (la ca lb cb m n : Nat) (w : World) (ha : Bits w (.slice pa la ca) m) (hb : Bits w (.slice pb lb cb) n) (hm : m < 2 ^ 900) (hn : n < 2 ^ 900) :
    Calls Tryz.prog 120 #[.agg #[.bool sa, .slice pa la ca], .agg #[.bool (sa), .slice pb lb cb]] w fun e w' => ∃ sz, e = .returned (.agg #[.bool ((sa) && decide (0 < m + n)), sz]) ∧ Bits w' sz (m + n) ∧ Below w.heap.size w w' := by
  go_enter Tryz.func120, Tryz.ntmps120
  go_upto_region 2 with (fail)
  refine wp_facts (fun W' => Below w.heap.size w W' ∧ Blk W' w.heap.size #[.bool sa, .slice pa la ca] 140 ∧ Blk W' (w.heap.size + 1) #[.bool sa, .slice pb lb cb] 140 ∧ Blk W' (w.heap.size + 2) #[.bool false, .slice none 0 0] 140 ∧ Bits W' (.slice pa la ca) m ∧ Bits W' (.slice pb lb cb) n) ⟨by exact belowAny, by exact blkAny, by exact blkAny, by exact blkAny, by exact ha.below belowAny, by exact hb.below belowAny⟩ ?_
  rintro W1 ⟨hW, b1, b2, b3, b4, b5⟩
  have z2 := hW.size
  have z3 := b1.lt
  have z4 := b2.lt
  have z5 := b3.lt
  refine wp_region_nd 8 39 [] (fun W' => Rex [] W1 W' ∧ Blk W' w.heap.size #[.bool sa, .slice pa la ca] 140 ∧ Blk W' (w.heap.size + 1) #[.bool sa, .slice pb lb cb] 140 ∧ Blk W' (w.heap.size + 2) #[.bool false, .slice none 0 0] 140 ∧ Bits W' (.slice pa la ca) m ∧ Bits W' (.slice pb lb cb) n) mixed (by kernel_rfl) rfl ⟨(Rex.refl _ _).drew, b1, b2, b3, b4.drew, b5.drew⟩ (fun w w' ⟨h0, h1, h2, h3, h4, h5⟩ hr => ⟨h0.trans hr, h1.rex hr (by simp <;> omega), h2.rex hr (by simp <;> omega), h3.rex hr (by simp <;> omega), h4.rex hr (by simp <;> omega), h5.rex hr (by simp <;> omega)⟩) (fun c a d v w h => by cases d <;> exact h) ?_
  iterate 6
    apply nd_det (hg := rfl) (hal := rfl)
    · intro a W' hC hE
      obtain ⟨_, k1, k2, k3, k4, k5⟩ := hC
      have k1 := k1.cell
      have k2 := k2.cell
      first
        | (simp [Oper.looksAt, Op.operands, Call.operands, envOf, Det] at hE; simp [go_sem, Act.eval, IntWalk.i64_left, hE, k1, k2, k3, k4, k5]; try rfl)
        | (clear hE; simp [go_sem, Act.eval, IntWalk.i64_left, k1, k2, k3, k4, k5]; try rfl)
  apply nd_call (BS (m + n)) (hg := rfl) (hal := rfl)
  · exact BS.closed _
  · intro a W' hC hE
    refine ⟨_, _, ?_, (c_plus (.slice pa la ca) (.slice pb lb cb) m n W' hC.2.2.2.2.1 hC.2.2.2.2.2 hm hn).mono ?_⟩
    · simp [Oper.looksAt, Op.operands, Call.operands, envOf, Det] at hE
      simp [go_sem, Act.eval, hE]
      try rfl
    · rintro e w' ⟨v, rfl, hB, hR⟩
      exact ⟨_, rfl, hR, hB⟩
  apply nd_call (NS sa (m + n)) (hg := rfl) (hal := rfl)
  · exact NS.closed _ _
  · intro a W' hC hE
    simp [Oper.looksAt, Op.operands, Call.operands, envOf, Det] at hE
    refine ⟨_, _, ?_, (c_refmade sa _ (m + n) W' hE.2).mono ?_⟩
    · simp [go_sem, Act.eval, hE.1]
      try rfl
    · rintro e w' ⟨rfl, hR⟩
      have hb := BS.below hE.2 hR
      exact ⟨_, rfl, hR, _, rfl, hb⟩
  rintro W2 ⟨hR, d1, d2, d3, d4, d5⟩
  simp only [ndFinR, Det, forall_eq]
  intros
  repeat (rename GDet _ _ _ _ => hgd; clear hgd)
  simp only [Act.put, List.setIfInBounds_toArray, List.set_cons_zero, List.set_cons_succ, List.drop_succ_cons, List.drop_zero]
  clear b1 b2 b3 b4 b5
  have b1 := d1
  have b2 := d2
  have b3 := d3
  clear d1 d2 d3 d4 d5
  obtain ⟨sz, rfl, hq⟩ := ‹NS _ _ _ _›
  obtain ⟨p1, l1, k1', rfl, _, hl1⟩ := bits_len hq
  replace hq := Lib.hid hq
  replace hW := hW.trans (hR.of_priv hW.size)
  clear hR
  have k1 := b1.cell
  have f1 := b1.frozen
  have k2 := b2.cell
  have f2 := b2.frozen
  have k3 := b3.cell
  have f3 := b3.frozen
  have y_1 := b1.lt
  have y_2 := b2.lt
  have y_3 := b3.lt
  obtain ⟨B, hB⟩ : ∃ B, B = (sa && decide (0 < (m + n))) := ⟨_, rfl⟩
  rw [← hB]
  replace hB := Lib.hid hB
  go_wp2
  refine bodyPost_ret (v := .agg #[.bool B, .slice p1 l1.length k1']) (by simp [results, Tryz.results120, go_sem, k1, f1, k2, f2, k3, f3, y_1, y_2, y_3]) rfl ⟨_, by rw [hB.out], ?_, by exact belowAny⟩
  have hS := hq.out.store b3 (.bool B) (.slice p1 l1.length k1')
  simpa using hS
set_option maxRecDepth 100000 in
set_option maxHeartbeats 4000000 in
theorem add_less (sa : Bool) (pa pb : Option Addr) (la ca lb cb m n : Nat) (w : World) (ha : Bits w (.slice pa la ca) m) (hb : Bits w (.slice pb lb cb) n) (hm : m < 2 ^ 900) (hn : n < 2 ^ 900) (hle : m ≤ n) (e1 : decide (m < n) = true) :
    Calls Tryz.prog 120 #[.agg #[.bool sa, .slice pa la ca], .agg #[.bool (!sa), .slice pb lb cb]] w fun e w' => ∃ sz, e = .returned (.agg #[.bool ((!sa) && decide (0 < n - m)), sz]) ∧ Bits w' sz (n - m) ∧ Below w.heap.size w w' := by
  have H_e1 := Lib.hid e1
  clear e1
  go_enter Tryz.func120, Tryz.ntmps120
  go_wp2_with fail
  refine (c_less (.slice pa la ca) (.slice pb lb cb) m n _ (ha.below belowAny) (hb.below belowAny) hm hn).mono ?_
  rintro e w1 ⟨rfl, hb1⟩
  have z2 := hb1.size
  try simp at z2
  have b1 : Blk w1 w.heap.size #[.bool sa, .slice pa la ca] 140 := by exact blkAny
  have b2 : Blk w1 (w.heap.size + 1) #[.bool (!sa), .slice pb lb cb] 140 := by exact blkAny
  have b3 : Blk w1 (w.heap.size + 2) #[.bool false, .slice none 0 0] 140 := by exact blkAny
  have hW : Below w.heap.size w w1 := by exact belowAny
  have z3 := b1.lt
  have z4 := b2.lt
  have z5 := b3.lt
  clear hb1
  have k1 := b1.cell
  have f1 := b1.frozen
  have k2 := b2.cell
  have f2 := b2.frozen
  have k3 := b3.cell
  have f3 := b3.frozen
  rw [H_e1.out]
  go_upto_region 4 with (fail)
  clear k1 f1 k2 f2 k3 f3
  refine wp_facts (fun W' => Below w.heap.size w W' ∧ Blk W' w.heap.size #[.bool sa, .slice pa la ca] 140 ∧ Blk W' (w.heap.size + 1) #[.bool (!sa), .slice pb lb cb] 140 ∧ Blk W' (w.heap.size + 2) #[.bool false, .slice none 0 0] 140 ∧ Bits W' (.slice pa la ca) m ∧ Bits W' (.slice pb lb cb) n) ⟨by exact belowAny, by exact blkAny, by exact blkAny, by exact blkAny, by exact ha.below belowAny, by exact hb.below belowAny⟩ ?_
  clear b1 b2 b3 hW
  rintro W6 ⟨hW, b1, b2, b3, b4, b5⟩
  have z7 := hW.size
  have z8 := b1.lt
  have z9 := b2.lt
  have z10 := b3.lt
  refine wp_region_nd 8 39 [] (fun W' => Rex [] W6 W' ∧ Blk W' w.heap.size #[.bool sa, .slice pa la ca] 140 ∧ Blk W' (w.heap.size + 1) #[.bool (!sa), .slice pb lb cb] 140 ∧ Blk W' (w.heap.size + 2) #[.bool false, .slice none 0 0] 140 ∧ Bits W' (.slice pa la ca) m ∧ Bits W' (.slice pb lb cb) n) mixed (by kernel_rfl) rfl ⟨(Rex.refl _ _).drew, b1, b2, b3, b4.drew, b5.drew⟩ (fun w w' ⟨h0, h1, h2, h3, h4, h5⟩ hr => ⟨h0.trans hr, h1.rex hr (by simp <;> omega), h2.rex hr (by simp <;> omega), h3.rex hr (by simp <;> omega), h4.rex hr (by simp <;> omega), h5.rex hr (by simp <;> omega)⟩) (fun c a d v w h => by cases d <;> exact h) ?_
  iterate 6
    apply nd_det (hg := rfl) (hal := rfl)
    · intro a W' hC hE
      obtain ⟨_, k1, k2, k3, k4, k5⟩ := hC
      have k1 := k1.cell
      have k2 := k2.cell
      first
        | (simp [Oper.looksAt, Op.operands, Call.operands, envOf, Det] at hE; simp [go_sem, Act.eval, IntWalk.i64_left, hE, k1, k2, k3, k4, k5]; try rfl)
        | (clear hE; simp [go_sem, Act.eval, IntWalk.i64_left, k1, k2, k3, k4, k5]; try rfl)
  apply nd_call (BS (n - m)) (hg := rfl) (hal := rfl)
  · exact BS.closed _
  · intro a W' hC hE
    refine ⟨_, _, ?_, (c_minus (.slice pb lb cb) (.slice pa la ca) n m W' hC.2.2.2.2.2 hC.2.2.2.2.1 hn hle).mono ?_⟩
    · simp [Oper.looksAt, Op.operands, Call.operands, envOf, Det] at hE
      simp [go_sem, Act.eval, hE]
      try rfl
    · rintro e w' ⟨v, rfl, hB, hR⟩
      exact ⟨_, rfl, hR, hB⟩
  apply nd_call (NS (!sa) (n - m)) (hg := rfl) (hal := rfl)
  · exact NS.closed _ _
  · intro a W' hC hE
    simp [Oper.looksAt, Op.operands, Call.operands, envOf, Det] at hE
    refine ⟨_, _, ?_, (c_refmade (!sa) _ (n - m) W' hE.2).mono ?_⟩
    · simp [go_sem, Act.eval, hE.1]
      try rfl
    · rintro e w' ⟨rfl, hR⟩
      have hb := BS.below hE.2 hR
      exact ⟨_, rfl, hR, _, rfl, hb⟩
  rintro W2 ⟨hR, d1, d2, d3, d4, d5⟩
  simp only [ndFinR, Det, forall_eq]
  intros
  repeat (rename GDet _ _ _ _ => hgd; clear hgd)
  simp only [Act.put, List.setIfInBounds_toArray, List.set_cons_zero, List.set_cons_succ, List.drop_succ_cons, List.drop_zero]
  clear b1 b2 b3 b4 b5
  have b1 := d1
  have b2 := d2
  have b3 := d3
  clear d1 d2 d3 d4 d5
  obtain ⟨sz, rfl, hq⟩ := ‹NS _ _ _ _›
  obtain ⟨p1, l1, k1', rfl, _, hl1⟩ := bits_len hq
  replace hq := Lib.hid hq
  replace hW := hW.trans (hR.of_priv hW.size)
  clear hR
  have k1 := b1.cell
  have f1 := b1.frozen
  have k2 := b2.cell
  have f2 := b2.frozen
  have k3 := b3.cell
  have f3 := b3.frozen
  have y_1 := b1.lt
  have y_2 := b2.lt
  have y_3 := b3.lt
  obtain ⟨B, hB⟩ : ∃ B, B = ((!sa) && decide (0 < (n - m))) := ⟨_, rfl⟩
  rw [← hB]
  replace hB := Lib.hid hB
  go_wp2
  refine bodyPost_ret (v := .agg #[.bool B, .slice p1 l1.length k1']) (by simp [results, Tryz.results120, go_sem, k1, f1, k2, f2, k3, f3, y_1, y_2, y_3]) rfl ⟨_, by rw [hB.out], ?_, by exact belowAny⟩
  have hS := hq.out.store b3 (.bool B) (.slice p1 l1.length k1')
  simpa using hS
set_option maxRecDepth 100000 in
set_option maxHeartbeats 4000000 in
theorem add_more (sa : Bool) (pa pb : Option Addr) (la ca lb cb m n : Nat) (w : World) (ha : Bits w (.slice pa la ca) m) (hb : Bits w (.slice pb lb cb) n) (hm : m < 2 ^ 900) (hn : n < 2 ^ 900) (hle : n ≤ m) (e1 : decide (m < n) = false) :
    Calls Tryz.prog 120 #[.agg #[.bool sa, .slice pa la ca], .agg #[.bool (!sa), .slice pb lb cb]] w fun e w' => ∃ sz, e = .returned (.agg #[.bool ((sa) && decide (0 < m - n)), sz]) ∧ Bits w' sz (m - n) ∧ Below w.heap.size w w' := by
  have H_e1 := Lib.hid e1
  clear e1
  go_enter Tryz.func120, Tryz.ntmps120
  go_wp2_with fail
  refine (c_less (.slice pa la ca) (.slice pb lb cb) m n _ (ha.below belowAny) (hb.below belowAny) hm hn).mono ?_
  rintro e w1 ⟨rfl, hb1⟩
  have z2 := hb1.size
  try simp at z2
  have b1 : Blk w1 w.heap.size #[.bool sa, .slice pa la ca] 140 := by exact blkAny
  have b2 : Blk w1 (w.heap.size + 1) #[.bool (!sa), .slice pb lb cb] 140 := by exact blkAny
  have b3 : Blk w1 (w.heap.size + 2) #[.bool false, .slice none 0 0] 140 := by exact blkAny
  have hW : Below w.heap.size w w1 := by exact belowAny
  have z3 := b1.lt
  have z4 := b2.lt
  have z5 := b3.lt
  clear hb1
  have k1 := b1.cell
  have f1 := b1.frozen
  have k2 := b2.cell
  have f2 := b2.frozen
  have k3 := b3.cell
  have f3 := b3.frozen
  rw [H_e1.out]
  go_upto_region 5 with (fail)
  clear k1 f1 k2 f2 k3 f3
  refine wp_facts (fun W' => Below w.heap.size w W' ∧ Blk W' w.heap.size #[.bool sa, .slice pa la ca] 140 ∧ Blk W' (w.heap.size + 1) #[.bool (!sa), .slice pb lb cb] 140 ∧ Blk W' (w.heap.size + 2) #[.bool false, .slice none 0 0] 140 ∧ Bits W' (.slice pa la ca) m ∧ Bits W' (.slice pb lb cb) n) ⟨by exact belowAny, by exact blkAny, by exact blkAny, by exact blkAny, by exact ha.below belowAny, by exact hb.below belowAny⟩ ?_
  clear b1 b2 b3 hW
  rintro W6 ⟨hW, b1, b2, b3, b4, b5⟩
  have z7 := hW.size
  have z8 := b1.lt
  have z9 := b2.lt
  have z10 := b3.lt
  refine wp_region_nd 8 39 [] (fun W' => Rex [] W6 W' ∧ Blk W' w.heap.size #[.bool sa, .slice pa la ca] 140 ∧ Blk W' (w.heap.size + 1) #[.bool (!sa), .slice pb lb cb] 140 ∧ Blk W' (w.heap.size + 2) #[.bool false, .slice none 0 0] 140 ∧ Bits W' (.slice pa la ca) m ∧ Bits W' (.slice pb lb cb) n) mixed (by kernel_rfl) rfl ⟨(Rex.refl _ _).drew, b1, b2, b3, b4.drew, b5.drew⟩ (fun w w' ⟨h0, h1, h2, h3, h4, h5⟩ hr => ⟨h0.trans hr, h1.rex hr (by simp <;> omega), h2.rex hr (by simp <;> omega), h3.rex hr (by simp <;> omega), h4.rex hr (by simp <;> omega), h5.rex hr (by simp <;> omega)⟩) (fun c a d v w h => by cases d <;> exact h) ?_
  iterate 6
    apply nd_det (hg := rfl) (hal := rfl)
    · intro a W' hC hE
      obtain ⟨_, k1, k2, k3, k4, k5⟩ := hC
      have k1 := k1.cell
      have k2 := k2.cell
      first
        | (simp [Oper.looksAt, Op.operands, Call.operands, envOf, Det] at hE; simp [go_sem, Act.eval, IntWalk.i64_left, hE, k1, k2, k3, k4, k5]; try rfl)
        | (clear hE; simp [go_sem, Act.eval, IntWalk.i64_left, k1, k2, k3, k4, k5]; try rfl)
  apply nd_call (BS (m - n)) (hg := rfl) (hal := rfl)
  · exact BS.closed _
  · intro a W' hC hE
    refine ⟨_, _, ?_, (c_minus (.slice pa la ca) (.slice pb lb cb) m n W' hC.2.2.2.2.1 hC.2.2.2.2.2 hm hle).mono ?_⟩
    · simp [Oper.looksAt, Op.operands, Call.operands, envOf, Det] at hE
      simp [go_sem, Act.eval, hE]
      try rfl
    · rintro e w' ⟨v, rfl, hB, hR⟩
      exact ⟨_, rfl, hR, hB⟩
  apply nd_call (NS sa (m - n)) (hg := rfl) (hal := rfl)
  · exact NS.closed _ _
  · intro a W' hC hE
    simp [Oper.looksAt, Op.operands, Call.operands, envOf, Det] at hE
    refine ⟨_, _, ?_, (c_refmade sa _ (m - n) W' hE.2).mono ?_⟩
    · simp [go_sem, Act.eval, hE.1]
      try rfl
    · rintro e w' ⟨rfl, hR⟩
      have hb := BS.below hE.2 hR
      exact ⟨_, rfl, hR, _, rfl, hb⟩
  rintro W2 ⟨hR, d1, d2, d3, d4, d5⟩
  simp only [ndFinR, Det, forall_eq]
  intros
  repeat (rename GDet _ _ _ _ => hgd; clear hgd)
  simp only [Act.put, List.setIfInBounds_toArray, List.set_cons_zero, List.set_cons_succ, List.drop_succ_cons, List.drop_zero]
  clear b1 b2 b3 b4 b5
  have b1 := d1
  have b2 := d2
  have b3 := d3
  clear d1 d2 d3 d4 d5
  obtain ⟨sz, rfl, hq⟩ := ‹NS _ _ _ _›
  obtain ⟨p1, l1, k1', rfl, _, hl1⟩ := bits_len hq
  replace hq := Lib.hid hq
  replace hW := hW.trans (hR.of_priv hW.size)
  clear hR
  have k1 := b1.cell
  have f1 := b1.frozen
  have k2 := b2.cell
  have f2 := b2.frozen
  have k3 := b3.cell
  have f3 := b3.frozen
  have y_1 := b1.lt
  have y_2 := b2.lt
  have y_3 := b3.lt
  obtain ⟨B, hB⟩ : ∃ B, B = (sa && decide (0 < (m - n))) := ⟨_, rfl⟩
  rw [← hB]
  replace hB := Lib.hid hB
  go_wp2
  refine bodyPost_ret (v := .agg #[.bool B, .slice p1 l1.length k1']) (by simp [results, Tryz.results120, go_sem, k1, f1, k2, f2, k3, f3, y_1, y_2, y_3]) rfl ⟨_, by rw [hB.out], ?_, by exact belowAny⟩
  have hS := hq.out.store b3 (.bool B) (.slice p1 l1.length k1')
  simpa using hS
theorem num_made {w : World} {sz : Value} {b : Bool} {k : Nat} {z : Int} (h : Bits w sz k) (hk : k = z.natAbs) (hb : (b && decide (0 < k)) = decide (z < 0)) : NumIs w (.agg #[.bool (b && decide (0 < k)), sz]) z :=
  ⟨sz, by rw [hb], hk ▸ h⟩
theorem c_refAdd (va vb : Value) (x y : Int) (w : World) (ha : NumIs w va x) (hb : NumIs w vb y) (hx : x.natAbs < 2 ^ 900) (hy : y.natAbs < 2 ^ 900) :
    Calls Tryz.prog 120 #[va, vb] w fun e w' => ∃ v, e = .returned v ∧ NumIs w' v (x + y) ∧ Below w.heap.size w w' := by
  obtain ⟨pa, la, ca, rfl, ha'⟩ := num_shape ha
  obtain ⟨pb, lb, cb, rfl, hb'⟩ := num_shape hb
  by_cases hs : decide (x < 0) = decide (y < 0)
  · rw [← hs]
    refine (add_same _ pa pb la ca lb cb _ _ w ha' hb' hx hy).mono ?_
    rintro e w' ⟨sz, rfl, h, hB⟩
    refine ⟨_, rfl, num_made h ?_ ?_, hB⟩
    · by_cases h1 : x < 0 <;> by_cases h2 : y < 0 <;> simp [h1, h2] at hs <;> omega
    · by_cases h1 : x < 0 <;> by_cases h2 : y < 0 <;> simp [h1, h2] at hs
      · rw [decide_eq_true h1, decide_eq_true (show 0 < x.natAbs + y.natAbs by omega), decide_eq_true (show x + y < 0 by omega)]; rfl
      · rw [decide_eq_false h1, decide_eq_false (show ¬ x + y < 0 by omega)]; rfl
  · have hs' : decide (y < 0) = !decide (x < 0) := by
      cases h1 : decide (x < 0) <;> cases h2 : decide (y < 0) <;> simp [h1, h2] at hs ⊢
    rw [hs']
    rcases Nat.lt_or_ge x.natAbs y.natAbs with hl | hl
    · refine (add_less _ pa pb la ca lb cb _ _ w ha' hb' hx hy (by omega) (by simp; omega)).mono ?_
      rintro e w' ⟨sz, rfl, h, hB⟩
      refine ⟨_, rfl, num_made h ?_ ?_, hB⟩
      · by_cases h1 : x < 0 <;> by_cases h2 : y < 0 <;> simp [h1, h2] at hs' <;> omega
      · rw [← hs']
        by_cases h1 : x < 0 <;> by_cases h2 : y < 0 <;> simp [h1, h2] at hs'
        · rw [decide_eq_false h2, decide_eq_false (show ¬ x + y < 0 by omega)]; rfl
        · rw [decide_eq_true h2, decide_eq_true (show 0 < y.natAbs - x.natAbs by omega), decide_eq_true (show x + y < 0 by omega)]; rfl
    · refine (add_more _ pa pb la ca lb cb _ _ w ha' hb' hx hy hl (by simp; omega)).mono ?_
      rintro e w' ⟨sz, rfl, h, hB⟩
      refine ⟨_, rfl, num_made h ?_ ?_, hB⟩
      · by_cases h1 : x < 0 <;> by_cases h2 : y < 0 <;> simp [h1, h2] at hs' <;> omega
      · by_cases h1 : x < 0 <;> by_cases h2 : y < 0 <;> simp [h1, h2] at hs'
        · rcases Nat.eq_or_lt_of_le hl with h3 | h3
          · rw [decide_eq_false (show ¬ 0 < x.natAbs - y.natAbs by omega), decide_eq_false (show ¬ x + y < 0 by omega)]; simp
          · rw [decide_eq_true h1, decide_eq_true (show 0 < x.natAbs - y.natAbs by omega), decide_eq_true (show x + y < 0 by omega)]; rfl
        · rw [decide_eq_false h1, decide_eq_false (show ¬ x + y < 0 by omega)]; rfl
end Go.Proofs.YtbanjolokkghdaaGreatDoor
namespace Go.Proofs.YtbanjolokkghdaaGreatDoor
open Go.RowKit
set_option maxRecDepth 100000 in
set_option maxHeartbeats 4000000 in
theorem value_no (sa : Bool) (pa : Option Addr) (la ca : Nat) (z : Int) (w : World) (F : Bool)
    (cF : ∀ W, Below w.heap.size w W → Calls Tryz.prog 123 #[.agg #[.bool sa, .slice pa la ca], .int .i64 64] W fun e w' => e = .returned (.bool F) ∧ Below W.heap.size W w') (e1 : Hid (F = false)) :
    Calls Tryz.prog 84 #[.agg #[.bool sa, .slice pa la ca]] w fun e w' => e = .returned (.tuple #[.int .i64 0, .bool false]) ∧ Below w.heap.size w w' := by
  go_enter Tryz.func84, Tryz.ntmps84
  go_wp2_with fail
  refine (cF _ belowAny).mono ?_
  rintro e w1 ⟨rfl, hb1⟩
  have z2 := hb1.size
  try simp at z2
  refine haveB w w1 (Bc w.heap.size #[.bool sa, .slice pa la ca] 140 <| Bz) ?_
  rintro hW z3 ⟨⟨b1, yb1, k1, f1⟩, -⟩
  clear hb1
  rw [e1.out]
  go_wp2
  refine bodyPost_ret (v := .tuple #[.int .i64 0, .bool false]) (by simp [results, Tryz.results84, go_sem]) rfl ⟨rfl, by exact belowAny⟩
set_option maxRecDepth 100000 in
set_option maxHeartbeats 4000000 in
theorem value_pos (pa : Option Addr) (la ca m : Nat) (z : Int) (w : World) (F : Bool) (ha : Hid (Bits w (.slice pa la ca) m))
    (cF : ∀ W, Below w.heap.size w W → Calls Tryz.prog 123 #[.agg #[.bool false, .slice pa la ca], .int .i64 64] W fun e w' => e = .returned (.bool F) ∧ Below W.heap.size W w') (e1 : Hid (F = true)) (hm63 : m < 9223372036854775808)
    (e2 : Hid (m / 2 ^ 0 % 2 ^ 64 = m)) :
    Calls Tryz.prog 84 #[.agg #[.bool false, .slice pa la ca]] w fun e w' => e = .returned (.tuple #[.int .i64 (m : Int), .bool true]) ∧ Below w.heap.size w w' := by
  go_enter Tryz.func84, Tryz.ntmps84
  go_wp2_with fail
  refine (cF _ belowAny).mono ?_
  rintro e w1 ⟨rfl, hb1⟩
  have z2 := hb1.size
  try simp at z2
  refine haveB w w1 (Bc w.heap.size #[.bool false, .slice pa la ca] 140 <| Bz) ?_
  rintro hW z3 ⟨⟨b1, yb1, k1, f1⟩, -⟩
  clear hb1
  rw [e1.out]
  have hq := Lib.hid (ha.out.below (show Below w.heap.size w w1 from belowAny))
  go_wp2_with fail
  refine (c_word _ _ 0 _ hq.out (by omega)).mono ?_
  rintro e w4 ⟨rfl, hb4⟩
  have z5 := hb4.size
  try simp at z5
  clear k1 f1
  refine haveB w w4 (Bc w.heap.size #[.bool false, .slice pa la ca] 140 <| Bz) ?_
  clear b1 hW
  rintro hW z6 ⟨⟨b1, yb1, k1, f1⟩, -⟩
  clear hb4
  rw [e2.out]
  go_wp2
  refine bodyPost_ret (v := .tuple #[.int .i64 (m : Int), .bool true]) (by simp [results, Tryz.results84, go_sem]) rfl ⟨rfl, by exact belowAny⟩
set_option maxRecDepth 100000 in
set_option maxHeartbeats 4000000 in
theorem value_neg (pa : Option Addr) (la ca m s : Nat) (w : World) (F : Bool) (ha : Hid (Bits w (.slice pa la ca) m))
    (cF : ∀ W, Below w.heap.size w W → Calls Tryz.prog 123 #[.agg #[.bool true, .slice pa la ca], .int .i64 64] W fun e w' => e = .returned (.bool F) ∧ Below W.heap.size W w') (e1 : Hid (F = true)) (hm64 : Hid (m ≤ 2 ^ 64))
    (e2 : Hid ((2 ^ 64 - m) / 2 ^ 0 % 2 ^ 64 = s)) (e3 : Hid (wrap64 (s : Int) = -(m : Int))) :
    Calls Tryz.prog 84 #[.agg #[.bool true, .slice pa la ca]] w fun e w' => e = .returned (.tuple #[.int .i64 (-(m : Int)), .bool true]) ∧ Below w.heap.size w w' := by
  go_enter Tryz.func84, Tryz.ntmps84
  go_wp2_with fail
  refine (cF _ belowAny).mono ?_
  rintro e w1 ⟨rfl, hb1⟩
  have z2 := hb1.size
  try simp at z2
  refine haveB w w1 (Bc w.heap.size #[.bool true, .slice pa la ca] 140 <| Bz) ?_
  rintro hW z3 ⟨⟨b1, yb1, k1, f1⟩, -⟩
  clear hb1
  rw [e1.out]
  have hq := Lib.hid (ha.out.below (show Below w.heap.size w w1 from belowAny))
  go_wp2_with fail
  refine (c_power 64 _ (by omega)).mono ?_
  rintro e w4 ⟨v2, rfl, hq2, hb4⟩
  have z5 := hb4.size
  try simp at z5
  clear k1 f1
  refine haveB w w4 (Bc w.heap.size #[.bool true, .slice pa la ca] 140 <| Bz) ?_
  clear b1 hW
  rintro hW z6 ⟨⟨b1, yb1, k1, f1⟩, -⟩
  replace hq2 := Lib.hid hq2
  replace hq := Lib.hid (hq.out.below hb4)
  have cm := Lib.hid (c_minus _ _ (2 ^ 64) m w4 hq2.out hq.out (pow_lt2 64 900 (by omega)) hm64.out)
  go_wp2_with fail
  refine (cm.out).mono ?_
  rintro e w7 ⟨v3, rfl, hq3, hb7⟩
  have z8 := hb7.size
  try simp at z8
  clear k1 f1
  refine haveB w w7 (Bc w.heap.size #[.bool true, .slice pa la ca] 140 <| Bz) ?_
  clear b1 hW
  rintro hW z9 ⟨⟨b1, yb1, k1, f1⟩, -⟩
  replace hq3 := Lib.hid hq3
  go_wp2_with fail
  refine (c_word _ _ 0 _ hq3.out (by omega)).mono ?_
  rintro e w10 ⟨rfl, hb10⟩
  have z11 := hb10.size
  try simp at z11
  clear k1 f1
  refine haveB w w10 (Bc w.heap.size #[.bool true, .slice pa la ca] 140 <| Bz) ?_
  clear b1 hW
  rintro hW z12 ⟨⟨b1, yb1, k1, f1⟩, -⟩
  clear hb10
  rw [e2.out]
  go_wp2
  refine bodyPost_ret (v := .tuple #[.int .i64 (-(m : Int)), .bool true]) (by simp [results, Tryz.results84, go_sem, e3.out]) rfl ⟨rfl, by exact belowAny⟩
theorem fits64 {va : Value} {z : Int} {w : World} (h : NumIs w va z) (hz : z.natAbs < 2 ^ 900) :
    ∀ W, Below w.heap.size w W → Calls Tryz.prog 123 #[va, .int .i64 64] W fun e w' => e = .returned (.bool (decide (-9223372036854775808 ≤ z ∧ z < 9223372036854775808))) ∧ Below W.heap.size W w' :=
  fun W hW => c_refFits va z 63 W (h.below hW) hz (by omega)
theorem c_refValue_no (va : Value) (z : Int) (w : World) (h : NumIs w va z) (hz : z.natAbs < 2 ^ 900) (ho : ¬ (-9223372036854775808 ≤ z ∧ z < 9223372036854775808)) :
    Calls Tryz.prog 84 #[va] w fun e w' => e = .returned (.tuple #[.int .i64 0, .bool false]) ∧ Below w.heap.size w w' := by
  obtain ⟨pa, la, ca, rfl, h'⟩ := num_shape h
  exact value_no _ pa la ca z w _ (fits64 h hz) (Lib.hid (decide_eq_false ho))
theorem c_refValue (va : Value) (z : Int) (w : World) (h : NumIs w va z) (h1 : -9223372036854775808 ≤ z) (h2 : z < 9223372036854775808) :
    Calls Tryz.prog 84 #[va] w fun e w' => e = .returned (.tuple #[.int .i64 z, .bool true]) ∧ Below w.heap.size w w' := by
  obtain ⟨pa, la, ca, rfl, h'⟩ := num_shape h
  have hz : z.natAbs < 2 ^ 900 := lt_pow2 64 900 (show z.natAbs < 2 ^ 64 by omega) (by omega)
  have hF := fits64 h hz
  by_cases hn : z < 0
  · obtain ⟨m, rfl⟩ : ∃ m : Nat, z = -(m : Int) := ⟨z.natAbs, by omega⟩
    rw [decide_eq_true hn] at hF ⊢
    rw [show (-(m : Int)).natAbs = m by omega] at h'
    refine value_neg pa la ca m (18446744073709551616 - m) w _ (Lib.hid h') hF (Lib.hid (decide_eq_true ⟨h1, h2⟩)) (Lib.hid (by omega)) (Lib.hid (by omega)) (Lib.hid (by unfold wrap64; omega))
  · obtain ⟨m, rfl⟩ : ∃ m : Nat, z = (m : Int) := ⟨z.toNat, by omega⟩
    rw [decide_eq_false hn] at hF ⊢
    rw [show ((m : Int)).natAbs = m by omega] at h'
    exact value_pos pa la ca m 0 w _ (Lib.hid h') hF (Lib.hid (decide_eq_true ⟨h1, h2⟩)) (by omega) (Lib.hid (by omega))
end Go.Proofs.YtbanjolokkghdaaGreatDoor
namespace Go.Proofs.YtbanjolokkghdaaGreatDoor
open Go.RowKit
end Go.Proofs.YtbanjolokkghdaaGreatDoor
