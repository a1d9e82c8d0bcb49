/- Parts of the proof that follows: The document's runs of times, plainly: that runs may be is just that their times rise, and that they are those of their times. No condition. | The document's times of runs: Times. | The document's times: Rising. | The document's runs of times: Of. | The document's runs of times: Same, Right. -/
import Derived.Test.YtidfcoooccblaaaGreatTells10
set_option maxRecDepth 100000
set_option maxHeartbeats 8000000
set_option linter.unusedSimpArgs false
set_option linter.unusedVariables false
namespace Go.Proofs.YtidfcoooccblaaaGreat
open Go.RowKit
instance : DecidableEq RunT := fun a b =>
 if h : a.f = b.f /\ a.s = b.s /\ a.c = b.c then isTrue (by obtain ⟨a1, a2, a3⟩ := a; obtain ⟨b1, b2, b3⟩ := b; obtain ⟨h1, h2, h3⟩ := h; simp at h1 h2 h3; subst h1; subst h2; subst h3; rfl)
 else isFalse (fun e => h (by subst e; exact ⟨rfl, rfl, rfl⟩))
def extn (s p : Int) : List Int -> Nat
 | [] => 0
 | t :: l => if t - p = s then extn s t l + 1 else 0
def ofL : List Int -> List RunT
 | [] => []
 | [t] => [⟨t, 0, 1⟩]
 | a :: b :: l => ⟨a, b - a, ((extn (b - a) b l + 2 : Nat) : Int)⟩ :: ofL (l.drop (extn (b - a) b l))
termination_by l => l.length
decreasing_by simp; omega
structure Rising (t : List Int) : Prop where
 up : t.Pairwise (· < ·)
 lo : ∀ x, x ∈ t -> 0 <= x /\ x <= 281474976710656
theorem Rising.tail {a : Int} {t : List Int} (h : Rising (a :: t)) : Rising t := ⟨(List.pairwise_cons.1 h.up).2, fun x hx => h.lo x (by simp [hx])⟩
theorem Rising.drop {t : List Int} (h : Rising t) (k : Nat) : Rising (t.drop k) := ⟨h.up.sublist (List.drop_sublist k t), fun x hx => h.lo x (List.mem_of_mem_drop hx)⟩
theorem cnt_ge : ∀ (l : List RunT), (∀ r, r ∈ l -> 1 <= r.c) -> (l.length : Int) <= cnt l
 | [], _ => by simp [cnt]
 | r :: l, h => by
  have := cnt_ge l fun r hr => h r (by simp [hr])
  have := h r (by simp)
  simp [cnt]; omega
def fitR (r : RunT) : Bool := decide (1 <= r.c) && decide (r.c <= 256) && decide (0 <= r.s) && decide (r.s <= 281474976710656) && decide (0 <= r.f) && decide (r.f <= 281474976710656)
def fitL (l : List RunT) : Bool := l.all fitR && decide (cnt l <= 256)
def timesG (l : List RunT) : List Int := if fitL l then timesL l else []
def risingB (t : List Int) : Bool := decide (1 <= t.length) && decide (t.length <= 256) && decide (t.Pairwise (· < ·)) && t.all fun x => decide (0 <= x) && decide (x <= 281474976710656)
def rightR (l : List RunT) : Bool := risingB (timesG l) && decide (ofL (timesG l) = l)
theorem fit_ok {l : List RunT} (h : RunsOk l) : fitL l = true := by
 unfold fitL
 simp only [Bool.and_eq_true, decide_eq_true_eq, List.all_eq_true]
 refine ⟨fun r hr => ?_, h.count⟩
 have := h.each r hr
 have a := this.f0; have b := this.f1; have c := this.s0; have d := this.s1; have e := this.c0; have f := this.c1
 unfold fitR
 simp [a, b, c, d, e, f]
theorem times_ok {l : List RunT} (h : RunsOk l) : timesG l = timesL l := by unfold timesG; rw [if_pos (fit_ok h)]
attribute [local simp] Oper.looksAt Op.operands Call.operands envOf Det GDet
theorem Tryz.infoI64 : (Tryz.prog.info? 2).map (fun i => (i.zero, i.size, i.bytes)) = some (some (.int .i64 0), 1, 8) := by kernel_rfl
def tiRel (w : World) (p : Option Addr) (l : List RunT) (cap : Nat) (a' : Act) (W : World) : Prop :=
 Below w.heap.size w W /\ ∃ (i : Nat) (T : List Int) (v : Value), (∃ u : Nat -> Value, a' = { tmps := #[.slice p l.length cap, u 1, .slice none 0 0, v, .int .i64 (i : Int), u 5, u 6, u 7, u 8, u 9, u 10, u 11, u 12, u 13, u 14, u 15, u 16, u 17, u 18, u 19, u 20, u 21, u 22, u 23, u 24, u 25, u 26, u 27, u 28, u 29, u 30, u 31, u 32, u 33, u 34, u 35, u 36, u 37, u 38, u 39, u 40, u 41, u 42, u 43, u 44, u 45, u 46, u 47, u 48, u 49, u 50, u 51, u 52, u 53, u 54, u 55, u 56, u 57, u 58, u 59, u 60, u 61, u 62, u 63, u 64, u 65, u 66, u 67, u 68, u 69], defers := [] }) /\
  OwnR W w.heap.size 2 1 v T.length (T.map (Value.int .i64)) /\ T = timesL (l.take i) /\ i <= l.length /\ (∀ r, r ∈ l.take i -> fitR r = true) /\ cnt (l.take i) <= 256
def tjRel (w : World) (p : Option Addr) (l : List RunT) (cap i : Nat) (T : List Int) (r : RunT) (g : Nat) (a' : Act) (W : World) : Prop :=
 Below w.heap.size w W /\ Blk W g #[r.f, r.s, r.c] 144 /\ ∃ (k : Nat) (T1 : List Int) (v : Value), (∃ u : Nat -> Value, a' = { tmps := #[.slice p l.length cap, u 1, .slice none 0 0, v, .int .i64 (i : Int), .pointer (some ⟨g, 0, none⟩), .int .i64 (k : Int), u 7, u 8, u 9, u 10, u 11, u 12, u 13, u 14, u 15, u 16, u 17, u 18, u 19, u 20, u 21, u 22, u 23, u 24, u 25, u 26, u 27, u 28, u 29, u 30, u 31, u 32, u 33, u 34, u 35, u 36, u 37, u 38, u 39, u 40, u 41, u 42, u 43, u 44, u 45, u 46, u 47, u 48, u 49, u 50, u 51, u 52, u 53, u 54, u 55, u 56, u 57, u 58, u 59, u 60, u 61, u 62, u 63, u 64, u 65, u 66, u 67, u 68, u 69], defers := [] }) /\
  OwnR W w.heap.size 2 1 v T1.length (T1.map (Value.int .i64)) /\ T1 = T ++ (List.range k).map (fun (j : Nat) => r.f + r.s * (j : Int)) /\ (k : Int) <= r.c
theorem cnt_takeLe : ∀ (l : List RunT) (k : Nat), (∀ r, r ∈ l -> 1 <= r.c) -> cnt (l.take k) <= cnt l
 | [], k, _ => by simp
 | r :: l, 0, h => by
  have := cnt_ge (r :: l) h
  simp [cnt] at this ⊢
  have : cnt ([] : List RunT) = 0 := rfl
  omega
 | r :: l, k + 1, h => by
  have := cnt_takeLe l k fun q hq => h q (by simp [hq])
  simp only [List.take_succ_cons, cnt]
  omega
theorem reftimes_w (p : Option Addr) (cap : Nat) (l : List RunT) (w : World) (h : RunsIn w p l) (hlen : l.length <= 1000) :
  Calls Tryz.prog 85 #[.slice p l.length cap] w fun e w' => ∃ v, e = .returned v /\ OwnR w' w.heap.size 2 1 v (timesG l).length ((timesG l).map (Value.int .i64)) /\ Below w.heap.size w w' := by
 obtain ⟨i0, hi, hz0, hz1, hz2⟩ := info_parts Tryz.infoI64
 go_enter Tryz.func85, Tryz.ntmps85
 go_wp2
 refine wp_loop (tiRel w p l cap) (fun a' _ => l.length - (intAt (a'.tmps.getD 4 undef)).toNat) ?_ ?_
 ·unfold tiRel
  exact ⟨Below.refl _ _, 0, [], _, frame_ex rfl, OwnR.nil _ _ _ _, by simp [timesL], by omega, by simp, by simp [cnt]⟩
 ·rintro a' W ⟨hW0, i, T, v, ⟨u, rfl⟩, hown, hT, hi', hfit, hcnt⟩
  have hz := hW0.size
  obtain ⟨pv, cv, rfl, hcv, hcm, -, -⟩ := hown.form
  have hTl : (T.length : Int) = cnt (l.take i) := by
   rw [hT]; exact length_timesL _ fun r hr => by have := hfit r hr; unfold fitR at this; simp at this; omega
  have hT256 : T.length <= 256 := by omega
  replace hT := Lib.hid hT
  replace hfit := Lib.hid hfit
  replace hcnt := Lib.hid hcnt
  replace hTl := Lib.hid hTl
  rcases Nat.lt_or_ge i l.length with hlt | hge
  ·obtain ⟨r, hri⟩ : ∃ r, l[i]? = some r := ⟨l[i]'(by omega), List.getElem?_eq_getElem (by omega)⟩
   obtain ⟨b, o, rfl, k0, k1, k2⟩ := (h.below hW0).at' i r hri
   replace hri := Lib.hid hri
   obtain ⟨S, hS⟩ : ∃ S, wrap64 ((T.length : Int) + r.c) = S := ⟨_, rfl⟩
   replace hS := Lib.hid hS
   go_upto_region 6 with (fail)
   refine wp_facts (fun W' => Below W.heap.size W W' /\ Blk W' W.heap.size #[r.f, r.s, r.c] 144 /\ OwnR W' w.heap.size 2 1 (.slice pv T.length cv) T.length (T.map (Value.int .i64))) ⟨by exact belowAny, by exact blkAny2, by exact hown.below belowAny⟩ ?_
   rintro W1 ⟨hW, b1, b2⟩
   have z2 := hW.size
   have z3 := b1.lt
   refine wp_region_sq 36 70 [] (fun W' => Rex [] W1 W' /\ Blk W' W.heap.size #[r.f, r.s, r.c] 144 /\ OwnR W' w.heap.size 2 1 (.slice pv T.length cv) T.length (T.map (Value.int .i64))) (by kernel_rfl) rfl ⟨(Rex.refl _ _), b1, b2⟩ (fun w w' ⟨h0, h1, h2⟩ hr => ⟨h0.trans hr, h1.rex hr (by simp <;> omega), h2.rex hr (by simp <;> omega)⟩) ?_
   iterate 36
    first
    | (
     apply nd_det (hg := rfl) (hal := rfl)
     ·intro a W' hC hE
      obtain ⟨_, k1, k2⟩ := hC
      have k1 := k1.cell
      first
       | (simp at hE; simp [go_sem, Act.eval, IntWalk.i64_left, hE, k1, k2, hS.out]; try rfl)
       | (clear hE; simp [go_sem, Act.eval, IntWalk.i64_left, k1, k2, hS.out]; try rfl))
    | (
     apply nd_detg (p := true) (hg := rfl) (hd := rfl) (hal := rfl)
     ·intro v W' h
      simp at h
      simp
      exact h
     ·intro hp hx a W' hC hE
      obtain ⟨_, k1, k2⟩ := hC
      have k1 := k1.cell
      simp [hx] at hE
      simp [go_sem, Act.eval, IntWalk.i64_left, hE, k1, k2, hS.out]
      try rfl)
    | (
     apply nd_pick_or (ho := rfl) (hg := rfl)
     ·intro v W' h
      simp at h
      exact h
     ·intro v W' h hx
      simp [hx] at h
      exact h)
   rintro W4 ⟨hR, d1, d2⟩
   simp only [ndFinR, Det, forall_eq]
   intros
   repeat (rename GDet _ _ _ _ => hgd; clear hgd)
   simp only [Act.put, List.setIfInBounds_toArray, List.set_cons_zero, List.set_cons_succ]
   refine wpList_nil ?_
   replace hW := hW.trans (hR.of_priv hW.size)
   clear hR
   try clear b1 b2
   have b1 := d1
   clear d1
   have b2 := d2
   clear d2
   obtain ⟨F, hF⟩ : ∃ F, (decide (r.c < 1) || decide (256 < r.c) || decide (256 < S) || decide (r.s < 0) || decide (281474976710656 < r.s) || decide (r.f < 0) || decide (281474976710656 < r.f)) = F := ⟨_, rfl⟩
   rw [hF]
   have hrt := Lib.hid (show (l.take (i + 1)) = l.take i ++ [r] by rw [List.take_succ_eq_append_getElem hlt]; have := hri.out; rw [List.getElem?_eq_getElem hlt] at this; injection this with this; rw [this])
   cases F with
   | true =>
    have hG : timesG l = [] := by
     unfold timesG
     rw [if_neg]
     intro hh
     unfold fitL at hh
     simp only [Bool.and_eq_true, List.all_eq_true, decide_eq_true_eq] at hh
     have hr := hh.1 r (List.mem_of_getElem? hri.out)
     unfold fitR at hr
     simp at hr
     simp at hF
     have hc2 := cnt_takeLe l (i + 1) fun q hq => by have := hh.1 q hq; unfold fitR at this; simp at this; omega
     rw [hrt.out, cnt_append] at hc2
     simp only [cnt] at hc2
     have h3 := hTl.out
     have h4 := hS.out
     rw [wrap64_eq] at h4
     omega
    clear hF
    replace hG := Lib.hid hG
    go_wp2
    go_ret
    exact ⟨_, rfl, by rw [hG.out]; exact OwnR.nil _ _ _ _, hW0.trans (hW.mono hz)⟩
   | false =>
    simp only [Bool.or_eq_false_iff, decide_eq_false_iff_not] at hF
    obtain ⟨⟨⟨⟨⟨⟨f1, f2⟩, f3⟩, f4⟩, f5⟩, f6⟩, f7⟩ := hF
    have hSS : S = T.length + r.c := by have h4 := hS.out; rw [wrap64_eq] at h4; omega
    clear hS
    subst hSS
    have zb := b1.lt
    have zz := Nat.le_trans hz hW.size
    have hB1 := hW0.trans (hW.mono hz)
    clear hW hown k0 k1 k2
    go_wp2
    refine wp_loop (tjRel w (some ⟨b, o, none⟩) l cap i T r W.heap.size) (fun a' _ => r.c.toNat - (intAt (a'.tmps.getD 6 undef)).toNat) ?_ ?_
    ·unfold tjRel
     exact ⟨hB1, b1, 0, T, _, frame_ex rfl, b2, by simp, by omega⟩
    ·rintro a' W2 ⟨hW1, b1, k, T1, v, ⟨u, rfl⟩, hown, hT1, hk⟩
     have ya1 := hW1.size
     have zb2 := b1.lt
     have hl1 : T1.length = T.length + k := by rw [hT1]; simp
     have hl9 : T1.length <= 256 := by omega
     replace hT1 := Lib.hid hT1
     replace hl1 := Lib.hid hl1
     have k1 := b1.cell
     have g1 := b1.frozen
     rcases Int.lt_or_le (k : Int) r.c with hkc | hkc
     ·obtain ⟨M, hM⟩ : ∃ M, (k : Int) * r.s = M := ⟨_, rfl⟩
      have m0 : 0 <= M := hM ▸ Int.mul_nonneg (by omega) (by omega)
      have m1 : M <= 256 * 281474976710656 := hM ▸ Int.mul_le_mul (by omega) (by omega) (by omega) (by omega)
      have hown' := hown.own
      go_wp2_with (at_builtin; refine wpList_append_own _ rfl (.tmp 59) (.tmp 67) 96 rfl w.heap.size 2 i0 (.int .i64 0) 1 8 (by kernel_rfl) hi hz0 hz1 hz2 rfl (by decide) _ _ _ rfl (hown'.alloc _) ⟨W2.heap.size, 0, none⟩ 1 1 [.int .i64 (r.f + M)] rfl rfl (cell_one_new _ _ _) (by simp [Value.oneCell']) (by simp [maxLen]; omega) (by omega) (by simp; omega) ?_)
      intro v' w1 hown2 hgr _
      have hB := Lib.hid (below_append hW1 ya1 hown' hgr)
      have b2 := b1.grown hown' (by decide) hgr
      clear hgr hown' hown
      replace hown2 := Lib.hid hown2
      clear b1 k1 g1
      go_wp2
      rw [show (k : Int) + 1 = ((k + 1 : Nat) : Int) by omega]
      refine ⟨?_, by simp [intAt]; omega⟩
      unfold tjRel
      exact ⟨hB.out, b2, k + 1, T1 ++ [r.f + M], v', frame_ex rfl, ⟨by simpa using hown2.out⟩, by rw [hT1.out, List.range_succ, List.map_append, List.append_assoc, <- hM, Int.mul_comm]; rfl, by omega⟩
     ·have hkc2 : (k : Int) = r.c := by omega
      have hTT := Lib.hid (show T1 = timesL (l.take (i + 1)) by
       rw [hrt.out, timesL_append, hT1.out, <- hT.out]
       show _ = T ++ (timesR r ++ [])
       rw [List.append_nil]
       unfold timesR
       rw [show r.c.toNat = k by omega])
      have hfit2 := Lib.hid (show ∀ q, q ∈ l.take (i + 1) -> fitR q = true by
       intro q hq
       rw [hrt.out] at hq
       rcases List.mem_append.1 hq with hq | hq
       ·exact hfit.out q hq
       ·rw [List.mem_singleton.1 hq]
        unfold fitR
        simp
        omega)
      have hcnt2 := Lib.hid (show cnt (l.take (i + 1)) <= 256 by
       rw [hrt.out, cnt_append, <- hTl.out]
       simp only [cnt]
       omega)
      clear hkc2 f3
      go_wp2
      rw [show (i : Int) + 1 = ((i + 1 : Nat) : Int) by omega]
      refine ⟨?_, by simp [intAt]; omega⟩
      unfold tiRel
      exact ⟨hW1, i + 1, T1, v, frame_ex rfl, hown, hTT.out, by omega, hfit2.out, hcnt2.out⟩
  ·obtain rfl : i = l.length := by omega
   have hG : timesG l = T := by
    unfold timesG fitL
    have h1 := hfit.out
    have h2 := hcnt.out
    rw [List.take_length] at h1 h2
    rw [if_pos (by simp only [Bool.and_eq_true, List.all_eq_true, decide_eq_true_eq]; exact ⟨h1, h2⟩), hT.out, List.take_length]
   replace hG := Lib.hid hG
   go_wp2
   go_ret
   exact ⟨_, rfl, by rw [hG.out]; exact hown, hW0⟩
end Go.Proofs.YtidfcoooccblaaaGreat
namespace Go.Proofs.YtidfcoooccblaaaGreat
open Go.RowKit
structure UpTo (T : List Int) (n : Nat) : Prop where
 lo : ∀ (k : Nat) (x : Int), k < n -> T[k]? = some x -> 0 <= x /\ x <= 281474976710656
 up : ∀ (k : Nat) (x y : Int), k + 1 < n -> T[k]? = some x -> T[k + 1]? = some y -> x < y
theorem UpTo.pair : ∀ {T : List Int}, UpTo T T.length -> T.Pairwise (· < ·)
 | [], _ => List.Pairwise.nil
 | [a], _ => by simp
 | a :: b :: l, h => by
  have ht : UpTo (b :: l) (b :: l).length := ⟨fun k x hk hx => h.lo (k + 1) x (by simp at hk ⊢; omega) (by simpa using hx), fun k x y hk hx hy => h.up (k + 1) x y (by simp at hk ⊢; omega) (by simpa using hx) (by simpa using hy)⟩
  have ih := ht.pair
  have hab : a < b := h.up 0 a b (by simp) (by simp) (by simp)
  refine List.pairwise_cons.2 ⟨fun c hc => ?_, ih⟩
  rcases List.mem_cons.1 hc with rfl | hc
  ·exact hab
  ·have := (List.pairwise_cons.1 ih).1 c hc; omega
def risRel (w : World) (b o cap : Nat) (T : List Int) (a' : Act) (W : World) : Prop :=
 Below w.heap.size w W /\ ∃ (i : Nat), (∃ u : Nat -> Value, a' = { tmps := #[.slice (some ⟨b, o, none⟩) T.length cap, u 1, .bool false, .int .i64 (i : Int), u 4, u 5, u 6, u 7, u 8, u 9, u 10, u 11, u 12, u 13, u 14, u 15, u 16, u 17, u 18, u 19, u 20, u 21, u 22, u 23, u 24, u 25, u 26, u 27, u 28, u 29, u 30, u 31, u 32, u 33, u 34, u 35, u 36, u 37, u 38, u 39, u 40, u 41, u 42, u 43, u 44, u 45], defers := [] }) /\ i <= T.length /\ UpTo T i
theorem cell_three_new (W : World) (a b c : Value) (t : TypeId) (j : Nat) (u : Value) (h : [a, b, c][j]? = some u) : (W.alloc (.cells #[a, b, c] t)).cell? ((⟨W.heap.size, 0, none⟩ : Addr).add j) = some u := by
 have hb : Blk (W.alloc (.cells #[a, b, c] t)) W.heap.size #[a, b, c] t := Blk.new' rfl
 have hadd : (⟨W.heap.size, 0, none⟩ : Addr).add j = ⟨W.heap.size, j, none⟩ := by unfold Addr.add; split <;> simp_all
 rw [hadd, hb.cell]
 simpa using h
theorem flatCells_snoc (L : List RunT) (r : RunT) : flatCells (L ++ [r]) = flatCells L ++ [.int .i64 r.f, .int .i64 r.s, .int .i64 r.c] := by
 induction L with
 | nil => rfl
 | cons q L ih => simp only [List.cons_append, flatCells, ih]
def ofRel (w : World) (b o cap : Nat) (T : List Int) (a' : Act) (W : World) : Prop :=
 Below w.heap.size w W /\ ∃ (i : Nat) (L : List RunT) (v : Value), (∃ u : Nat -> Value, a' = { tmps := #[.slice (some ⟨b, o, none⟩) T.length cap, u 1, .slice none 0 0, v, .int .i64 (i : Int), u 5, u 6, u 7, u 8, u 9, u 10, u 11, u 12, u 13, u 14, u 15, u 16, u 17, u 18, u 19, u 20, u 21, u 22, u 23, u 24, u 25, u 26, u 27, u 28, u 29, u 30, u 31, u 32, u 33, u 34, u 35, u 36, u 37, u 38, u 39, u 40, u 41, u 42, u 43, u 44, u 45, u 46, u 47, u 48, u 49, u 50, u 51, u 52, u 53, u 54, u 55, u 56, u 57, u 58, u 59, u 60, u 61, u 62, u 63, u 64, u 65, u 66, u 67, u 68, u 69, u 70, u 71, u 72, u 73, u 74, u 75, u 76, u 77, u 78, u 79, u 80], defers := [] }) /\
  OwnR W w.heap.size 144 3 v L.length (flatCells L) /\ ofL T = L ++ ofL (T.drop i) /\ i <= T.length /\ L.length <= i
def ojRel (w : World) (b o cap : Nat) (T : List Int) (i : Nat) (v : Value) (L : List RunT) (s x1 : Int) (a' : Act) (W : World) : Prop :=
 Below w.heap.size w W /\ ∃ (j : Nat) (x : Int), (∃ u : Nat -> Value, a' = { tmps := #[.slice (some ⟨b, o, none⟩) T.length cap, u 1, .slice none 0 0, v, .int .i64 (i : Int), .int .i64 (j : Int), u 6, u 7, u 8, u 9, u 10, u 11, u 12, u 13, u 14, u 15, u 16, u 17, u 18, u 19, u 20, u 21, u 22, u 23, u 24, u 25, u 26, u 27, u 28, u 29, u 30, u 31, u 32, u 33, u 34, u 35, u 36, u 37, u 38, u 39, u 40, u 41, u 42, u 43, u 44, u 45, u 46, u 47, u 48, u 49, u 50, u 51, u 52, u 53, u 54, u 55, u 56, u 57, u 58, u 59, u 60, u 61, u 62, u 63, u 64, u 65, u 66, u 67, u 68, u 69, u 70, u 71, u 72, u 73, u 74, u 75, u 76, u 77, u 78, u 79, u 80], defers := [] }) /\
  OwnR W w.heap.size 144 3 v L.length (flatCells L) /\ i + 1 <= j /\ j < T.length /\ T[j]? = some x /\ extn s x1 (T.drop (i + 2)) = (j - i - 1) + extn s x (T.drop (j + 1))
structure RunsP (w : World) (b o : Nat) (l : List RunT) : Prop where
 runs : RunsIn w (some ⟨b, o, none⟩) l
theorem RunsP.below {w w' : World} {b o : Nat} {l : List RunT} (h : RunsP w b o l) (hb : Below w.heap.size w w') : RunsP w' b o l := ⟨h.runs.below hb⟩
theorem RunsP.rex {L : List Nat} {w w' : World} {b o : Nat} {l : List RunT} (h : RunsP w b o l) (hr : Rex L w w') (hL : L = []) : RunsP w' b o l := by subst hL; exact h.below hr.below
theorem RunsP.drew {w : World} {b o : Nat} {l : List RunT} (h : RunsP w b o l) : RunsP w.drew b o l := ⟨⟨h.runs.at'⟩⟩
theorem RunsP.cellAt {w : World} {b o : Nat} {l : List RunT} (h : RunsP w b o l) {i : Nat} {r : RunT} (hx : l[i]? = some r) :
  w.cell? ⟨b, o + i * 3, none⟩ = some (r.f) /\ w.cell? ⟨b, o + i * 3 + 1, none⟩ = some (r.s) /\ w.cell? ⟨b, o + i * 3 + 2, none⟩ = some (r.c) := h.runs.cells hx
theorem ite_eq3 {a b c d e f : Int} {w : World} : ((if a = b then (if c = d then (if e = f then Result.ok (Go.Next.value (Value.bool false)) w else Result.ok (Go.Next.value (Value.bool true)) w) else Result.ok (Go.Next.value (Value.bool true)) w) else Result.ok (Go.Next.value (Value.bool true)) w) : Result Go.Next) = Result.ok (Go.Next.value (Value.bool (!(decide (a = b) && decide (c = d) && decide (e = f))))) w := by
 by_cases h1 : a = b <;> by_cases h2 : c = d <;> by_cases h3 : e = f <;> simp [h1, h2, h3]
def smRel (w : World) (p : Option Addr) (cap : Nat) (p' : Option Addr) (cap' : Nat) (A B : List RunT) (a' : Act) (W : World) : Prop :=
 Below w.heap.size w W /\ ∃ (i : Nat), (∃ u : Nat -> Value, a' = { tmps := #[.slice p A.length cap, .slice p' A.length cap', u 2, u 3, .bool false, .int .i64 (i : Int), u 6, u 7, u 8, u 9, u 10, u 11, u 12, u 13, u 14, u 15, u 16, u 17, u 18, u 19, u 20, u 21, u 22, u 23, u 24, u 25], defers := [] }) /\ i <= A.length /\ ∀ k, k < i -> A[k]? = B[k]?
end Go.Proofs.YtidfcoooccblaaaGreat
