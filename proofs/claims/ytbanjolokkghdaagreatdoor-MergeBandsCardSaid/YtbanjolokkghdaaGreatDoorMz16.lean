/- Parts of the proof that follows: The references' numbers: parts. | The references' numbers: made. | The references' numbers: word. | The references' numbers: Num, Int. | The references' numbers: Mul. | The references' numbers: Fits. -/
import Derived.Test.YtbanjolokkghdaaGreatDoorMz15
set_option maxRecDepth 100000
set_option maxHeartbeats 8000000
set_option linter.unusedSimpArgs false
set_option linter.unusedVariables false
namespace Go.Proofs.YtbanjolokkghdaaGreatDoor
open Go.RowKit
def parRel (w : World) (p : Option Addr) (a : List Int) (n ca : Nat) (vb : Value) (a' : Act) (W : World) : Prop :=
 Below w.heap.size w W /\ ∃ (k : Nat) (v : Value) (pq : Option Addr) (lq : List Int) (cq r : Nat), (∃ u : Nat -> Value, a' = { tmps := #[.slice p a.length ca, vb, u 2, u 3, u 4, u 5, .slice pq lq.length cq, v, .int .i64 ((k : Int) - 1), u 9, u 10, u 11, u 12, u 13, u 14, u 15, u 16, u 17, u 18, u 19, u 20, u 21, u 22, u 23, u 24, u 25, u 26, u 27, u 28, u 29, u 30, u 31, u 32, u 33, u 34, u 35, u 36, u 37, u 38], defers := [] }) /\ k <= a.length /\
  Bits W v r /\ r < n /\ DigsIn W pq lq /\ Dig lq /\ (pq = none -> lq = [] /\ cq = 0) /\ (lq.length <= cq /\ cq <= 9223372036854775807) /\ lq.length + k = a.length /\ valD (a.drop k) = valD lq * n + r
theorem parts_w (p : Option Addr) (a : List Int) (ca n : Nat) (vb : Value) (w : World) (ha : DigsIn w p a) (hb : Bits w vb n) (hda : Dig a) (hla : a.length <= 800) (hn0 : 0 < n) (hn : n < 2 ^ 800) :
  Calls Tryz.prog 115 #[.slice p a.length ca, vb] w fun e w' => ∃ v1 v2, e = .returned (.tuple #[v1, v2]) /\ Bits w' v1 (valD a / n) /\ Bits w' v2 (valD a % n) /\ Below w.heap.size w w' := by
 obtain ⟨i0, hi, hz0, hz1, hz2⟩ := info_parts Tryz.infoI
 go_enter Tryz.func115, Tryz.ntmps115
 go_wp2
 refine wp_loop (parRel w p a n ca vb) (fun a' _ => ((intAt (a'.tmps.getD 8 undef)) + 1).toNat) ?_ ?_
 ·unfold parRel
  exact ⟨Below.refl _ _, a.length, _, none, [], 0, 0, frame_ex rfl, Nat.le_refl _, Bits.zero _, hn0, ⟨fun i x h => by simp at h, fun a e => by cases e⟩, Dig.nil, fun _ => ⟨rfl, rfl⟩, by simp, by simp, by rw [List.drop_eq_nil_of_le (Nat.le_refl _)]; simp [valD]⟩
 ·rintro a' W ⟨hW, k, v, pq, lq, cq, r, ⟨u, rfl⟩, hk, hv, hr, hiq, hdq, hnq, hcq, hlq, hinv⟩
  have hz := hW.size
  replace hinv := Lib.hid hinv
  replace hnq := Lib.hid hnq
  replace hr := Lib.hid hr
  cases k with
  | zero =>
   replace hv := Lib.hid hv
   have ct := Lib.hid (fun W' (hW' : Below W.heap.size W W') => c_trim pq cq lq W' (hiq.below hW') hnq.out hcq.1 hcq.2 (by omega) hdq)
   clear hiq
   go_wp2_with fail
   refine (ct.out _ (Below.refl _ _)).mono ?_
   rintro e w2 ⟨v2, rfl, hb2, hB2⟩
   replace hb2 := Lib.hid hb2
   have hv2 := Lib.hid (hv.out.below hB2)
   have hBB := Lib.hid (hW.trans (hB2.mono hz))
   clear hB2 ct
   go_wp2
   have hin := hinv.out
   have hrn := hr.out
   rw [List.drop_zero] at hin
   have e1 : valD a / n = valD lq := by rw [hin, Nat.add_comm, Nat.add_mul_div_right _ _ hn0, Nat.div_eq_of_lt hrn, Nat.zero_add]
   have e2 : valD a % n = r := by rw [hin, Nat.add_comm, Nat.add_mul_mod_self_right, Nat.mod_eq_of_lt hrn]
   refine bodyPost_ret (v := .tuple #[v2, v]) (by simp [results, Tryz.results115, go_sem]) rfl ⟨_, _, rfl, by rw [e1]; exact hb2.out, by rw [e2]; exact hv2.out, hBB.out⟩
  | succ j =>
   obtain ⟨y, hy⟩ : ∃ y, a[j]? = some y := ⟨a[j], List.getElem?_eq_getElem (by omega)⟩
   obtain ⟨ga, oa, rfl, qb⟩ := (ha.below hW).at' _ y hy
   obtain ⟨pl, l, cl, rfl, hlc, hl1, hln, hil, hdl, hcl, hvl⟩ := hv
   replace hvl := Lib.hid hvl
   replace hln := Lib.hid hln
   have by01 := hda.at hy
   have hstep := Lib.hid (valD_drop hy)
   have hl9 : l.length <= 800 := canon_len hcl (by rw [hvl.out]; exact Nat.lt_trans hr.out hn)
   have hn9 := Lib.hid (Nat.lt_trans hn (pow_lt2 800 900 (by omega)))
   have hiq0 := Lib.hid hiq
   have e0 : ((j + 1 : Nat) : Int) - 1 = (j : Int) := by omega
   rw [e0]
   clear hy e0 hiq hn
   cases pl with
   | none =>
    obtain ⟨rfl, rfl⟩ := hln.out rfl
    have ct := Lib.hid (fun W' (hW' : Below (W.alloc (.cells #[.int .i64 y] 3)).heap.size (W.alloc (.cells #[.int .i64 y] 3)) W') => c_trim (some ⟨W.heap.size, 0, none⟩) 1 [y] W' ((fresh_ints W y).below hW') (fun e => by cases e) (by simp) (by omega) (by simp) (Dig.nil.cons by01))
    have hB := hW.alloc hz (.cells #[.int .i64 y] 3)
    have hW1 := Lib.hid ((Below.refl W.heap.size W).alloc (Nat.le_refl _) (.cells #[.int .i64 y] 3))
    have hz3 := hW1.out.size
    replace hB := Lib.hid hB
    have hs1 := hB.out.size
    go_wp2_with fail
    refine (ct.out _ (Below.refl _ _)).mono ?_
    rintro e w2 ⟨v2, rfl, hb2, hB2⟩
    obtain ⟨R, hR⟩ : ∃ R, R = valD (y :: []) := ⟨_, rfl⟩
    have hz4 : W.heap.size <= w2.heap.size := Nat.le_trans hz3 hB2.size
    have hRlt : R < 2 ^ 801 := by rw [hR]; exact valD_pow (k := 801) (hdl.cons by01) (by simp <;> omega)
    have hR2 : R = y.toNat + 2 * r := by rw [hR, <- hvl.out]; rfl
    rw [<- hR] at hb2
    clear hR
    have hRl := Lib.hid (Nat.lt_trans hRlt (pow_lt2 801 900 (by omega)))
    replace hb2 := Lib.hid hb2
    have hBB := Lib.hid (hB.out.trans (hB2.mono hs1))
    have hs2 := hBB.out.size
    have cl := Lib.hid (c_less v2 vb R n w2 hb2.out (hb.below hBB.out) hRl.out hn9.out)
    have hW2 := Lib.hid (hW1.out.trans (hB2.mono hz3))
    clear hB2 hB ct hs1 qb hRlt
    replace hR2 := Lib.hid hR2
    go_wp2_with fail
    refine cl.out.mono ?_
    rintro e w3 ⟨rfl, hB3⟩
    have hb3 := Lib.hid (hb2.out.below hB3)
    have hB4 := Lib.hid (hBB.out.trans (hB3.mono hs2))
    have hW3 := Lib.hid (hW2.out.trans (hB3.mono hz4))
    clear hB3 cl
    by_cases hlt : R < n
    ·have hlt2 := Lib.hid hlt
     have hinv2 := Lib.hid (show valD (a.drop j) = valD (0 :: lq) * n + R by
      rw [hstep.out, hinv.out, hR2.out]
      simp only [valD]
      rw [show (0 : Int).toNat = 0 from rfl, Nat.zero_add, Nat.mul_assoc]
      omega)
     have hd := Lib.hid (show decide (R < n) = true by simp [hlt])
     rw [hd.out]
     clear hlt
     have hzs := hB4.out.size
     cases pq with
     | none =>
      obtain ⟨rfl, rfl⟩ := hnq.out rfl
      go_wp2
      refine ⟨?_, by simp [intAt]⟩
      unfold parRel
      have hA := hB4.out.alloc hzs (.cells #[.int .i64 0] 3)
      exact ⟨hA, j, v2, some ⟨w3.heap.size, 0, none⟩, [0], 1, R, frame_ex rfl, by omega, hb3.out.below ((Below.refl _ _).alloc (Nat.le_refl _) _), hlt2.out, fresh_ints w3 0, Dig.nil.cons (by omega), (fun e => by cases e), by simp, by simp at hlq ⊢; omega, hinv2.out⟩
     | some aq =>
      have TT := hiq0.out.below hW3.out
      have T4 : 1 + lq.length <= maxLen := by simp [maxLen]; omega
      have T5 : (1 + lq.length) * 8 <= 140737488355328 := by omega
      have T6 : w.heap.size <= (w3.alloc (.cells #[.int .i64 0] 3)).heap.size := by simp; omega
      go_wp2_with (at_builtin; refine wpList_append_own _ rfl (.tmp 33) (.tmp 34) 132 rfl w.heap.size 3 i0 (.int .i64 0) 1 8 (by kernel_rfl) hi hz0 hz1 hz2 rfl (by decide) _ 1 [.int .i64 0] rfl (row_fresh w3 0 hzs) aq lq.length cq (lq.map (Value.int .i64)) rfl (by simp) (ints_new TT) (ints_one lq) T4 T5 T6 ?_)
      clear TT T4 T5 T6
      intro v' w5 hown hgr _
      obtain ⟨p', cap', rfl, hcap, hcm, hn', hI⟩ := row_ints (l := 0 :: lq) hown (by simp; omega)
      have hA := Lib.hid ((hB4.out.alloc hzs (.cells #[.int .i64 0] 3)).grown hgr (by simp; omega) fun j ej => by
       obtain rfl : w3.heap.size = j := by simpa [Value.ownBlock] using ej
       exact hzs)
      have hA2 := Lib.hid (((Below.refl w3.heap.size w3).alloc (Nat.le_refl _) (.cells #[.int .i64 0] 3)).grown hgr (by simp) fun j ej => by
       obtain rfl : w3.heap.size = j := by simpa [Value.ownBlock] using ej
       exact Nat.le_refl _)
      replace hI := Lib.hid hI
      replace hn' := Lib.hid hn'
      clear hown hgr
      go_wp2
      refine ⟨?_, by simp [intAt]⟩
      unfold parRel
      exact ⟨hA.out, j, v2, p', 0 :: lq, cap', R, frame_ex rfl, by omega, hb3.out.below hA2.out, hlt2.out, hI.out, hdq.cons (by omega), (fun e => absurd (hn'.out e).1 (by simp)), ⟨hcap, hcm⟩, by simp; omega, hinv2.out⟩
    ·have hlt2 := Lib.hid (show R - n < n by have := hR2.out; have := hr.out; omega)
     have hinv2 := Lib.hid (show valD (a.drop j) = valD (1 :: lq) * n + (R - n) by
      rw [hstep.out, hinv.out]
      simp only [valD]
      rw [show (1 : Int).toNat = 1 from rfl, Nat.add_mul, Nat.mul_assoc]
      have := hR2.out
      omega)
     have hd := Lib.hid (show decide (R < n) = false by simp; omega)
     rw [hd.out]
     have cm := Lib.hid (c_minus v2 vb R n w3 hb3.out (hb.below hB4.out) hRl.out (by omega))
     have hs4 := hB4.out.size
     go_wp2_with fail
     refine cm.out.mono ?_
     rintro e w4 ⟨v4, rfl, hb5, hB5⟩
     replace hb5 := Lib.hid hb5
     have hB6 := Lib.hid (hB4.out.trans (hB5.mono hs4))
     have hz5 : W.heap.size <= w3.heap.size := hW3.out.size
     have hW4 := Lib.hid (hW3.out.trans (hB5.mono hz5))
     clear hB5 cm
     have hzs := hB6.out.size
     cases pq with
     | none =>
      obtain ⟨rfl, rfl⟩ := hnq.out rfl
      go_wp2
      refine ⟨?_, by simp [intAt]⟩
      unfold parRel
      have hA := hB6.out.alloc hzs (.cells #[.int .i64 1] 3)
      exact ⟨hA, j, v4, some ⟨w4.heap.size, 0, none⟩, [1], 1, (R - n), frame_ex rfl, by omega, hb5.out.below ((Below.refl _ _).alloc (Nat.le_refl _) _), hlt2.out, fresh_ints w4 1, Dig.nil.cons (by omega), (fun e => by cases e), by simp, by simp at hlq ⊢; omega, hinv2.out⟩
     | some aq =>
      have TT := hiq0.out.below hW4.out
      have T4 : 1 + lq.length <= maxLen := by simp [maxLen]; omega
      have T5 : (1 + lq.length) * 8 <= 140737488355328 := by omega
      have T6 : w.heap.size <= (w4.alloc (.cells #[.int .i64 1] 3)).heap.size := by simp; omega
      go_wp2_with (at_builtin; refine wpList_append_own _ rfl (.tmp 33) (.tmp 34) 132 rfl w.heap.size 3 i0 (.int .i64 0) 1 8 (by kernel_rfl) hi hz0 hz1 hz2 rfl (by decide) _ 1 [.int .i64 1] rfl (row_fresh w4 1 hzs) aq lq.length cq (lq.map (Value.int .i64)) rfl (by simp) (ints_new TT) (ints_one lq) T4 T5 T6 ?_)
      clear TT T4 T5 T6
      intro v' w5 hown hgr _
      obtain ⟨p', cap', rfl, hcap, hcm, hn', hI⟩ := row_ints (l := 1 :: lq) hown (by simp; omega)
      have hA := Lib.hid ((hB6.out.alloc hzs (.cells #[.int .i64 1] 3)).grown hgr (by simp; omega) fun j ej => by
       obtain rfl : w4.heap.size = j := by simpa [Value.ownBlock] using ej
       exact hzs)
      have hA2 := Lib.hid (((Below.refl w4.heap.size w4).alloc (Nat.le_refl _) (.cells #[.int .i64 1] 3)).grown hgr (by simp) fun j ej => by
       obtain rfl : w4.heap.size = j := by simpa [Value.ownBlock] using ej
       exact Nat.le_refl _)
      replace hI := Lib.hid hI
      replace hn' := Lib.hid hn'
      clear hown hgr
      go_wp2
      refine ⟨?_, by simp [intAt]⟩
      unfold parRel
      exact ⟨hA.out, j, v4, p', 1 :: lq, cap', (R - n), frame_ex rfl, by omega, hb5.out.below hA2.out, hlt2.out, hI.out, hdq.cons (by omega), (fun e => absurd (hn'.out e).1 (by simp)), ⟨hcap, hcm⟩, by simp; omega, hinv2.out⟩
   | some ad =>
    go_wp2_with (at_builtin; refine wpList_append_own _ rfl (.tmp 21) (.tmp 22) 132 rfl w.heap.size 3 i0 (.int .i64 0) 1 8 (by kernel_rfl) hi hz0 hz1 hz2 rfl (by decide) _ 1 [.int .i64 y] rfl (row_fresh W y hz) ad l.length cl (l.map (Value.int .i64)) rfl (by simp) (ints_new hil) (ints_one l) (by simp [maxLen]; omega) (by omega) (by simp; omega) ?_)
    intro v' w1 hown hgr _
    obtain ⟨p', cap', rfl, hcap, hcm, hn', hI⟩ := row_ints (l := y :: l) hown (by simp; omega)
    have hB := (hW.alloc hz (.cells #[.int .i64 y] 3)).grown hgr (by simp; omega) fun j ej => by
     obtain rfl : W.heap.size = j := by simpa [Value.ownBlock] using ej
     exact hz
    have hW1 := Lib.hid (((Below.refl W.heap.size W).alloc (Nat.le_refl _) (.cells #[.int .i64 y] 3)).grown hgr (by simp) fun j ej => by
     obtain rfl : W.heap.size = j := by simpa [Value.ownBlock] using ej
     exact Nat.le_refl _)
    have hz3 := hW1.out.size
    have ct := Lib.hid (fun W' (hW' : Below w1.heap.size w1 W') => c_trim p' cap' (y :: l) W' (hI.below hW') hn' hcap hcm (by simp; omega) (hdl.cons by01))
    clear hown hgr hI
    replace hB := Lib.hid hB
    have hs1 := hB.out.size
    go_wp2_with fail
    refine (ct.out _ (Below.refl _ _)).mono ?_
    rintro e w2 ⟨v2, rfl, hb2, hB2⟩
    obtain ⟨R, hR⟩ : ∃ R, R = valD (y :: l) := ⟨_, rfl⟩
    have hz4 : W.heap.size <= w2.heap.size := Nat.le_trans hz3 hB2.size
    have hRlt : R < 2 ^ 801 := by rw [hR]; exact valD_pow (k := 801) (hdl.cons by01) (by simp <;> omega)
    have hR2 : R = y.toNat + 2 * r := by rw [hR, <- hvl.out]; rfl
    rw [<- hR] at hb2
    clear hR
    have hRl := Lib.hid (Nat.lt_trans hRlt (pow_lt2 801 900 (by omega)))
    replace hb2 := Lib.hid hb2
    have hBB := Lib.hid (hB.out.trans (hB2.mono hs1))
    have hs2 := hBB.out.size
    have cl := Lib.hid (c_less v2 vb R n w2 hb2.out (hb.below hBB.out) hRl.out hn9.out)
    have hW2 := Lib.hid (hW1.out.trans (hB2.mono hz3))
    clear hB2 hB ct hs1 qb hRlt
    replace hR2 := Lib.hid hR2
    go_wp2_with fail
    refine cl.out.mono ?_
    rintro e w3 ⟨rfl, hB3⟩
    have hb3 := Lib.hid (hb2.out.below hB3)
    have hB4 := Lib.hid (hBB.out.trans (hB3.mono hs2))
    have hW3 := Lib.hid (hW2.out.trans (hB3.mono hz4))
    clear hB3 cl
    by_cases hlt : R < n
    ·have hlt2 := Lib.hid hlt
     have hinv2 := Lib.hid (show valD (a.drop j) = valD (0 :: lq) * n + R by
      rw [hstep.out, hinv.out, hR2.out]
      simp only [valD]
      rw [show (0 : Int).toNat = 0 from rfl, Nat.zero_add, Nat.mul_assoc]
      omega)
     have hd := Lib.hid (show decide (R < n) = true by simp [hlt])
     rw [hd.out]
     clear hlt
     have hzs := hB4.out.size
     cases pq with
     | none =>
      obtain ⟨rfl, rfl⟩ := hnq.out rfl
      go_wp2
      refine ⟨?_, by simp [intAt]⟩
      unfold parRel
      have hA := hB4.out.alloc hzs (.cells #[.int .i64 0] 3)
      exact ⟨hA, j, v2, some ⟨w3.heap.size, 0, none⟩, [0], 1, R, frame_ex rfl, by omega, hb3.out.below ((Below.refl _ _).alloc (Nat.le_refl _) _), hlt2.out, fresh_ints w3 0, Dig.nil.cons (by omega), (fun e => by cases e), by simp, by simp at hlq ⊢; omega, hinv2.out⟩
     | some aq =>
      have TT := hiq0.out.below hW3.out
      have T4 : 1 + lq.length <= maxLen := by simp [maxLen]; omega
      have T5 : (1 + lq.length) * 8 <= 140737488355328 := by omega
      have T6 : w.heap.size <= (w3.alloc (.cells #[.int .i64 0] 3)).heap.size := by simp; omega
      go_wp2_with (at_builtin; refine wpList_append_own _ rfl (.tmp 33) (.tmp 34) 132 rfl w.heap.size 3 i0 (.int .i64 0) 1 8 (by kernel_rfl) hi hz0 hz1 hz2 rfl (by decide) _ 1 [.int .i64 0] rfl (row_fresh w3 0 hzs) aq lq.length cq (lq.map (Value.int .i64)) rfl (by simp) (ints_new TT) (ints_one lq) T4 T5 T6 ?_)
      clear TT T4 T5 T6
      intro v' w5 hown hgr _
      obtain ⟨p', cap', rfl, hcap, hcm, hn', hI⟩ := row_ints (l := 0 :: lq) hown (by simp; omega)
      have hA := Lib.hid ((hB4.out.alloc hzs (.cells #[.int .i64 0] 3)).grown hgr (by simp; omega) fun j ej => by
       obtain rfl : w3.heap.size = j := by simpa [Value.ownBlock] using ej
       exact hzs)
      have hA2 := Lib.hid (((Below.refl w3.heap.size w3).alloc (Nat.le_refl _) (.cells #[.int .i64 0] 3)).grown hgr (by simp) fun j ej => by
       obtain rfl : w3.heap.size = j := by simpa [Value.ownBlock] using ej
       exact Nat.le_refl _)
      replace hI := Lib.hid hI
      replace hn' := Lib.hid hn'
      clear hown hgr
      go_wp2
      refine ⟨?_, by simp [intAt]⟩
      unfold parRel
      exact ⟨hA.out, j, v2, p', 0 :: lq, cap', R, frame_ex rfl, by omega, hb3.out.below hA2.out, hlt2.out, hI.out, hdq.cons (by omega), (fun e => absurd (hn'.out e).1 (by simp)), ⟨hcap, hcm⟩, by simp; omega, hinv2.out⟩
    ·have hlt2 := Lib.hid (show R - n < n by have := hR2.out; have := hr.out; omega)
     have hinv2 := Lib.hid (show valD (a.drop j) = valD (1 :: lq) * n + (R - n) by
      rw [hstep.out, hinv.out]
      simp only [valD]
      rw [show (1 : Int).toNat = 1 from rfl, Nat.add_mul, Nat.mul_assoc]
      have := hR2.out
      omega)
     have hd := Lib.hid (show decide (R < n) = false by simp; omega)
     rw [hd.out]
     have cm := Lib.hid (c_minus v2 vb R n w3 hb3.out (hb.below hB4.out) hRl.out (by omega))
     have hs4 := hB4.out.size
     go_wp2_with fail
     refine cm.out.mono ?_
     rintro e w4 ⟨v4, rfl, hb5, hB5⟩
     replace hb5 := Lib.hid hb5
     have hB6 := Lib.hid (hB4.out.trans (hB5.mono hs4))
     have hz5 : W.heap.size <= w3.heap.size := hW3.out.size
     have hW4 := Lib.hid (hW3.out.trans (hB5.mono hz5))
     clear hB5 cm
     have hzs := hB6.out.size
     cases pq with
     | none =>
      obtain ⟨rfl, rfl⟩ := hnq.out rfl
      go_wp2
      refine ⟨?_, by simp [intAt]⟩
      unfold parRel
      have hA := hB6.out.alloc hzs (.cells #[.int .i64 1] 3)
      exact ⟨hA, j, v4, some ⟨w4.heap.size, 0, none⟩, [1], 1, (R - n), frame_ex rfl, by omega, hb5.out.below ((Below.refl _ _).alloc (Nat.le_refl _) _), hlt2.out, fresh_ints w4 1, Dig.nil.cons (by omega), (fun e => by cases e), by simp, by simp at hlq ⊢; omega, hinv2.out⟩
     | some aq =>
      have TT := hiq0.out.below hW4.out
      have T4 : 1 + lq.length <= maxLen := by simp [maxLen]; omega
      have T5 : (1 + lq.length) * 8 <= 140737488355328 := by omega
      have T6 : w.heap.size <= (w4.alloc (.cells #[.int .i64 1] 3)).heap.size := by simp; omega
      go_wp2_with (at_builtin; refine wpList_append_own _ rfl (.tmp 33) (.tmp 34) 132 rfl w.heap.size 3 i0 (.int .i64 0) 1 8 (by kernel_rfl) hi hz0 hz1 hz2 rfl (by decide) _ 1 [.int .i64 1] rfl (row_fresh w4 1 hzs) aq lq.length cq (lq.map (Value.int .i64)) rfl (by simp) (ints_new TT) (ints_one lq) T4 T5 T6 ?_)
      clear TT T4 T5 T6
      intro v' w5 hown hgr _
      obtain ⟨p', cap', rfl, hcap, hcm, hn', hI⟩ := row_ints (l := 1 :: lq) hown (by simp; omega)
      have hA := Lib.hid ((hB6.out.alloc hzs (.cells #[.int .i64 1] 3)).grown hgr (by simp; omega) fun j ej => by
       obtain rfl : w4.heap.size = j := by simpa [Value.ownBlock] using ej
       exact hzs)
      have hA2 := Lib.hid (((Below.refl w4.heap.size w4).alloc (Nat.le_refl _) (.cells #[.int .i64 1] 3)).grown hgr (by simp) fun j ej => by
       obtain rfl : w4.heap.size = j := by simpa [Value.ownBlock] using ej
       exact Nat.le_refl _)
      replace hI := Lib.hid hI
      replace hn' := Lib.hid hn'
      clear hown hgr
      go_wp2
      refine ⟨?_, by simp [intAt]⟩
      unfold parRel
      exact ⟨hA.out, j, v4, p', 1 :: lq, cap', (R - n), frame_ex rfl, by omega, hb5.out.below hA2.out, hlt2.out, hI.out, hdq.cons (by omega), (fun e => absurd (hn'.out e).1 (by simp)), ⟨hcap, hcm⟩, by simp; omega, hinv2.out⟩
theorem c_refparts (va vb : Value) (m n : Nat) (w : World) (ha : Bits w va m) (hb : Bits w vb n) (hm : m < 2 ^ 800) (hn0 : 0 < n) (hn : n < 2 ^ 800) :
  Calls Tryz.prog 115 #[va, vb] w fun e w' => ∃ v1 v2, e = .returned (.tuple #[v1, v2]) /\ Bits w' v1 (m / n) /\ Bits w' v2 (m % n) /\ Below w.heap.size w w' := by
 obtain ⟨p, a, ca, rfl, _, _, _, hia, hda, hca, rfl⟩ := ha
 exact parts_w p a ca n vb w hia hb hda (canon_len hca hm) hn0 hn
theorem bits_len {w : World} {v : Value} {n : Nat} (h : Bits w v n) : ∃ (p : Option Addr) (l : List Int) (cap : Nat), v = .slice p l.length cap /\ (0 < l.length ↔ 0 < n) /\ l.length <= 1000 := by
 obtain ⟨p, l, cap, rfl, _, hl, _, _, hd, hc, rfl⟩ := h
 refine ⟨p, l, cap, rfl, ⟨fun h => Nat.lt_of_lt_of_le (Nat.pos_of_ne_zero (by simp)) (canon_pos hc (by rintro rfl; simp at h)), fun h => ?_⟩, hl⟩
 rcases Nat.eq_zero_or_pos l.length with h1 | h1
 ·have : l = [] := List.length_eq_zero_iff.1 h1
  subst this
  simp [valD] at h
 ·exact h1
theorem c_refmade (b : Bool) (v : Value) (n : Nat) (w : World) (h : Bits w v n) :
  Calls Tryz.prog 116 #[.bool b, v] w fun e w' => e = .returned (.agg #[.bool (b && decide (0 < n)), v]) /\ Below w.heap.size w w' := by
 obtain ⟨p, l, cap, rfl, hp, hl⟩ := bits_len h
 replace hp := Lib.hid hp
 clear h
 go_enter Tryz.func116, Tryz.ntmps116
 cases b with
 | false =>
  go_wp2
  refine bodyPost_ret (v := .agg #[.bool false, .slice p l.length cap]) (by simp [results, Tryz.results116, go_sem]) rfl ⟨rfl, (Below.refl _ _).alloc (Nat.le_refl _) _⟩
 | true =>
  go_wp2
  refine bodyPost_ret (v := .agg #[.bool (decide (0 < l.length)), .slice p l.length cap]) (by simp [results, Tryz.results116, go_sem]) rfl ⟨by simp [hp.out], (Below.refl _ _).alloc (Nat.le_refl _) _⟩
theorem valD_from {l : List Int} (h : Dig l) (f : Nat) : valD (l.drop f) = valD l / 2 ^ f := by
 rcases Nat.lt_or_ge l.length f with h1 | h1
 ·rw [List.drop_eq_nil_of_le (by omega)]
  have := valD_pow h (Nat.le_of_lt h1)
  rw [Nat.div_eq_of_lt this]
  rfl
 ·have e := valD_split (l := l) (k := f) h1
  have hb := valD_pow (h.take f) (k := f) (by simp; omega)
  rw [e, Nat.add_mul_div_left _ _ (Nat.pow_pos (by omega)), Nat.div_eq_of_lt hb, Nat.zero_add]
theorem mod_step {x y P : Nat} (hy : y < 2) : (y + 2 * x) % (2 * P) = y + 2 * (x % P) := by
 rcases Nat.eq_zero_or_pos P with rfl | hP
 ·simp
 ·have e := Nat.div_add_mod x P
  have hm := Nat.mod_lt x hP
  have : y + 2 * x = (y + 2 * (x % P)) + 2 * P * (x / P) := by
   rw [Nat.mul_assoc]
   omega
  rw [this, Nat.add_mul_mod_self_left, Nat.mod_eq_of_lt (by omega)]
theorem word_step {l : List Int} {i k acc y : Nat} (hy : y < 2) (hk : k < 64) (hd : valD (l.drop i) = y + 2 * valD (l.drop (i + 1))) (ha : acc = valD (l.drop (i + 1)) % 2 ^ (64 - (k + 1))) :
  y + 2 * acc = valD (l.drop i) % 2 ^ (64 - k) := by
 rw [hd, ha, show 64 - k = (64 - (k + 1)) + 1 by omega, Nat.pow_succ, Nat.mul_comm (2 ^ _) 2, mod_step hy]
def wordRel (w : World) (p : Option Addr) (l : List Int) (cap f : Nat) (a' : Act) (W : World) : Prop :=
 Below w.heap.size w W /\ ∃ k acc : Nat, (∃ u : Nat -> Value, a' = { tmps := #[.slice p l.length cap, .int .i64 (f : Int), u 2, u 3, u 4, .int .u64 (acc : Int), .int .i64 (((f + k : Nat) : Int) - 1), u 7, u 8, u 9, u 10, u 11, u 12, u 13, u 14, u 15, u 16, u 17, u 18, u 19, u 20, u 21, u 22, u 23, u 24, u 25, u 26, u 27, u 28, u 29], defers := [] }) /\ k <= 64 /\ acc = valD (l.drop (f + k)) % 2 ^ (64 - k)
theorem word_w (p : Option Addr) (l : List Int) (cap f : Nat) (w : World) (hi : DigsIn w p l) (hd : Dig l) (hl : l.length <= 1000) (hf : f <= 64) :
  Calls Tryz.prog 124 #[.slice p l.length cap, .int .i64 (f : Int)] w fun e w' => e = .returned (.int .u64 ((valD l / 2 ^ f % 2 ^ 64 : Nat) : Int)) /\ Below w.heap.size w w' := by
 go_enter Tryz.func124, Tryz.ntmps124
 go_wp2
 refine wp_loop (wordRel w p l cap f) (fun a' _ => ((intAt (a'.tmps.getD 6 undef)) + 1).toNat - f) ?_ ?_
 ·unfold wordRel
  refine ⟨Below.refl _ _, 64, 0, ?_, Nat.le_refl _, by simp [Nat.mod_one]⟩
  rw [show ((f + 64 : Nat) : Int) - 1 = (f : Int) + 63 by omega]
  exact frame_ex rfl
 ·rintro a' W ⟨hW, k, acc, ⟨u, rfl⟩, hk, hacc⟩
  have hz := hW.size
  replace hacc := Lib.hid hacc
  cases k with
  | zero =>
   rw [show ((f + 0 : Nat) : Int) - 1 = (f : Int) - 1 by omega]
   have hres := Lib.hid (show ((valD l / 2 ^ f % 2 ^ 64 : Nat) : Int) = (acc : Int) by rw [hacc.out, <- valD_from hd]; rfl)
   go_wp2
   go_ret
   exact ⟨by rw [hres.out]; rfl, hW⟩
  | succ k =>
   obtain ⟨I, hI⟩ : ∃ I, I = f + k := ⟨_, rfl⟩
   rw [show ((f + (k + 1) : Nat) : Int) - 1 = (I : Int) by omega]
   have hge : f <= I := by omega
   have hIl : I <= 200 := by omega
   have hE := Lib.hid hI
   have hacc2 := Lib.hid (show acc = valD (l.drop (I + 1)) % 2 ^ (64 - (k + 1)) by rw [hacc.out, hE.out]; rfl)
   have hab : acc < 9223372036854775808 := by
    rw [hacc2.out]
    exact Nat.lt_of_lt_of_le (Nat.mod_lt _ (Nat.pow_pos (by omega))) (Nat.pow_le_pow_right (n := 2) (by omega) (show 64 - (k + 1) <= 63 by omega))
   clear hI hacc
   by_cases hlt : I < l.length
   ·obtain ⟨y, hy⟩ : ∃ y, l[I]? = some y := ⟨l[I], List.getElem?_eq_getElem hlt⟩
    obtain ⟨g, o, rfl, q⟩ := (hi.below hW).at' _ y hy
    have hs := Lib.hid (valD_drop hy)
    have by01 := hd.at hy
    clear hy
    rcases by01 with rfl | rfl
    ·have hn := Lib.hid (word_step (y := 0) (k := k) (by omega) (by omega) hs.out hacc2.out)
     go_wp2
     refine ⟨?_, by simp [intAt]; omega⟩
     rw [hE.out, show (acc : Int) * 2 = ((0 + 2 * acc : Nat) : Int) by omega]
     unfold wordRel
     exact ⟨hW, k, 0 + 2 * acc, frame_ex rfl, by omega, by rw [hn.out, hE.out]⟩
    ·have hn := Lib.hid (word_step (y := 1) (k := k) (by omega) (by omega) hs.out hacc2.out)
     go_wp2
     refine ⟨?_, by simp [intAt]; omega⟩
     rw [hE.out, show (acc : Int) * 2 + 1 = ((1 + 2 * acc : Nat) : Int) by omega]
     unfold wordRel
     exact ⟨hW, k, 1 + 2 * acc, frame_ex rfl, by omega, by rw [hn.out, hE.out]⟩
   ·have hs := Lib.hid (show valD (l.drop I) = 0 + 2 * valD (l.drop (I + 1)) by rw [List.drop_eq_nil_of_le (by omega), List.drop_eq_nil_of_le (by omega)]; rfl)
    have hn := Lib.hid (word_step (y := 0) (k := k) (by omega) (by omega) hs.out hacc2.out)
    go_wp2
    refine ⟨?_, by simp [intAt]; omega⟩
    rw [hE.out, show (acc : Int) * 2 = ((0 + 2 * acc : Nat) : Int) by omega]
    unfold wordRel
    exact ⟨hW, k, 0 + 2 * acc, frame_ex rfl, by omega, by rw [hn.out, hE.out]⟩
theorem c_word (v : Value) (n f : Nat) (w : World) (h : Bits w v n) (hf : f <= 64) :
  Calls Tryz.prog 124 #[v, .int .i64 (f : Int)] w fun e w' => e = .returned (.int .u64 ((n / 2 ^ f % 2 ^ 64 : Nat) : Int)) /\ Below w.heap.size w w' := by
 obtain ⟨p, l, cap, rfl, _, hl, _, hi, hd, _, rfl⟩ := h
 exact word_w p l cap f w hi hd hl hf
def NumIs (w : World) (v : Value) (z : Int) : Prop := ∃ sz, v = .agg #[.bool (decide (z < 0)), sz] /\ Bits w sz z.natAbs
theorem NumIs.below {w w' : World} {v : Value} {z : Int} (h : NumIs w v z) (hb : Below w.heap.size w w') : NumIs w' v z := by
 obtain ⟨sz, h1, h2⟩ := h
 exact ⟨sz, h1, h2.below hb⟩
theorem NumIs.rex {L : List Nat} {w w' : World} {v : Value} {z : Int} (h : NumIs w v z) (hr : Rex L w w') (hL : L = []) : NumIs w' v z := by subst hL; exact h.below hr.below
theorem NumIs.drew {w : World} {v : Value} {z : Int} (h : NumIs w v z) : NumIs w.drew v z := by
 obtain ⟨sz, h1, h2⟩ := h
 exact ⟨sz, h1, h2.drew⟩
theorem ty_setCell {w : World} {a : Addr} {cur : Array Value} {T : TypeId} {fz : Nat × Nat} (h : w.heap[a.block]? = some (.cells cur T fz)) (v : Value) : ∃ cur' fz', (w.setCell a v).heap[a.block]? = some (.cells cur' T fz') := by
 simp only [World.setCell, Array.getElem?_modify]
 rw [if_pos trivial, h]
 exact ⟨_, _, rfl⟩
theorem DigsIn.set {w : World} {p : Option Addr} {l : List Int} (h : DigsIn w p l) {a : Addr} {u : Value} (ha : w.cell? a = some u) (hu : ∀ x, u ≠ .int .i64 x) (v : Value) : DigsIn (w.setCell a v) p l := ⟨fun i x hx => by
 obtain ⟨b, o, e, hc⟩ := h.at' i x hx
 refine ⟨b, o, e, ?_⟩
 rw [World.cell?_setCell_other]
 ·exact hc
 ·rintro rfl
  rw [hc] at ha
  cases ha
  exact hu x rfl, fun b e => by
 obtain ⟨cur, fz, hh⟩ := h.typ b e
 by_cases hb : b.block = a.block
 ·rw [hb] at hh ⊢
  exact ty_setCell hh v
 ·exact ⟨cur, fz, (heap_setCell_other w a b.block v hb).trans hh⟩⟩
theorem Bits.set {w : World} {v : Value} {n : Nat} (h : Bits w v n) {a : Addr} {u : Value} (ha : w.cell? a = some u) (hu : ∀ x, u ≠ .int .i64 x) (v1 : Value) : Bits (w.setCell a v1) v n := by
 obtain ⟨p, l, cap, h1, h2, h3, h4, h5, h6⟩ := h
 exact ⟨p, l, cap, h1, h2, h3, h4, h5.set ha hu v1, h6⟩
theorem Bits.store {w : World} {v : Value} {n g c d : Nat} {b : Bool} {p : Option Addr} {T : TypeId} (h : Bits w v n) (hb : Blk w g #[.bool b, .slice p c d] T) (v0 v1 : Value) :
  Bits ((w.setCell ⟨g, 0, none⟩ v0).setCell ⟨g, 1, none⟩ v1) v n := by
 refine (h.set (hb.cell 0) (by intro x e; cases e) v0).set ((hb.set 0 v0).cell 1) (u := .slice p c d) ?_ v1
 intro x e
 cases e
theorem c_refInt (n : Int) (w : World) (h1 : -9223372036854775808 <= n) (h2 : n <= 9223372036854775807) :
  Calls Tryz.prog 83 #[.int .i64 n] w fun e w' => ∃ v, e = .returned v /\ NumIs w' v n /\ Below w.heap.size w w' := by
 by_cases hneg : n < 0
 ·obtain ⟨m, rfl⟩ : ∃ m : Nat, n = -(m : Int) := ⟨n.natAbs, by omega⟩
  obtain ⟨s, hs⟩ : ∃ s : Nat, s = 18446744073709551616 - m := ⟨_, rfl⟩
  have hs1 : ((s : Nat) : Int) = 18446744073709551616 - (m : Int) := by omega
  have cS := fun W => c_Size s W (by omega)
  have hw := Lib.hid (show IntKind.u64.wrap (-(m : Int)) = ((s : Nat) : Int) by simp [IntKind.wrap, IntKind.signed, IntKind.bits]; omega)
  have hm0 : 0 < m := by omega
  replace hs1 := Lib.hid hs1
  clear hs
  go_enter Tryz.func83, Tryz.ntmps83
  go_wp2_with fail
  rw [hw.out]
  go_wp2_with fail
  refine (cS _).mono ?_
  rintro e w1 ⟨v1, rfl, hq1, hb1⟩
  have z2 := hb1.size
  try simp at z2
  refine haveB w w1 (Bc w.heap.size #[.bool false, .slice none 0 0] 140 <| Bz) ?_
  rintro hW z3 ⟨⟨b1, yb1, k1, f1⟩, -⟩
  obtain ⟨p1, l1, k1', rfl, _, hl1⟩ := bits_len hq1
  replace hq1 := Lib.hid hq1
  go_wp2_with fail
  refine (c_power 64 _ (by omega)).mono ?_
  rintro e w4 ⟨v2, rfl, hq2, hb4⟩
  have z5 := hb4.size
  try simp at z5
  clear k1 f1
  refine haveB w w4 (Bc w.heap.size #[.bool false, .slice none 0 0] 140 <| Bz) ?_
  clear b1 hW
  rintro hW z6 ⟨⟨b1, yb1, k1, f1⟩, -⟩
  replace hq2 := Lib.hid hq2
  replace hq1 := Lib.hid (hq1.out.below hb4)
  have cm := Lib.hid (c_minus _ _ (2 ^ 64) s w4 hq2.out hq1.out (pow_lt2 64 900 (by omega)) (by have := hs1.out; omega))
  go_wp2_with fail
  refine (cm.out).mono ?_
  rintro e w7 ⟨v3, rfl, hq3, hb7⟩
  have z8 := hb7.size
  try simp at z8
  clear k1 f1
  refine haveB w w7 (Bc w.heap.size #[.bool false, .slice none 0 0] 140 <| Bz) ?_
  clear b1 hW
  rintro hW z9 ⟨⟨b1, yb1, k1, f1⟩, -⟩
  obtain ⟨p3, l3, k3', rfl, _, hl3⟩ := bits_len hq3
  rw [show 2 ^ 64 - s = m by have := hs1.out; omega] at hq3
  replace hq3 := Lib.hid hq3
  go_wp2_with fail
  refine (c_refmade true _ m _ hq3.out).mono ?_
  rintro e w10 ⟨rfl, hb10⟩
  have z11 := hb10.size
  try simp at z11
  clear k1 f1
  refine haveB w w10 (Bc w.heap.size #[.bool false, .slice none 0 0] 140 <| Bz) ?_
  clear b1 hW
  rintro hW z12 ⟨⟨b1, yb1, k1, f1⟩, -⟩
  replace hq3 := Lib.hid (hq3.out.below hb10)
  go_wp2
  refine bodyPost_ret (v := .agg #[.bool (true && decide (0 < m)), .slice p3 l3.length k3']) (by simp [results, Tryz.results83, go_sem, k1, f1, hm0]) rfl ⟨_, rfl, ⟨.slice p3 l3.length k3', by simp [hm0], ?_⟩, by exact belowAny⟩
  have hS := hq3.out.store b1 (.bool (true && decide (0 < m))) (.slice p3 l3.length k3')
  simpa [hm0] using hS
 ·obtain ⟨m, rfl⟩ : ∃ m : Nat, n = (m : Int) := ⟨n.toNat, by omega⟩
  have cS := fun W => c_Size m W (by omega)
  go_enter Tryz.func83, Tryz.ntmps83
  go_wp2_with fail
  refine (cS _).mono ?_
  rintro e w1 ⟨v1, rfl, hq1, hb1⟩
  have z2 := hb1.size
  try simp at z2
  refine haveB w w1 (Bc w.heap.size #[.bool false, .slice none 0 0] 140 <| Bz) ?_
  rintro hW z3 ⟨⟨b1, yb1, k1, f1⟩, -⟩
  obtain ⟨p1, l1, k1', rfl, _, hl1⟩ := bits_len hq1
  replace hq1 := Lib.hid hq1
  go_wp2_with fail
  refine (c_refmade false _ m _ hq1.out).mono ?_
  rintro e w4 ⟨rfl, hb4⟩
  have z5 := hb4.size
  try simp at z5
  clear k1 f1
  refine haveB w w4 (Bc w.heap.size #[.bool false, .slice none 0 0] 140 <| Bz) ?_
  clear b1 hW
  rintro hW z6 ⟨⟨b1, yb1, k1, f1⟩, -⟩
  replace hq1 := Lib.hid (hq1.out.below hb4)
  go_wp2
  refine bodyPost_ret (v := .agg #[.bool (false && decide (0 < m)), .slice p1 l1.length k1']) (by simp [results, Tryz.results83, go_sem, k1, f1]) rfl ⟨_, rfl, ⟨.slice p1 l1.length k1', by simp, ?_⟩, by exact belowAny⟩
  have hS := hq1.out.store b1 (.bool (false && decide (0 < m))) (.slice p1 l1.length k1')
  simpa using hS
attribute [local simp] Oper.looksAt Op.operands Call.operands envOf Det GDet
def BS (n : Nat) : Spec := fun v w => Bits w v n
theorem BS.closed (n : Nat) : Closed [] (BS n) := fun _ _ _ hr h => Bits.rex h hr rfl
theorem BS.below {n : Nat} {v : Value} {w w' : World} (h : BS n v w) (hr : Below w.heap.size w w') : BS n v w' := Bits.below h hr
def NS (b : Bool) (n : Nat) : Spec := fun v w => ∃ sz, v = .agg #[.bool (b && decide (0 < n)), sz] /\ BS n sz w
theorem NS.closed (b : Bool) (n : Nat) : Closed [] (NS b n) := fun _ _ _ hr ⟨sz, e, h⟩ => ⟨sz, e, Bits.rex h hr rfl⟩
theorem mul_w (sa sb : Bool) (pa pb : Option Addr) (la ca lb cb m n : Nat) (w : World) (ha : Bits w (.slice pa la ca) m) (hb : Bits w (.slice pb lb cb) n) (hm : m < 2 ^ 400) (hn : n < 2 ^ 400) :
  Calls Tryz.prog 121 #[.agg #[.bool sa, .slice pa la ca], .agg #[.bool sb, .slice pb lb cb]] w fun e w' => ∃ sz, e = .returned (.agg #[.bool ((sa != sb) && decide (0 < m * n)), sz]) /\ Bits w' sz (m * n) /\ Below w.heap.size w w' := by
 go_enter Tryz.func121, Tryz.ntmps121
 go_upto_region 1 with (fail)
 refine wp_facts (fun W' => Below w.heap.size w W' /\ Blk W' w.heap.size #[.bool sa, .slice pa la ca] 140 /\ Blk W' (w.heap.size + 1) #[.bool sb, .slice pb lb cb] 140 /\ Blk W' (w.heap.size + 2) #[.bool false, .slice none 0 0] 140 /\ Bits W' (.slice pa la ca) m /\ Bits W' (.slice pb lb cb) n) ⟨by exact belowAny, by exact blkAny, by exact blkAny, by exact blkAny, by exact ha.below belowAny, by exact hb.below belowAny⟩ ?_
 rintro W1 ⟨hW, b1, b2, b3, b4, b5⟩
 have z2 := hW.size
 have z3 := b1.lt
 have z4 := b2.lt
 have z5 := b3.lt
 refine wp_region_nd 11 16 [] (fun W' => Rex [] W1 W' /\ Blk W' w.heap.size #[.bool sa, .slice pa la ca] 140 /\ Blk W' (w.heap.size + 1) #[.bool sb, .slice pb lb cb] 140 /\ Blk W' (w.heap.size + 2) #[.bool false, .slice none 0 0] 140 /\ Bits W' (.slice pa la ca) m /\ Bits W' (.slice pb lb cb) n) mixed (by kernel_rfl) rfl ⟨(Rex.refl _ _).drew, b1, b2, b3, b4.drew, b5.drew⟩ (fun w w' ⟨h0, h1, h2, h3, h4, h5⟩ hr => ⟨h0.trans hr, h1.rex hr (by simp <;> omega), h2.rex hr (by simp <;> omega), h3.rex hr (by simp <;> omega), h4.rex hr (by simp <;> omega), h5.rex hr (by simp <;> omega)⟩) (fun c a d v w h => by cases d <;> exact h) ?_
 iterate 9
  apply nd_det (hg := rfl) (hal := rfl)
  ·intro a W' hC hE
   obtain ⟨_, k1, k2, k3, k4, k5⟩ := hC
   have k1 := k1.cell
   have k2 := k2.cell
   first
    | (simp at hE; simp [go_sem, Act.eval, IntWalk.i64_left, hE, k1, k2, k3, k4, k5]; try rfl)
    | (clear hE; simp [go_sem, Act.eval, IntWalk.i64_left, k1, k2, k3, k4, k5]; try rfl)
 apply nd_call (BS (m * n)) (hg := rfl) (hal := rfl)
 ·exact BS.closed _
 ·intro a W' hC hE
  refine ⟨_, _, ?_, (c_times (.slice pa la ca) (.slice pb lb cb) m n W' hC.2.2.2.2.1 hC.2.2.2.2.2 hm hn).mono ?_⟩
  ·simp at hE
   simp [go_sem, Act.eval, hE]
   try rfl
  ·rintro e w' ⟨v, rfl, hB, hR⟩
   exact ⟨_, rfl, hR, hB⟩
 apply nd_call (NS (sa != sb) (m * n)) (hg := rfl) (hal := rfl)
 ·exact NS.closed _ _
 ·intro a W' hC hE
  simp at hE
  refine ⟨_, _, ?_, (c_refmade (sa != sb) _ (m * n) W' hE.2).mono ?_⟩
  ·simp [go_sem, Act.eval, hE.1]
   try (cases sa <;> cases sb <;> rfl)
  ·rintro e w' ⟨rfl, hR⟩
   have hb := BS.below hE.2 hR
   exact ⟨_, rfl, hR, _, rfl, hb⟩
 rintro W2 ⟨hR, d1, d2, d3, d4, d5⟩
 simp only [ndFinR, Det, forall_eq]
 intros
 repeat (rename GDet _ _ _ _ => hgd; clear hgd)
 simp only [Act.put, List.setIfInBounds_toArray, List.set_cons_zero, List.set_cons_succ, List.drop_succ_cons, List.drop_zero]
 clear b1 b2 b3 b4 b5
 have b1 := d1
 have b2 := d2
 have b3 := d3
 clear d1 d2 d3 d4 d5
 obtain ⟨sz, rfl, hq⟩ := ‹NS _ _ _ _›
 obtain ⟨p1, l1, k1', rfl, _, hl1⟩ := bits_len hq
 replace hq := Lib.hid hq
 replace hW := hW.trans (hR.of_priv hW.size)
 clear hR
 have k1 := b1.cell
 have f1 := b1.frozen
 have k2 := b2.cell
 have f2 := b2.frozen
 have k3 := b3.cell
 have f3 := b3.frozen
 have y_1 := b1.lt
 have y_2 := b2.lt
 have y_3 := b3.lt
 obtain ⟨B, hB⟩ : ∃ B, B = ((sa != sb) && decide (0 < m * n)) := ⟨_, rfl⟩
 rw [<- hB]
 replace hB := Lib.hid hB
 go_wp2
 refine bodyPost_ret (v := .agg #[.bool B, .slice p1 l1.length k1']) (by simp [results, Tryz.results121, go_sem, k1, f1, k2, f2, k3, f3, y_1, y_2, y_3]) rfl ⟨_, by rw [hB.out], ?_, by exact belowAny⟩
 have hS := hq.out.store b3 (.bool B) (.slice p1 l1.length k1')
 simpa using hS
theorem num_shape {w : World} {v : Value} {z : Int} (h : NumIs w v z) : ∃ p l c, v = .agg #[.bool (decide (z < 0)), .slice p l c] /\ Bits w (.slice p l c) z.natAbs := by
 obtain ⟨sz, rfl, h⟩ := h
 obtain ⟨p, l, cap, rfl, _⟩ := bits_len h
 exact ⟨_, _, _, rfl, h⟩
theorem c_refMul (va vb : Value) (x y : Int) (w : World) (ha : NumIs w va x) (hb : NumIs w vb y) (hx : x.natAbs < 2 ^ 400) (hy : y.natAbs < 2 ^ 400) :
  Calls Tryz.prog 121 #[va, vb] w fun e w' => ∃ v, e = .returned v /\ NumIs w' v (x * y) /\ Below w.heap.size w w' := by
 obtain ⟨pa, la, ca, rfl, ha'⟩ := num_shape ha
 obtain ⟨pb, lb, cb, rfl, hb'⟩ := num_shape hb
 refine (mul_w _ _ pa pb la ca lb cb _ _ w ha' hb' hx hy).mono ?_
 rintro e w' ⟨sz, rfl, h, hB⟩
 rw [<- Int.natAbs_mul] at h
 refine ⟨_, rfl, ⟨sz, ?_, h⟩, hB⟩
 congr 3
 rw [<- Int.natAbs_mul]
 rcases Int.lt_trichotomy x 0 with h1 | rfl | h1
 ·rcases Int.lt_trichotomy y 0 with h2 | rfl | h2
  ·have := Int.mul_pos_of_neg_of_neg h1 h2
   simp [h1, h2]; omega
  ·simp
  ·have := Int.mul_neg_of_neg_of_pos h1 h2
   have h3 : ¬ y < 0 := by omega
   have h6 : 0 < (x * y).natAbs := by omega
   rw [decide_eq_true h1, decide_eq_false h3, decide_eq_true h6, decide_eq_true this]; rfl
 ·simp
 ·have h3 : ¬ x < 0 := by omega
  rcases Int.lt_trichotomy y 0 with h2 | rfl | h2
  ·have := Int.mul_neg_of_pos_of_neg h1 h2
   have h6 : 0 < (x * y).natAbs := by omega
   rw [decide_eq_false h3, decide_eq_true h2, decide_eq_true h6, decide_eq_true this]; rfl
  ·simp
  ·have := Int.mul_pos h1 h2
   have h4 : ¬ y < 0 := by omega
   simp [h3, h4]; omega
theorem fits_neg (pa : Option Addr) (la ca m k : Nat) (w : World) (ha : Bits w (.slice pa la ca) m) (hm9 : m < 2 ^ 900) (hk : k <= 890) (hk9 : 2 ^ k < 2 ^ 900) (e1 : ((k + 1 : Nat) : Int) - 1 = (k : Int)) (e2 : wrap64 (k : Int) = k) :
  Calls Tryz.prog 123 #[.agg #[.bool true, .slice pa la ca], .int .i64 ((k + 1 : Nat) : Int)] w fun e w' => e = .returned (.bool (!decide (2 ^ k < m))) /\ Below w.heap.size w w' := by
 have H_e1 := Lib.hid e1
 clear e1
 have H_e2 := Lib.hid e2
 clear e2
 go_enter Tryz.func123, Tryz.ntmps123
 go_upto_region 2 with (fail)
 refine wp_facts (fun W' => Below w.heap.size w W' /\ Blk W' w.heap.size #[.bool true, .slice pa la ca] 140 /\ Bits W' (.slice pa la ca) m) ⟨by exact belowAny, by exact blkAny, by exact ha.below belowAny⟩ ?_
 rintro W1 ⟨hW, b1, b2⟩
 have z2 := hW.size
 have z3 := b1.lt
 have e1 := H_e1.out
 have e2 := H_e2.out
 refine wp_region_nd 7 20 [] (fun W' => Rex [] W1 W' /\ Blk W' w.heap.size #[.bool true, .slice pa la ca] 140 /\ Bits W' (.slice pa la ca) m) mixed (by kernel_rfl) rfl ⟨(Rex.refl _ _).drew, b1, b2.drew⟩ (fun w w' ⟨h0, h1, h2⟩ hr => ⟨h0.trans hr, h1.rex hr (by simp <;> omega), h2.rex hr (by simp <;> omega)⟩) (fun c a d v w h => by cases d <;> exact h) ?_
 iterate 2
  apply nd_det (hg := rfl) (hal := rfl)
  ·intro a W' hC hE
   obtain ⟨_, k1, k2⟩ := hC
   have k1 := k1.cell
   first
    | (simp at hE; simp [go_sem, Act.eval, IntWalk.i64_left, hE, k1, k2, e1, e2]; try rfl)
    | (clear hE; simp [go_sem, Act.eval, IntWalk.i64_left, k1, k2, e1, e2]; try rfl)
 apply nd_call (BS (2 ^ k)) (hg := rfl) (hal := rfl)
 ·exact BS.closed _
 ·intro a W' hC hE
  refine ⟨_, _, ?_, (c_power k W' (by omega)).mono ?_⟩
  ·simp at hE
   simp [go_sem, Act.eval, hE, e2]
   try rfl
  ·rintro e w' ⟨v, rfl, hB, hR⟩
   exact ⟨_, rfl, hR, hB⟩
 iterate 2
  apply nd_det (hg := rfl) (hal := rfl)
  ·intro a W' hC hE
   obtain ⟨_, k1, k2⟩ := hC
   have k1 := k1.cell
   first
    | (simp at hE; simp [go_sem, Act.eval, IntWalk.i64_left, hE, k1, k2, e1, e2]; try rfl)
    | (clear hE; simp [go_sem, Act.eval, IntWalk.i64_left, k1, k2, e1, e2]; try rfl)
 apply nd_call (Det (.bool (decide (2 ^ k < m)))) (hg := rfl) (hal := rfl)
 ·exact closed_det _ _
 ·intro a W' hC hE
  simp at hE
  refine ⟨_, _, ?_, (c_less _ (.slice pa la ca) (2 ^ k) m W' hE.1 hC.2.2 hk9 hm9).mono ?_⟩
  ·simp [go_sem, Act.eval, hE.2]
   try rfl
  ·rintro e w' ⟨rfl, hR⟩
   exact ⟨_, rfl, hR, rfl⟩
 iterate 1
  apply nd_det (hg := rfl) (hal := rfl)
  ·intro a W' hC hE
   obtain ⟨_, k1, k2⟩ := hC
   have k1 := k1.cell
   first
    | (simp at hE; simp [go_sem, Act.eval, IntWalk.i64_left, hE, k1, k2, e1, e2]; try rfl)
    | (clear hE; simp [go_sem, Act.eval, IntWalk.i64_left, k1, k2, e1, e2]; try rfl)
 rintro W2 ⟨hR, d1, d2⟩
 simp only [ndFinR, Det, forall_eq]
 intros
 repeat (rename GDet _ _ _ _ => hgd; clear hgd)
 simp only [Act.put, List.setIfInBounds_toArray, List.set_cons_zero, List.set_cons_succ, List.drop_succ_cons, List.drop_zero]
 clear b1 b2 e1 e2 d2
 have b1 := d1
 clear d1
 replace hW := hW.trans (hR.of_priv hW.size)
 clear hR
 have k1 := b1.cell
 have f1 := b1.frozen
 go_wp2
 go_ret
 exact ⟨rfl, hW⟩
theorem fits_pos (pa : Option Addr) (la ca m k : Nat) (w : World) (ha : Bits w (.slice pa la ca) m) (hm9 : m < 2 ^ 900) (hk : k <= 890) (hk9 : 2 ^ k < 2 ^ 900) (e1 : ((k + 1 : Nat) : Int) - 1 = (k : Int)) (e2 : wrap64 (k : Int) = k) :
  Calls Tryz.prog 123 #[.agg #[.bool false, .slice pa la ca], .int .i64 ((k + 1 : Nat) : Int)] w fun e w' => e = .returned (.bool (decide (m < 2 ^ k))) /\ Below w.heap.size w w' := by
 have H_e1 := Lib.hid e1
 clear e1
 have H_e2 := Lib.hid e2
 clear e2
 go_enter Tryz.func123, Tryz.ntmps123
 go_upto_region 3 with (fail)
 refine wp_facts (fun W' => Below w.heap.size w W' /\ Blk W' w.heap.size #[.bool false, .slice pa la ca] 140 /\ Bits W' (.slice pa la ca) m) ⟨by exact belowAny, by exact blkAny, by exact ha.below belowAny⟩ ?_
 rintro W1 ⟨hW, b1, b2⟩
 have z2 := hW.size
 have z3 := b1.lt
 have e1 := H_e1.out
 have e2 := H_e2.out
 refine wp_region_nd 6 20 [] (fun W' => Rex [] W1 W' /\ Blk W' w.heap.size #[.bool false, .slice pa la ca] 140 /\ Bits W' (.slice pa la ca) m) mixed (by kernel_rfl) rfl ⟨(Rex.refl _ _).drew, b1, b2.drew⟩ (fun w w' ⟨h0, h1, h2⟩ hr => ⟨h0.trans hr, h1.rex hr (by simp <;> omega), h2.rex hr (by simp <;> omega)⟩) (fun c a d v w h => by cases d <;> exact h) ?_
 iterate 4
  apply nd_det (hg := rfl) (hal := rfl)
  ·intro a W' hC hE
   obtain ⟨_, k1, k2⟩ := hC
   have k1 := k1.cell
   first
    | (simp at hE; simp [go_sem, Act.eval, IntWalk.i64_left, hE, k1, k2, e1, e2]; try rfl)
    | (clear hE; simp [go_sem, Act.eval, IntWalk.i64_left, k1, k2, e1, e2]; try rfl)
 apply nd_call (BS (2 ^ k)) (hg := rfl) (hal := rfl)
 ·exact BS.closed _
 ·intro a W' hC hE
  refine ⟨_, _, ?_, (c_power k W' (by omega)).mono ?_⟩
  ·simp at hE
   simp [go_sem, Act.eval, hE, e2]
   try rfl
  ·rintro e w' ⟨v, rfl, hB, hR⟩
   exact ⟨_, rfl, hR, hB⟩
 apply nd_call (Det (.bool (decide (m < 2 ^ k)))) (hg := rfl) (hal := rfl)
 ·exact closed_det _ _
 ·intro a W' hC hE
  simp at hE
  refine ⟨_, _, ?_, (c_less (.slice pa la ca) _ m (2 ^ k) W' hC.2.2 hE.2 hm9 hk9).mono ?_⟩
  ·simp [go_sem, Act.eval, hE.1]
   try rfl
  ·rintro e w' ⟨rfl, hR⟩
   exact ⟨_, rfl, hR, rfl⟩
 rintro W2 ⟨hR, d1, d2⟩
 simp only [ndFinR, Det, forall_eq]
 intros
 repeat (rename GDet _ _ _ _ => hgd; clear hgd)
 simp only [Act.put, List.setIfInBounds_toArray, List.set_cons_zero, List.set_cons_succ, List.drop_succ_cons, List.drop_zero]
 clear b1 b2 e1 e2 d2
 have b1 := d1
 clear d1
 replace hW := hW.trans (hR.of_priv hW.size)
 clear hR
 have k1 := b1.cell
 have f1 := b1.frozen
 go_wp2
 go_ret
 exact ⟨rfl, hW⟩
theorem c_refFits (va : Value) (z : Int) (k : Nat) (w : World) (h : NumIs w va z) (hz : z.natAbs < 2 ^ 900) (hk : k <= 890) :
  Calls Tryz.prog 123 #[va, .int .i64 ((k + 1 : Nat) : Int)] w fun e w' => e = .returned (.bool (decide (-((2 ^ k : Nat) : Int) <= z /\ z < ((2 ^ k : Nat) : Int)))) /\ Below w.heap.size w w' := by
 obtain ⟨pa, la, ca, rfl, h'⟩ := num_shape h
 have hk9 : 2 ^ k < 2 ^ 900 := pow_lt2 k 900 (by omega)
 have e1 : ((k + 1 : Nat) : Int) - 1 = (k : Int) := by omega
 have e2 : wrap64 (k : Int) = k := by simp [wrap64]; omega
 by_cases hn : z < 0
 ·rw [decide_eq_true hn]
  refine (fits_neg pa la ca z.natAbs k w h' hz hk hk9 e1 e2).mono ?_
  rintro e w' ⟨rfl, hB⟩
  refine ⟨?_, hB⟩
  congr 2
  generalize 2 ^ k = P at *
  rcases Nat.lt_or_ge P z.natAbs with h3 | h3
  ·rw [decide_eq_true h3, decide_eq_false (by omega)]; rfl
  ·rw [decide_eq_false (by omega), decide_eq_true (by omega)]; rfl
 ·rw [decide_eq_false hn]
  refine (fits_pos pa la ca z.natAbs k w h' hz hk hk9 e1 e2).mono ?_
  rintro e w' ⟨rfl, hB⟩
  refine ⟨?_, hB⟩
  congr 2
  generalize 2 ^ k = P at *
  exact decide_eq_decide.2 ⟨fun h4 => by omega, fun h4 => by omega⟩
end Go.Proofs.YtbanjolokkghdaaGreatDoor
