/- Parts of the proof that follows: The references' numbers: minus. | The references' numbers: plus, minus told; less. | The references' numbers: times. | Rows of a call's own, kept by steps that make memory. No condition. | The document's bytes of a number: how many they are. No condition. -/
import Derived.Test.YtbanjolokkghdaaGreatDoorWz13
set_option linter.unusedSimpArgs false
set_option linter.unusedVariables false
namespace Go.Proofs.YtbanjolokkghdaaGreatDoor
open Go.RowKit
def mnsRel (w : World) (p q : Option Addr) (a b : List Int) (ca cb : Nat) (a' : Act) (W : World) : Prop :=
  Below w.heap.size w W ∧ ∃ (l : List Int) (c : Int) (v : Value), (∃ u : Nat → Value, a' = { tmps := #[.slice p a.length ca, .slice q b.length cb, u 2, u 3, u 4, v, .int .i64 c, .int .i64 (l.length : Int), u 8, u 9, u 10, u 11, u 12, u 13, u 14, u 15, u 16, u 17, u 18, u 19, u 20, u 21, u 22, u 23, u 24, u 25, u 26, u 27, u 28, u 29, u 30, u 31, u 32, u 33, u 34, u 35, u 36, u 37, u 38, u 39, u 40], defers := [] }) ∧
    W.ownsRow w.heap.size 3 1 v l.length (l.map (Value.int .i64)) ∧ Dig l ∧ (0 ≤ c ∧ c ≤ 1) ∧ valD l + valD (b.take l.length) = valD (a.take l.length) + 2 ^ l.length * c.toNat ∧ l.length ≤ a.length
set_option maxRecDepth 100000 in
set_option maxHeartbeats 20000000 in
theorem minus_w (p q : Option Addr) (a b : List Int) (ca cb : Nat) (w : World) (ha : DigsIn w p a) (hb : DigsIn w q b) (hda : Dig a) (hdb : Dig b) (hla : a.length ≤ 950) (hlb : b.length ≤ a.length) (hge : valD b ≤ valD a) :
    Calls Tryz.prog 119 #[.slice p a.length ca, .slice q b.length cb] w fun e w' => ∃ v, e = .returned v ∧ Bits w' v (valD a - valD b) ∧ Below w.heap.size w w' := by
  obtain ⟨i0, hi, hz0, hz1, hz2⟩ := info_parts Tryz.infoI
  go_enter Tryz.func119, Tryz.ntmps119
  go_wp2
  refine wp_loop (mnsRel w p q a b ca cb) (fun a' _ => 2000 - (intAt (a'.tmps.getD 7 undef)).toNat) ?_ ?_
  · unfold mnsRel
    exact ⟨Below.refl _ _, [], 0, _, frame_ex rfl, World.ownsRow_nil _ _ _ _, Dig.nil, by omega, by simp [valD], by simp⟩
  · rintro a' W ⟨hW, l, c, v, ⟨u, rfl⟩, hown, hd, hc, hv, hM⟩
    have hz := hW.size
    replace hv := Lib.hid hv
    have hl9 : l.length ≤ 950 := by omega
    by_cases hia : l.length < a.length
    · obtain ⟨x, hx⟩ : ∃ x, a[l.length]? = some x := ⟨a[l.length], List.getElem?_eq_getElem hia⟩
      obtain ⟨ga, oa, rfl, qa⟩ := (ha.below hW).at' _ x hx
      have bx : 0 ≤ x ∧ x ≤ 1 := by have := hda.at hx; omega
      have ta := Lib.hid (valD_take hx)
      clear hx
      by_cases hib : l.length < b.length
      · obtain ⟨y, hy⟩ : ∃ y, b[l.length]? = some y := ⟨b[l.length], List.getElem?_eq_getElem hib⟩
        obtain ⟨gb, ob, rfl, qb⟩ := (hb.below hW).at' _ y hy
        have bq : 0 ≤ y ∧ y ≤ 1 := by have := hdb.at hy; omega
        have tb := Lib.hid (valD_take hy)
        clear hy
        by_cases hlow : x - c - y < 0
        ·
          go_wp2_with (at_builtin; refine wpList_append_own _ rfl (.tmp 35) (.tmp 37) 132 rfl w.heap.size 3 i0 (.int .i64 0) 1 8 (by kernel_rfl) hi hz0 hz1 hz2 rfl (by decide) _ _ _ rfl (hown.alloc _) ⟨W.heap.size, 0, none⟩ 1 1 [.int .i64 (x - c - y + 2)] rfl rfl (cell_one_new _ _ _) (by simp [Value.oneCell']) (by simp [maxLen]; omega) (by omega) (by simp; omega) ?_)
          intro v' w1 hown' hgr _
          have hB := Lib.hid (below_append hW hz hown hgr)
          replace hown' := Lib.hid hown'
          clear hgr hown
          go_wp2
          refine ⟨?_, by simp [intAt]; omega⟩
          have ee : ((l.length : Int) + 1) = (((l ++ [x - c - y + 2]).length : Nat) : Int) := by simp
          rw [ee]
          unfold mnsRel
          refine ⟨hB.out, l ++ [x - c - y + 2], 1, v', frame_ex rfl, by simpa using hown'.out, hd.snoc (by omega), by omega, ?_, by simp; omega⟩
          have := hv.out
          have e1 : (x - c - y + 2).toNat + c.toNat + y.toNat = x.toNat + 2 * (1 : Int).toNat := by omega
          obtain ⟨Pw, hPw⟩ : ∃ Pw, Pw = 2 ^ l.length := ⟨_, rfl⟩
          rw [valD_snoc, List.length_append, List.length_singleton, Nat.pow_succ, ta.out, tb.out]
          rw [← hPw] at this ⊢
          have e2 : Pw * (x - c - y + 2).toNat + Pw * c.toNat + Pw * y.toNat = Pw * x.toNat + Pw * (2 * (1 : Int).toNat) := by rw [← Nat.mul_add, ← Nat.mul_add, e1, Nat.mul_add]
          have e3 : Pw * 2 * (1 : Int).toNat = Pw * (2 * (1 : Int).toNat) := Nat.mul_assoc _ _ _
          omega
        ·
          go_wp2_with (at_builtin; refine wpList_append_own _ rfl (.tmp 35) (.tmp 37) 132 rfl w.heap.size 3 i0 (.int .i64 0) 1 8 (by kernel_rfl) hi hz0 hz1 hz2 rfl (by decide) _ _ _ rfl (hown.alloc _) ⟨W.heap.size, 0, none⟩ 1 1 [.int .i64 (x - c - y)] rfl rfl (cell_one_new _ _ _) (by simp [Value.oneCell']) (by simp [maxLen]; omega) (by omega) (by simp; omega) ?_)
          intro v' w1 hown' hgr _
          have hB := Lib.hid (below_append hW hz hown hgr)
          replace hown' := Lib.hid hown'
          clear hgr hown
          go_wp2
          refine ⟨?_, by simp [intAt]; omega⟩
          have ee : ((l.length : Int) + 1) = (((l ++ [x - c - y]).length : Nat) : Int) := by simp
          rw [ee]
          unfold mnsRel
          refine ⟨hB.out, l ++ [x - c - y], 0, v', frame_ex rfl, by simpa using hown'.out, hd.snoc (by omega), by omega, ?_, by simp; omega⟩
          have := hv.out
          have e1 : (x - c - y).toNat + c.toNat + y.toNat = x.toNat + 2 * (0 : Int).toNat := by omega
          obtain ⟨Pw, hPw⟩ : ∃ Pw, Pw = 2 ^ l.length := ⟨_, rfl⟩
          rw [valD_snoc, List.length_append, List.length_singleton, Nat.pow_succ, ta.out, tb.out]
          rw [← hPw] at this ⊢
          have e2 : Pw * (x - c - y).toNat + Pw * c.toNat + Pw * y.toNat = Pw * x.toNat + Pw * (2 * (0 : Int).toNat) := by rw [← Nat.mul_add, ← Nat.mul_add, e1, Nat.mul_add]
          have e3 : Pw * 2 * (0 : Int).toNat = Pw * (2 * (0 : Int).toNat) := Nat.mul_assoc _ _ _
          omega
      · have tb := Lib.hid (show valD (b.take (l.length + 1)) = valD (b.take l.length) by rw [valD_all b (by omega), valD_all b (by omega)])
        by_cases hlow : x - c < 0
        ·
          go_wp2_with (at_builtin; refine wpList_append_own _ rfl (.tmp 35) (.tmp 37) 132 rfl w.heap.size 3 i0 (.int .i64 0) 1 8 (by kernel_rfl) hi hz0 hz1 hz2 rfl (by decide) _ _ _ rfl (hown.alloc _) ⟨W.heap.size, 0, none⟩ 1 1 [.int .i64 (x - c + 2)] rfl rfl (cell_one_new _ _ _) (by simp [Value.oneCell']) (by simp [maxLen]; omega) (by omega) (by simp; omega) ?_)
          intro v' w1 hown' hgr _
          have hB := Lib.hid (below_append hW hz hown hgr)
          replace hown' := Lib.hid hown'
          clear hgr hown
          go_wp2
          refine ⟨?_, by simp [intAt]; omega⟩
          have ee : ((l.length : Int) + 1) = (((l ++ [x - c + 2]).length : Nat) : Int) := by simp
          rw [ee]
          unfold mnsRel
          refine ⟨hB.out, l ++ [x - c + 2], 1, v', frame_ex rfl, by simpa using hown'.out, hd.snoc (by omega), by omega, ?_, by simp; omega⟩
          have := hv.out
          have e1 : (x - c + 2).toNat + c.toNat = x.toNat + 2 * (1 : Int).toNat := by omega
          obtain ⟨Pw, hPw⟩ : ∃ Pw, Pw = 2 ^ l.length := ⟨_, rfl⟩
          rw [valD_snoc, List.length_append, List.length_singleton, Nat.pow_succ, ta.out, tb.out]
          rw [← hPw] at this ⊢
          have e2 : Pw * (x - c + 2).toNat + Pw * c.toNat = Pw * x.toNat + Pw * (2 * (1 : Int).toNat) := by rw [← Nat.mul_add, e1, Nat.mul_add]
          have e3 : Pw * 2 * (1 : Int).toNat = Pw * (2 * (1 : Int).toNat) := Nat.mul_assoc _ _ _
          omega
        ·
          go_wp2_with (at_builtin; refine wpList_append_own _ rfl (.tmp 35) (.tmp 37) 132 rfl w.heap.size 3 i0 (.int .i64 0) 1 8 (by kernel_rfl) hi hz0 hz1 hz2 rfl (by decide) _ _ _ rfl (hown.alloc _) ⟨W.heap.size, 0, none⟩ 1 1 [.int .i64 (x - c)] rfl rfl (cell_one_new _ _ _) (by simp [Value.oneCell']) (by simp [maxLen]; omega) (by omega) (by simp; omega) ?_)
          intro v' w1 hown' hgr _
          have hB := Lib.hid (below_append hW hz hown hgr)
          replace hown' := Lib.hid hown'
          clear hgr hown
          go_wp2
          refine ⟨?_, by simp [intAt]; omega⟩
          have ee : ((l.length : Int) + 1) = (((l ++ [x - c]).length : Nat) : Int) := by simp
          rw [ee]
          unfold mnsRel
          refine ⟨hB.out, l ++ [x - c], 0, v', frame_ex rfl, by simpa using hown'.out, hd.snoc (by omega), by omega, ?_, by simp; omega⟩
          have := hv.out
          have e1 : (x - c).toNat + c.toNat = x.toNat + 2 * (0 : Int).toNat := by omega
          obtain ⟨Pw, hPw⟩ : ∃ Pw, Pw = 2 ^ l.length := ⟨_, rfl⟩
          rw [valD_snoc, List.length_append, List.length_singleton, Nat.pow_succ, ta.out, tb.out]
          rw [← hPw] at this ⊢
          have e2 : Pw * (x - c).toNat + Pw * c.toNat = Pw * x.toNat + Pw * (2 * (0 : Int).toNat) := by rw [← Nat.mul_add, e1, Nat.mul_add]
          have e3 : Pw * 2 * (0 : Int).toNat = Pw * (2 * (0 : Int).toNat) := Nat.mul_assoc _ _ _
          omega
    · have hl0 : l.length = a.length := by omega
      have hsum := Lib.hid (show valD l = valD a - valD b by
        have h1 := hv.out
        have h2 := valD_lt l hd
        rw [valD_all a (by omega), valD_all b (by omega)] at h1
        rcases (show c = 0 ∨ c = 1 by omega) with rfl | rfl
        · simp at h1; omega
        · simp at h1; omega)
      obtain ⟨p', cap', hv', hcap, hcm, hn', hI⟩ : ∃ p' cap', v = .slice p' l.length cap' ∧ l.length ≤ cap' ∧ cap' ≤ 9223372036854775807 ∧ (p' = none → l = [] ∧ cap' = 0) ∧ DigsIn W p' l := by
        obtain ⟨_, h2' | ⟨g, cap', cur, rfl, hg, hb', hn, hmx, hcc, ht⟩⟩ := hown
        · obtain ⟨rfl, h0⟩ := h2'
          have : l = [] := List.length_eq_zero_iff.1 h0
          subst this
          exact ⟨none, 0, rfl, by simp, by omega, fun _ => ⟨rfl, rfl⟩, ⟨fun i x h => by simp at h, fun a e => by cases e⟩⟩
        · exact ⟨some ⟨g, 0, none⟩, cap', rfl, hn, by unfold maxLen at hmx; omega, (fun e => by cases e), clone_digs hb' (by simpa using ht)⟩
      subst hv'
      have ct := fun W' (hW' : Below W.heap.size W W') => c_trim p' cap' l W' (hI.below hW') hn' hcap hcm (by omega) hd
      rw [hsum.out] at ct
      replace ct := Lib.hid ct
      clear hv hI hl0
      go_wp2_with fail
      refine (ct.out _ (Below.refl _ _)).mono ?_
      rintro e w2 ⟨v2, rfl, hb2, hB2⟩
      replace hb2 := Lib.hid hb2
      have hBB := Lib.hid (hW.trans (hB2.mono hz))
      clear hB2
      go_wp2
      go_ret
      exact ⟨v2, rfl, hb2.out, hBB.out⟩
end Go.Proofs.YtbanjolokkghdaaGreatDoor
namespace Go.Proofs.YtbanjolokkghdaaGreatDoor
open Go.RowKit
theorem canon_len {l : List Int} {k : Nat} (h : Canon l) (hv : valD l < 2 ^ k) : l.length ≤ k := by
  rcases h with rfl | h
  · simp
  · rcases Nat.lt_or_ge k l.length with h1 | h1
    · have := Nat.pow_le_pow_right (n := 2) (by omega) (show k ≤ l.length - 1 by omega)
      omega
    · exact h1
theorem c_plus (va vb : Value) (m n : Nat) (w : World) (ha : Bits w va m) (hb : Bits w vb n) (hm : m < 2 ^ 900) (hn : n < 2 ^ 900) :
    Calls Tryz.prog 117 #[va, vb] w fun e w' => ∃ v, e = .returned v ∧ Bits w' v (m + n) ∧ Below w.heap.size w w' := by
  obtain ⟨p, a, ca, rfl, _, _, _, hia, hda, hca, rfl⟩ := ha
  obtain ⟨q, b, cb, rfl, _, _, _, hib, hdb, hcb, rfl⟩ := hb
  have h1 := canon_len hca hm
  have h2 := canon_len hcb hn
  exact plus_w p q a b ca cb w hia hib hda hdb hca hcb (by omega) (by omega)
theorem c_minus (va vb : Value) (m n : Nat) (w : World) (ha : Bits w va m) (hb : Bits w vb n) (hm : m < 2 ^ 900) (hn : n ≤ m) :
    Calls Tryz.prog 119 #[va, vb] w fun e w' => ∃ v, e = .returned v ∧ Bits w' v (m - n) ∧ Below w.heap.size w w' := by
  obtain ⟨p, a, ca, rfl, _, _, _, hia, hda, hca, rfl⟩ := ha
  obtain ⟨q, b, cb, rfl, _, _, _, hib, hdb, hcb, rfl⟩ := hb
  have h1 := canon_len hca hm
  refine minus_w p q a b ca cb w hia hib hda hdb (by omega) ?_ hn
  rcases Nat.lt_or_ge a.length b.length with h | h
  · have := less_len hda hcb h
    omega
  · exact h
structure CellAt (w : World) (g o : Nat) (v : Value) : Prop where
  cell : w.cell? ⟨g, o, none⟩ = some v
theorem CellAt.rex {L : List Nat} {w w' : World} {g o : Nat} {v : Value} (h : CellAt w g o v) (hr : Rex L w w') (hL : L = []) : CellAt w' g o v := by
  subst hL
  exact ⟨(hr.below.cell (p := ⟨g, o, none⟩) (cell_lt h.cell)).trans h.cell⟩
theorem CellAt.drew {w : World} {g o : Nat} {v : Value} (h : CellAt w g o v) : CellAt w.drew g o v := ⟨h.cell⟩
set_option maxRecDepth 100000 in
set_option maxHeartbeats 4000000 in
theorem less_ne (p q : Option Addr) (a b : List Int) (ca cb : Nat) (w : World) (hla : a.length ≤ 1000) (hlb : b.length ≤ 1000) (hne : ((a.length : Int) != b.length) = true) :
    Calls Tryz.prog 174 #[.slice p a.length ca, .slice q b.length cb] w fun e w' => e = .returned (.bool (decide (a.length < b.length))) ∧ Below w.heap.size w w' := by
  go_enter Tryz.func174, Tryz.ntmps174
  go_wp2
  go_ret
  exact ⟨rfl, Below.refl _ _⟩
def lessRel (w : World) (p q : Option Addr) (a b : List Int) (ca cb : Nat) (a' : Act) (W : World) : Prop :=
  Below w.heap.size w W ∧ ∃ k : Nat, (∃ u : Nat → Value, a' = { tmps := #[.slice p a.length ca, .slice q b.length cb, u 2, u 3, u 4, .int .i64 ((k : Int) - 1), u 6, u 7, u 8, u 9, u 10, u 11, u 12, u 13, u 14, u 15, u 16, u 17, u 18, u 19, u 20, u 21, u 22, u 23, u 24, u 25, u 26, u 27, u 28, u 29, u 30, u 31, u 32, u 33, u 34, u 35, u 36, u 37, u 38, u 39, u 40], defers := [] }) ∧ k ≤ a.length ∧ a.drop k = b.drop k
set_option maxRecDepth 100000 in
set_option maxHeartbeats 8000000 in
theorem less_eq (p q : Option Addr) (a b : List Int) (ca cb : Nat) (w : World) (ha : DigsIn w p a) (hb : DigsIn w q b) (hda : Dig a) (hdb : Dig b) (hla : a.length ≤ 1000) (heq : a.length = b.length) :
    Calls Tryz.prog 174 #[.slice p a.length ca, .slice q b.length cb] w fun e w' => e = .returned (.bool (decide (valD a < valD b))) ∧ Below w.heap.size w w' := by
  have hne : ((a.length : Int) != b.length) = false := by rw [heq]; simp
  have Heq := Lib.hid heq
  clear heq
  go_enter Tryz.func174, Tryz.ntmps174
  go_wp2
  refine wp_loop (lessRel w p q a b ca cb) (fun a' _ => ((intAt (a'.tmps.getD 5 undef)) + 1).toNat) ?_ ?_
  · unfold lessRel
    exact ⟨Below.refl _ _, a.length, frame_ex rfl, Nat.le_refl _, by rw [List.drop_eq_nil_of_le (Nat.le_refl _), List.drop_eq_nil_of_le (by rw [Heq.out]; exact Nat.le_refl _)]⟩
  · rintro a' W ⟨hW, k, ⟨u, rfl⟩, hk, hd⟩
    have hz := hW.size
    replace hd := Lib.hid hd
    cases k with
    | zero =>
      have hab : valD a = valD b := by have := hd.out; simp at this; rw [this]
      have hf := Lib.hid (show decide (valD a < valD b) = false by simp; omega)
      clear hab hd
      go_wp2
      go_ret
      exact ⟨by rw [hf.out]; rfl, hW⟩
    | succ j =>
      obtain ⟨x, hx⟩ : ∃ x, a[j]? = some x := ⟨a[j], List.getElem?_eq_getElem (by omega)⟩
      obtain ⟨y, hy⟩ : ∃ y, b[j]? = some y := ⟨b[j]'(by rw [← Heq.out]; omega), List.getElem?_eq_getElem _⟩
      obtain ⟨ga, oa, rfl, qa⟩ := (ha.below hW).at' _ x hx
      obtain ⟨gb, ob, rfl, qb⟩ := (hb.below hW).at' _ y hy
      have cx : CellAt W ga (oa + j) (.int .i64 x) := ⟨qa⟩
      have cy : CellAt W gb (ob + j) (.int .i64 y) := ⟨qb⟩
      have hja : j < a.length := by omega
      have hjb : j < b.length := by rw [← Heq.out]; omega
      have hxx := Lib.hid hx
      have hyy := Lib.hid hy
      have e0 : ((j + 1 : Nat) : Int) - 1 = (j : Int) := by omega
      have e1 := Lib.hid e0
      have e2 := Lib.hid (show ((j : Int)).toNat = j by omega)
      rw [e0]
      clear hx hy qa qb e0
      have b1 := cx
      have b2 := cy
      go_upto_region 6 with (fail)
      refine wp_facts (fun W' => Below w.heap.size w W' ∧ CellAt W' ga (oa + j) (.int .i64 x) ∧ CellAt W' gb (ob + j) (.int .i64 y)) ⟨by exact belowAny, by exact b1, by exact b2⟩ ?_
      clear b1 b2 hW
      rintro W1 ⟨hW, b1, b2⟩
      have z2 := hW.size
      refine wp_region_ndQ 9 41 [] (fun W' => Rex [] W1 W' ∧ CellAt W' ga (oa + j) (.int .i64 x) ∧ CellAt W' gb (ob + j) (.int .i64 y)) mixed (by kernel_rfl) rfl ⟨(Rex.refl _ _).drew, b1.drew, b2.drew⟩ (fun w w' ⟨h0, h1, h2⟩ hr => ⟨h0.trans hr, h1.rex hr (by simp <;> omega), h2.rex hr (by simp <;> omega)⟩) rfl ?_
      iterate 9
        apply nd_det (hg := rfl) (hal := rfl)
        · intro a W' hC hE
          obtain ⟨_, k1, k2⟩ := hC
          have k1 := k1.cell
          have k2 := k2.cell
          first
            | (simp [Oper.looksAt, Op.operands, Call.operands, envOf, Det] at hE; simp [go_sem, Act.eval, IntWalk.i64_left, hE, k1, k2, hja, hjb, e1.out, e2.out]; try rfl)
            | (clear hE; simp [go_sem, Act.eval, IntWalk.i64_left, k1, k2, hja, hjb, e1.out, e2.out]; try rfl)
      rintro W3 ⟨hR, d1, d2⟩
      simp only [ndFinR, Det, forall_eq]
      intros
      repeat (rename GDet _ _ _ _ => hgd; clear hgd)
      simp only [Act.put, List.setIfInBounds_toArray, List.set_cons_zero, List.set_cons_succ]
      refine wpList_nil ?_
      replace hW := hW.trans (hR.of_priv hW.size)
      clear hR
      try clear b1 b2
      have b1 := d1
      clear d1
      have b2 := d2
      clear d2
      by_cases hxy : x = y
      · have hdj := Lib.hid (show a.drop j = b.drop j by
          rw [List.drop_eq_getElem_cons hja, List.drop_eq_getElem_cons hjb, hd.out]
          have t1 := hxx.out; have t2 := hyy.out
          rw [List.getElem?_eq_getElem hja] at t1
          rw [List.getElem?_eq_getElem hjb] at t2
          simp at t1 t2
          rw [t1, t2, hxy])
        have hb := Lib.hid (show (x != y) = false by simp [hxy])
        rw [hb.out]
        clear hd
        go_wp2
        refine ⟨?_, by simp [intAt]⟩
        unfold lessRel
        exact ⟨hW, j, frame_ex rfl, by omega, hdj.out⟩
      · have hb := Lib.hid (show (x != y) = true by simp [hxy])
        rw [hb.out]
        have hres := Lib.hid (show decide (x < y) = decide (valD a < valD b) by
          have t1 := less_at hda hdb Heq.out hxx.out hyy.out hd.out
          have t2 := less_at hdb hda Heq.out.symm hyy.out hxx.out hd.out.symm
          rcases Int.lt_trichotomy x y with h | h | h
          · simp [h, t1 h]
          · exact absurd h hxy
          · have := t2 h
            simp; omega)
        go_wp2
        go_upto_region 7 with (fail)
        refine wp_facts (fun W' => Below w.heap.size w W' ∧ CellAt W' ga (oa + j) (.int .i64 x) ∧ CellAt W' gb (ob + j) (.int .i64 y)) ⟨by exact belowAny, by exact b1, by exact b2⟩ ?_
        clear b1 b2 hW
        rintro W8 ⟨hW, b1, b2⟩
        have z9 := hW.size
        refine wp_region_ndQ 10 41 [] (fun W' => Rex [] W8 W' ∧ CellAt W' ga (oa + j) (.int .i64 x) ∧ CellAt W' gb (ob + j) (.int .i64 y)) mixed (by kernel_rfl) rfl ⟨(Rex.refl _ _).drew, b1.drew, b2.drew⟩ (fun w w' ⟨h0, h1, h2⟩ hr => ⟨h0.trans hr, h1.rex hr (by simp <;> omega), h2.rex hr (by simp <;> omega)⟩) rfl ?_
        iterate 10
          apply nd_det (hg := rfl) (hal := rfl)
          · intro a W' hC hE
            obtain ⟨_, k1, k2⟩ := hC
            have k1 := k1.cell
            have k2 := k2.cell
            first
              | (simp [Oper.looksAt, Op.operands, Call.operands, envOf, Det] at hE; simp [go_sem, Act.eval, IntWalk.i64_left, hE, k1, k2, hja, hjb, e1.out, e2.out]; try rfl)
              | (clear hE; simp [go_sem, Act.eval, IntWalk.i64_left, k1, k2, hja, hjb, e1.out, e2.out]; try rfl)
        rintro W10 ⟨hR, d1, d2⟩
        simp only [ndFinR, Det, forall_eq]
        intros
        repeat (rename GDet _ _ _ _ => hgd; clear hgd)
        simp only [Act.put, List.setIfInBounds_toArray, List.set_cons_zero, List.set_cons_succ]
        refine wpList_nil ?_
        replace hW := hW.trans (hR.of_priv hW.size)
        clear hR
        try clear b1 b2
        have b1 := d1
        clear d1
        have b2 := d2
        clear d2
        go_wp2
        rw [hres.out]
        go_ret
        exact ⟨rfl, hW⟩
theorem c_less (va vb : Value) (m n : Nat) (w : World) (ha : Bits w va m) (hb : Bits w vb n) (hm : m < 2 ^ 900) (hn : n < 2 ^ 900) :
    Calls Tryz.prog 174 #[va, vb] w fun e w' => e = .returned (.bool (decide (m < n))) ∧ Below w.heap.size w w' := by
  obtain ⟨p, a, ca, rfl, _, _, _, hia, hda, hca, rfl⟩ := ha
  obtain ⟨q, b, cb, rfl, _, _, _, hib, hdb, hcb, rfl⟩ := hb
  have h1 := canon_len hca hm
  have h2 := canon_len hcb hn
  by_cases he : a.length = b.length
  · exact less_eq p q a b ca cb w hia hib hda hdb (by omega) he
  · refine (less_ne p q a b ca cb w (by omega) (by omega) (by simp; omega)).mono ?_
    rintro e w' ⟨rfl, h⟩
    refine ⟨?_, h⟩
    congr 2
    rcases Nat.lt_or_ge a.length b.length with h3 | h3
    · have := less_len hda hcb h3
      simp [h3, this]
    · have := less_len hdb hca (by omega)
      simp; omega
end Go.Proofs.YtbanjolokkghdaaGreatDoor
namespace Go.Proofs.YtbanjolokkghdaaGreatDoor
open Go.RowKit
theorem row_ints {w : World} {base n : Nat} {v : Value} {l : List Int} (h : w.ownsRow base 3 1 v n (l.map (Value.int .i64))) (hn : n = l.length) :
    ∃ p cap, v = .slice p l.length cap ∧ l.length ≤ cap ∧ cap ≤ 9223372036854775807 ∧ (p = none → l = [] ∧ cap = 0) ∧ DigsIn w p l := by
  subst hn
  obtain ⟨_, h2' | ⟨g, cap', cur, rfl, hg, hb', hn, hmx, hcc, ht⟩⟩ := h
  · obtain ⟨rfl, h0⟩ := h2'
    have : l = [] := List.length_eq_zero_iff.1 h0
    subst this
    exact ⟨none, 0, rfl, by simp, by omega, fun _ => ⟨rfl, rfl⟩, ⟨fun i x h => by simp at h, fun a e => by cases e⟩⟩
  · exact ⟨some ⟨g, 0, none⟩, cap', rfl, by simpa using hn, by unfold maxLen at hmx; omega, (fun e => by cases e), clone_digs hb' (by simpa using ht)⟩
theorem row_fresh {B : Nat} (W : World) (d : Int) (hB : B ≤ W.heap.size) :
    (W.alloc (.cells #[.int .i64 d] 3)).ownsRow B 3 1 (.slice (some ⟨W.heap.size, 0, none⟩) 1 1) 1 [.int .i64 d] :=
  ⟨rfl, .inr ⟨W.heap.size, 1, #[.int .i64 d], rfl, hB, Array.getElem?_push_size, Nat.le_refl _, by unfold maxLen; omega, rfl, rfl⟩⟩
theorem fresh_ints (W : World) (d : Int) : DigsIn (W.alloc (.cells #[.int .i64 d] 3)) (some ⟨W.heap.size, 0, none⟩) [d] := by
  obtain ⟨p, cap, e, _, _, _, h⟩ := row_ints (l := [d]) (row_fresh W d (Nat.le_refl _)) rfl
  cases e
  exact h
theorem ints_one (l : List Int) : ∀ u ∈ l.map (Value.int .i64), u.oneCell' = true := by
  intro u hu
  obtain ⟨x, _, rfl⟩ := List.mem_map.1 hu
  rfl
theorem ints_new {W : World} {ad : Addr} {l : List Int} {o : Obj} (h : DigsIn W (some ad) l) : ∀ j u, (l.map (Value.int .i64))[j]? = some u → (W.alloc o).cell? (ad.add j) = some u := by
  intro j u hu
  rw [List.getElem?_map] at hu
  obtain ⟨x, hx, rfl⟩ := Option.map_eq_some_iff.1 hu
  obtain ⟨b, o', e, hc⟩ := h.at' j x hx
  cases e
  have := (((Below.refl W.heap.size W).alloc (Nat.le_refl _) o).cell (p := ⟨b, o' + j, none⟩) (cell_lt hc)).trans hc
  rw [Addr.add_lit]
  exact this
theorem valD_pow {l : List Int} (h : Dig l) {k : Nat} (hl : l.length ≤ k) : valD l < 2 ^ k :=
  Nat.lt_of_lt_of_le (valD_lt l h) (Nat.pow_le_pow_right (by omega) hl)
theorem valD_drop {b : List Int} {j : Nat} {y : Int} (h : b[j]? = some y) : valD (b.drop j) = y.toNat + 2 * valD (b.drop (j + 1)) := by
  obtain ⟨h1, h2⟩ := List.getElem?_eq_some_iff.1 h
  rw [List.drop_eq_getElem_cons h1, h2]
  rfl
theorem mul_pow {m n : Nat} (j k i : Nat) (h1 : m < 2 ^ j) (h2 : n < 2 ^ k) (h : j + k = i) : m * n < 2 ^ i := by
  subst h
  rw [Nat.pow_add]
  exact Nat.mul_lt_mul'' h1 h2
def timRel (w : World) (p q : Option Addr) (a b : List Int) (ca cb : Nat) (a' : Act) (W : World) : Prop :=
  Below w.heap.size w W ∧ ∃ (k : Nat) (v : Value), (∃ u : Nat → Value, a' = { tmps := #[.slice p a.length ca, .slice q b.length cb, u 2, u 3, u 4, v, .int .i64 ((k : Int) - 1), u 7, u 8, u 9, u 10, u 11, u 12, u 13, u 14, u 15, u 16, u 17, u 18, u 19, u 20, u 21, u 22, u 23, u 24, u 25, u 26], defers := [] }) ∧ k ≤ b.length ∧ Bits W v (valD a * valD (b.drop k))
set_option maxRecDepth 100000 in
set_option maxHeartbeats 8000000 in
theorem times_w (p q : Option Addr) (a b : List Int) (ca cb : Nat) (w : World) (ha : DigsIn w p a) (hb : DigsIn w q b) (hda : Dig a) (hdb : Dig b) (hA : Bits w (.slice p a.length ca) (valD a)) (hla : a.length ≤ 400) (hlb : b.length ≤ 400) :
    Calls Tryz.prog 175 #[.slice p a.length ca, .slice q b.length cb] w fun e w' => ∃ v, e = .returned v ∧ Bits w' v (valD a * valD b) ∧ Below w.heap.size w w' := by
  obtain ⟨i0, hi, hz0, hz1, hz2⟩ := info_parts Tryz.infoI
  go_enter Tryz.func175, Tryz.ntmps175
  go_wp2
  refine wp_loop (timRel w p q a b ca cb) (fun a' _ => ((intAt (a'.tmps.getD 6 undef)) + 1).toNat) ?_ ?_
  · unfold timRel
    exact ⟨Below.refl _ _, b.length, _, frame_ex rfl, Nat.le_refl _, by rw [List.drop_eq_nil_of_le (Nat.le_refl _)]; exact Bits.zero _⟩
  · rintro a' W ⟨hW, k, v, ⟨u, rfl⟩, hk, hv⟩
    have hz := hW.size
    cases k with
    | zero =>
      replace hv := Lib.hid hv
      go_wp2
      go_ret
      exact ⟨_, rfl, by have := hv.out; rwa [List.drop_zero] at this, hW⟩
    | succ j =>
      obtain ⟨y, hy⟩ : ∃ y, b[j]? = some y := ⟨b[j], List.getElem?_eq_getElem (by omega)⟩
      have hb0 := hb
      obtain ⟨gb, ob, rfl, qb⟩ := (hb.below hW).at' _ y hy
      obtain ⟨pl, l, cl, rfl, hlc, hl1, hln, hil, hdl, hcl, hvl⟩ := hv
      replace hvl := Lib.hid hvl
      replace hln := Lib.hid hln
      have hyy := Lib.hid hy
      have by01 := hdb.at hy
      have e0 : ((j + 1 : Nat) : Int) - 1 = (j : Int) := by omega
      have e1 := Lib.hid e0
      rw [e0]
      clear hy e0
      have hprod := Lib.hid (mul_pow (m := valD a) (n := valD (b.drop (j + 1))) 400 400 800 (valD_pow (k := 400) hda hla) (valD_pow (k := 400) (hdb.drop _) (by simp; omega)) rfl)
      have hstep := Lib.hid (valD_drop hyy.out)
      have hl9 : l.length ≤ 800 := canon_len hcl (by rw [hvl.out]; exact hprod.out)
      cases pl with
      | none =>
        obtain ⟨rfl, rfl⟩ := hln.out rfl
        have ct := Lib.hid (fun W' (hW' : Below (W.alloc (.cells #[.int .i64 0] 3)).heap.size (W.alloc (.cells #[.int .i64 0] 3)) W') => c_trim (some ⟨W.heap.size, 0, none⟩) 1 [0] W' ((fresh_ints W 0).below hW') (fun e => by cases e) (by simp) (by omega) (by simp) (Dig.nil.cons (.inl rfl)))
        have hB := hW.alloc hz (.cells #[.int .i64 0] 3)
        replace hB := Lib.hid hB
        have hz1 := hB.out.size
        go_wp2_with fail
        refine (ct.out _ (Below.refl _ _)).mono ?_
        rintro e w2 ⟨v2, rfl, hb2, hB2⟩
        rw [show valD (0 :: []) = 2 * (valD a * valD (b.drop (j + 1))) by rw [← hvl.out]; simp [valD]] at hb2
        replace hb2 := Lib.hid hb2
        have hBB := Lib.hid (hB.out.trans (hB2.mono hz1))
        have hz2 := hBB.out.size
        obtain ⟨_, _, e, qb2⟩ := (hb0.below hBB.out).at' _ y hyy.out
        cases e
        clear hB2 hB ct hz1 qb
        rcases by01 with rfl | rfl
        · have hval := Lib.hid (show valD a * valD (b.drop j) = 2 * (valD a * valD (b.drop (j + 1))) by rw [hstep.out, Nat.mul_add, Nat.mul_left_comm]; simp)
          go_wp2
          refine ⟨?_, by simp [intAt]⟩
          unfold timRel
          exact ⟨hBB.out, j, v2, frame_ex rfl, by omega, by rw [hval.out]; exact hb2.out⟩
        · have hval := Lib.hid (show valD a * valD (b.drop j) = 2 * (valD a * valD (b.drop (j + 1))) + valD a by rw [hstep.out, Nat.mul_add, Nat.mul_left_comm]; simp; omega)
          have cp := Lib.hid (c_plus v2 (.slice p a.length ca) _ _ w2 hb2.out (hA.below hBB.out) (twice_pow 800 900 hprod.out (by omega)) (valD_pow (k := 900) hda (by omega)))
          go_wp2_with fail
          refine cp.out.mono ?_
          rintro e w3 ⟨v3, rfl, hb3, hB3⟩
          replace hb3 := Lib.hid hb3
          have hB4 := Lib.hid (hBB.out.trans (hB3.mono hz2))
          clear hB3 cp
          go_wp2
          refine ⟨?_, by simp [intAt]⟩
          unfold timRel
          exact ⟨hB4.out, j, v3, frame_ex rfl, by omega, by rw [hval.out]; exact hb3.out⟩
      | some ad =>
        go_wp2_with (at_builtin; refine wpList_append_own _ rfl (.tmp 14) (.tmp 15) 132 rfl w.heap.size 3 i0 (.int .i64 0) 1 8 (by kernel_rfl) hi hz0 hz1 hz2 rfl (by decide) _ 1 [.int .i64 0] rfl (row_fresh W 0 hz) ad l.length cl (l.map (Value.int .i64)) rfl (by simp) (ints_new hil) (ints_one l) (by simp [maxLen]; omega) (by omega) (by simp; omega) ?_)
        intro v' w1 hown hgr _
        obtain ⟨p', cap', rfl, hcap, hcm, hn', hI⟩ := row_ints (l := 0 :: l) hown (by simp; omega)
        have hB := (hW.alloc hz (.cells #[.int .i64 0] 3)).grown hgr (by simp; omega) fun j ej => by
          obtain rfl : W.heap.size = j := by simpa [Value.ownBlock] using ej
          exact hz
        have ct := Lib.hid (fun W' (hW' : Below w1.heap.size w1 W') => c_trim p' cap' (0 :: l) W' (hI.below hW') hn' hcap hcm (by simp; omega) (hdl.cons (.inl rfl)))
        clear hown hgr hI
        replace hB := Lib.hid hB
        have hz1 := hB.out.size
        go_wp2_with fail
        refine (ct.out _ (Below.refl _ _)).mono ?_
        rintro e w2 ⟨v2, rfl, hb2, hB2⟩
        rw [show valD (0 :: l) = 2 * (valD a * valD (b.drop (j + 1))) by rw [← hvl.out]; simp [valD]] at hb2
        replace hb2 := Lib.hid hb2
        have hBB := Lib.hid (hB.out.trans (hB2.mono hz1))
        have hz2 := hBB.out.size
        obtain ⟨_, _, e, qb2⟩ := (hb0.below hBB.out).at' _ y hyy.out
        cases e
        clear hB2 hB ct hz1 qb
        rcases by01 with rfl | rfl
        · have hval := Lib.hid (show valD a * valD (b.drop j) = 2 * (valD a * valD (b.drop (j + 1))) by rw [hstep.out, Nat.mul_add, Nat.mul_left_comm]; simp)
          go_wp2
          refine ⟨?_, by simp [intAt]⟩
          unfold timRel
          exact ⟨hBB.out, j, v2, frame_ex rfl, by omega, by rw [hval.out]; exact hb2.out⟩
        · have hval := Lib.hid (show valD a * valD (b.drop j) = 2 * (valD a * valD (b.drop (j + 1))) + valD a by rw [hstep.out, Nat.mul_add, Nat.mul_left_comm]; simp; omega)
          have cp := Lib.hid (c_plus v2 (.slice p a.length ca) _ _ w2 hb2.out (hA.below hBB.out) (twice_pow 800 900 hprod.out (by omega)) (valD_pow (k := 900) hda (by omega)))
          go_wp2_with fail
          refine cp.out.mono ?_
          rintro e w3 ⟨v3, rfl, hb3, hB3⟩
          replace hb3 := Lib.hid hb3
          have hB4 := Lib.hid (hBB.out.trans (hB3.mono hz2))
          clear hB3 cp
          go_wp2
          refine ⟨?_, by simp [intAt]⟩
          unfold timRel
          exact ⟨hB4.out, j, v3, frame_ex rfl, by omega, by rw [hval.out]; exact hb3.out⟩
theorem c_times (va vb : Value) (m n : Nat) (w : World) (ha : Bits w va m) (hb : Bits w vb n) (hm : m < 2 ^ 400) (hn : n < 2 ^ 400) :
    Calls Tryz.prog 175 #[va, vb] w fun e w' => ∃ v, e = .returned v ∧ Bits w' v (m * n) ∧ Below w.heap.size w w' := by
  have hA := ha
  obtain ⟨p, a, ca, rfl, _, _, _, hia, hda, hca, rfl⟩ := ha
  obtain ⟨q, b, cb, rfl, _, _, _, hib, hdb, hcb, rfl⟩ := hb
  exact times_w p q a b ca cb w hia hib hda hdb hA (canon_len hca hm) (canon_len hcb hn)
end Go.Proofs.YtbanjolokkghdaaGreatDoor
namespace Go.Proofs.YtbanjolokkghdaaGreatDoor
open Go.RowKit
/-- A row of the call's own. -/
structure OwnR (W : World) (B : Nat) (e : TypeId) (s : Nat) (v : Value) (n : Nat) (xs : List Value) : Prop where
  own : W.ownsRow B e s v n xs
theorem OwnR.below {w w' : World} {B : Nat} {e : TypeId} {s : Nat} {v : Value} {n : Nat} {xs : List Value} (h : OwnR w B e s v n xs) (hb : Below w.heap.size w w') : OwnR w' B e s v n xs := by
  obtain ⟨h1, h2⟩ := h.own
  refine ⟨h1, ?_⟩
  rcases h2 with h2 | ⟨g, cap, cur, hv, hg, hh, rest⟩
  · exact .inl h2
  · exact .inr ⟨g, cap, cur, hv, hg, (hb.block g (Array.getElem?_eq_some_iff.1 hh).1).trans hh, rest⟩
theorem OwnR.rex {L : List Nat} {w w' : World} {B : Nat} {e : TypeId} {s : Nat} {v : Value} {n : Nat} {xs : List Value} (h : OwnR w B e s v n xs) (hr : Rex L w w') (hL : L = []) : OwnR w' B e s v n xs := by subst hL; exact h.below hr.below
theorem OwnR.drew {w : World} {B : Nat} {e : TypeId} {s : Nat} {v : Value} {n : Nat} {xs : List Value} (h : OwnR w B e s v n xs) : OwnR w.drew B e s v n xs := ⟨h.own⟩
theorem OwnR.mono {w : World} {B B' : Nat} {e : TypeId} {s : Nat} {v : Value} {n : Nat} {xs : List Value} (h : OwnR w B e s v n xs) (hB : B' ≤ B) : OwnR w B' e s v n xs := by
  obtain ⟨h1, h2⟩ := h.own
  refine ⟨h1, ?_⟩
  rcases h2 with h2 | ⟨g, cap, cur, hv, hg, rest⟩
  · exact .inl h2
  · exact .inr ⟨g, cap, cur, hv, Nat.le_trans hB hg, rest⟩
theorem OwnR.nil (W : World) (B : Nat) (e : TypeId) (s : Nat) : OwnR W B e s (.slice none 0 0) 0 [] := ⟨World.ownsRow_nil _ _ _ _⟩
/-- A block of another type is none of the row's. -/
theorem Blk.grown {W w1 : World} {B g : Nat} {cs : Array Value} {t e : TypeId} {s n : Nat} {v : Value} {xs : List Value} {o : Obj} (h : Blk W g cs t) (hown : W.ownsRow B e s v n xs) (ht : t ≠ e) (hgr : (W.alloc o).grownBy w1 v.ownBlock) : Blk w1 g cs t := by
  have hlt := h.lt
  have h' : (W.alloc o).heap[g]? = some (.cells cs t (0, 0)) := (h.alloc o : Blk (W.alloc o) g cs t)
  refine (hgr.block g (by simp; omega) fun e1 => ?_).trans h'
  rcases hown.2 with ⟨rfl, _⟩ | ⟨g', cap, cur, rfl, _, hb, _⟩
  · simp [Value.ownBlock] at e1
  · have : g = g' := by simpa [Value.ownBlock] using e1
    subst this
    unfold Blk at h
    rw [h] at hb
    injection hb with hb
    injection hb with _ h2 _
    exact ht h2
/-- What a row of one cell each reads as. -/
theorem OwnR.form {W : World} {B n : Nat} {e : TypeId} {s : Nat} {v : Value} {xs : List Value} (h : OwnR W B e s v n xs) : ∃ p cap, v = .slice p n cap ∧ n ≤ cap ∧ cap ≤ 9223372036854775807 ∧ (p = none → n = 0 ∧ cap = 0) ∧ (∀ a, p = some a → a = ⟨a.block, 0, none⟩ ∧ B ≤ a.block) := by
  rcases h.own.2 with ⟨rfl, h0⟩ | ⟨g, cap, cur, rfl, hg, hb, hn, hmx, _⟩
  · subst h0; exact ⟨none, 0, rfl, Nat.le_refl _, by omega, fun _ => ⟨rfl, rfl⟩, fun a e => by cases e⟩
  · exact ⟨some ⟨g, 0, none⟩, cap, rfl, hn, by unfold maxLen at hmx; omega, (fun e => by cases e), fun a e => by cases e; exact ⟨rfl, hg⟩⟩
theorem OwnR.ints {W : World} {B n : Nat} {e : TypeId} {p : Option Addr} {cap : Nat} {l : List Int} (h : OwnR W B e 1 (.slice p n cap) n (l.map (Value.int .i64))) : IntsIn W p l := by
  rcases h.own.2 with ⟨h1, h0⟩ | ⟨g, cap', cur, h1, hg, hb, hn, hmx, _, ht⟩
  · have := h.own.1
    simp at this
    subst h0
    have : l = [] := List.length_eq_zero_iff.1 this
    subst this
    exact ⟨fun i x hx => by simp at hx⟩
  · injection h1 with h2 _ _
    subst h2
    exact cloneInt_in hb (by simpa using ht)
theorem OwnR.runs {W : World} {B n : Nat} {e : TypeId} {p : Option Addr} {cap : Nat} {l : List RunT} (h : OwnR W B e 3 (.slice p n cap) n (flatCells l)) : RunsIn W p l := by
  rcases h.own.2 with ⟨h1, h0⟩ | ⟨g, cap', cur, h1, hg, hb, hn, hmx, _, ht⟩
  · have := h.own.1
    rw [length_flatCells] at this
    subst h0
    have : l = [] := List.length_eq_zero_iff.1 (by omega)
    subst this
    exact ⟨fun i x hx => by simp at hx⟩
  · injection h1 with h2 _ _
    subst h2
    exact cloneRun_in hb ht
/-- What numbers a slice has, kept by steps that make memory. -/
structure IntsP (w : World) (b o : Nat) (l : List Int) : Prop where
  ints : IntsIn w (some ⟨b, o, none⟩) l
theorem IntsP.below {w w' : World} {b o : Nat} {l : List Int} (h : IntsP w b o l) (hb : Below w.heap.size w w') : IntsP w' b o l := ⟨h.ints.below hb⟩
theorem IntsP.rex {L : List Nat} {w w' : World} {b o : Nat} {l : List Int} (h : IntsP w b o l) (hr : Rex L w w') (hL : L = []) : IntsP w' b o l := by subst hL; exact h.below hr.below
theorem IntsP.drew {w : World} {b o : Nat} {l : List Int} (h : IntsP w b o l) : IntsP w.drew b o l := ⟨⟨h.ints.at'⟩⟩
theorem IntsP.cellAt {w : World} {b o : Nat} {l : List Int} (h : IntsP w b o l) {i : Nat} {x : Int} (hx : l[i]? = some x) : w.cell? ⟨b, o + i, none⟩ = some (.int .i64 x) := by
  obtain ⟨b', o', e, h1⟩ := h.ints.at' i x hx
  cases e
  exact h1
end Go.Proofs.YtbanjolokkghdaaGreatDoor
namespace Go.Proofs.YtbanjolokkghdaaGreatDoor
open Go.RowKit
/-- How many bytes a number has. -/
def vlen (n : Nat) : Nat := if n < 128 then 1 else vlen (n / 128) + 1
termination_by n
decreasing_by omega
theorem vlen_small {n : Nat} (h : n < 128) : vlen n = 1 := by rw [vlen, if_pos h]
theorem vlen_great {n : Nat} (h : ¬ n < 128) : vlen n = vlen (n / 128) + 1 := by rw [vlen, if_neg h]
theorem vlen_le : ∀ (k n : Nat), n < 128 ^ (k + 1) → vlen n ≤ k + 1
  | 0, n, h => by rw [vlen_small (by simpa using h)]; exact Nat.le_refl _
  | k + 1, n, h => by
    by_cases h1 : n < 128
    · rw [vlen_small h1]; omega
    · rw [vlen_great h1]
      have := vlen_le k (n / 128) (by rw [Nat.pow_succ] at h; exact Nat.div_lt_of_lt_mul (by omega))
      omega
theorem vlen_ten {n : Nat} (h : n < 18446744073709551616) : vlen n ≤ 10 := vlen_le 9 n (Nat.lt_of_lt_of_le h (by decide))
theorem vlen_pos (n : Nat) : 1 ≤ vlen n := by rw [vlen]; split <;> omega
/-- A row of bytes in a block of its own, or nil: so many. -/
def BytR (w : World) (B : Nat) (v : Value) (k : Nat) : Prop := ∃ l : List Int, l.length = k ∧ OwnR w B 5 1 v k (l.map (Value.int .u8))
theorem BytR.below {w w' : World} {B k : Nat} {v : Value} (h : BytR w B v k) (hb : Below w.heap.size w w') : BytR w' B v k := by
  obtain ⟨l, h1, h2⟩ := h
  exact ⟨l, h1, h2.below hb⟩
theorem BytR.mono {w : World} {B B' k : Nat} {v : Value} (h : BytR w B v k) (hB : B' ≤ B) : BytR w B' v k := by
  obtain ⟨l, h1, h2⟩ := h
  exact ⟨l, h1, h2.mono hB⟩
theorem byt_one (l : List Int) : ∀ u ∈ l.map (Value.int .u8), u.oneCell' = true := fun u hu => by
  simp only [List.mem_map] at hu
  obtain ⟨x, _, rfl⟩ := hu
  rfl
theorem OwnR.src {W : World} {B n s : Nat} {e : TypeId} {v : Value} {xs : List Value} (h : OwnR W B e s v n xs) (hn : 0 < n) : ∃ g cap, v = .slice (some ⟨g, 0, none⟩) n cap ∧ B ≤ g ∧ xs.length = n * s ∧ ∀ j u, xs[j]? = some u → W.cell? ((⟨g, 0, none⟩ : Addr).add j) = some u := by
  rcases h.own.2 with ⟨_, h0⟩ | ⟨g, cap, cur, rfl, hB, hg, h1, h2, h3, h4⟩
  · omega
  · refine ⟨g, cap, rfl, hB, h.own.1, fun j u hu => ?_⟩
    have hadd : (⟨g, 0, none⟩ : Addr).add j = ⟨g, j, none⟩ := by unfold Addr.add; split <;> simp_all
    rw [hadd, cell_of_row W g j cur e (0, 0) hg]
    rw [← h4, List.getElem?_take] at hu
    split at hu
    · simpa using hu
    · cases hu
theorem own_new1 {W : World} {B g : Nat} {e : TypeId} {x : Value} (hb : Blk W g #[x] e) (hB : B ≤ g) : W.ownsRow B e 1 (.slice (some ⟨g, 0, none⟩) 1 1) 1 [x] :=
  ⟨rfl, .inr ⟨g, 1, #[x], rfl, hB, hb, Nat.le_refl _, by simp [maxLen], rfl, rfl⟩⟩
theorem Tryz.infoU8 : (Tryz.prog.info? 5).map (fun i => (i.zero, i.size, i.bytes)) = some (some (.int .u8 0), 1, 1) := by kernel_rfl
theorem below_grew {w0 W W' : World} {B : Nat} {e : TypeId} {s n : Nat} {v : Value} {xs : List Value} (h : Below B w0 W) (hB : B ≤ W.heap.size) (ho : W.ownsRow B e s v n xs) (hg : W.grownBy W' v.ownBlock) : Below B w0 W' := h.grown hg hB fun k hk => (ho.lt _ hk).1
set_option maxRecDepth 100000 in
set_option maxHeartbeats 2000000 in
theorem bytes_small (n : Nat) (h : n < 128) (w : World) : Calls Tryz.prog 62 #[.int .u64 (n : Int)] w fun e w' => ∃ v, e = .returned v ∧ Below w.heap.size w w' ∧ BytR w' w.heap.size v 1 := by
  have hB : Below w.heap.size w (w.alloc (.cells #[.int .u8 (n : Int)] 5)) := belowAny
  have hO : (w.alloc (.cells #[.int .u8 (n : Int)] 5)).ownsRow w.heap.size 5 1 (.slice (some ⟨w.heap.size, 0, none⟩) 1 1) 1 [.int .u8 (n : Int)] := own_new1 (by exact blkAny2) (Nat.le_refl _)
  go_enter Tryz.func62, Tryz.ntmps62
  go_wp2
  go_ret
  exact ⟨_, rfl, hB, [(n : Int)], rfl, ⟨hO⟩⟩
set_option maxRecDepth 100000 in
set_option maxHeartbeats 2000000 in
theorem bytes_great (n : Nat) (h : ¬ n < 128) (hn : n < 18446744073709551616) (w : World)
    (c1 : Hid (∀ W, Below w.heap.size w W → Calls Tryz.prog 62 #[.int .u64 ((n : Int) / 128)] W fun e w' => ∃ v, e = .returned v ∧ Below W.heap.size W w' ∧ BytR w' W.heap.size v (vlen (n / 128)))) :
    Calls Tryz.prog 62 #[.int .u64 (n : Int)] w fun e w' => ∃ v, e = .returned v ∧ Below w.heap.size w w' ∧ BytR w' w.heap.size v (vlen (n / 128) + 1) := by
  obtain ⟨i0, hi, hz0, hz1, hz2⟩ := info_parts Tryz.infoU8
  have hA : Below w.heap.size w (w.alloc (.cells #[.int .u8 ((n : Int) % 128 + 128)] 5)) := belowAny
  have hO0 : OwnR (w.alloc (.cells #[.int .u8 ((n : Int) % 128 + 128)] 5)) w.heap.size 5 1 (.slice (some ⟨w.heap.size, 0, none⟩) 1 1) 1 [.int .u8 ((n : Int) % 128 + 128)] := ⟨own_new1 (by exact blkAny2) (Nat.le_refl _)⟩
  have h1 := vlen_pos (n / 128)
  have h2 := vlen_ten (n := n / 128) (by omega)
  go_enter Tryz.func62, Tryz.ntmps62
  go_wp2_with fail
  refine (c1.out _ hA).mono ?_
  rintro e w9 ⟨v, rfl, hB9, l, hl, hO⟩
  obtain ⟨g, cp, rfl, hg, hxl, hat⟩ := hO.src h1
  have hO1 := (hO0.below hB9).own
  have hV := hA.trans (hB9.mono hA.size)
  have zz := hV.size
  clear hO hO0 hA hB9
  replace hat := Lib.hid hat
  go_wp2_with (at_builtin; refine wpList_append_own _ rfl (.tmp 12) (.tmp 15) 69 rfl w.heap.size 5 i0 (.int .u8 0) 1 1 (by kernel_rfl) hi hz0 hz1 hz2 rfl (by decide) _ _ _ rfl hO1 ⟨g, 0, none⟩ (vlen (n / 128)) cp (l.map (Value.int .u8)) rfl hxl hat.out (byt_one l) (by simp [maxLen]; omega) (by omega) zz ?_)
  intro v' w8 hown2 hgr _
  have hB := Lib.hid (below_grew hV zz hO1 hgr)
  replace hown2 := Lib.hid hown2
  clear hgr hO1 hV
  go_wp2
  go_ret
  exact ⟨_, rfl, hB.out, ((n : Int) % 128 + 128) :: l, by simp [hl], ⟨by rw [Nat.add_comm]; exact hown2.out⟩⟩
theorem c_r02Bytes (n : Nat) : n < 18446744073709551616 → ∀ w : World, Calls Tryz.prog 62 #[.int .u64 (n : Int)] w fun e w' => ∃ v, e = .returned v ∧ Below w.heap.size w w' ∧ BytR w' w.heap.size v (vlen n) := by
  induction n using Nat.strongRecOn with
  | _ n ih =>
    intro hn w
    by_cases h : n < 128
    · rw [vlen_small h]; exact bytes_small n h w
    · rw [vlen_great h]
      exact bytes_great n h hn w (Lib.hid fun W _ => by
        have t := ih (n / 128) (by omega) (by omega) W
        rw [show (((n / 128 : Nat)) : Int) = (n : Int) / 128 by omega] at t
        exact t)
/-- The number whose bytes one with a sign has. -/
def foldZ (z : Int) : Nat := if 0 ≤ z then (2 * z).toNat else (-2 * z - 1).toNat
theorem fold_lt {z : Int} (h : I64 z) : foldZ z < 18446744073709551616 := by unfold foldZ; unfold I64 at h; split <;> omega
set_option maxRecDepth 100000 in
set_option maxHeartbeats 2000000 in
theorem sign_pos (z : Int) (h : I64 z) (h0 : 0 ≤ z) (w : World) : Calls Tryz.prog 89 #[.int .i64 z] w fun e w' => e = .returned (.int .u64 (2 * z)) ∧ Below w.heap.size w w' := by
  unfold I64 at h
  go_enter Tryz.func89, Tryz.ntmps89
  go_wp2
  go_ret
  exact ⟨rfl, Below.refl _ _⟩
set_option maxRecDepth 100000 in
set_option maxHeartbeats 2000000 in
theorem sign_neg (z : Int) (h : I64 z) (h0 : ¬ 0 ≤ z) (w : World) : Calls Tryz.prog 89 #[.int .i64 z] w fun e w' => e = .returned (.int .u64 (-2 * z - 1)) ∧ Below w.heap.size w w' := by
  unfold I64 at h
  go_enter Tryz.func89, Tryz.ntmps89
  go_wp2
  go_ret
  refine ⟨?_, Below.refl _ _⟩
  rw [show -2 * z - 1 = 2 * -(z + 1) + 1 by omega]
  rfl
theorem c_r02Sign (z : Int) (h : I64 z) (w : World) : Calls Tryz.prog 89 #[.int .i64 z] w fun e w' => e = .returned (.int .u64 (foldZ z : Int)) ∧ Below w.heap.size w w' := by
  unfold foldZ
  by_cases h0 : 0 ≤ z
  · rw [if_pos h0, show (((2 * z).toNat : Nat) : Int) = 2 * z by omega]; exact sign_pos z h h0 w
  · rw [if_neg h0, show (((-2 * z - 1).toNat : Nat) : Int) = -2 * z - 1 by omega]; exact sign_neg z h h0 w
set_option maxRecDepth 100000 in
set_option maxHeartbeats 2000000 in
theorem c_r02Signed (z : Int) (h : I64 z) (w : World) : Calls Tryz.prog 64 #[.int .i64 z] w fun e w' => ∃ v, e = .returned v ∧ Below w.heap.size w w' ∧ BytR w' w.heap.size v (vlen (foldZ z)) := by
  have c1 := Lib.hid (fun W => c_r02Sign z h W)
  have c2 := Lib.hid (fun W => c_r02Bytes (foldZ z) (fold_lt h) W)
  go_enter Tryz.func64, Tryz.ntmps64
  go_wp2_with fail
  refine (c1.out _).mono ?_
  rintro e w1 ⟨rfl, hB1⟩
  go_wp2_with fail
  refine (c2.out _).mono ?_
  rintro e w2 ⟨v, rfl, hB2, hV⟩
  have h1 := hB1.size
  go_wp2
  go_ret
  exact ⟨v, rfl, hB1.trans (hB2.mono h1), hV.mono h1⟩
end Go.Proofs.YtbanjolokkghdaaGreatDoor
