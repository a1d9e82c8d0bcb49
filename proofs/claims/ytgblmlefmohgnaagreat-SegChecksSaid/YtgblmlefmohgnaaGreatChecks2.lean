/- For any two segments that come in, whatever is in them: SegChecks returns true; the arguments read as before. No condition. -/
import Derived.Test.YtgblmlefmohgnaaGreatChecks1
set_option linter.unusedSimpArgs false
set_option linter.unusedVariables false
namespace Go.Proofs.YtgblmlefmohgnaaGreat
open Go.RowKit
/-- A segment of its own, as a drawn step's value. -/
def OS (s : SegT) : Spec := fun v w => ∃ p q cap vc, v = .agg (segA s p q cap vc) ∧ SegIn w s p q ∧ s.raw.length ≤ vc ∧ TyP w p 51 ∧ TyP w q 2
theorem OS.closed (s : SegT) : Closed [] (OS s) := fun _ _ _ hr ⟨p, q, c, v, e, h, k, t1, t2⟩ => ⟨p, q, c, v, e, h.below hr.below, k, t1.below hr.below, t2.below hr.below⟩
theorem SegP.setN {w : World} {s : SegT} {p q : Option Addr} {g : Nat} (h : SegP w s p q) (h1 : Hid (∀ a, p = some a → a.block ≠ g)) (h2 : Hid (∀ a, q = some a → a.block ≠ g)) (i : Nat) (v : Value) : SegP (w.setCell ⟨g, i, none⟩ v) s p q :=
  ⟨⟨h.seg.runs.set' h1.out, h.seg.raw.set' h2.out, h.seg.fewR, h.seg.fewV⟩⟩
theorem segSet {w : World} {s : SegT} {p q : Option Addr} (h : SegP w s p q := by repeat (first | with_reducible assumption | with_reducible (refine SegP.setN ?_ (by assumption) (by assumption) _ _))) : SegP w s p q := h
set_option maxRecDepth 100000 in
set_option maxHeartbeats 8000000 in
theorem checks_no (K A R n d E : Int) (p q : Option Addr) (len cap m vc : Nat) (w : World) (K' A' R' n' d' E' : Int) (p' q' : Option Addr) (len' cap' m' vc' : Nat) (a b : SegT) (sm : Bool)
    (c1 : ∀ W, Below w.heap.size w W → Calls Tryz.prog 10 #[] W fun e w' => e = .returned (.bool true) ∧ Below W.heap.size W w')
    (c2 : ∀ W, Below w.heap.size w W → Calls Tryz.prog 11 #[.agg #[.int .i64 K, .slice p len cap, .int .i64 A, .int .i64 R, .int .i64 n, .int .i64 d, .slice q m vc, .int .i64 E]] W fun e w' => ∃ v, e = .returned v ∧ Below W.heap.size W w' ∧ OS a v w')
    (c3 : ∀ W, Below w.heap.size w W → Calls Tryz.prog 11 #[.agg #[.int .i64 K', .slice p' len' cap', .int .i64 A', .int .i64 R', .int .i64 n', .int .i64 d', .slice q' m' vc', .int .i64 E']] W fun e w' => ∃ v, e = .returned v ∧ Below W.heap.size W w' ∧ OS b v w')
    (c4 : ∀ W pa qa ca va, SegIn W a pa qa → Calls Tryz.prog 13 #[.agg #[.int .i64 a.K, .slice pa a.runs.length ca, .int .i64 a.A, .int .i64 a.R, .int .i64 a.n, .int .i64 a.d, .slice qa a.raw.length va, .int .i64 a.E]] W fun e w' => e = .returned (.bool false) ∧ Below W.heap.size W w')
    (c5 : ∀ W pa qa ca va, SegIn W a pa qa → Calls Tryz.prog 22 #[.agg #[.int .i64 a.K, .slice pa a.runs.length ca, .int .i64 a.A, .int .i64 a.R, .int .i64 a.n, .int .i64 a.d, .slice qa a.raw.length va, .int .i64 a.E]] W fun e w' => e = .returned (.int .i64 210) ∧ Below W.heap.size W w')
    (c6 : ∀ W pa qa ca va, SegIn W a pa qa → Calls Tryz.prog 23 #[.agg #[.int .i64 a.K, .slice pa a.runs.length ca, .int .i64 a.A, .int .i64 a.R, .int .i64 a.n, .int .i64 a.d, .slice qa a.raw.length va, .int .i64 a.E]] W fun e w' => e = .returned (.int .i64 0) ∧ Below W.heap.size W w')
    (c7 : ∀ W pa qa ca va pb qb cb vb, SegIn W a pa qa → SegIn W b pb qb → Calls Tryz.prog 21 #[.agg #[.int .i64 a.K, .slice pa a.runs.length ca, .int .i64 a.A, .int .i64 a.R, .int .i64 a.n, .int .i64 a.d, .slice qa a.raw.length va, .int .i64 a.E], .agg #[.int .i64 b.K, .slice pb b.runs.length cb, .int .i64 b.A, .int .i64 b.R, .int .i64 b.n, .int .i64 b.d, .slice qb b.raw.length vb, .int .i64 b.E]] W fun e w' => e = .returned (.bool sm) ∧ Below W.heap.size W w')
    (c8 : ∀ W pa qa ca va pb qb cb vb, SegIn W a pa qa → SegIn W b pb qb → Calls Tryz.prog 24 #[.agg #[.int .i64 a.K, .slice pa a.runs.length ca, .int .i64 a.A, .int .i64 a.R, .int .i64 a.n, .int .i64 a.d, .slice qa a.raw.length va, .int .i64 a.E], .agg #[.int .i64 b.K, .slice pb b.runs.length cb, .int .i64 b.A, .int .i64 b.R, .int .i64 b.n, .int .i64 b.d, .slice qb b.raw.length vb, .int .i64 b.E]] W fun e w' => e = .returned (.bool sm) ∧ Below W.heap.size W w')
    (c9' : ∀ W pa qa ca va p9 q9 c9 v9, SegIn W a pa qa → SegIn W a p9 q9 → Calls Tryz.prog 21 #[.agg #[.int .i64 a.K, .slice pa a.runs.length ca, .int .i64 a.A, .int .i64 a.R, .int .i64 a.n, .int .i64 a.d, .slice qa a.raw.length va, .int .i64 a.E], .agg (segA a p9 q9 c9 v9)] W fun e w' => e = .returned (.bool true) ∧ Below W.heap.size W w') :
    Calls Tryz.prog 5 #[.agg #[.int .i64 K, .slice p len cap, .int .i64 A, .int .i64 R, .int .i64 n, .int .i64 d, .slice q m vc, .int .i64 E], .agg #[.int .i64 K', .slice p' len' cap', .int .i64 A', .int .i64 R', .int .i64 n', .int .i64 d', .slice q' m' vc', .int .i64 E']] w fun e w' => e = .returned (.bool true) ∧ Below w.heap.size w w' := by
  have H_c1 := Lib.hid c1
  clear c1
  have H_c2 := Lib.hid c2
  clear c2
  have H_c3 := Lib.hid c3
  clear c3
  have H_c4 := Lib.hid c4
  clear c4
  have H_c5 := Lib.hid c5
  clear c5
  have H_c6 := Lib.hid c6
  clear c6
  have H_c7 := Lib.hid c7
  clear c7
  have H_c8 := Lib.hid c8
  clear c8
  have H_c9' := Lib.hid c9'
  clear c9'
  go_enter Tryz.func5, Tryz.ntmps5
  go_upto_region 1 with (fail)
  refine wp_facts (fun W' => Below w.heap.size w W' ∧ Blk W' w.heap.size #[.int .i64 K, .slice p len cap, .int .i64 A, .int .i64 R, .int .i64 n, .int .i64 d, .slice q m vc, .int .i64 E] 27 ∧ Blk W' (w.heap.size + 1) #[.int .i64 K', .slice p' len' cap', .int .i64 A', .int .i64 R', .int .i64 n', .int .i64 d', .slice q' m' vc', .int .i64 E'] 27) ⟨by exact belowAny, by exact blkAny2, by exact blkAny2⟩ ?_
  rintro W1 ⟨hW, b1, b2⟩
  have z2 := hW.size
  have z3 := b1.lt
  have z4 := b2.lt
  have k1 := b1.cell
  have f1 := b1.frozen
  have k2 := b2.cell
  have f2 := b2.frozen
  have c1 := H_c1.out
  go_wp2_with fail
  refine (c1 _ (belowAny)).mono ?_
  rintro e w5 ⟨rfl, hb5⟩
  clear c1
  have z6 := hb5.size
  try simp at z6
  clear k1 f1 k2 f2
  have b1 : Blk w5 w.heap.size #[.int .i64 K, .slice p len cap, .int .i64 A, .int .i64 R, .int .i64 n, .int .i64 d, .slice q m vc, .int .i64 E] 27 := by exact blkAny2
  have b2 : Blk w5 (w.heap.size + 1) #[.int .i64 K', .slice p' len' cap', .int .i64 A', .int .i64 R', .int .i64 n', .int .i64 d', .slice q' m' vc', .int .i64 E'] 27 := by exact blkAny2
  have hW : Below w.heap.size w w5 := by exact belowAny
  have z7 := b1.lt
  have z8 := b2.lt
  clear hb5
  have k1 := b1.cell
  have f1 := b1.frozen
  have k2 := b2.cell
  have f2 := b2.frozen
  go_upto_region 3 with (fail)
  clear k1 f1 k2 f2
  refine wp_facts (fun W' => Below w.heap.size w W' ∧ Blk W' w.heap.size #[.int .i64 K, .slice p len cap, .int .i64 A, .int .i64 R, .int .i64 n, .int .i64 d, .slice q m vc, .int .i64 E] 27 ∧ Blk W' (w.heap.size + 1) #[.int .i64 K', .slice p' len' cap', .int .i64 A', .int .i64 R', .int .i64 n', .int .i64 d', .slice q' m' vc', .int .i64 E'] 27) ⟨by exact belowAny, by exact blkAny2, by exact blkAny2⟩ ?_
  clear b1 b2 hW
  rintro W9 ⟨hW, b1, b2⟩
  have z10 := hW.size
  have z11 := b1.lt
  have z12 := b2.lt
  have c2 := H_c2.out
  have c3 := H_c3.out
  refine wp_region_ndA 6 59 [] (fun W' => Rex [] W9 W' ∧ Blk W' w.heap.size #[.int .i64 K, .slice p len cap, .int .i64 A, .int .i64 R, .int .i64 n, .int .i64 d, .slice q m vc, .int .i64 E] 27 ∧ Blk W' (w.heap.size + 1) #[.int .i64 K', .slice p' len' cap', .int .i64 A', .int .i64 R', .int .i64 n', .int .i64 d', .slice q' m' vc', .int .i64 E'] 27) mixed (by kernel_rfl) rfl ⟨(Rex.refl _ _).drew, b1, b2⟩ (fun w w' ⟨h0, h1, h2⟩ hr => ⟨h0.trans hr, h1.rex hr (by simp <;> omega), h2.rex hr (by simp <;> omega)⟩) (fun c a d v w h => by cases d <;> exact h) ?_
  iterate 1
    apply nd_det (hg := rfl) (hal := rfl)
    · intro a W' hC hE
      obtain ⟨_, k1, k2⟩ := hC
      have k1 := k1.cell
      have k2 := k2.cell
      first
        | (simp [Oper.looksAt, Op.operands, Call.operands, envOf, Det] at hE; simp [go_sem, Act.eval, IntWalk.i64_left, hE, k1, k2]; try rfl)
        | (clear hE; simp [go_sem, Act.eval, IntWalk.i64_left, k1, k2]; try rfl)
  apply nd_call (OS a) (hg := rfl) (hal := rfl)
  · exact OS.closed _
  · intro a' W' hC hE
    obtain ⟨hR9, k1, k2⟩ := hC
    have k1 := k1.cell
    have k2 := k2.cell
    simp [Oper.looksAt, Op.operands, Call.operands, envOf, Det] at hE
    refine ⟨_, _, ?_, (c2 W' (hW.trans (hR9.of_priv hW.size))).mono ?_⟩
    · simp [go_sem, Act.eval, hE]
      try rfl
    · rintro e w' ⟨v, rfl, hB, hO⟩
      exact ⟨_, rfl, hB, hO⟩
  iterate 1
    apply nd_det (hg := rfl) (hal := rfl)
    · intro a W' hC hE
      obtain ⟨_, k1, k2⟩ := hC
      have k1 := k1.cell
      have k2 := k2.cell
      first
        | (simp [Oper.looksAt, Op.operands, Call.operands, envOf, Det] at hE; simp [go_sem, Act.eval, IntWalk.i64_left, hE, k1, k2]; try rfl)
        | (clear hE; simp [go_sem, Act.eval, IntWalk.i64_left, k1, k2]; try rfl)
  apply nd_call (OS b) (hg := rfl) (hal := rfl)
  · exact OS.closed _
  · intro a' W' hC hE
    obtain ⟨hR9, k1, k2⟩ := hC
    have k1 := k1.cell
    have k2 := k2.cell
    simp [Oper.looksAt, Op.operands, Call.operands, envOf, Det] at hE
    refine ⟨_, _, ?_, (c3 W' (hW.trans (hR9.of_priv hW.size))).mono ?_⟩
    · simp [go_sem, Act.eval, hE]
      try rfl
    · rintro e w' ⟨v, rfl, hB, hO⟩
      exact ⟨_, rfl, hB, hO⟩
  apply nd_alloc W9.heap.size #[.int .i64 0, .slice none 0 0, .int .i64 0, .int .i64 0, .int .i64 0, .int .i64 0, .slice none 0 0, .int .i64 0] 27 rfl rfl
  · exact fun W' hC => hC.1.size
  · simp [others] <;> omega
  · intro w; kernel_rfl
  apply nd_alloc W9.heap.size #[.int .i64 0, .slice none 0 0, .int .i64 0, .int .i64 0, .int .i64 0, .int .i64 0, .slice none 0 0, .int .i64 0] 27 rfl rfl
  · exact fun W' hC => hC.1.size
  · simp [others] <;> omega
  · intro w; kernel_rfl
  rintro W12 ⟨hR, d1, d2⟩
  simp only [ndFinR, Det, forall_eq]
  intros
  repeat (rename GDet _ _ _ _ => hgd; clear hgd)
  simp only [Act.put, List.setIfInBounds_toArray, List.set_cons_zero, List.set_cons_succ, List.drop_succ_cons, List.drop_zero]
  clear c2
  clear c3
  clear b1 b2
  have b1 := d1
  have b2 := d2
  clear d1 d2
  replace hW := hW.trans (hR.of_priv hW.size)
  clear hR
  rename AllocApart _ _ => hap
  rename OS a _ _ => hoa
  rename OS b _ _ => hob
  obtain ⟨pa, qa, ca, va, rfl, ha, hva, hta, hta'⟩ := hoa
  obtain ⟨pb, qb, cb, vb, rfl, hb, hvb, htb, htb'⟩ := hob
  clear hva hvb
  unfold segA
  rename NewVar _ _ _ _ _ => hn6
  obtain ⟨o6, rfl, hg6, b4⟩ := hn6
  rename NewVar _ _ _ _ _ => hn5
  obtain ⟨o5, rfl, hg5, b3⟩ := hn5
  have hne : o5 ≠ o6 := fun e => hap 5 6 (by simp [allocDsts, isAlloc]) (by simp [allocDsts, isAlloc]) (by decide) ⟨o5, 0, none⟩ (by simp [Act.put]) (by simp [Act.put, e])
  clear hap
  have n05 := Lib.hid (hta.ne b3 (by decide))
  have n06 := Lib.hid (hta.ne b4 (by decide))
  have n15 := Lib.hid (hta'.ne b3 (by decide))
  have n16 := Lib.hid (hta'.ne b4 (by decide))
  have n25 := Lib.hid (htb.ne b3 (by decide))
  have n26 := Lib.hid (htb.ne b4 (by decide))
  have n35 := Lib.hid (htb'.ne b3 (by decide))
  have n36 := Lib.hid (htb'.ne b4 (by decide))
  clear hta hta' htb htb'
  have sa : SegP _ _ _ _ := ⟨ha⟩
  have sb : SegP _ _ _ _ := ⟨hb⟩
  clear ha hb
  have z91 := hW.size
  have z92 := b1.lt
  have z93 := b2.lt
  have z94 := b3.lt
  have z95 := b4.lt
  have k1 := b1.cell
  have f1 := b1.frozen
  have k2 := b2.cell
  have f2 := b2.frozen
  have k3 := b3.cell
  have f3 := b3.frozen
  have k4 := b4.cell
  have f4 := b4.frozen
  go_upto_region 4 with (fail)
  clear k1 f1 k2 f2 k3 f3 k4 f4
  refine wp_facts (fun W' => Below w.heap.size w W' ∧ Blk W' w.heap.size #[.int .i64 K, .slice p len cap, .int .i64 A, .int .i64 R, .int .i64 n, .int .i64 d, .slice q m vc, .int .i64 E] 27 ∧ Blk W' (w.heap.size + 1) #[.int .i64 K', .slice p' len' cap', .int .i64 A', .int .i64 R', .int .i64 n', .int .i64 d', .slice q' m' vc', .int .i64 E'] 27 ∧ Blk W' o5 #[.int .i64 a.K, .slice pa a.runs.length ca, .int .i64 a.A, .int .i64 a.R, .int .i64 a.n, .int .i64 a.d, .slice qa a.raw.length va, .int .i64 a.E] 27 ∧ Blk W' o6 #[.int .i64 b.K, .slice pb b.runs.length cb, .int .i64 b.A, .int .i64 b.R, .int .i64 b.n, .int .i64 b.d, .slice qb b.raw.length vb, .int .i64 b.E] 27 ∧ SegP W' a pa qa ∧ SegP W' b pb qb) ⟨by exact belowAny, by exact blkAny2, by exact blkAny2, by exact blkAny2, by exact blkAny2, by exact segSet, by exact segSet⟩ ?_
  clear b1 b2 b3 b4 hW
  rintro W61 ⟨hW, b1, b2, b3, b4, b5, b6⟩
  have z62 := hW.size
  have z63 := b1.lt
  have z64 := b2.lt
  have z65 := b3.lt
  have z66 := b4.lt
  clear sa sb n05 n06 n15 n16 n25 n26 n35 n36
  have k1 := b1.cell
  have f1 := b1.frozen
  have k2 := b2.cell
  have f2 := b2.frozen
  have k3 := b3.cell
  have f3 := b3.frozen
  have k4 := b4.cell
  have f4 := b4.frozen
  have c4 := H_c4.out
  go_wp2_with fail
  refine (c4 _ pa qa ca va b5.seg).mono ?_
  rintro e w67 ⟨rfl, hb67⟩
  clear c4
  have z68 := hb67.size
  try simp at z68
  clear k1 f1 k2 f2 k3 f3 k4 f4
  have b1 : Blk w67 w.heap.size #[.int .i64 K, .slice p len cap, .int .i64 A, .int .i64 R, .int .i64 n, .int .i64 d, .slice q m vc, .int .i64 E] 27 := by exact blkAny2
  have b2 : Blk w67 (w.heap.size + 1) #[.int .i64 K', .slice p' len' cap', .int .i64 A', .int .i64 R', .int .i64 n', .int .i64 d', .slice q' m' vc', .int .i64 E'] 27 := by exact blkAny2
  have b3 : Blk w67 o5 #[.int .i64 a.K, .slice pa a.runs.length ca, .int .i64 a.A, .int .i64 a.R, .int .i64 a.n, .int .i64 a.d, .slice qa a.raw.length va, .int .i64 a.E] 27 := by exact blkAny2
  have b4 : Blk w67 o6 #[.int .i64 b.K, .slice pb b.runs.length cb, .int .i64 b.A, .int .i64 b.R, .int .i64 b.n, .int .i64 b.d, .slice qb b.raw.length vb, .int .i64 b.E] 27 := by exact blkAny2
  have b5 : SegP w67 a pa qa := by exact b5.below (by assumption)
  have b6 : SegP w67 b pb qb := by exact b6.below (by assumption)
  have hW : Below w.heap.size w w67 := by exact belowAny
  have z69 := b1.lt
  have z70 := b2.lt
  have z71 := b3.lt
  have z72 := b4.lt
  clear hb67
  have k1 := b1.cell
  have f1 := b1.frozen
  have k2 := b2.cell
  have f2 := b2.frozen
  have k3 := b3.cell
  have f3 := b3.frozen
  have k4 := b4.cell
  have f4 := b4.frozen
  go_upto_region 5 with (fail)
  clear k1 f1 k2 f2 k3 f3 k4 f4
  refine wp_facts (fun W' => Below w.heap.size w W' ∧ Blk W' w.heap.size #[.int .i64 K, .slice p len cap, .int .i64 A, .int .i64 R, .int .i64 n, .int .i64 d, .slice q m vc, .int .i64 E] 27 ∧ Blk W' (w.heap.size + 1) #[.int .i64 K', .slice p' len' cap', .int .i64 A', .int .i64 R', .int .i64 n', .int .i64 d', .slice q' m' vc', .int .i64 E'] 27 ∧ Blk W' o5 #[.int .i64 a.K, .slice pa a.runs.length ca, .int .i64 a.A, .int .i64 a.R, .int .i64 a.n, .int .i64 a.d, .slice qa a.raw.length va, .int .i64 a.E] 27 ∧ Blk W' o6 #[.int .i64 b.K, .slice pb b.runs.length cb, .int .i64 b.A, .int .i64 b.R, .int .i64 b.n, .int .i64 b.d, .slice qb b.raw.length vb, .int .i64 b.E] 27 ∧ SegP W' a pa qa ∧ SegP W' b pb qb) ⟨by exact belowAny, by exact blkAny2, by exact blkAny2, by exact blkAny2, by exact blkAny2, by exact b5, by exact b6⟩ ?_
  clear b1 b2 b3 b4 b5 b6 hW
  rintro W73 ⟨hW, b1, b2, b3, b4, b5, b6⟩
  have z74 := hW.size
  have z75 := b1.lt
  have z76 := b2.lt
  have z77 := b3.lt
  have z78 := b4.lt
  have c5 := H_c5.out
  have c6 := H_c6.out
  refine wp_region_nd 6 59 [] (fun W' => Rex [] W73 W' ∧ Blk W' w.heap.size #[.int .i64 K, .slice p len cap, .int .i64 A, .int .i64 R, .int .i64 n, .int .i64 d, .slice q m vc, .int .i64 E] 27 ∧ Blk W' (w.heap.size + 1) #[.int .i64 K', .slice p' len' cap', .int .i64 A', .int .i64 R', .int .i64 n', .int .i64 d', .slice q' m' vc', .int .i64 E'] 27 ∧ Blk W' o5 #[.int .i64 a.K, .slice pa a.runs.length ca, .int .i64 a.A, .int .i64 a.R, .int .i64 a.n, .int .i64 a.d, .slice qa a.raw.length va, .int .i64 a.E] 27 ∧ Blk W' o6 #[.int .i64 b.K, .slice pb b.runs.length cb, .int .i64 b.A, .int .i64 b.R, .int .i64 b.n, .int .i64 b.d, .slice qb b.raw.length vb, .int .i64 b.E] 27 ∧ SegP W' a pa qa ∧ SegP W' b pb qb) mixed (by kernel_rfl) rfl ⟨(Rex.refl _ _).drew, b1, b2, b3, b4, b5.drew, b6.drew⟩ (fun w w' ⟨h0, h1, h2, h3, h4, h5, h6⟩ hr => ⟨h0.trans hr, h1.rex hr (by simp <;> omega), h2.rex hr (by simp <;> omega), h3.rex hr (by simp <;> omega), h4.rex hr (by simp <;> omega), h5.rex hr (by simp <;> omega), h6.rex hr (by simp <;> omega)⟩) (fun c a d v w h => by cases d <;> exact h) ?_
  iterate 1
    apply nd_det (hg := rfl) (hal := rfl)
    · intro a W' hC hE
      obtain ⟨_, k1, k2, k3, k4, k5, k6⟩ := hC
      have k3 := k3.cell
      first
        | (simp [Oper.looksAt, Op.operands, Call.operands, envOf, Det] at hE; simp [go_sem, Act.eval, IntWalk.i64_left, hE, k1, k2, k3, k4, k5, k6]; try rfl)
        | (clear hE; simp [go_sem, Act.eval, IntWalk.i64_left, k1, k2, k3, k4, k5, k6]; try rfl)
  refine nd_callv2 rfl rfl (fun W' hC => c5 W' pa qa ca va hC.2.2.2.2.2.1.seg) (fun a W' hC hE => ?_) ?_
  · obtain ⟨_, k1, k2, k3, k4, k5, k6⟩ := hC
    have k3 := k3.cell
    first
      | (simp [Oper.looksAt, Op.operands, Call.operands, envOf, Det] at hE; simp [go_sem, Act.eval, IntWalk.i64_left, hE, k1, k2, k3, k4, k5, k6]; try rfl)
      | (clear hE; simp [go_sem, Act.eval, IntWalk.i64_left, k1, k2, k3, k4, k5, k6]; try rfl)
  iterate 1
    apply nd_det (hg := rfl) (hal := rfl)
    · intro a W' hC hE
      obtain ⟨_, k1, k2, k3, k4, k5, k6⟩ := hC
      have k3 := k3.cell
      first
        | (simp [Oper.looksAt, Op.operands, Call.operands, envOf, Det] at hE; simp [go_sem, Act.eval, IntWalk.i64_left, hE, k1, k2, k3, k4, k5, k6]; try rfl)
        | (clear hE; simp [go_sem, Act.eval, IntWalk.i64_left, k1, k2, k3, k4, k5, k6]; try rfl)
  refine nd_callv2 rfl rfl (fun W' hC => c6 W' pa qa ca va hC.2.2.2.2.2.1.seg) (fun a W' hC hE => ?_) ?_
  · obtain ⟨_, k1, k2, k3, k4, k5, k6⟩ := hC
    have k3 := k3.cell
    first
      | (simp [Oper.looksAt, Op.operands, Call.operands, envOf, Det] at hE; simp [go_sem, Act.eval, IntWalk.i64_left, hE, k1, k2, k3, k4, k5, k6]; try rfl)
      | (clear hE; simp [go_sem, Act.eval, IntWalk.i64_left, k1, k2, k3, k4, k5, k6]; try rfl)
  iterate 2
    apply nd_det (hg := rfl) (hal := rfl)
    · intro a W' hC hE
      obtain ⟨_, k1, k2, k3, k4, k5, k6⟩ := hC
      have k3 := k3.cell
      first
        | (simp [Oper.looksAt, Op.operands, Call.operands, envOf, Det] at hE; simp [go_sem, Act.eval, IntWalk.i64_left, hE, k1, k2, k3, k4, k5, k6]; try rfl)
        | (clear hE; simp [go_sem, Act.eval, IntWalk.i64_left, k1, k2, k3, k4, k5, k6]; try rfl)
  rintro W79 ⟨hR, d1, d2, d3, d4, d5, d6⟩
  simp only [ndFinR, Det, forall_eq]
  intros
  repeat (rename GDet _ _ _ _ => hgd; clear hgd)
  simp only [Act.put, List.setIfInBounds_toArray, List.set_cons_zero, List.set_cons_succ]
  refine wpList_nil ?_
  replace hW := hW.trans (hR.of_priv hW.size)
  clear hR
  clear c5
  clear c6
  try clear b1 b2 b3 b4 b5 b6
  have b1 := d1
  clear d1
  have b2 := d2
  clear d2
  have b3 := d3
  clear d3
  have b4 := d4
  clear d4
  have b5 := d5
  clear d5
  have b6 := d6
  clear d6
  have k1 := b1.cell
  have f1 := b1.frozen
  have k2 := b2.cell
  have f2 := b2.frozen
  have k3 := b3.cell
  have f3 := b3.frozen
  have k4 := b4.cell
  have f4 := b4.frozen
  have c2 := H_c2.out
  have c9' := H_c9'.out
  go_upto_region 6 with (fail)
  clear k1 f1 k2 f2 k3 f3 k4 f4
  refine wp_facts (fun W' => Below w.heap.size w W' ∧ Blk W' w.heap.size #[.int .i64 K, .slice p len cap, .int .i64 A, .int .i64 R, .int .i64 n, .int .i64 d, .slice q m vc, .int .i64 E] 27 ∧ Blk W' (w.heap.size + 1) #[.int .i64 K', .slice p' len' cap', .int .i64 A', .int .i64 R', .int .i64 n', .int .i64 d', .slice q' m' vc', .int .i64 E'] 27 ∧ Blk W' o5 #[.int .i64 a.K, .slice pa a.runs.length ca, .int .i64 a.A, .int .i64 a.R, .int .i64 a.n, .int .i64 a.d, .slice qa a.raw.length va, .int .i64 a.E] 27 ∧ Blk W' o6 #[.int .i64 b.K, .slice pb b.runs.length cb, .int .i64 b.A, .int .i64 b.R, .int .i64 b.n, .int .i64 b.d, .slice qb b.raw.length vb, .int .i64 b.E] 27 ∧ SegP W' a pa qa ∧ SegP W' b pb qb) ⟨by exact belowAny, by exact blkAny2, by exact blkAny2, by exact blkAny2, by exact blkAny2, by exact b5, by exact b6⟩ ?_
  clear b1 b2 b3 b4 b5 b6 hW
  rintro W80 ⟨hW, b1, b2, b3, b4, b5, b6⟩
  have z81 := hW.size
  have z82 := b1.lt
  have z83 := b2.lt
  have z84 := b3.lt
  have z85 := b4.lt
  have c7 := H_c7.out
  have c8 := H_c8.out
  refine wp_region_nd 14 59 [] (fun W' => Rex [] W80 W' ∧ Blk W' w.heap.size #[.int .i64 K, .slice p len cap, .int .i64 A, .int .i64 R, .int .i64 n, .int .i64 d, .slice q m vc, .int .i64 E] 27 ∧ Blk W' (w.heap.size + 1) #[.int .i64 K', .slice p' len' cap', .int .i64 A', .int .i64 R', .int .i64 n', .int .i64 d', .slice q' m' vc', .int .i64 E'] 27 ∧ Blk W' o5 #[.int .i64 a.K, .slice pa a.runs.length ca, .int .i64 a.A, .int .i64 a.R, .int .i64 a.n, .int .i64 a.d, .slice qa a.raw.length va, .int .i64 a.E] 27 ∧ Blk W' o6 #[.int .i64 b.K, .slice pb b.runs.length cb, .int .i64 b.A, .int .i64 b.R, .int .i64 b.n, .int .i64 b.d, .slice qb b.raw.length vb, .int .i64 b.E] 27 ∧ SegP W' a pa qa ∧ SegP W' b pb qb) mixed (by kernel_rfl) rfl ⟨(Rex.refl _ _).drew, b1, b2, b3, b4, b5.drew, b6.drew⟩ (fun w w' ⟨h0, h1, h2, h3, h4, h5, h6⟩ hr => ⟨h0.trans hr, h1.rex hr (by simp <;> omega), h2.rex hr (by simp <;> omega), h3.rex hr (by simp <;> omega), h4.rex hr (by simp <;> omega), h5.rex hr (by simp <;> omega), h6.rex hr (by simp <;> omega)⟩) (fun c a d v w h => by cases d <;> exact h) ?_
  iterate 2
    apply nd_det (hg := rfl) (hal := rfl)
    · intro a W' hC hE
      obtain ⟨_, k1, k2, k3, k4, k5, k6⟩ := hC
      have k1 := k1.cell
      have k3 := k3.cell
      have k4 := k4.cell
      first
        | (simp [Oper.looksAt, Op.operands, Call.operands, envOf, Det] at hE; simp [go_sem, Act.eval, IntWalk.i64_left, hE, k1, k2, k3, k4, k5, k6]; try rfl)
        | (clear hE; simp [go_sem, Act.eval, IntWalk.i64_left, k1, k2, k3, k4, k5, k6]; try rfl)
  refine nd_callv2 rfl rfl (fun W' hC => c7 W' pa qa ca va pb qb cb vb hC.2.2.2.2.2.1.seg hC.2.2.2.2.2.2.seg) (fun a W' hC hE => ?_) ?_
  · obtain ⟨_, k1, k2, k3, k4, k5, k6⟩ := hC
    have k1 := k1.cell
    have k3 := k3.cell
    have k4 := k4.cell
    first
      | (simp [Oper.looksAt, Op.operands, Call.operands, envOf, Det] at hE; simp [go_sem, Act.eval, IntWalk.i64_left, hE, k1, k2, k3, k4, k5, k6]; try rfl)
      | (clear hE; simp [go_sem, Act.eval, IntWalk.i64_left, k1, k2, k3, k4, k5, k6]; try rfl)
  iterate 2
    apply nd_det (hg := rfl) (hal := rfl)
    · intro a W' hC hE
      obtain ⟨_, k1, k2, k3, k4, k5, k6⟩ := hC
      have k1 := k1.cell
      have k3 := k3.cell
      have k4 := k4.cell
      first
        | (simp [Oper.looksAt, Op.operands, Call.operands, envOf, Det] at hE; simp [go_sem, Act.eval, IntWalk.i64_left, hE, k1, k2, k3, k4, k5, k6]; try rfl)
        | (clear hE; simp [go_sem, Act.eval, IntWalk.i64_left, k1, k2, k3, k4, k5, k6]; try rfl)
  refine nd_callv2 rfl rfl (fun W' hC => c8 W' pa qa ca va pb qb cb vb hC.2.2.2.2.2.1.seg hC.2.2.2.2.2.2.seg) (fun a W' hC hE => ?_) ?_
  · obtain ⟨_, k1, k2, k3, k4, k5, k6⟩ := hC
    have k1 := k1.cell
    have k3 := k3.cell
    have k4 := k4.cell
    first
      | (simp [Oper.looksAt, Op.operands, Call.operands, envOf, Det] at hE; simp [go_sem, Act.eval, IntWalk.i64_left, hE, k1, k2, k3, k4, k5, k6]; try rfl)
      | (clear hE; simp [go_sem, Act.eval, IntWalk.i64_left, k1, k2, k3, k4, k5, k6]; try rfl)
  iterate 2
    apply nd_det (hg := rfl) (hal := rfl)
    · intro a W' hC hE
      obtain ⟨_, k1, k2, k3, k4, k5, k6⟩ := hC
      have k1 := k1.cell
      have k3 := k3.cell
      have k4 := k4.cell
      first
        | (simp [Oper.looksAt, Op.operands, Call.operands, envOf, Det] at hE; simp [go_sem, Act.eval, IntWalk.i64_left, hE, k1, k2, k3, k4, k5, k6]; try rfl)
        | (clear hE; simp [go_sem, Act.eval, IntWalk.i64_left, k1, k2, k3, k4, k5, k6]; try rfl)
  iterate 2
    apply nd_detg (p := true) (hg := rfl) (hd := rfl) (hal := rfl)
    · intro v W' h
      simp [envOf, Det] at h
      simp
      exact h
    · intro hp hx a W' hC hE
      obtain ⟨_, k1, k2, k3, k4, k5, k6⟩ := hC
      have k1 := k1.cell
      have k3 := k3.cell
      have k4 := k4.cell
      simp [Oper.looksAt, Op.operands, Call.operands, envOf, Det, GDet, hx] at hE
      simp [go_sem, Act.eval, IntWalk.i64_left, hE, k1, k2, k3, k4, k5, k6]
      try rfl
  apply nd_oncall (OS a) (hg := rfl) (hd := rfl) (hal := rfl)
  · exact OS.closed _
  · intro v W' h
    simp [envOf, Det] at h
    exact h
  · intro a' W' hC hE
    obtain ⟨hR9, k1, _⟩ := hC
    have k1 := k1.cell
    simp [Oper.looksAt, Op.operands, Call.operands, envOf, Det, GDet] at hE
    refine ⟨_, _, ?_, (c2 W' (hW.trans (hR9.of_priv hW.size))).mono ?_⟩
    · simp [go_sem, Act.eval, hE]
      try rfl
    · rintro e w' ⟨v, rfl, hB, hO⟩
      exact ⟨_, rfl, hB, hO⟩
  apply nd_oncall (Det (.bool true)) (hg := rfl) (hd := rfl) (hal := rfl)
  · exact closed_det _ _
  · intro v W' h
    simp [envOf, Det] at h
    exact h
  · intro a' W' hC hE
    simp [Oper.looksAt, Op.operands, Call.operands, envOf, Det, GDet] at hE
    obtain ⟨p9, q9, c9, v9, e9, h9, _⟩ := hE.2.1
    refine ⟨_, _, ?_, (c9' W' pa qa ca va p9 q9 c9 v9 hC.2.2.2.2.2.1.seg h9).mono ?_⟩
    · simp [go_sem, Act.eval, hE.1, hE.2.2, e9, segA]
      try rfl
    · rintro e w' ⟨rfl, hB⟩
      exact ⟨_, rfl, hB, rfl⟩
  iterate 1
    apply nd_detg (p := true) (hg := rfl) (hd := rfl) (hal := rfl)
    · intro v W' h
      simp [envOf, Det] at h
      simp
      exact h
    · intro hp hx a W' hC hE
      obtain ⟨_, k1, k2, k3, k4, k5, k6⟩ := hC
      have k1 := k1.cell
      have k3 := k3.cell
      have k4 := k4.cell
      simp [Oper.looksAt, Op.operands, Call.operands, envOf, Det, GDet, hx] at hE
      simp [go_sem, Act.eval, IntWalk.i64_left, hE, k1, k2, k3, k4, k5, k6]
      try rfl
  apply nd_pick_or (ho := rfl) (hg := rfl)
  · intro v W' h
    simp [envOf, Det] at h
    exact h
  · intro v W' h hx
    simp [envOf, GDet, hx] at h
    exact h
  rintro W86 ⟨hR, d1, d2, d3, d4, d5, d6⟩
  simp only [ndFinR, Det, forall_eq]
  intros
  repeat (rename GDet _ _ _ _ => hgd; clear hgd)
  simp only [Act.put, List.setIfInBounds_toArray, List.set_cons_zero, List.set_cons_succ]
  refine wpList_nil ?_
  replace hW := hW.trans (hR.of_priv hW.size)
  clear hR
  clear c7
  clear c8
  try clear b1 b2 b3 b4 b5 b6
  have b1 := d1
  clear d1
  have b2 := d2
  clear d2
  have b3 := d3
  clear d3
  have b4 := d4
  clear d4
  have b5 := d5
  clear d5
  have b6 := d6
  clear d6
  clear c2
  clear c9'
  have z96 := hW.size
  have z97 := b3.lt
  have k1 := b1.cell
  have f1 := b1.frozen
  have k2 := b2.cell
  have f2 := b2.frozen
  have k3 := b3.cell
  have f3 := b3.frozen
  have k4 := b4.cell
  have f4 := b4.frozen
  go_wp2
  have y_1 := b1.lt
  have y_2 := b2.lt
  have y_3 := b3.lt
  have y_4 := b4.lt
  refine bodyPost_ret (v := .bool true) (by simp [results, Tryz.results5, go_sem, k1, f1, k2, f2, k3, f3, k4, f4, y_1, y_2, y_3, y_4]) rfl ⟨rfl, hW⟩
set_option maxRecDepth 100000 in
set_option maxHeartbeats 8000000 in
theorem checks_yes (K A R n d E : Int) (p q : Option Addr) (len cap m vc : Nat) (w : World) (K' A' R' n' d' E' : Int) (p' q' : Option Addr) (len' cap' m' vc' : Nat) (a b : SegT) (sm : Bool) (N : Nat)
    (c1 : ∀ W, Below w.heap.size w W → Calls Tryz.prog 10 #[] W fun e w' => e = .returned (.bool true) ∧ Below W.heap.size W w')
    (c2 : ∀ W, Below w.heap.size w W → Calls Tryz.prog 11 #[.agg #[.int .i64 K, .slice p len cap, .int .i64 A, .int .i64 R, .int .i64 n, .int .i64 d, .slice q m vc, .int .i64 E]] W fun e w' => ∃ v, e = .returned v ∧ Below W.heap.size W w' ∧ OS a v w')
    (c3 : ∀ W, Below w.heap.size w W → Calls Tryz.prog 11 #[.agg #[.int .i64 K', .slice p' len' cap', .int .i64 A', .int .i64 R', .int .i64 n', .int .i64 d', .slice q' m' vc', .int .i64 E']] W fun e w' => ∃ v, e = .returned v ∧ Below W.heap.size W w' ∧ OS b v w')
    (c4 : ∀ W pa qa ca va, SegIn W a pa qa → Calls Tryz.prog 13 #[.agg #[.int .i64 a.K, .slice pa a.runs.length ca, .int .i64 a.A, .int .i64 a.R, .int .i64 a.n, .int .i64 a.d, .slice qa a.raw.length va, .int .i64 a.E]] W fun e w' => e = .returned (.bool true) ∧ Below W.heap.size W w')
    (c5 : ∀ W pa qa ca va, SegIn W a pa qa → Calls Tryz.prog 22 #[.agg #[.int .i64 a.K, .slice pa a.runs.length ca, .int .i64 a.A, .int .i64 a.R, .int .i64 a.n, .int .i64 a.d, .slice qa a.raw.length va, .int .i64 a.E]] W fun e w' => e = .returned (.int .i64 0) ∧ Below W.heap.size W w')
    (c6 : ∀ W pa qa ca va, SegIn W a pa qa → Calls Tryz.prog 23 #[.agg #[.int .i64 a.K, .slice pa a.runs.length ca, .int .i64 a.A, .int .i64 a.R, .int .i64 a.n, .int .i64 a.d, .slice qa a.raw.length va, .int .i64 a.E]] W fun e w' => e = .returned (.int .i64 (N : Int)) ∧ Below W.heap.size W w')
    (c7 : ∀ W pa qa ca va pb qb cb vb, SegIn W a pa qa → SegIn W b pb qb → Calls Tryz.prog 21 #[.agg #[.int .i64 a.K, .slice pa a.runs.length ca, .int .i64 a.A, .int .i64 a.R, .int .i64 a.n, .int .i64 a.d, .slice qa a.raw.length va, .int .i64 a.E], .agg #[.int .i64 b.K, .slice pb b.runs.length cb, .int .i64 b.A, .int .i64 b.R, .int .i64 b.n, .int .i64 b.d, .slice qb b.raw.length vb, .int .i64 b.E]] W fun e w' => e = .returned (.bool sm) ∧ Below W.heap.size W w')
    (c8 : ∀ W pa qa ca va pb qb cb vb, SegIn W a pa qa → SegIn W b pb qb → Calls Tryz.prog 24 #[.agg #[.int .i64 a.K, .slice pa a.runs.length ca, .int .i64 a.A, .int .i64 a.R, .int .i64 a.n, .int .i64 a.d, .slice qa a.raw.length va, .int .i64 a.E], .agg #[.int .i64 b.K, .slice pb b.runs.length cb, .int .i64 b.A, .int .i64 b.R, .int .i64 b.n, .int .i64 b.d, .slice qb b.raw.length vb, .int .i64 b.E]] W fun e w' => e = .returned (.bool sm) ∧ Below W.heap.size W w')
    (c9' : ∀ W pa qa ca va p9 q9 c9 v9, SegIn W a pa qa → SegIn W a p9 q9 → Calls Tryz.prog 21 #[.agg #[.int .i64 a.K, .slice pa a.runs.length ca, .int .i64 a.A, .int .i64 a.R, .int .i64 a.n, .int .i64 a.d, .slice qa a.raw.length va, .int .i64 a.E], .agg (segA a p9 q9 c9 v9)] W fun e w' => e = .returned (.bool true) ∧ Below W.heap.size W w')
    (c11 : ∀ W pa qa ca va, SegIn W a pa qa → Calls Tryz.prog 14 #[.agg #[.int .i64 a.K, .slice pa a.runs.length ca, .int .i64 a.A, .int .i64 a.R, .int .i64 a.n, .int .i64 a.d, .slice qa a.raw.length va, .int .i64 a.E]] W fun e w' => ∃ v cp, e = .returned (.tuple #[.slice v N cp, .bool true]) ∧ Below W.heap.size W w') :
    Calls Tryz.prog 5 #[.agg #[.int .i64 K, .slice p len cap, .int .i64 A, .int .i64 R, .int .i64 n, .int .i64 d, .slice q m vc, .int .i64 E], .agg #[.int .i64 K', .slice p' len' cap', .int .i64 A', .int .i64 R', .int .i64 n', .int .i64 d', .slice q' m' vc', .int .i64 E']] w fun e w' => e = .returned (.bool true) ∧ Below w.heap.size w w' := by
  have H_c1 := Lib.hid c1
  clear c1
  have H_c2 := Lib.hid c2
  clear c2
  have H_c3 := Lib.hid c3
  clear c3
  have H_c4 := Lib.hid c4
  clear c4
  have H_c5 := Lib.hid c5
  clear c5
  have H_c6 := Lib.hid c6
  clear c6
  have H_c7 := Lib.hid c7
  clear c7
  have H_c8 := Lib.hid c8
  clear c8
  have H_c9' := Lib.hid c9'
  clear c9'
  have H_c11 := Lib.hid c11
  clear c11
  go_enter Tryz.func5, Tryz.ntmps5
  go_upto_region 1 with (fail)
  refine wp_facts (fun W' => Below w.heap.size w W' ∧ Blk W' w.heap.size #[.int .i64 K, .slice p len cap, .int .i64 A, .int .i64 R, .int .i64 n, .int .i64 d, .slice q m vc, .int .i64 E] 27 ∧ Blk W' (w.heap.size + 1) #[.int .i64 K', .slice p' len' cap', .int .i64 A', .int .i64 R', .int .i64 n', .int .i64 d', .slice q' m' vc', .int .i64 E'] 27) ⟨by exact belowAny, by exact blkAny2, by exact blkAny2⟩ ?_
  rintro W1 ⟨hW, b1, b2⟩
  have z2 := hW.size
  have z3 := b1.lt
  have z4 := b2.lt
  have k1 := b1.cell
  have f1 := b1.frozen
  have k2 := b2.cell
  have f2 := b2.frozen
  have c1 := H_c1.out
  go_wp2_with fail
  refine (c1 _ (belowAny)).mono ?_
  rintro e w5 ⟨rfl, hb5⟩
  clear c1
  have z6 := hb5.size
  try simp at z6
  clear k1 f1 k2 f2
  have b1 : Blk w5 w.heap.size #[.int .i64 K, .slice p len cap, .int .i64 A, .int .i64 R, .int .i64 n, .int .i64 d, .slice q m vc, .int .i64 E] 27 := by exact blkAny2
  have b2 : Blk w5 (w.heap.size + 1) #[.int .i64 K', .slice p' len' cap', .int .i64 A', .int .i64 R', .int .i64 n', .int .i64 d', .slice q' m' vc', .int .i64 E'] 27 := by exact blkAny2
  have hW : Below w.heap.size w w5 := by exact belowAny
  have z7 := b1.lt
  have z8 := b2.lt
  clear hb5
  have k1 := b1.cell
  have f1 := b1.frozen
  have k2 := b2.cell
  have f2 := b2.frozen
  go_upto_region 3 with (fail)
  clear k1 f1 k2 f2
  refine wp_facts (fun W' => Below w.heap.size w W' ∧ Blk W' w.heap.size #[.int .i64 K, .slice p len cap, .int .i64 A, .int .i64 R, .int .i64 n, .int .i64 d, .slice q m vc, .int .i64 E] 27 ∧ Blk W' (w.heap.size + 1) #[.int .i64 K', .slice p' len' cap', .int .i64 A', .int .i64 R', .int .i64 n', .int .i64 d', .slice q' m' vc', .int .i64 E'] 27) ⟨by exact belowAny, by exact blkAny2, by exact blkAny2⟩ ?_
  clear b1 b2 hW
  rintro W9 ⟨hW, b1, b2⟩
  have z10 := hW.size
  have z11 := b1.lt
  have z12 := b2.lt
  have c2 := H_c2.out
  have c3 := H_c3.out
  refine wp_region_ndA 6 59 [] (fun W' => Rex [] W9 W' ∧ Blk W' w.heap.size #[.int .i64 K, .slice p len cap, .int .i64 A, .int .i64 R, .int .i64 n, .int .i64 d, .slice q m vc, .int .i64 E] 27 ∧ Blk W' (w.heap.size + 1) #[.int .i64 K', .slice p' len' cap', .int .i64 A', .int .i64 R', .int .i64 n', .int .i64 d', .slice q' m' vc', .int .i64 E'] 27) mixed (by kernel_rfl) rfl ⟨(Rex.refl _ _).drew, b1, b2⟩ (fun w w' ⟨h0, h1, h2⟩ hr => ⟨h0.trans hr, h1.rex hr (by simp <;> omega), h2.rex hr (by simp <;> omega)⟩) (fun c a d v w h => by cases d <;> exact h) ?_
  iterate 1
    apply nd_det (hg := rfl) (hal := rfl)
    · intro a W' hC hE
      obtain ⟨_, k1, k2⟩ := hC
      have k1 := k1.cell
      have k2 := k2.cell
      first
        | (simp [Oper.looksAt, Op.operands, Call.operands, envOf, Det] at hE; simp [go_sem, Act.eval, IntWalk.i64_left, hE, k1, k2]; try rfl)
        | (clear hE; simp [go_sem, Act.eval, IntWalk.i64_left, k1, k2]; try rfl)
  apply nd_call (OS a) (hg := rfl) (hal := rfl)
  · exact OS.closed _
  · intro a' W' hC hE
    obtain ⟨hR9, k1, k2⟩ := hC
    have k1 := k1.cell
    have k2 := k2.cell
    simp [Oper.looksAt, Op.operands, Call.operands, envOf, Det] at hE
    refine ⟨_, _, ?_, (c2 W' (hW.trans (hR9.of_priv hW.size))).mono ?_⟩
    · simp [go_sem, Act.eval, hE]
      try rfl
    · rintro e w' ⟨v, rfl, hB, hO⟩
      exact ⟨_, rfl, hB, hO⟩
  iterate 1
    apply nd_det (hg := rfl) (hal := rfl)
    · intro a W' hC hE
      obtain ⟨_, k1, k2⟩ := hC
      have k1 := k1.cell
      have k2 := k2.cell
      first
        | (simp [Oper.looksAt, Op.operands, Call.operands, envOf, Det] at hE; simp [go_sem, Act.eval, IntWalk.i64_left, hE, k1, k2]; try rfl)
        | (clear hE; simp [go_sem, Act.eval, IntWalk.i64_left, k1, k2]; try rfl)
  apply nd_call (OS b) (hg := rfl) (hal := rfl)
  · exact OS.closed _
  · intro a' W' hC hE
    obtain ⟨hR9, k1, k2⟩ := hC
    have k1 := k1.cell
    have k2 := k2.cell
    simp [Oper.looksAt, Op.operands, Call.operands, envOf, Det] at hE
    refine ⟨_, _, ?_, (c3 W' (hW.trans (hR9.of_priv hW.size))).mono ?_⟩
    · simp [go_sem, Act.eval, hE]
      try rfl
    · rintro e w' ⟨v, rfl, hB, hO⟩
      exact ⟨_, rfl, hB, hO⟩
  apply nd_alloc W9.heap.size #[.int .i64 0, .slice none 0 0, .int .i64 0, .int .i64 0, .int .i64 0, .int .i64 0, .slice none 0 0, .int .i64 0] 27 rfl rfl
  · exact fun W' hC => hC.1.size
  · simp [others] <;> omega
  · intro w; kernel_rfl
  apply nd_alloc W9.heap.size #[.int .i64 0, .slice none 0 0, .int .i64 0, .int .i64 0, .int .i64 0, .int .i64 0, .slice none 0 0, .int .i64 0] 27 rfl rfl
  · exact fun W' hC => hC.1.size
  · simp [others] <;> omega
  · intro w; kernel_rfl
  rintro W12 ⟨hR, d1, d2⟩
  simp only [ndFinR, Det, forall_eq]
  intros
  repeat (rename GDet _ _ _ _ => hgd; clear hgd)
  simp only [Act.put, List.setIfInBounds_toArray, List.set_cons_zero, List.set_cons_succ, List.drop_succ_cons, List.drop_zero]
  clear c2
  clear c3
  clear b1 b2
  have b1 := d1
  have b2 := d2
  clear d1 d2
  replace hW := hW.trans (hR.of_priv hW.size)
  clear hR
  rename AllocApart _ _ => hap
  rename OS a _ _ => hoa
  rename OS b _ _ => hob
  obtain ⟨pa, qa, ca, va, rfl, ha, hva, hta, hta'⟩ := hoa
  obtain ⟨pb, qb, cb, vb, rfl, hb, hvb, htb, htb'⟩ := hob
  clear hva hvb
  unfold segA
  rename NewVar _ _ _ _ _ => hn6
  obtain ⟨o6, rfl, hg6, b4⟩ := hn6
  rename NewVar _ _ _ _ _ => hn5
  obtain ⟨o5, rfl, hg5, b3⟩ := hn5
  have hne : o5 ≠ o6 := fun e => hap 5 6 (by simp [allocDsts, isAlloc]) (by simp [allocDsts, isAlloc]) (by decide) ⟨o5, 0, none⟩ (by simp [Act.put]) (by simp [Act.put, e])
  clear hap
  have n05 := Lib.hid (hta.ne b3 (by decide))
  have n06 := Lib.hid (hta.ne b4 (by decide))
  have n15 := Lib.hid (hta'.ne b3 (by decide))
  have n16 := Lib.hid (hta'.ne b4 (by decide))
  have n25 := Lib.hid (htb.ne b3 (by decide))
  have n26 := Lib.hid (htb.ne b4 (by decide))
  have n35 := Lib.hid (htb'.ne b3 (by decide))
  have n36 := Lib.hid (htb'.ne b4 (by decide))
  clear hta hta' htb htb'
  have sa : SegP _ _ _ _ := ⟨ha⟩
  have sb : SegP _ _ _ _ := ⟨hb⟩
  clear ha hb
  have z91 := hW.size
  have z92 := b1.lt
  have z93 := b2.lt
  have z94 := b3.lt
  have z95 := b4.lt
  have k1 := b1.cell
  have f1 := b1.frozen
  have k2 := b2.cell
  have f2 := b2.frozen
  have k3 := b3.cell
  have f3 := b3.frozen
  have k4 := b4.cell
  have f4 := b4.frozen
  go_upto_region 4 with (fail)
  clear k1 f1 k2 f2 k3 f3 k4 f4
  refine wp_facts (fun W' => Below w.heap.size w W' ∧ Blk W' w.heap.size #[.int .i64 K, .slice p len cap, .int .i64 A, .int .i64 R, .int .i64 n, .int .i64 d, .slice q m vc, .int .i64 E] 27 ∧ Blk W' (w.heap.size + 1) #[.int .i64 K', .slice p' len' cap', .int .i64 A', .int .i64 R', .int .i64 n', .int .i64 d', .slice q' m' vc', .int .i64 E'] 27 ∧ Blk W' o5 #[.int .i64 a.K, .slice pa a.runs.length ca, .int .i64 a.A, .int .i64 a.R, .int .i64 a.n, .int .i64 a.d, .slice qa a.raw.length va, .int .i64 a.E] 27 ∧ Blk W' o6 #[.int .i64 b.K, .slice pb b.runs.length cb, .int .i64 b.A, .int .i64 b.R, .int .i64 b.n, .int .i64 b.d, .slice qb b.raw.length vb, .int .i64 b.E] 27 ∧ SegP W' a pa qa ∧ SegP W' b pb qb) ⟨by exact belowAny, by exact blkAny2, by exact blkAny2, by exact blkAny2, by exact blkAny2, by exact segSet, by exact segSet⟩ ?_
  clear b1 b2 b3 b4 hW
  rintro W61 ⟨hW, b1, b2, b3, b4, b5, b6⟩
  have z62 := hW.size
  have z63 := b1.lt
  have z64 := b2.lt
  have z65 := b3.lt
  have z66 := b4.lt
  clear sa sb n05 n06 n15 n16 n25 n26 n35 n36
  have k1 := b1.cell
  have f1 := b1.frozen
  have k2 := b2.cell
  have f2 := b2.frozen
  have k3 := b3.cell
  have f3 := b3.frozen
  have k4 := b4.cell
  have f4 := b4.frozen
  have c4 := H_c4.out
  go_wp2_with fail
  refine (c4 _ pa qa ca va b5.seg).mono ?_
  rintro e w67 ⟨rfl, hb67⟩
  clear c4
  have z68 := hb67.size
  try simp at z68
  clear k1 f1 k2 f2 k3 f3 k4 f4
  have b1 : Blk w67 w.heap.size #[.int .i64 K, .slice p len cap, .int .i64 A, .int .i64 R, .int .i64 n, .int .i64 d, .slice q m vc, .int .i64 E] 27 := by exact blkAny2
  have b2 : Blk w67 (w.heap.size + 1) #[.int .i64 K', .slice p' len' cap', .int .i64 A', .int .i64 R', .int .i64 n', .int .i64 d', .slice q' m' vc', .int .i64 E'] 27 := by exact blkAny2
  have b3 : Blk w67 o5 #[.int .i64 a.K, .slice pa a.runs.length ca, .int .i64 a.A, .int .i64 a.R, .int .i64 a.n, .int .i64 a.d, .slice qa a.raw.length va, .int .i64 a.E] 27 := by exact blkAny2
  have b4 : Blk w67 o6 #[.int .i64 b.K, .slice pb b.runs.length cb, .int .i64 b.A, .int .i64 b.R, .int .i64 b.n, .int .i64 b.d, .slice qb b.raw.length vb, .int .i64 b.E] 27 := by exact blkAny2
  have b5 : SegP w67 a pa qa := by exact b5.below (by assumption)
  have b6 : SegP w67 b pb qb := by exact b6.below (by assumption)
  have hW : Below w.heap.size w w67 := by exact belowAny
  have z69 := b1.lt
  have z70 := b2.lt
  have z71 := b3.lt
  have z72 := b4.lt
  clear hb67
  have k1 := b1.cell
  have f1 := b1.frozen
  have k2 := b2.cell
  have f2 := b2.frozen
  have k3 := b3.cell
  have f3 := b3.frozen
  have k4 := b4.cell
  have f4 := b4.frozen
  go_upto_region 5 with (fail)
  clear k1 f1 k2 f2 k3 f3 k4 f4
  refine wp_facts (fun W' => Below w.heap.size w W' ∧ Blk W' w.heap.size #[.int .i64 K, .slice p len cap, .int .i64 A, .int .i64 R, .int .i64 n, .int .i64 d, .slice q m vc, .int .i64 E] 27 ∧ Blk W' (w.heap.size + 1) #[.int .i64 K', .slice p' len' cap', .int .i64 A', .int .i64 R', .int .i64 n', .int .i64 d', .slice q' m' vc', .int .i64 E'] 27 ∧ Blk W' o5 #[.int .i64 a.K, .slice pa a.runs.length ca, .int .i64 a.A, .int .i64 a.R, .int .i64 a.n, .int .i64 a.d, .slice qa a.raw.length va, .int .i64 a.E] 27 ∧ Blk W' o6 #[.int .i64 b.K, .slice pb b.runs.length cb, .int .i64 b.A, .int .i64 b.R, .int .i64 b.n, .int .i64 b.d, .slice qb b.raw.length vb, .int .i64 b.E] 27 ∧ SegP W' a pa qa ∧ SegP W' b pb qb) ⟨by exact belowAny, by exact blkAny2, by exact blkAny2, by exact blkAny2, by exact blkAny2, by exact b5, by exact b6⟩ ?_
  clear b1 b2 b3 b4 b5 b6 hW
  rintro W73 ⟨hW, b1, b2, b3, b4, b5, b6⟩
  have z74 := hW.size
  have z75 := b1.lt
  have z76 := b2.lt
  have z77 := b3.lt
  have z78 := b4.lt
  have c5 := H_c5.out
  have c6 := H_c6.out
  refine wp_region_nd 6 59 [] (fun W' => Rex [] W73 W' ∧ Blk W' w.heap.size #[.int .i64 K, .slice p len cap, .int .i64 A, .int .i64 R, .int .i64 n, .int .i64 d, .slice q m vc, .int .i64 E] 27 ∧ Blk W' (w.heap.size + 1) #[.int .i64 K', .slice p' len' cap', .int .i64 A', .int .i64 R', .int .i64 n', .int .i64 d', .slice q' m' vc', .int .i64 E'] 27 ∧ Blk W' o5 #[.int .i64 a.K, .slice pa a.runs.length ca, .int .i64 a.A, .int .i64 a.R, .int .i64 a.n, .int .i64 a.d, .slice qa a.raw.length va, .int .i64 a.E] 27 ∧ Blk W' o6 #[.int .i64 b.K, .slice pb b.runs.length cb, .int .i64 b.A, .int .i64 b.R, .int .i64 b.n, .int .i64 b.d, .slice qb b.raw.length vb, .int .i64 b.E] 27 ∧ SegP W' a pa qa ∧ SegP W' b pb qb) mixed (by kernel_rfl) rfl ⟨(Rex.refl _ _).drew, b1, b2, b3, b4, b5.drew, b6.drew⟩ (fun w w' ⟨h0, h1, h2, h3, h4, h5, h6⟩ hr => ⟨h0.trans hr, h1.rex hr (by simp <;> omega), h2.rex hr (by simp <;> omega), h3.rex hr (by simp <;> omega), h4.rex hr (by simp <;> omega), h5.rex hr (by simp <;> omega), h6.rex hr (by simp <;> omega)⟩) (fun c a d v w h => by cases d <;> exact h) ?_
  iterate 1
    apply nd_det (hg := rfl) (hal := rfl)
    · intro a W' hC hE
      obtain ⟨_, k1, k2, k3, k4, k5, k6⟩ := hC
      have k3 := k3.cell
      first
        | (simp [Oper.looksAt, Op.operands, Call.operands, envOf, Det] at hE; simp [go_sem, Act.eval, IntWalk.i64_left, hE, k1, k2, k3, k4, k5, k6]; try rfl)
        | (clear hE; simp [go_sem, Act.eval, IntWalk.i64_left, k1, k2, k3, k4, k5, k6]; try rfl)
  refine nd_callv2 rfl rfl (fun W' hC => c5 W' pa qa ca va hC.2.2.2.2.2.1.seg) (fun a W' hC hE => ?_) ?_
  · obtain ⟨_, k1, k2, k3, k4, k5, k6⟩ := hC
    have k3 := k3.cell
    first
      | (simp [Oper.looksAt, Op.operands, Call.operands, envOf, Det] at hE; simp [go_sem, Act.eval, IntWalk.i64_left, hE, k1, k2, k3, k4, k5, k6]; try rfl)
      | (clear hE; simp [go_sem, Act.eval, IntWalk.i64_left, k1, k2, k3, k4, k5, k6]; try rfl)
  iterate 1
    apply nd_det (hg := rfl) (hal := rfl)
    · intro a W' hC hE
      obtain ⟨_, k1, k2, k3, k4, k5, k6⟩ := hC
      have k3 := k3.cell
      first
        | (simp [Oper.looksAt, Op.operands, Call.operands, envOf, Det] at hE; simp [go_sem, Act.eval, IntWalk.i64_left, hE, k1, k2, k3, k4, k5, k6]; try rfl)
        | (clear hE; simp [go_sem, Act.eval, IntWalk.i64_left, k1, k2, k3, k4, k5, k6]; try rfl)
  refine nd_callv2 rfl rfl (fun W' hC => c6 W' pa qa ca va hC.2.2.2.2.2.1.seg) (fun a W' hC hE => ?_) ?_
  · obtain ⟨_, k1, k2, k3, k4, k5, k6⟩ := hC
    have k3 := k3.cell
    first
      | (simp [Oper.looksAt, Op.operands, Call.operands, envOf, Det] at hE; simp [go_sem, Act.eval, IntWalk.i64_left, hE, k1, k2, k3, k4, k5, k6]; try rfl)
      | (clear hE; simp [go_sem, Act.eval, IntWalk.i64_left, k1, k2, k3, k4, k5, k6]; try rfl)
  iterate 2
    apply nd_det (hg := rfl) (hal := rfl)
    · intro a W' hC hE
      obtain ⟨_, k1, k2, k3, k4, k5, k6⟩ := hC
      have k3 := k3.cell
      first
        | (simp [Oper.looksAt, Op.operands, Call.operands, envOf, Det] at hE; simp [go_sem, Act.eval, IntWalk.i64_left, hE, k1, k2, k3, k4, k5, k6]; try rfl)
        | (clear hE; simp [go_sem, Act.eval, IntWalk.i64_left, k1, k2, k3, k4, k5, k6]; try rfl)
  rintro W79 ⟨hR, d1, d2, d3, d4, d5, d6⟩
  simp only [ndFinR, Det, forall_eq]
  intros
  repeat (rename GDet _ _ _ _ => hgd; clear hgd)
  simp only [Act.put, List.setIfInBounds_toArray, List.set_cons_zero, List.set_cons_succ]
  refine wpList_nil ?_
  replace hW := hW.trans (hR.of_priv hW.size)
  clear hR
  clear c5
  clear c6
  try clear b1 b2 b3 b4 b5 b6
  have b1 := d1
  clear d1
  have b2 := d2
  clear d2
  have b3 := d3
  clear d3
  have b4 := d4
  clear d4
  have b5 := d5
  clear d5
  have b6 := d6
  clear d6
  have k1 := b1.cell
  have f1 := b1.frozen
  have k2 := b2.cell
  have f2 := b2.frozen
  have k3 := b3.cell
  have f3 := b3.frozen
  have k4 := b4.cell
  have f4 := b4.frozen
  have c2 := H_c2.out
  have c9' := H_c9'.out
  go_upto_region 6 with (fail)
  clear k1 f1 k2 f2 k3 f3 k4 f4
  refine wp_facts (fun W' => Below w.heap.size w W' ∧ Blk W' w.heap.size #[.int .i64 K, .slice p len cap, .int .i64 A, .int .i64 R, .int .i64 n, .int .i64 d, .slice q m vc, .int .i64 E] 27 ∧ Blk W' (w.heap.size + 1) #[.int .i64 K', .slice p' len' cap', .int .i64 A', .int .i64 R', .int .i64 n', .int .i64 d', .slice q' m' vc', .int .i64 E'] 27 ∧ Blk W' o5 #[.int .i64 a.K, .slice pa a.runs.length ca, .int .i64 a.A, .int .i64 a.R, .int .i64 a.n, .int .i64 a.d, .slice qa a.raw.length va, .int .i64 a.E] 27 ∧ Blk W' o6 #[.int .i64 b.K, .slice pb b.runs.length cb, .int .i64 b.A, .int .i64 b.R, .int .i64 b.n, .int .i64 b.d, .slice qb b.raw.length vb, .int .i64 b.E] 27 ∧ SegP W' a pa qa ∧ SegP W' b pb qb) ⟨by exact belowAny, by exact blkAny2, by exact blkAny2, by exact blkAny2, by exact blkAny2, by exact b5, by exact b6⟩ ?_
  clear b1 b2 b3 b4 b5 b6 hW
  rintro W80 ⟨hW, b1, b2, b3, b4, b5, b6⟩
  have z81 := hW.size
  have z82 := b1.lt
  have z83 := b2.lt
  have z84 := b3.lt
  have z85 := b4.lt
  have c7 := H_c7.out
  have c8 := H_c8.out
  refine wp_region_nd 14 59 [] (fun W' => Rex [] W80 W' ∧ Blk W' w.heap.size #[.int .i64 K, .slice p len cap, .int .i64 A, .int .i64 R, .int .i64 n, .int .i64 d, .slice q m vc, .int .i64 E] 27 ∧ Blk W' (w.heap.size + 1) #[.int .i64 K', .slice p' len' cap', .int .i64 A', .int .i64 R', .int .i64 n', .int .i64 d', .slice q' m' vc', .int .i64 E'] 27 ∧ Blk W' o5 #[.int .i64 a.K, .slice pa a.runs.length ca, .int .i64 a.A, .int .i64 a.R, .int .i64 a.n, .int .i64 a.d, .slice qa a.raw.length va, .int .i64 a.E] 27 ∧ Blk W' o6 #[.int .i64 b.K, .slice pb b.runs.length cb, .int .i64 b.A, .int .i64 b.R, .int .i64 b.n, .int .i64 b.d, .slice qb b.raw.length vb, .int .i64 b.E] 27 ∧ SegP W' a pa qa ∧ SegP W' b pb qb) mixed (by kernel_rfl) rfl ⟨(Rex.refl _ _).drew, b1, b2, b3, b4, b5.drew, b6.drew⟩ (fun w w' ⟨h0, h1, h2, h3, h4, h5, h6⟩ hr => ⟨h0.trans hr, h1.rex hr (by simp <;> omega), h2.rex hr (by simp <;> omega), h3.rex hr (by simp <;> omega), h4.rex hr (by simp <;> omega), h5.rex hr (by simp <;> omega), h6.rex hr (by simp <;> omega)⟩) (fun c a d v w h => by cases d <;> exact h) ?_
  iterate 2
    apply nd_det (hg := rfl) (hal := rfl)
    · intro a W' hC hE
      obtain ⟨_, k1, k2, k3, k4, k5, k6⟩ := hC
      have k1 := k1.cell
      have k3 := k3.cell
      have k4 := k4.cell
      first
        | (simp [Oper.looksAt, Op.operands, Call.operands, envOf, Det] at hE; simp [go_sem, Act.eval, IntWalk.i64_left, hE, k1, k2, k3, k4, k5, k6]; try rfl)
        | (clear hE; simp [go_sem, Act.eval, IntWalk.i64_left, k1, k2, k3, k4, k5, k6]; try rfl)
  refine nd_callv2 rfl rfl (fun W' hC => c7 W' pa qa ca va pb qb cb vb hC.2.2.2.2.2.1.seg hC.2.2.2.2.2.2.seg) (fun a W' hC hE => ?_) ?_
  · obtain ⟨_, k1, k2, k3, k4, k5, k6⟩ := hC
    have k1 := k1.cell
    have k3 := k3.cell
    have k4 := k4.cell
    first
      | (simp [Oper.looksAt, Op.operands, Call.operands, envOf, Det] at hE; simp [go_sem, Act.eval, IntWalk.i64_left, hE, k1, k2, k3, k4, k5, k6]; try rfl)
      | (clear hE; simp [go_sem, Act.eval, IntWalk.i64_left, k1, k2, k3, k4, k5, k6]; try rfl)
  iterate 2
    apply nd_det (hg := rfl) (hal := rfl)
    · intro a W' hC hE
      obtain ⟨_, k1, k2, k3, k4, k5, k6⟩ := hC
      have k1 := k1.cell
      have k3 := k3.cell
      have k4 := k4.cell
      first
        | (simp [Oper.looksAt, Op.operands, Call.operands, envOf, Det] at hE; simp [go_sem, Act.eval, IntWalk.i64_left, hE, k1, k2, k3, k4, k5, k6]; try rfl)
        | (clear hE; simp [go_sem, Act.eval, IntWalk.i64_left, k1, k2, k3, k4, k5, k6]; try rfl)
  refine nd_callv2 rfl rfl (fun W' hC => c8 W' pa qa ca va pb qb cb vb hC.2.2.2.2.2.1.seg hC.2.2.2.2.2.2.seg) (fun a W' hC hE => ?_) ?_
  · obtain ⟨_, k1, k2, k3, k4, k5, k6⟩ := hC
    have k1 := k1.cell
    have k3 := k3.cell
    have k4 := k4.cell
    first
      | (simp [Oper.looksAt, Op.operands, Call.operands, envOf, Det] at hE; simp [go_sem, Act.eval, IntWalk.i64_left, hE, k1, k2, k3, k4, k5, k6]; try rfl)
      | (clear hE; simp [go_sem, Act.eval, IntWalk.i64_left, k1, k2, k3, k4, k5, k6]; try rfl)
  iterate 2
    apply nd_det (hg := rfl) (hal := rfl)
    · intro a W' hC hE
      obtain ⟨_, k1, k2, k3, k4, k5, k6⟩ := hC
      have k1 := k1.cell
      have k3 := k3.cell
      have k4 := k4.cell
      first
        | (simp [Oper.looksAt, Op.operands, Call.operands, envOf, Det] at hE; simp [go_sem, Act.eval, IntWalk.i64_left, hE, k1, k2, k3, k4, k5, k6]; try rfl)
        | (clear hE; simp [go_sem, Act.eval, IntWalk.i64_left, k1, k2, k3, k4, k5, k6]; try rfl)
  iterate 2
    apply nd_detg (p := true) (hg := rfl) (hd := rfl) (hal := rfl)
    · intro v W' h
      simp [envOf, Det] at h
      simp
      exact h
    · intro hp hx a W' hC hE
      obtain ⟨_, k1, k2, k3, k4, k5, k6⟩ := hC
      have k1 := k1.cell
      have k3 := k3.cell
      have k4 := k4.cell
      simp [Oper.looksAt, Op.operands, Call.operands, envOf, Det, GDet, hx] at hE
      simp [go_sem, Act.eval, IntWalk.i64_left, hE, k1, k2, k3, k4, k5, k6]
      try rfl
  apply nd_oncall (OS a) (hg := rfl) (hd := rfl) (hal := rfl)
  · exact OS.closed _
  · intro v W' h
    simp [envOf, Det] at h
    exact h
  · intro a' W' hC hE
    obtain ⟨hR9, k1, _⟩ := hC
    have k1 := k1.cell
    simp [Oper.looksAt, Op.operands, Call.operands, envOf, Det, GDet] at hE
    refine ⟨_, _, ?_, (c2 W' (hW.trans (hR9.of_priv hW.size))).mono ?_⟩
    · simp [go_sem, Act.eval, hE]
      try rfl
    · rintro e w' ⟨v, rfl, hB, hO⟩
      exact ⟨_, rfl, hB, hO⟩
  apply nd_oncall (Det (.bool true)) (hg := rfl) (hd := rfl) (hal := rfl)
  · exact closed_det _ _
  · intro v W' h
    simp [envOf, Det] at h
    exact h
  · intro a' W' hC hE
    simp [Oper.looksAt, Op.operands, Call.operands, envOf, Det, GDet] at hE
    obtain ⟨p9, q9, c9, v9, e9, h9, _⟩ := hE.2.1
    refine ⟨_, _, ?_, (c9' W' pa qa ca va p9 q9 c9 v9 hC.2.2.2.2.2.1.seg h9).mono ?_⟩
    · simp [go_sem, Act.eval, hE.1, hE.2.2, e9, segA]
      try rfl
    · rintro e w' ⟨rfl, hB⟩
      exact ⟨_, rfl, hB, rfl⟩
  iterate 1
    apply nd_detg (p := true) (hg := rfl) (hd := rfl) (hal := rfl)
    · intro v W' h
      simp [envOf, Det] at h
      simp
      exact h
    · intro hp hx a W' hC hE
      obtain ⟨_, k1, k2, k3, k4, k5, k6⟩ := hC
      have k1 := k1.cell
      have k3 := k3.cell
      have k4 := k4.cell
      simp [Oper.looksAt, Op.operands, Call.operands, envOf, Det, GDet, hx] at hE
      simp [go_sem, Act.eval, IntWalk.i64_left, hE, k1, k2, k3, k4, k5, k6]
      try rfl
  apply nd_pick_or (ho := rfl) (hg := rfl)
  · intro v W' h
    simp [envOf, Det] at h
    exact h
  · intro v W' h hx
    simp [envOf, GDet, hx] at h
    exact h
  rintro W86 ⟨hR, d1, d2, d3, d4, d5, d6⟩
  simp only [ndFinR, Det, forall_eq]
  intros
  repeat (rename GDet _ _ _ _ => hgd; clear hgd)
  simp only [Act.put, List.setIfInBounds_toArray, List.set_cons_zero, List.set_cons_succ]
  refine wpList_nil ?_
  replace hW := hW.trans (hR.of_priv hW.size)
  clear hR
  clear c7
  clear c8
  try clear b1 b2 b3 b4 b5 b6
  have b1 := d1
  clear d1
  have b2 := d2
  clear d2
  have b3 := d3
  clear d3
  have b4 := d4
  clear d4
  have b5 := d5
  clear d5
  have b6 := d6
  clear d6
  clear c2
  clear c9'
  have z96 := hW.size
  have z97 := b3.lt
  have k1 := b1.cell
  have f1 := b1.frozen
  have k2 := b2.cell
  have f2 := b2.frozen
  have k3 := b3.cell
  have f3 := b3.frozen
  have k4 := b4.cell
  have f4 := b4.frozen
  have c11 := H_c11.out
  go_wp2_with fail
  refine (c11 _ pa qa ca va b5.seg).mono ?_
  rintro e w87 ⟨v11, cp, rfl, hb87⟩
  clear c11
  have z88 := hb87.size
  try simp at z88
  clear k1 f1 k2 f2 k3 f3 k4 f4
  have b1 : Blk w87 w.heap.size #[.int .i64 K, .slice p len cap, .int .i64 A, .int .i64 R, .int .i64 n, .int .i64 d, .slice q m vc, .int .i64 E] 27 := by exact blkAny2
  have b2 : Blk w87 (w.heap.size + 1) #[.int .i64 K', .slice p' len' cap', .int .i64 A', .int .i64 R', .int .i64 n', .int .i64 d', .slice q' m' vc', .int .i64 E'] 27 := by exact blkAny2
  have b3 : Blk w87 o5 #[.int .i64 a.K, .slice pa a.runs.length ca, .int .i64 a.A, .int .i64 a.R, .int .i64 a.n, .int .i64 a.d, .slice qa a.raw.length va, .int .i64 a.E] 27 := by exact blkAny2
  have b4 : Blk w87 o6 #[.int .i64 b.K, .slice pb b.runs.length cb, .int .i64 b.A, .int .i64 b.R, .int .i64 b.n, .int .i64 b.d, .slice qb b.raw.length vb, .int .i64 b.E] 27 := by exact blkAny2
  have b5 : SegP w87 a pa qa := by exact b5.below (by assumption)
  have b6 : SegP w87 b pb qb := by exact b6.below (by assumption)
  have hW : Below w.heap.size w w87 := by exact belowAny
  have z89 := b1.lt
  have z90 := b2.lt
  have z91 := b3.lt
  have z92 := b4.lt
  have k1 := b1.cell
  have f1 := b1.frozen
  have k2 := b2.cell
  have f2 := b2.frozen
  have k3 := b3.cell
  have f3 := b3.frozen
  have k4 := b4.cell
  have f4 := b4.frozen
  go_wp2
  have y_1 := b1.lt
  have y_2 := b2.lt
  have y_3 := b3.lt
  have y_4 := b4.lt
  refine bodyPost_ret (v := .bool true) (by simp [results, Tryz.results5, go_sem, k1, f1, k2, f2, k3, f3, k4, f4, y_1, y_2, y_3, y_4]) rfl ⟨rfl, hW⟩
end Go.Proofs.YtgblmlefmohgnaaGreat
namespace Go.Proofs.YtgblmlefmohgnaaGreat
open Go.ChangeShapes Go.WideShapes Go.ChangeAt Go.RowKit
theorem Came.callsC {w w' : World} {s : SegT} {p q : Option Addr} {cap vc : Nat} (h : Came w s p q cap vc) (hb : Below w.heap.size w w') : Came w' s p q cap vc := ⟨h.runs.below hb, h.raw.below hb, h.nilR, h.nilV, h.capR, h.capV, h.maxR, h.maxV⟩
theorem c_ownOS (s : SegT) (p q : Option Addr) (cap vc : Nat) (w : World) (h : Came w s p q cap vc) : ∀ W, Below w.heap.size w W → Calls Tryz.prog 11 #[.agg (segA s p q cap vc)] W fun e w' => ∃ v, e = .returned v ∧ Below W.heap.size W w' ∧ OS (ownS s) v w' := by
  intro W hW
  refine (c_ownT s p q cap vc W (h.callsC hW)).mono ?_
  rintro e w' ⟨p', c', q', v', rfl, hB, hS, hc, t1, t2⟩
  exact ⟨_, rfl, hB, p', q', c', v', rfl, hS, hc, t1, t2⟩
theorem c_segChecksLaw (s t : SegT) (p q p' q' : Option Addr) (cap vc cap' vc' : Nat) (w : World) (h : Came w s p q cap vc) (h' : Came w t p' q' cap' vc') :
    Calls Tryz.prog 5 #[.agg (segA s p q cap vc), .agg (segA t p' q' cap' vc')] w fun e w' => e = .returned (.bool true) ∧ Below w.heap.size w w' := by
  have c1 := fun W (_ : Below w.heap.size w W) => c_wakes W
  have c2 := c_ownOS s p q cap vc w h
  have c3 := c_ownOS t p' q' cap' vc' w h'
  have c7 := fun (W : World) (pa qa : Option Addr) (ca va : Nat) (pb qb : Option Addr) (cb vb : Nat) (h1 : SegIn W (ownS s) pa qa) (h2 : SegIn W (ownS t) pb qb) => c_segSame (ownS s) (ownS t) pa qa pb qb ca va cb vb W h1 h2
  have c8 := fun (W : World) (pa qa : Option Addr) (ca va : Nat) (pb qb : Option Addr) (cb vb : Nat) (h1 : SegIn W (ownS s) pa qa) (h2 : SegIn W (ownS t) pb qb) => c_refSame (ownS s) (ownS t) pa qa pb qb ca va cb vb W h1 h2
  have c9 := fun (W : World) (pa qa : Option Addr) (ca va : Nat) (p9 q9 : Option Addr) (c9 v9 : Nat) (h1 : SegIn W (ownS s) pa qa) (h2 : SegIn W (ownS s) p9 q9) => by
    have := c_segSame (ownS s) (ownS s) pa qa p9 q9 ca va c9 v9 W h1 h2
    rw [sameT_refl] at this
    exact this
  cases hs : segB (ownS s) with
  | false =>
    exact checks_no _ _ _ _ _ _ p q _ cap _ vc w _ _ _ _ _ _ p' q' _ cap' _ vc' (ownS s) (ownS t) _ c1 c2 c3
      (fun W pa qa ca va h1 => by have := c_refRight (ownS s) pa qa ca va W h1; rw [hs] at this; exact this)
      (fun W pa qa ca va h1 => c_segCheckNo (ownS s) pa qa ca va W h1 hs) (fun W pa qa ca va h1 => c_segCountNo (ownS s) pa qa ca va W h1 hs) c7 c8 c9
  | true =>
    have hn := length_pts hs
    exact checks_yes _ _ _ _ _ _ p q _ cap _ vc w _ _ _ _ _ _ p' q' _ cap' _ vc' (ownS s) (ownS t) _ (ptsL (ownS s)).length c1 c2 c3
      (fun W pa qa ca va h1 => by have := c_refRight (ownS s) pa qa ca va W h1; rw [hs] at this; exact this)
      (fun W pa qa ca va h1 => c_segCheckYes (ownS s) pa qa ca va W h1 hs) (fun W pa qa ca va h1 => by rw [hn]; exact c_segCountYes (ownS s) pa qa ca va W h1 hs) c7 c8 c9
      (fun W pa qa ca va h1 => (c_refPoints (ownS s) pa qa ca va W h1 hs).mono fun e w' ⟨v, e1, hv, hB⟩ => by
        obtain ⟨pv, cv, rfl, -⟩ := hv.form
        exact ⟨pv, cv, e1, hB⟩)
theorem trodAll_two' {H : Type} {enc : TypeId × Value → H} {P : Program} {w : World} {base : Nat} {spare : Nat → Bool} {held : Bool} {t0 t1 : TypeId} {vs : List Value} {ds : List (DataW H)} {ps : List MemPlace} (h : DataW.TrodAll enc P w base spare held [t0, t1] vs ds ps) :
    ∃ v0 v1 d0 d1 p0 p1, vs = [v0, v1] ∧ ds = [d0, d1] ∧ ps = p0 ++ p1 ∧ DataW.Trod enc P w base spare held t0 v0 d0 p0 ∧ DataW.Trod enc P w base spare held t1 v1 d1 p1 := by
  obtain ⟨v0, vs', d0, ds', p0, q0, rfl, rfl, rfl, h0, hr⟩ := trodAll_cons h
  obtain ⟨v1, vs2, d1, ds2, p1, q1, rfl, rfl, rfl, h1, hr2⟩ := trodAll_cons hr
  obtain ⟨rfl, rfl, rfl⟩ := trodAll_nil hr2
  exact ⟨v0, v1, d0, d1, p0, p1, rfl, rfl, by simp, h0, h1⟩
set_option maxRecDepth 100000 in
theorem checks_lifted (os : Os) (started : os.Started) (H : Type) (enc : TypeId × Value → H) :
    ReturnsInHanded {} Tryz.checked os 5 .any (Rows.segChecksSpec.pre6 enc Tryz.prog Tryz.f5 Rows.segChecksRow.domain false) (Rows.segChecksSpec.post enc Tryz.prog Tryz.f5 false true false false) := by
  refine returnsInHanded_of_change (C := Tryz.checked) Tryz.ownKnob started (by kernel_rfl) Tryz.func5
    (ChangeSpec.witness6 (enc := enc) (C := Tryz.checked) false ⟨#[], #[.agg #[.int .i64 0, .slice none 0 0, .int .i64 0, .int .i64 0, .int .i64 0, .int .i64 0, .slice none 0 0, .int .i64 0], .agg #[.int .i64 0, .slice none 0 0, .int .i64 0, .int .i64 0, .int .i64 0, .int .i64 0, .slice none 0 0, .int .i64 0]], []⟩ 8 (by kernel_rfl) (by kernel_rfl) (by kernel_rfl) (by kernel_rfl)) ?_
  intro W base args ds gs before hval0 hW hcnd _
  have hval : ∀ (j : Nat) t v, Tryz.f5.params[j]? = some t → args[j]? = some v → Value.okWide Tryz.prog W .any base t v := hval0
  have hW' := hW
  obtain ⟨p, q, hA0, hV, rfl, hfz, hnd⟩ := hW
  have hA : DataW.TrodAll enc Tryz.prog W 0 (fun _ => true) true Tryz.f5.params.toList args.toList ds p := hA0
  rw [Tryz.params5] at hA hval
  obtain ⟨v0, v1, d0, d1, p0, p1, hargs, rfl, rfl, h0, h1⟩ := trodAll_two' hA
  obtain ⟨args⟩ := args
  simp at hargs
  subst hargs
  obtain ⟨rfl, rfl⟩ := trodVars_none hV
  obtain ⟨s, p', q', cap, vc, rfl, hs, _⟩ := open_seg (hval 0 _ v0 rfl rfl) h0
  obtain ⟨t, p2, q2, cap2, vc2, rfl, ht, _⟩ := open_seg (hval 1 _ v1 rfl rfl) h1
  clear hA0 hval0
  refine (c_segChecksLaw s t p' q' p2 q2 cap vc cap2 vc2 W hs ht).mono fun e W' ⟨he, hb⟩ => ?_
  subst he
  exact ⟨_, rfl, law_post Tryz.laidOut (pars_ok (by kernel_rfl)) rfl (by kernel_rfl) rfl hW' hb rfl⟩
theorem segChecks_holds : Rows.SegChecksSaid :=
  OpenClaim.holds_of_wide 5 Tryz.f5 rfl rfl rfl rfl rfl rfl rfl ⟨rfl, rfl, rfl, rfl, rfl⟩ rfl rfl rfl rfl rfl (by kernel_rfl) Tryz.func5 (by kernel_rfl)
    (of_decide_eq_true (by kernel_rfl)) (by unfold Func.isWrapper; first | (rw [if_pos (by decide +kernel)]; kernel_rfl) | (rw [if_neg (by decide +kernel)]; exact ⟨rfl, rfl⟩))
    (fun os started H enc _ => checks_lifted os started H enc)
end Go.Proofs.YtgblmlefmohgnaaGreat
