/- Parts of the proof that follows. No condition. -/
import Derived.RangeFuncLeaves
import Derived.Laws.Tables
import Derived.Test.YtpdhdjlhicceoaaGreatDoorTl15
set_option maxRecDepth 100000
set_option maxHeartbeats 8000000
set_option linter.unusedSimpArgs false
set_option linter.unusedVariables false
namespace Go.Proofs.YtpdhdjlhicceoaaGreatDoor
open Go.RowKit
/-- A series of its own, as a drawn step's value. -/
def OSer (s : SerT) : Spec := fun v w => ∃ p q c d, v = .agg (serA s p c q d) ∧ SerO w s p q
theorem OSer.closed (s : SerT) : Closed [] (OSer s) := fun _ _ _ hr ⟨p, q, c, d, e, h⟩ => ⟨p, q, c, d, e, h.rex hr rfl⟩
theorem strL2 {w : World} {o5 o6 : Nat} {z5 z6 : ByteArray} {c5 c6 : List Value} {t : TypeId} (h5 : Blk w o5 ⟨.string z5 :: c5⟩ t) (h6 : Blk w o6 ⟨.string z6 :: c6⟩ t) : StrL w [o5, o6] := fun g hg => by
  simp only [List.mem_cons, List.not_mem_nil, or_false] at hg
  rcases hg with rfl | rfl
  · exact ⟨z5, h5.cell 0⟩
  · exact ⟨z6, h6.cell 0⟩
theorem rex77 {w : World} {o5 o6 : Nat} {z5 z6 : Array Value} {t : TypeId} (h5 : Blk w o5 z5 t) (h6 : Blk w o6 z6 t) (hne : o5 ≠ o6) (u0 u1 u2 u3 u4 u5 u6 v0 v1 v2 v3 v4 v5 v6 : Value) : Rex [o5, o6] w ((((((((((((((w.setCell ⟨o5, 0, none⟩ u0).setCell ⟨o5, 1, none⟩ u1).setCell ⟨o5, 2, none⟩ u2).setCell ⟨o5, 3, none⟩ u3).setCell ⟨o5, 4, none⟩ u4).setCell ⟨o5, 5, none⟩ u5).setCell ⟨o5, 6, none⟩ u6).setCell ⟨o6, 0, none⟩ v0).setCell ⟨o6, 1, none⟩ v1).setCell ⟨o6, 2, none⟩ v2).setCell ⟨o6, 3, none⟩ v3).setCell ⟨o6, 4, none⟩ v4).setCell ⟨o6, 5, none⟩ v5).setCell ⟨o6, 6, none⟩ v6) :=
  (((((((((((((((Rex.refl [o5, o6] w).setOwn h5 (by simp) 0 u0).setOwn (h5.set 0 u0) (by simp) 1 u1).setOwn ((h5.set 0 u0).set 1 u1) (by simp) 2 u2).setOwn (((h5.set 0 u0).set 1 u1).set 2 u2) (by simp) 3 u3).setOwn ((((h5.set 0 u0).set 1 u1).set 2 u2).set 3 u3) (by simp) 4 u4).setOwn (((((h5.set 0 u0).set 1 u1).set 2 u2).set 3 u3).set 4 u4) (by simp) 5 u5).setOwn ((((((h5.set 0 u0).set 1 u1).set 2 u2).set 3 u3).set 4 u4).set 5 u5) (by simp) 6 u6).setOwn (((((((h6.setO hne.symm 0 u0).setO hne.symm 1 u1).setO hne.symm 2 u2).setO hne.symm 3 u3).setO hne.symm 4 u4).setO hne.symm 5 u5).setO hne.symm 6 u6) (by simp) 0 v0).setOwn ((((((((h6.setO hne.symm 0 u0).setO hne.symm 1 u1).setO hne.symm 2 u2).setO hne.symm 3 u3).setO hne.symm 4 u4).setO hne.symm 5 u5).setO hne.symm 6 u6).set 0 v0) (by simp) 1 v1).setOwn (((((((((h6.setO hne.symm 0 u0).setO hne.symm 1 u1).setO hne.symm 2 u2).setO hne.symm 3 u3).setO hne.symm 4 u4).setO hne.symm 5 u5).setO hne.symm 6 u6).set 0 v0).set 1 v1) (by simp) 2 v2).setOwn ((((((((((h6.setO hne.symm 0 u0).setO hne.symm 1 u1).setO hne.symm 2 u2).setO hne.symm 3 u3).setO hne.symm 4 u4).setO hne.symm 5 u5).setO hne.symm 6 u6).set 0 v0).set 1 v1).set 2 v2) (by simp) 3 v3).setOwn (((((((((((h6.setO hne.symm 0 u0).setO hne.symm 1 u1).setO hne.symm 2 u2).setO hne.symm 3 u3).setO hne.symm 4 u4).setO hne.symm 5 u5).setO hne.symm 6 u6).set 0 v0).set 1 v1).set 2 v2).set 3 v3) (by simp) 4 v4).setOwn ((((((((((((h6.setO hne.symm 0 u0).setO hne.symm 1 u1).setO hne.symm 2 u2).setO hne.symm 3 u3).setO hne.symm 4 u4).setO hne.symm 5 u5).setO hne.symm 6 u6).set 0 v0).set 1 v1).set 2 v2).set 3 v3).set 4 v4) (by simp) 5 v5).setOwn (((((((((((((h6.setO hne.symm 0 u0).setO hne.symm 1 u1).setO hne.symm 2 u2).setO hne.symm 3 u3).setO hne.symm 4 u4).setO hne.symm 5 u5).setO hne.symm 6 u6).set 0 v0).set 1 v1).set 2 v2).set 3 v3).set 4 v4).set 5 v5) (by simp) 6 v6)
set_option maxRecDepth 100000 in
set_option maxHeartbeats 2000000 in
theorem tells_no (nm nm' : ByteArray) (ep fl la sc ep' fl' la' sc' : Int) (ps po ps' po' : Option Addr) (ns cs no co ns' cs' no' co' : Nat) (a b : SerT) (sm : Bool) (K : Int) (w : World)
    (c1 : ∀ W, Below w.heap.size w W → Calls Tryz.prog 11 #[] W fun e w' => e = .returned (.bool true) ∧ Below W.heap.size W w')
    (c2 : ∀ W, Below w.heap.size w W → Calls Tryz.prog 15 #[.agg #[.string nm, .int .i64 ep, .int .i64 fl, .int .i64 la, .int .i64 sc, .slice ps ns cs, .slice po no co]] W fun e w' => ∃ v, e = .returned v ∧ Below W.heap.size W w' ∧ OSer a v w')
    (c3 : ∀ W, Below w.heap.size w W → Calls Tryz.prog 15 #[.agg #[.string nm', .int .i64 ep', .int .i64 fl', .int .i64 la', .int .i64 sc', .slice ps' ns' cs', .slice po' no' co']] W fun e w' => ∃ v, e = .returned v ∧ Below W.heap.size W w' ∧ OSer b v w')
    (c4 : ∀ W pa qa ca va, SerIn W a pa qa → Calls Tryz.prog 16 #[.agg #[.string a.name, .int .i64 a.eps, .int .i64 a.floor, .int .i64 a.last, .int .i64 a.scale, .slice pa a.segs.length ca, .slice qa a.opn.length va]] W fun e w' => e = .returned (.bool false) ∧ Below W.heap.size W w')
    (c5 : ∀ W pa qa ca va, SerIn W a pa qa → Calls Tryz.prog 32 #[.agg #[.string a.name, .int .i64 a.eps, .int .i64 a.floor, .int .i64 a.last, .int .i64 a.scale, .slice pa a.segs.length ca, .slice qa a.opn.length va]] W fun e w' => e = .returned (.int .i64 340) ∧ Below W.heap.size W w')
    (c7 : ∀ W pa qa ca va, SerIn W a pa qa → Calls Tryz.prog 34 #[.agg #[.string a.name, .int .i64 a.eps, .int .i64 a.floor, .int .i64 a.last, .int .i64 a.scale, .slice pa a.segs.length ca, .slice qa a.opn.length va]] W fun e w' => e = .returned (.int .i64 0) ∧ Below W.heap.size W w')
    (c8 : ∀ W pa qa ca va pb qb cb vb, SerIn W a pa qa → SerIn W b pb qb → Calls Tryz.prog 35 #[.agg #[.string a.name, .int .i64 a.eps, .int .i64 a.floor, .int .i64 a.last, .int .i64 a.scale, .slice pa a.segs.length ca, .slice qa a.opn.length va], .agg #[.string b.name, .int .i64 b.eps, .int .i64 b.floor, .int .i64 b.last, .int .i64 b.scale, .slice pb b.segs.length cb, .slice qb b.opn.length vb]] W fun e w' => e = .returned (.bool sm) ∧ Below W.heap.size W w')
    (c9 : ∀ W pa qa ca va pb qb cb vb, SerIn W a pa qa → SerIn W b pb qb → Calls Tryz.prog 14 #[.agg #[.string a.name, .int .i64 a.eps, .int .i64 a.floor, .int .i64 a.last, .int .i64 a.scale, .slice pa a.segs.length ca, .slice qa a.opn.length va], .agg #[.string b.name, .int .i64 b.eps, .int .i64 b.floor, .int .i64 b.last, .int .i64 b.scale, .slice pb b.segs.length cb, .slice qb b.opn.length vb]] W fun e w' => e = .returned (.bool sm) ∧ Below W.heap.size W w')
    (c10 : ∀ W pa qa ca va p9 q9 c9 v9, SerIn W a pa qa → SerIn W a p9 q9 → Calls Tryz.prog 35 #[.agg #[.string a.name, .int .i64 a.eps, .int .i64 a.floor, .int .i64 a.last, .int .i64 a.scale, .slice pa a.segs.length ca, .slice qa a.opn.length va], .agg (serA a p9 c9 q9 v9)] W fun e w' => e = .returned (.bool true) ∧ Below W.heap.size W w')
    (c11 : ∀ W pa qa ca va p9 q9 c9 v9, SerIn W a pa qa → SerIn W a p9 q9 → Calls Tryz.prog 14 #[.agg #[.string a.name, .int .i64 a.eps, .int .i64 a.floor, .int .i64 a.last, .int .i64 a.scale, .slice pa a.segs.length ca, .slice qa a.opn.length va], .agg (serA a p9 c9 q9 v9)] W fun e w' => e = .returned (.bool true) ∧ Below W.heap.size W w') :
    Calls Tryz.prog 8 #[.agg #[.string nm, .int .i64 ep, .int .i64 fl, .int .i64 la, .int .i64 sc, .slice ps ns cs, .slice po no co], .agg #[.string nm', .int .i64 ep', .int .i64 fl', .int .i64 la', .int .i64 sc', .slice ps' ns' cs', .slice po' no' co']] w fun e w' => e = .returned (.bool true) ∧ Below w.heap.size w w' := by
  have H_c1 := Lib.hid c1
  clear c1
  have H_c2 := Lib.hid c2
  clear c2
  have H_c3 := Lib.hid c3
  clear c3
  have H_c4 := Lib.hid c4
  clear c4
  have H_c5 := Lib.hid c5
  clear c5
  have H_c7 := Lib.hid c7
  clear c7
  have H_c8 := Lib.hid c8
  clear c8
  have H_c9 := Lib.hid c9
  clear c9
  have H_c10 := Lib.hid c10
  clear c10
  have H_c11 := Lib.hid c11
  clear c11
  go_enter Tryz.func8, Tryz.ntmps8
  go_upto_region 1 with (fail)
  refine wp_facts (fun W' => Below w.heap.size w W' ∧ Blk W' w.heap.size #[.string nm, .int .i64 ep, .int .i64 fl, .int .i64 la, .int .i64 sc, .slice ps ns cs, .slice po no co] 26 ∧ Blk W' (w.heap.size + 1) #[.string nm', .int .i64 ep', .int .i64 fl', .int .i64 la', .int .i64 sc', .slice ps' ns' cs', .slice po' no' co'] 26) ⟨by exact belowAny, by exact blkAny2, by exact blkAny2⟩ ?_
  rintro W1 ⟨hW, b1, b2⟩
  have z2 := hW.size
  have z3 := b1.lt
  have z4 := b2.lt
  have k1 := b1.cell
  have f1 := b1.frozen
  have k2 := b2.cell
  have f2 := b2.frozen
  have c1 := H_c1.out
  go_wp2_with fail
  refine (c1 _ (belowAny)).mono ?_
  rintro e w5 ⟨rfl, hb5⟩
  clear c1
  have z6 := hb5.size
  try simp at z6
  clear k1 f1 k2 f2
  have b1 : Blk w5 w.heap.size #[.string nm, .int .i64 ep, .int .i64 fl, .int .i64 la, .int .i64 sc, .slice ps ns cs, .slice po no co] 26 := by exact blkAny2
  have b2 : Blk w5 (w.heap.size + 1) #[.string nm', .int .i64 ep', .int .i64 fl', .int .i64 la', .int .i64 sc', .slice ps' ns' cs', .slice po' no' co'] 26 := by exact blkAny2
  have hW : Below w.heap.size w w5 := by exact belowAny
  have z7 := b1.lt
  have z8 := b2.lt
  clear hb5
  have k1 := b1.cell
  have f1 := b1.frozen
  have k2 := b2.cell
  have f2 := b2.frozen
  go_upto_region 3 with (fail)
  clear k1 f1 k2 f2
  refine wp_facts (fun W' => Below w.heap.size w W' ∧ Blk W' w.heap.size #[.string nm, .int .i64 ep, .int .i64 fl, .int .i64 la, .int .i64 sc, .slice ps ns cs, .slice po no co] 26 ∧ Blk W' (w.heap.size + 1) #[.string nm', .int .i64 ep', .int .i64 fl', .int .i64 la', .int .i64 sc', .slice ps' ns' cs', .slice po' no' co'] 26) ⟨by exact belowAny, by exact blkAny2, by exact blkAny2⟩ ?_
  clear b1 b2 hW
  rintro W9 ⟨hW, b1, b2⟩
  have z10 := hW.size
  have z11 := b1.lt
  have z12 := b2.lt
  have c2 := H_c2.out
  have c3 := H_c3.out
  refine wp_region_ndA 6 60 [] (fun W' => Rex [] W9 W' ∧ Blk W' w.heap.size #[.string nm, .int .i64 ep, .int .i64 fl, .int .i64 la, .int .i64 sc, .slice ps ns cs, .slice po no co] 26 ∧ Blk W' (w.heap.size + 1) #[.string nm', .int .i64 ep', .int .i64 fl', .int .i64 la', .int .i64 sc', .slice ps' ns' cs', .slice po' no' co'] 26) mixed (by kernel_rfl) rfl ⟨(Rex.refl _ _).drew, b1, b2⟩ (fun w w' ⟨h0, h1, h2⟩ hr => ⟨h0.trans hr, h1.rex hr (by simp <;> omega), h2.rex hr (by simp <;> omega)⟩) (fun c a d v w h => by cases d <;> exact h) ?_
  iterate 1
    apply nd_det (hg := rfl) (hal := rfl)
    · intro a W' hC hE
      obtain ⟨_, k1, k2⟩ := hC
      have k1 := k1.cell
      have k2 := k2.cell
      first
        | (simp [Oper.looksAt, Op.operands, Call.operands, envOf, Det] at hE; simp [go_sem, Act.eval, IntWalk.i64_left, hE, k1, k2]; try rfl)
        | (clear hE; simp [go_sem, Act.eval, IntWalk.i64_left, k1, k2]; try rfl)
  apply nd_call (OSer a) (hg := rfl) (hal := rfl)
  · exact OSer.closed _
  · intro a' W' hC hE
    obtain ⟨hR9, k1, k2⟩ := hC
    have k1 := k1.cell
    have k2 := k2.cell
    simp [Oper.looksAt, Op.operands, Call.operands, envOf, Det] at hE
    refine ⟨_, _, ?_, (c2 W' (hW.trans (hR9.of_priv hW.size))).mono ?_⟩
    · simp [go_sem, Act.eval, hE]
      try rfl
    · rintro e w' ⟨v, rfl, hB, hO⟩
      exact ⟨_, rfl, hB, hO⟩
  iterate 1
    apply nd_det (hg := rfl) (hal := rfl)
    · intro a W' hC hE
      obtain ⟨_, k1, k2⟩ := hC
      have k1 := k1.cell
      have k2 := k2.cell
      first
        | (simp [Oper.looksAt, Op.operands, Call.operands, envOf, Det] at hE; simp [go_sem, Act.eval, IntWalk.i64_left, hE, k1, k2]; try rfl)
        | (clear hE; simp [go_sem, Act.eval, IntWalk.i64_left, k1, k2]; try rfl)
  apply nd_call (OSer b) (hg := rfl) (hal := rfl)
  · exact OSer.closed _
  · intro a' W' hC hE
    obtain ⟨hR9, k1, k2⟩ := hC
    have k1 := k1.cell
    have k2 := k2.cell
    simp [Oper.looksAt, Op.operands, Call.operands, envOf, Det] at hE
    refine ⟨_, _, ?_, (c3 W' (hW.trans (hR9.of_priv hW.size))).mono ?_⟩
    · simp [go_sem, Act.eval, hE]
      try rfl
    · rintro e w' ⟨v, rfl, hB, hO⟩
      exact ⟨_, rfl, hB, hO⟩
  apply nd_alloc W9.heap.size #[.string .empty, .int .i64 0, .int .i64 0, .int .i64 0, .int .i64 0, .slice none 0 0, .slice none 0 0] 26 rfl rfl
  · exact fun W' hC => hC.1.size
  · simp [others] <;> omega
  · intro w; kernel_rfl
  apply nd_alloc W9.heap.size #[.string .empty, .int .i64 0, .int .i64 0, .int .i64 0, .int .i64 0, .slice none 0 0, .slice none 0 0] 26 rfl rfl
  · exact fun W' hC => hC.1.size
  · simp [others] <;> omega
  · intro w; kernel_rfl
  rintro W12 ⟨hR, d1, d2⟩
  simp only [ndFinR, Det, forall_eq]
  intros
  repeat (rename GDet _ _ _ _ => hgd; clear hgd)
  simp only [Act.put, List.setIfInBounds_toArray, List.set_cons_zero, List.set_cons_succ, List.drop_succ_cons, List.drop_zero]
  clear c2
  clear c3
  clear b1 b2
  have b1 := d1
  have b2 := d2
  clear d1 d2
  replace hW := hW.trans (hR.of_priv hW.size)
  clear hR
  rename AllocApart _ _ => hap
  rename OSer a _ _ => hoa
  rename OSer b _ _ => hob
  obtain ⟨pa, qa, ca, va, rfl, sa⟩ := hoa
  obtain ⟨pb, qb, cb, vb, rfl, sb⟩ := hob
  unfold serA
  rename NewVar _ _ _ _ _ => hn6
  obtain ⟨o6, rfl, hg6, b4⟩ := hn6
  rename NewVar _ _ _ _ _ => hn5
  obtain ⟨o5, rfl, hg5, b3⟩ := hn5
  have hne : o5 ≠ o6 := fun e => hap 5 6 (by simp [allocDsts, isAlloc]) (by simp [allocDsts, isAlloc]) (by decide) ⟨o5, 0, none⟩ (by simp [Act.put]) (by simp [Act.put, e])
  clear hap
  have hz56 := Lib.hid (strL2 b3 b4)
  have z91 := hW.size
  have z92 := b1.lt
  have z93 := b2.lt
  have z94 := b3.lt
  have z95 := b4.lt
  have k1 := b1.cell
  have f1 := b1.frozen
  have k2 := b2.cell
  have f2 := b2.frozen
  have k3 := b3.cell
  have f3 := b3.frozen
  have k4 := b4.cell
  have f4 := b4.frozen
  go_upto_region 4 with (fail)
  clear k1 f1 k2 f2 k3 f3 k4 f4
  refine wp_facts (fun W' => Below w.heap.size w W' ∧ Blk W' w.heap.size #[.string nm, .int .i64 ep, .int .i64 fl, .int .i64 la, .int .i64 sc, .slice ps ns cs, .slice po no co] 26 ∧ Blk W' (w.heap.size + 1) #[.string nm', .int .i64 ep', .int .i64 fl', .int .i64 la', .int .i64 sc', .slice ps' ns' cs', .slice po' no' co'] 26 ∧ Blk W' o5 #[.string a.name, .int .i64 a.eps, .int .i64 a.floor, .int .i64 a.last, .int .i64 a.scale, .slice pa a.segs.length ca, .slice qa a.opn.length va] 26 ∧ Blk W' o6 #[.string b.name, .int .i64 b.eps, .int .i64 b.floor, .int .i64 b.last, .int .i64 b.scale, .slice pb b.segs.length cb, .slice qb b.opn.length vb] 26 ∧ SerO W' a pa qa ∧ SerO W' b pb qb) ⟨by exact belowAny, by exact blkAny2, by exact blkAny2, by exact blkAny2, by exact blkAny2, by exact sa.rexS hz56.out (rex77 b3 b4 hne _ _ _ _ _ _ _ _ _ _ _ _ _ _), by exact sb.rexS hz56.out (rex77 b3 b4 hne _ _ _ _ _ _ _ _ _ _ _ _ _ _)⟩ ?_
  clear b1 b2 b3 b4 hW
  rintro W61 ⟨hW, b1, b2, b3, b4, b5, b6⟩
  have z62 := hW.size
  have z63 := b1.lt
  have z64 := b2.lt
  have z65 := b3.lt
  have z66 := b4.lt
  clear sa sb hz56
  have k1 := b1.cell
  have f1 := b1.frozen
  have k2 := b2.cell
  have f2 := b2.frozen
  have k3 := b3.cell
  have f3 := b3.frozen
  have k4 := b4.cell
  have f4 := b4.frozen
  have c4 := H_c4.out
  go_wp2_with fail
  refine (c4 _ pa qa ca va b5.inn).mono ?_
  rintro e w67 ⟨rfl, hb67⟩
  clear c4
  have z68 := hb67.size
  try simp at z68
  clear k1 f1 k2 f2 k3 f3 k4 f4
  have b1 : Blk w67 w.heap.size #[.string nm, .int .i64 ep, .int .i64 fl, .int .i64 la, .int .i64 sc, .slice ps ns cs, .slice po no co] 26 := by exact blkAny2
  have b2 : Blk w67 (w.heap.size + 1) #[.string nm', .int .i64 ep', .int .i64 fl', .int .i64 la', .int .i64 sc', .slice ps' ns' cs', .slice po' no' co'] 26 := by exact blkAny2
  have b3 : Blk w67 o5 #[.string a.name, .int .i64 a.eps, .int .i64 a.floor, .int .i64 a.last, .int .i64 a.scale, .slice pa a.segs.length ca, .slice qa a.opn.length va] 26 := by exact blkAny2
  have b4 : Blk w67 o6 #[.string b.name, .int .i64 b.eps, .int .i64 b.floor, .int .i64 b.last, .int .i64 b.scale, .slice pb b.segs.length cb, .slice qb b.opn.length vb] 26 := by exact blkAny2
  have b5 : SerO w67 a pa qa := by exact b5.below (by assumption)
  have b6 : SerO w67 b pb qb := by exact b6.below (by assumption)
  have hW : Below w.heap.size w w67 := by exact belowAny
  have z69 := b1.lt
  have z70 := b2.lt
  have z71 := b3.lt
  have z72 := b4.lt
  clear hb67
  have k1 := b1.cell
  have f1 := b1.frozen
  have k2 := b2.cell
  have f2 := b2.frozen
  have k3 := b3.cell
  have f3 := b3.frozen
  have k4 := b4.cell
  have f4 := b4.frozen
  have c5 := H_c5.out
  go_wp2_with fail
  refine (c5 _ pa qa ca va b5.inn).mono ?_
  rintro e w73 ⟨rfl, hb73⟩
  clear c5
  have z74 := hb73.size
  try simp at z74
  clear k1 f1 k2 f2 k3 f3 k4 f4
  have b1 : Blk w73 w.heap.size #[.string nm, .int .i64 ep, .int .i64 fl, .int .i64 la, .int .i64 sc, .slice ps ns cs, .slice po no co] 26 := by exact blkAny2
  have b2 : Blk w73 (w.heap.size + 1) #[.string nm', .int .i64 ep', .int .i64 fl', .int .i64 la', .int .i64 sc', .slice ps' ns' cs', .slice po' no' co'] 26 := by exact blkAny2
  have b3 : Blk w73 o5 #[.string a.name, .int .i64 a.eps, .int .i64 a.floor, .int .i64 a.last, .int .i64 a.scale, .slice pa a.segs.length ca, .slice qa a.opn.length va] 26 := by exact blkAny2
  have b4 : Blk w73 o6 #[.string b.name, .int .i64 b.eps, .int .i64 b.floor, .int .i64 b.last, .int .i64 b.scale, .slice pb b.segs.length cb, .slice qb b.opn.length vb] 26 := by exact blkAny2
  have b5 : SerO w73 a pa qa := by exact b5.below (by assumption)
  have b6 : SerO w73 b pb qb := by exact b6.below (by assumption)
  have hW : Below w.heap.size w w73 := by exact belowAny
  have z75 := b1.lt
  have z76 := b2.lt
  have z77 := b3.lt
  have z78 := b4.lt
  clear hb73
  have k1 := b1.cell
  have f1 := b1.frozen
  have k2 := b2.cell
  have f2 := b2.frozen
  have k3 := b3.cell
  have f3 := b3.frozen
  have k4 := b4.cell
  have f4 := b4.frozen
  have c2 := H_c2.out
  have c10 := H_c10.out
  have c11 := H_c11.out
  go_upto_region 11 with (fail)
  clear k1 f1 k2 f2 k3 f3 k4 f4
  refine wp_facts (fun W' => Below w.heap.size w W' ∧ Blk W' w.heap.size #[.string nm, .int .i64 ep, .int .i64 fl, .int .i64 la, .int .i64 sc, .slice ps ns cs, .slice po no co] 26 ∧ Blk W' (w.heap.size + 1) #[.string nm', .int .i64 ep', .int .i64 fl', .int .i64 la', .int .i64 sc', .slice ps' ns' cs', .slice po' no' co'] 26 ∧ Blk W' o5 #[.string a.name, .int .i64 a.eps, .int .i64 a.floor, .int .i64 a.last, .int .i64 a.scale, .slice pa a.segs.length ca, .slice qa a.opn.length va] 26 ∧ Blk W' o6 #[.string b.name, .int .i64 b.eps, .int .i64 b.floor, .int .i64 b.last, .int .i64 b.scale, .slice pb b.segs.length cb, .slice qb b.opn.length vb] 26 ∧ SerO W' a pa qa ∧ SerO W' b pb qb) ⟨by exact belowAny, by exact blkAny2, by exact blkAny2, by exact blkAny2, by exact blkAny2, by exact b5, by exact b6⟩ ?_
  clear b1 b2 b3 b4 b5 b6 hW
  rintro W79 ⟨hW, b1, b2, b3, b4, b5, b6⟩
  have z80 := hW.size
  have z81 := b1.lt
  have z82 := b2.lt
  have z83 := b3.lt
  have z84 := b4.lt
  have c7 := H_c7.out
  have c8 := H_c8.out
  have c9 := H_c9.out
  refine wp_region_nd 26 60 [] (fun W' => Rex [] W79 W' ∧ Blk W' w.heap.size #[.string nm, .int .i64 ep, .int .i64 fl, .int .i64 la, .int .i64 sc, .slice ps ns cs, .slice po no co] 26 ∧ Blk W' (w.heap.size + 1) #[.string nm', .int .i64 ep', .int .i64 fl', .int .i64 la', .int .i64 sc', .slice ps' ns' cs', .slice po' no' co'] 26 ∧ Blk W' o5 #[.string a.name, .int .i64 a.eps, .int .i64 a.floor, .int .i64 a.last, .int .i64 a.scale, .slice pa a.segs.length ca, .slice qa a.opn.length va] 26 ∧ Blk W' o6 #[.string b.name, .int .i64 b.eps, .int .i64 b.floor, .int .i64 b.last, .int .i64 b.scale, .slice pb b.segs.length cb, .slice qb b.opn.length vb] 26 ∧ SerO W' a pa qa ∧ SerO W' b pb qb) mixed (by kernel_rfl) rfl ⟨(Rex.refl _ _).drew, b1, b2, b3, b4, b5.drew, b6.drew⟩ (fun w w' ⟨h0, h1, h2, h3, h4, h5, h6⟩ hr => ⟨h0.trans hr, h1.rex hr (by simp <;> omega), h2.rex hr (by simp <;> omega), h3.rex hr (by simp <;> omega), h4.rex hr (by simp <;> omega), h5.rex hr (by simp <;> omega), h6.rex hr (by simp <;> omega)⟩) (fun c a d v w h => by cases d <;> exact h) ?_
  iterate 1
    apply nd_det (hg := rfl) (hal := rfl)
    · intro a W' hC hE
      obtain ⟨_, k1, k2, k3, k4, k5, k6⟩ := hC
      have k1 := k1.cell
      have k3 := k3.cell
      have k4 := k4.cell
      first
        | (simp [Oper.looksAt, Op.operands, Call.operands, envOf, Det] at hE; simp [go_sem, Act.eval, IntWalk.i64_left, hE, k1, k2, k3, k4, k5, k6]; try rfl)
        | (clear hE; simp [go_sem, Act.eval, IntWalk.i64_left, k1, k2, k3, k4, k5, k6]; try rfl)
  refine nd_callv2 rfl rfl (fun W' hC => c7 W' pa qa ca va hC.2.2.2.2.2.1.inn) (fun a W' hC hE => ?_) ?_
  · obtain ⟨_, k1, k2, k3, k4, k5, k6⟩ := hC
    have k1 := k1.cell
    have k3 := k3.cell
    have k4 := k4.cell
    first
      | (simp [Oper.looksAt, Op.operands, Call.operands, envOf, Det] at hE; simp [go_sem, Act.eval, IntWalk.i64_left, hE, k1, k2, k3, k4, k5, k6]; try rfl)
      | (clear hE; simp [go_sem, Act.eval, IntWalk.i64_left, k1, k2, k3, k4, k5, k6]; try rfl)
  iterate 3
    apply nd_det (hg := rfl) (hal := rfl)
    · intro a W' hC hE
      obtain ⟨_, k1, k2, k3, k4, k5, k6⟩ := hC
      have k1 := k1.cell
      have k3 := k3.cell
      have k4 := k4.cell
      first
        | (simp [Oper.looksAt, Op.operands, Call.operands, envOf, Det] at hE; simp [go_sem, Act.eval, IntWalk.i64_left, hE, k1, k2, k3, k4, k5, k6]; try rfl)
        | (clear hE; simp [go_sem, Act.eval, IntWalk.i64_left, k1, k2, k3, k4, k5, k6]; try rfl)
  iterate 2
    apply nd_detg (p := true) (hg := rfl) (hd := rfl) (hal := rfl)
    · intro v W' h
      simp [envOf, Det, GDet] at h
      simp
      exact h
    · intro hp hx a W' hC hE
      obtain ⟨_, k1, k2, k3, k4, k5, k6⟩ := hC
      have k1 := k1.cell
      have k3 := k3.cell
      have k4 := k4.cell
      simp [Oper.looksAt, Op.operands, Call.operands, envOf, Det, GDet, hx] at hE
      simp [go_sem, Act.eval, IntWalk.i64_left, hE, k1, k2, k3, k4, k5, k6]
      try rfl
  apply nd_callvg2 (p := true) (hg := rfl) (hd := rfl) (hal := rfl)
  · intro v W' h
    simp [envOf, Det] at h
    simp
    exact h
  · intro hp hx W' hC
    exact c8 W' pa qa ca va pb qb cb vb hC.2.2.2.2.2.1.inn hC.2.2.2.2.2.2.inn
  · intro hp hx a W' hC hE
    obtain ⟨_, k1, k2, k3, k4, k5, k6⟩ := hC
    have k1 := k1.cell
    have k3 := k3.cell
    have k4 := k4.cell
    first
      | (simp [Oper.looksAt, Op.operands, Call.operands, envOf, Det, GDet, hx] at hE; simp [go_sem, Act.eval, IntWalk.i64_left, hE, k1, k2, k3, k4, k5, k6]; try rfl)
      | (clear hE; simp [go_sem, Act.eval, IntWalk.i64_left, k1, k2, k3, k4, k5, k6]; try rfl)
  iterate 2
    apply nd_detg (p := true) (hg := rfl) (hd := rfl) (hal := rfl)
    · intro v W' h
      simp [envOf, Det, GDet] at h
      simp
      exact h
    · intro hp hx a W' hC hE
      obtain ⟨_, k1, k2, k3, k4, k5, k6⟩ := hC
      have k1 := k1.cell
      have k3 := k3.cell
      have k4 := k4.cell
      simp [Oper.looksAt, Op.operands, Call.operands, envOf, Det, GDet, hx] at hE
      simp [go_sem, Act.eval, IntWalk.i64_left, hE, k1, k2, k3, k4, k5, k6]
      try rfl
  apply nd_callvg2 (p := true) (hg := rfl) (hd := rfl) (hal := rfl)
  · intro v W' h
    simp [envOf, Det] at h
    simp
    exact h
  · intro hp hx W' hC
    exact c9 W' pa qa ca va pb qb cb vb hC.2.2.2.2.2.1.inn hC.2.2.2.2.2.2.inn
  · intro hp hx a W' hC hE
    obtain ⟨_, k1, k2, k3, k4, k5, k6⟩ := hC
    have k1 := k1.cell
    have k3 := k3.cell
    have k4 := k4.cell
    first
      | (simp [Oper.looksAt, Op.operands, Call.operands, envOf, Det, GDet, hx] at hE; simp [go_sem, Act.eval, IntWalk.i64_left, hE, k1, k2, k3, k4, k5, k6]; try rfl)
      | (clear hE; simp [go_sem, Act.eval, IntWalk.i64_left, k1, k2, k3, k4, k5, k6]; try rfl)
  iterate 1
    apply nd_detg (p := true) (hg := rfl) (hd := rfl) (hal := rfl)
    · intro v W' h
      simp [envOf, Det, GDet] at h
      simp
      exact h
    · intro hp hx a W' hC hE
      obtain ⟨_, k1, k2, k3, k4, k5, k6⟩ := hC
      have k1 := k1.cell
      have k3 := k3.cell
      have k4 := k4.cell
      simp [Oper.looksAt, Op.operands, Call.operands, envOf, Det, GDet, hx] at hE
      simp [go_sem, Act.eval, IntWalk.i64_left, hE, k1, k2, k3, k4, k5, k6]
      try rfl
  apply nd_pick_and (ho := rfl) (hg := rfl)
  · intro v W' h
    simp [envOf, Det] at h
    exact h
  · intro v W' h hx
    simp [envOf, GDet, hx] at h
    exact h
  iterate 1
    apply nd_det (hg := rfl) (hal := rfl)
    · intro a W' hC hE
      obtain ⟨_, k1, k2, k3, k4, k5, k6⟩ := hC
      have k1 := k1.cell
      have k3 := k3.cell
      have k4 := k4.cell
      first
        | (simp [Oper.looksAt, Op.operands, Call.operands, envOf, Det] at hE; simp [go_sem, Act.eval, IntWalk.i64_left, hE, k1, k2, k3, k4, k5, k6]; try rfl)
        | (clear hE; simp [go_sem, Act.eval, IntWalk.i64_left, k1, k2, k3, k4, k5, k6]; try rfl)
  iterate 2
    apply nd_detg (p := true) (hg := rfl) (hd := rfl) (hal := rfl)
    · intro v W' h
      simp [envOf, Det, GDet] at h
      simp
      exact h
    · intro hp hx a W' hC hE
      obtain ⟨_, k1, k2, k3, k4, k5, k6⟩ := hC
      have k1 := k1.cell
      have k3 := k3.cell
      have k4 := k4.cell
      simp [Oper.looksAt, Op.operands, Call.operands, envOf, Det, GDet, hx] at hE
      simp [go_sem, Act.eval, IntWalk.i64_left, hE, k1, k2, k3, k4, k5, k6]
      try rfl
  apply nd_oncall (OSer a) (hg := rfl) (hd := rfl) (hal := rfl)
  · exact OSer.closed _
  · intro v W' h
    simp [envOf, Det] at h
    exact h
  · intro a' W' hC hE
    obtain ⟨hR9, k1, _⟩ := hC
    have k1 := k1.cell
    simp [Oper.looksAt, Op.operands, Call.operands, envOf, Det, GDet] at hE
    refine ⟨_, _, ?_, (c2 W' (hW.trans (hR9.of_priv hW.size))).mono ?_⟩
    · simp [go_sem, Act.eval, hE]
      try rfl
    · rintro e w' ⟨v, rfl, hB, hO⟩
      exact ⟨_, rfl, hB, hO⟩
  apply nd_oncall (Det (.bool true)) (hg := rfl) (hd := rfl) (hal := rfl)
  · exact closed_det _ _
  · intro v W' h
    simp [envOf, Det] at h
    exact h
  · intro a' W' hC hE
    simp [Oper.looksAt, Op.operands, Call.operands, envOf, Det, GDet] at hE
    obtain ⟨p9, q9, c9, v9, e9, h9⟩ := hE.2.1
    refine ⟨_, _, ?_, (c10 W' pa qa ca va p9 q9 c9 v9 hC.2.2.2.2.2.1.inn h9.inn).mono ?_⟩
    · simp [go_sem, Act.eval, hE.1, hE.2.2, e9, serA]
      try rfl
    · rintro e w' ⟨rfl, hB⟩
      exact ⟨_, rfl, hB, rfl⟩
  apply nd_pick_and (ho := rfl) (hg := rfl)
  · intro v W' h
    simp [envOf, Det] at h
    exact h
  · intro v W' h hx
    simp [envOf, GDet, hx] at h
    exact h
  iterate 1
    apply nd_det (hg := rfl) (hal := rfl)
    · intro a W' hC hE
      obtain ⟨_, k1, k2, k3, k4, k5, k6⟩ := hC
      have k1 := k1.cell
      have k3 := k3.cell
      have k4 := k4.cell
      first
        | (simp [Oper.looksAt, Op.operands, Call.operands, envOf, Det] at hE; simp [go_sem, Act.eval, IntWalk.i64_left, hE, k1, k2, k3, k4, k5, k6]; try rfl)
        | (clear hE; simp [go_sem, Act.eval, IntWalk.i64_left, k1, k2, k3, k4, k5, k6]; try rfl)
  iterate 2
    apply nd_detg (p := true) (hg := rfl) (hd := rfl) (hal := rfl)
    · intro v W' h
      simp [envOf, Det, GDet] at h
      simp
      exact h
    · intro hp hx a W' hC hE
      obtain ⟨_, k1, k2, k3, k4, k5, k6⟩ := hC
      have k1 := k1.cell
      have k3 := k3.cell
      have k4 := k4.cell
      simp [Oper.looksAt, Op.operands, Call.operands, envOf, Det, GDet, hx] at hE
      simp [go_sem, Act.eval, IntWalk.i64_left, hE, k1, k2, k3, k4, k5, k6]
      try rfl
  apply nd_oncall (OSer a) (hg := rfl) (hd := rfl) (hal := rfl)
  · exact OSer.closed _
  · intro v W' h
    simp [envOf, Det] at h
    exact h
  · intro a' W' hC hE
    obtain ⟨hR9, k1, _⟩ := hC
    have k1 := k1.cell
    simp [Oper.looksAt, Op.operands, Call.operands, envOf, Det, GDet] at hE
    refine ⟨_, _, ?_, (c2 W' (hW.trans (hR9.of_priv hW.size))).mono ?_⟩
    · simp [go_sem, Act.eval, hE]
      try rfl
    · rintro e w' ⟨v, rfl, hB, hO⟩
      exact ⟨_, rfl, hB, hO⟩
  apply nd_oncall (Det (.bool true)) (hg := rfl) (hd := rfl) (hal := rfl)
  · exact closed_det _ _
  · intro v W' h
    simp [envOf, Det] at h
    exact h
  · intro a' W' hC hE
    simp [Oper.looksAt, Op.operands, Call.operands, envOf, Det, GDet] at hE
    obtain ⟨p9, q9, c9, v9, e9, h9⟩ := hE.2.1
    refine ⟨_, _, ?_, (c11 W' pa qa ca va p9 q9 c9 v9 hC.2.2.2.2.2.1.inn h9.inn).mono ?_⟩
    · simp [go_sem, Act.eval, hE.1, hE.2.2, e9, serA]
      try rfl
    · rintro e w' ⟨rfl, hB⟩
      exact ⟨_, rfl, hB, rfl⟩
  apply nd_pick_and (ho := rfl) (hg := rfl)
  · intro v W' h
    simp [envOf, Det] at h
    exact h
  · intro v W' h hx
    simp [envOf, GDet, hx] at h
    exact h
  iterate 1
    apply nd_det (hg := rfl) (hal := rfl)
    · intro a W' hC hE
      obtain ⟨_, k1, k2, k3, k4, k5, k6⟩ := hC
      have k1 := k1.cell
      have k3 := k3.cell
      have k4 := k4.cell
      first
        | (simp [Oper.looksAt, Op.operands, Call.operands, envOf, Det] at hE; simp [go_sem, Act.eval, IntWalk.i64_left, hE, k1, k2, k3, k4, k5, k6]; try rfl)
        | (clear hE; simp [go_sem, Act.eval, IntWalk.i64_left, k1, k2, k3, k4, k5, k6]; try rfl)
  rintro W85 ⟨hR, d1, d2, d3, d4, d5, d6⟩
  simp only [ndFinR, Det, forall_eq]
  intros
  repeat (rename GDet _ _ _ _ => hgd; clear hgd)
  simp only [Act.put, List.setIfInBounds_toArray, List.set_cons_zero, List.set_cons_succ]
  refine wpList_nil ?_
  replace hW := hW.trans (hR.of_priv hW.size)
  clear hR
  clear c7
  clear c8
  clear c9
  try clear b1 b2 b3 b4 b5 b6
  have b1 := d1
  clear d1
  have b2 := d2
  clear d2
  have b3 := d3
  clear d3
  have b4 := d4
  clear d4
  have b5 := d5
  clear d5
  have b6 := d6
  clear d6
  clear c2
  clear c10
  clear c11
  go_wp2
  have y_1 := b1.lt
  have y_2 := b2.lt
  have y_3 := b3.lt
  have y_4 := b4.lt
  refine bodyPost_ret (v := .bool true) (by simp [results, Tryz.results8, go_sem, y_1, y_2, y_3, y_4]) rfl ⟨rfl, hW⟩
set_option maxRecDepth 100000 in
set_option maxHeartbeats 2000000 in
theorem tells_yes (nm nm' : ByteArray) (ep fl la sc ep' fl' la' sc' : Int) (ps po ps' po' : Option Addr) (ns cs no co ns' cs' no' co' : Nat) (a b : SerT) (sm : Bool) (K : Int) (w : World)
    (c1 : ∀ W, Below w.heap.size w W → Calls Tryz.prog 11 #[] W fun e w' => e = .returned (.bool true) ∧ Below W.heap.size W w')
    (c2 : ∀ W, Below w.heap.size w W → Calls Tryz.prog 15 #[.agg #[.string nm, .int .i64 ep, .int .i64 fl, .int .i64 la, .int .i64 sc, .slice ps ns cs, .slice po no co]] W fun e w' => ∃ v, e = .returned v ∧ Below W.heap.size W w' ∧ OSer a v w')
    (c3 : ∀ W, Below w.heap.size w W → Calls Tryz.prog 15 #[.agg #[.string nm', .int .i64 ep', .int .i64 fl', .int .i64 la', .int .i64 sc', .slice ps' ns' cs', .slice po' no' co']] W fun e w' => ∃ v, e = .returned v ∧ Below W.heap.size W w' ∧ OSer b v w')
    (c4 : ∀ W pa qa ca va, SerIn W a pa qa → Calls Tryz.prog 16 #[.agg #[.string a.name, .int .i64 a.eps, .int .i64 a.floor, .int .i64 a.last, .int .i64 a.scale, .slice pa a.segs.length ca, .slice qa a.opn.length va]] W fun e w' => e = .returned (.bool true) ∧ Below W.heap.size W w')
    (c5 : ∀ W pa qa ca va, SerIn W a pa qa → Calls Tryz.prog 32 #[.agg #[.string a.name, .int .i64 a.eps, .int .i64 a.floor, .int .i64 a.last, .int .i64 a.scale, .slice pa a.segs.length ca, .slice qa a.opn.length va]] W fun e w' => e = .returned (.int .i64 0) ∧ Below W.heap.size W w')
    (c7 : ∀ W pa qa ca va, SerIn W a pa qa → Calls Tryz.prog 34 #[.agg #[.string a.name, .int .i64 a.eps, .int .i64 a.floor, .int .i64 a.last, .int .i64 a.scale, .slice pa a.segs.length ca, .slice qa a.opn.length va]] W fun e w' => e = .returned (.int .i64 K) ∧ Below W.heap.size W w')
    (c8 : ∀ W pa qa ca va pb qb cb vb, SerIn W a pa qa → SerIn W b pb qb → Calls Tryz.prog 35 #[.agg #[.string a.name, .int .i64 a.eps, .int .i64 a.floor, .int .i64 a.last, .int .i64 a.scale, .slice pa a.segs.length ca, .slice qa a.opn.length va], .agg #[.string b.name, .int .i64 b.eps, .int .i64 b.floor, .int .i64 b.last, .int .i64 b.scale, .slice pb b.segs.length cb, .slice qb b.opn.length vb]] W fun e w' => e = .returned (.bool sm) ∧ Below W.heap.size W w')
    (c9 : ∀ W pa qa ca va pb qb cb vb, SerIn W a pa qa → SerIn W b pb qb → Calls Tryz.prog 14 #[.agg #[.string a.name, .int .i64 a.eps, .int .i64 a.floor, .int .i64 a.last, .int .i64 a.scale, .slice pa a.segs.length ca, .slice qa a.opn.length va], .agg #[.string b.name, .int .i64 b.eps, .int .i64 b.floor, .int .i64 b.last, .int .i64 b.scale, .slice pb b.segs.length cb, .slice qb b.opn.length vb]] W fun e w' => e = .returned (.bool sm) ∧ Below W.heap.size W w')
    (c10 : ∀ W pa qa ca va p9 q9 c9 v9, SerIn W a pa qa → SerIn W a p9 q9 → Calls Tryz.prog 35 #[.agg #[.string a.name, .int .i64 a.eps, .int .i64 a.floor, .int .i64 a.last, .int .i64 a.scale, .slice pa a.segs.length ca, .slice qa a.opn.length va], .agg (serA a p9 c9 q9 v9)] W fun e w' => e = .returned (.bool true) ∧ Below W.heap.size W w')
    (c11 : ∀ W pa qa ca va p9 q9 c9 v9, SerIn W a pa qa → SerIn W a p9 q9 → Calls Tryz.prog 14 #[.agg #[.string a.name, .int .i64 a.eps, .int .i64 a.floor, .int .i64 a.last, .int .i64 a.scale, .slice pa a.segs.length ca, .slice qa a.opn.length va], .agg (serA a p9 c9 q9 v9)] W fun e w' => e = .returned (.bool true) ∧ Below W.heap.size W w')
    (c6 : ∀ W pa qa ca va, SerIn W a pa qa → Calls Tryz.prog 33 #[.agg #[.string a.name, .int .i64 a.eps, .int .i64 a.floor, .int .i64 a.last, .int .i64 a.scale, .slice pa a.segs.length ca, .slice qa a.opn.length va]] W fun e w' => e = .returned (.int .i64 K) ∧ Below W.heap.size W w') :
    Calls Tryz.prog 8 #[.agg #[.string nm, .int .i64 ep, .int .i64 fl, .int .i64 la, .int .i64 sc, .slice ps ns cs, .slice po no co], .agg #[.string nm', .int .i64 ep', .int .i64 fl', .int .i64 la', .int .i64 sc', .slice ps' ns' cs', .slice po' no' co']] w fun e w' => e = .returned (.bool true) ∧ Below w.heap.size w w' := by
  have H_c1 := Lib.hid c1
  clear c1
  have H_c2 := Lib.hid c2
  clear c2
  have H_c3 := Lib.hid c3
  clear c3
  have H_c4 := Lib.hid c4
  clear c4
  have H_c5 := Lib.hid c5
  clear c5
  have H_c7 := Lib.hid c7
  clear c7
  have H_c8 := Lib.hid c8
  clear c8
  have H_c9 := Lib.hid c9
  clear c9
  have H_c10 := Lib.hid c10
  clear c10
  have H_c11 := Lib.hid c11
  clear c11
  have H_c6 := Lib.hid c6
  clear c6
  go_enter Tryz.func8, Tryz.ntmps8
  go_upto_region 1 with (fail)
  refine wp_facts (fun W' => Below w.heap.size w W' ∧ Blk W' w.heap.size #[.string nm, .int .i64 ep, .int .i64 fl, .int .i64 la, .int .i64 sc, .slice ps ns cs, .slice po no co] 26 ∧ Blk W' (w.heap.size + 1) #[.string nm', .int .i64 ep', .int .i64 fl', .int .i64 la', .int .i64 sc', .slice ps' ns' cs', .slice po' no' co'] 26) ⟨by exact belowAny, by exact blkAny2, by exact blkAny2⟩ ?_
  rintro W1 ⟨hW, b1, b2⟩
  have z2 := hW.size
  have z3 := b1.lt
  have z4 := b2.lt
  have k1 := b1.cell
  have f1 := b1.frozen
  have k2 := b2.cell
  have f2 := b2.frozen
  have c1 := H_c1.out
  go_wp2_with fail
  refine (c1 _ (belowAny)).mono ?_
  rintro e w5 ⟨rfl, hb5⟩
  clear c1
  have z6 := hb5.size
  try simp at z6
  clear k1 f1 k2 f2
  have b1 : Blk w5 w.heap.size #[.string nm, .int .i64 ep, .int .i64 fl, .int .i64 la, .int .i64 sc, .slice ps ns cs, .slice po no co] 26 := by exact blkAny2
  have b2 : Blk w5 (w.heap.size + 1) #[.string nm', .int .i64 ep', .int .i64 fl', .int .i64 la', .int .i64 sc', .slice ps' ns' cs', .slice po' no' co'] 26 := by exact blkAny2
  have hW : Below w.heap.size w w5 := by exact belowAny
  have z7 := b1.lt
  have z8 := b2.lt
  clear hb5
  have k1 := b1.cell
  have f1 := b1.frozen
  have k2 := b2.cell
  have f2 := b2.frozen
  go_upto_region 3 with (fail)
  clear k1 f1 k2 f2
  refine wp_facts (fun W' => Below w.heap.size w W' ∧ Blk W' w.heap.size #[.string nm, .int .i64 ep, .int .i64 fl, .int .i64 la, .int .i64 sc, .slice ps ns cs, .slice po no co] 26 ∧ Blk W' (w.heap.size + 1) #[.string nm', .int .i64 ep', .int .i64 fl', .int .i64 la', .int .i64 sc', .slice ps' ns' cs', .slice po' no' co'] 26) ⟨by exact belowAny, by exact blkAny2, by exact blkAny2⟩ ?_
  clear b1 b2 hW
  rintro W9 ⟨hW, b1, b2⟩
  have z10 := hW.size
  have z11 := b1.lt
  have z12 := b2.lt
  have c2 := H_c2.out
  have c3 := H_c3.out
  refine wp_region_ndA 6 60 [] (fun W' => Rex [] W9 W' ∧ Blk W' w.heap.size #[.string nm, .int .i64 ep, .int .i64 fl, .int .i64 la, .int .i64 sc, .slice ps ns cs, .slice po no co] 26 ∧ Blk W' (w.heap.size + 1) #[.string nm', .int .i64 ep', .int .i64 fl', .int .i64 la', .int .i64 sc', .slice ps' ns' cs', .slice po' no' co'] 26) mixed (by kernel_rfl) rfl ⟨(Rex.refl _ _).drew, b1, b2⟩ (fun w w' ⟨h0, h1, h2⟩ hr => ⟨h0.trans hr, h1.rex hr (by simp <;> omega), h2.rex hr (by simp <;> omega)⟩) (fun c a d v w h => by cases d <;> exact h) ?_
  iterate 1
    apply nd_det (hg := rfl) (hal := rfl)
    · intro a W' hC hE
      obtain ⟨_, k1, k2⟩ := hC
      have k1 := k1.cell
      have k2 := k2.cell
      first
        | (simp [Oper.looksAt, Op.operands, Call.operands, envOf, Det] at hE; simp [go_sem, Act.eval, IntWalk.i64_left, hE, k1, k2]; try rfl)
        | (clear hE; simp [go_sem, Act.eval, IntWalk.i64_left, k1, k2]; try rfl)
  apply nd_call (OSer a) (hg := rfl) (hal := rfl)
  · exact OSer.closed _
  · intro a' W' hC hE
    obtain ⟨hR9, k1, k2⟩ := hC
    have k1 := k1.cell
    have k2 := k2.cell
    simp [Oper.looksAt, Op.operands, Call.operands, envOf, Det] at hE
    refine ⟨_, _, ?_, (c2 W' (hW.trans (hR9.of_priv hW.size))).mono ?_⟩
    · simp [go_sem, Act.eval, hE]
      try rfl
    · rintro e w' ⟨v, rfl, hB, hO⟩
      exact ⟨_, rfl, hB, hO⟩
  iterate 1
    apply nd_det (hg := rfl) (hal := rfl)
    · intro a W' hC hE
      obtain ⟨_, k1, k2⟩ := hC
      have k1 := k1.cell
      have k2 := k2.cell
      first
        | (simp [Oper.looksAt, Op.operands, Call.operands, envOf, Det] at hE; simp [go_sem, Act.eval, IntWalk.i64_left, hE, k1, k2]; try rfl)
        | (clear hE; simp [go_sem, Act.eval, IntWalk.i64_left, k1, k2]; try rfl)
  apply nd_call (OSer b) (hg := rfl) (hal := rfl)
  · exact OSer.closed _
  · intro a' W' hC hE
    obtain ⟨hR9, k1, k2⟩ := hC
    have k1 := k1.cell
    have k2 := k2.cell
    simp [Oper.looksAt, Op.operands, Call.operands, envOf, Det] at hE
    refine ⟨_, _, ?_, (c3 W' (hW.trans (hR9.of_priv hW.size))).mono ?_⟩
    · simp [go_sem, Act.eval, hE]
      try rfl
    · rintro e w' ⟨v, rfl, hB, hO⟩
      exact ⟨_, rfl, hB, hO⟩
  apply nd_alloc W9.heap.size #[.string .empty, .int .i64 0, .int .i64 0, .int .i64 0, .int .i64 0, .slice none 0 0, .slice none 0 0] 26 rfl rfl
  · exact fun W' hC => hC.1.size
  · simp [others] <;> omega
  · intro w; kernel_rfl
  apply nd_alloc W9.heap.size #[.string .empty, .int .i64 0, .int .i64 0, .int .i64 0, .int .i64 0, .slice none 0 0, .slice none 0 0] 26 rfl rfl
  · exact fun W' hC => hC.1.size
  · simp [others] <;> omega
  · intro w; kernel_rfl
  rintro W12 ⟨hR, d1, d2⟩
  simp only [ndFinR, Det, forall_eq]
  intros
  repeat (rename GDet _ _ _ _ => hgd; clear hgd)
  simp only [Act.put, List.setIfInBounds_toArray, List.set_cons_zero, List.set_cons_succ, List.drop_succ_cons, List.drop_zero]
  clear c2
  clear c3
  clear b1 b2
  have b1 := d1
  have b2 := d2
  clear d1 d2
  replace hW := hW.trans (hR.of_priv hW.size)
  clear hR
  rename AllocApart _ _ => hap
  rename OSer a _ _ => hoa
  rename OSer b _ _ => hob
  obtain ⟨pa, qa, ca, va, rfl, sa⟩ := hoa
  obtain ⟨pb, qb, cb, vb, rfl, sb⟩ := hob
  unfold serA
  rename NewVar _ _ _ _ _ => hn6
  obtain ⟨o6, rfl, hg6, b4⟩ := hn6
  rename NewVar _ _ _ _ _ => hn5
  obtain ⟨o5, rfl, hg5, b3⟩ := hn5
  have hne : o5 ≠ o6 := fun e => hap 5 6 (by simp [allocDsts, isAlloc]) (by simp [allocDsts, isAlloc]) (by decide) ⟨o5, 0, none⟩ (by simp [Act.put]) (by simp [Act.put, e])
  clear hap
  have hz56 := Lib.hid (strL2 b3 b4)
  have z91 := hW.size
  have z92 := b1.lt
  have z93 := b2.lt
  have z94 := b3.lt
  have z95 := b4.lt
  have k1 := b1.cell
  have f1 := b1.frozen
  have k2 := b2.cell
  have f2 := b2.frozen
  have k3 := b3.cell
  have f3 := b3.frozen
  have k4 := b4.cell
  have f4 := b4.frozen
  go_upto_region 4 with (fail)
  clear k1 f1 k2 f2 k3 f3 k4 f4
  refine wp_facts (fun W' => Below w.heap.size w W' ∧ Blk W' w.heap.size #[.string nm, .int .i64 ep, .int .i64 fl, .int .i64 la, .int .i64 sc, .slice ps ns cs, .slice po no co] 26 ∧ Blk W' (w.heap.size + 1) #[.string nm', .int .i64 ep', .int .i64 fl', .int .i64 la', .int .i64 sc', .slice ps' ns' cs', .slice po' no' co'] 26 ∧ Blk W' o5 #[.string a.name, .int .i64 a.eps, .int .i64 a.floor, .int .i64 a.last, .int .i64 a.scale, .slice pa a.segs.length ca, .slice qa a.opn.length va] 26 ∧ Blk W' o6 #[.string b.name, .int .i64 b.eps, .int .i64 b.floor, .int .i64 b.last, .int .i64 b.scale, .slice pb b.segs.length cb, .slice qb b.opn.length vb] 26 ∧ SerO W' a pa qa ∧ SerO W' b pb qb) ⟨by exact belowAny, by exact blkAny2, by exact blkAny2, by exact blkAny2, by exact blkAny2, by exact sa.rexS hz56.out (rex77 b3 b4 hne _ _ _ _ _ _ _ _ _ _ _ _ _ _), by exact sb.rexS hz56.out (rex77 b3 b4 hne _ _ _ _ _ _ _ _ _ _ _ _ _ _)⟩ ?_
  clear b1 b2 b3 b4 hW
  rintro W61 ⟨hW, b1, b2, b3, b4, b5, b6⟩
  have z62 := hW.size
  have z63 := b1.lt
  have z64 := b2.lt
  have z65 := b3.lt
  have z66 := b4.lt
  clear sa sb hz56
  have k1 := b1.cell
  have f1 := b1.frozen
  have k2 := b2.cell
  have f2 := b2.frozen
  have k3 := b3.cell
  have f3 := b3.frozen
  have k4 := b4.cell
  have f4 := b4.frozen
  have c4 := H_c4.out
  go_wp2_with fail
  refine (c4 _ pa qa ca va b5.inn).mono ?_
  rintro e w67 ⟨rfl, hb67⟩
  clear c4
  have z68 := hb67.size
  try simp at z68
  clear k1 f1 k2 f2 k3 f3 k4 f4
  have b1 : Blk w67 w.heap.size #[.string nm, .int .i64 ep, .int .i64 fl, .int .i64 la, .int .i64 sc, .slice ps ns cs, .slice po no co] 26 := by exact blkAny2
  have b2 : Blk w67 (w.heap.size + 1) #[.string nm', .int .i64 ep', .int .i64 fl', .int .i64 la', .int .i64 sc', .slice ps' ns' cs', .slice po' no' co'] 26 := by exact blkAny2
  have b3 : Blk w67 o5 #[.string a.name, .int .i64 a.eps, .int .i64 a.floor, .int .i64 a.last, .int .i64 a.scale, .slice pa a.segs.length ca, .slice qa a.opn.length va] 26 := by exact blkAny2
  have b4 : Blk w67 o6 #[.string b.name, .int .i64 b.eps, .int .i64 b.floor, .int .i64 b.last, .int .i64 b.scale, .slice pb b.segs.length cb, .slice qb b.opn.length vb] 26 := by exact blkAny2
  have b5 : SerO w67 a pa qa := by exact b5.below (by assumption)
  have b6 : SerO w67 b pb qb := by exact b6.below (by assumption)
  have hW : Below w.heap.size w w67 := by exact belowAny
  have z69 := b1.lt
  have z70 := b2.lt
  have z71 := b3.lt
  have z72 := b4.lt
  clear hb67
  have k1 := b1.cell
  have f1 := b1.frozen
  have k2 := b2.cell
  have f2 := b2.frozen
  have k3 := b3.cell
  have f3 := b3.frozen
  have k4 := b4.cell
  have f4 := b4.frozen
  have c5 := H_c5.out
  go_wp2_with fail
  refine (c5 _ pa qa ca va b5.inn).mono ?_
  rintro e w73 ⟨rfl, hb73⟩
  clear c5
  have z74 := hb73.size
  try simp at z74
  clear k1 f1 k2 f2 k3 f3 k4 f4
  have b1 : Blk w73 w.heap.size #[.string nm, .int .i64 ep, .int .i64 fl, .int .i64 la, .int .i64 sc, .slice ps ns cs, .slice po no co] 26 := by exact blkAny2
  have b2 : Blk w73 (w.heap.size + 1) #[.string nm', .int .i64 ep', .int .i64 fl', .int .i64 la', .int .i64 sc', .slice ps' ns' cs', .slice po' no' co'] 26 := by exact blkAny2
  have b3 : Blk w73 o5 #[.string a.name, .int .i64 a.eps, .int .i64 a.floor, .int .i64 a.last, .int .i64 a.scale, .slice pa a.segs.length ca, .slice qa a.opn.length va] 26 := by exact blkAny2
  have b4 : Blk w73 o6 #[.string b.name, .int .i64 b.eps, .int .i64 b.floor, .int .i64 b.last, .int .i64 b.scale, .slice pb b.segs.length cb, .slice qb b.opn.length vb] 26 := by exact blkAny2
  have b5 : SerO w73 a pa qa := by exact b5.below (by assumption)
  have b6 : SerO w73 b pb qb := by exact b6.below (by assumption)
  have hW : Below w.heap.size w w73 := by exact belowAny
  have z75 := b1.lt
  have z76 := b2.lt
  have z77 := b3.lt
  have z78 := b4.lt
  clear hb73
  have k1 := b1.cell
  have f1 := b1.frozen
  have k2 := b2.cell
  have f2 := b2.frozen
  have k3 := b3.cell
  have f3 := b3.frozen
  have k4 := b4.cell
  have f4 := b4.frozen
  have c6 := H_c6.out
  go_wp2_with fail
  refine (c6 _ pa qa ca va b5.inn).mono ?_
  rintro e w79 ⟨rfl, hb79⟩
  clear c6
  have z80 := hb79.size
  try simp at z80
  clear k1 f1 k2 f2 k3 f3 k4 f4
  have b1 : Blk w79 w.heap.size #[.string nm, .int .i64 ep, .int .i64 fl, .int .i64 la, .int .i64 sc, .slice ps ns cs, .slice po no co] 26 := by exact blkAny2
  have b2 : Blk w79 (w.heap.size + 1) #[.string nm', .int .i64 ep', .int .i64 fl', .int .i64 la', .int .i64 sc', .slice ps' ns' cs', .slice po' no' co'] 26 := by exact blkAny2
  have b3 : Blk w79 o5 #[.string a.name, .int .i64 a.eps, .int .i64 a.floor, .int .i64 a.last, .int .i64 a.scale, .slice pa a.segs.length ca, .slice qa a.opn.length va] 26 := by exact blkAny2
  have b4 : Blk w79 o6 #[.string b.name, .int .i64 b.eps, .int .i64 b.floor, .int .i64 b.last, .int .i64 b.scale, .slice pb b.segs.length cb, .slice qb b.opn.length vb] 26 := by exact blkAny2
  have b5 : SerO w79 a pa qa := by exact b5.below (by assumption)
  have b6 : SerO w79 b pb qb := by exact b6.below (by assumption)
  have hW : Below w.heap.size w w79 := by exact belowAny
  have z81 := b1.lt
  have z82 := b2.lt
  have z83 := b3.lt
  have z84 := b4.lt
  clear hb79
  have k1 := b1.cell
  have f1 := b1.frozen
  have k2 := b2.cell
  have f2 := b2.frozen
  have k3 := b3.cell
  have f3 := b3.frozen
  have k4 := b4.cell
  have f4 := b4.frozen
  have c2 := H_c2.out
  have c10 := H_c10.out
  have c11 := H_c11.out
  go_upto_region 11 with (fail)
  clear k1 f1 k2 f2 k3 f3 k4 f4
  refine wp_facts (fun W' => Below w.heap.size w W' ∧ Blk W' w.heap.size #[.string nm, .int .i64 ep, .int .i64 fl, .int .i64 la, .int .i64 sc, .slice ps ns cs, .slice po no co] 26 ∧ Blk W' (w.heap.size + 1) #[.string nm', .int .i64 ep', .int .i64 fl', .int .i64 la', .int .i64 sc', .slice ps' ns' cs', .slice po' no' co'] 26 ∧ Blk W' o5 #[.string a.name, .int .i64 a.eps, .int .i64 a.floor, .int .i64 a.last, .int .i64 a.scale, .slice pa a.segs.length ca, .slice qa a.opn.length va] 26 ∧ Blk W' o6 #[.string b.name, .int .i64 b.eps, .int .i64 b.floor, .int .i64 b.last, .int .i64 b.scale, .slice pb b.segs.length cb, .slice qb b.opn.length vb] 26 ∧ SerO W' a pa qa ∧ SerO W' b pb qb) ⟨by exact belowAny, by exact blkAny2, by exact blkAny2, by exact blkAny2, by exact blkAny2, by exact b5, by exact b6⟩ ?_
  clear b1 b2 b3 b4 b5 b6 hW
  rintro W85 ⟨hW, b1, b2, b3, b4, b5, b6⟩
  have z86 := hW.size
  have z87 := b1.lt
  have z88 := b2.lt
  have z89 := b3.lt
  have z90 := b4.lt
  have c7 := H_c7.out
  have c8 := H_c8.out
  have c9 := H_c9.out
  refine wp_region_nd 26 60 [] (fun W' => Rex [] W85 W' ∧ Blk W' w.heap.size #[.string nm, .int .i64 ep, .int .i64 fl, .int .i64 la, .int .i64 sc, .slice ps ns cs, .slice po no co] 26 ∧ Blk W' (w.heap.size + 1) #[.string nm', .int .i64 ep', .int .i64 fl', .int .i64 la', .int .i64 sc', .slice ps' ns' cs', .slice po' no' co'] 26 ∧ Blk W' o5 #[.string a.name, .int .i64 a.eps, .int .i64 a.floor, .int .i64 a.last, .int .i64 a.scale, .slice pa a.segs.length ca, .slice qa a.opn.length va] 26 ∧ Blk W' o6 #[.string b.name, .int .i64 b.eps, .int .i64 b.floor, .int .i64 b.last, .int .i64 b.scale, .slice pb b.segs.length cb, .slice qb b.opn.length vb] 26 ∧ SerO W' a pa qa ∧ SerO W' b pb qb) mixed (by kernel_rfl) rfl ⟨(Rex.refl _ _).drew, b1, b2, b3, b4, b5.drew, b6.drew⟩ (fun w w' ⟨h0, h1, h2, h3, h4, h5, h6⟩ hr => ⟨h0.trans hr, h1.rex hr (by simp <;> omega), h2.rex hr (by simp <;> omega), h3.rex hr (by simp <;> omega), h4.rex hr (by simp <;> omega), h5.rex hr (by simp <;> omega), h6.rex hr (by simp <;> omega)⟩) (fun c a d v w h => by cases d <;> exact h) ?_
  iterate 1
    apply nd_det (hg := rfl) (hal := rfl)
    · intro a W' hC hE
      obtain ⟨_, k1, k2, k3, k4, k5, k6⟩ := hC
      have k1 := k1.cell
      have k3 := k3.cell
      have k4 := k4.cell
      first
        | (simp [Oper.looksAt, Op.operands, Call.operands, envOf, Det] at hE; simp [go_sem, Act.eval, IntWalk.i64_left, hE, k1, k2, k3, k4, k5, k6]; try rfl)
        | (clear hE; simp [go_sem, Act.eval, IntWalk.i64_left, k1, k2, k3, k4, k5, k6]; try rfl)
  refine nd_callv2 rfl rfl (fun W' hC => c7 W' pa qa ca va hC.2.2.2.2.2.1.inn) (fun a W' hC hE => ?_) ?_
  · obtain ⟨_, k1, k2, k3, k4, k5, k6⟩ := hC
    have k1 := k1.cell
    have k3 := k3.cell
    have k4 := k4.cell
    first
      | (simp [Oper.looksAt, Op.operands, Call.operands, envOf, Det] at hE; simp [go_sem, Act.eval, IntWalk.i64_left, hE, k1, k2, k3, k4, k5, k6]; try rfl)
      | (clear hE; simp [go_sem, Act.eval, IntWalk.i64_left, k1, k2, k3, k4, k5, k6]; try rfl)
  iterate 3
    apply nd_det (hg := rfl) (hal := rfl)
    · intro a W' hC hE
      obtain ⟨_, k1, k2, k3, k4, k5, k6⟩ := hC
      have k1 := k1.cell
      have k3 := k3.cell
      have k4 := k4.cell
      first
        | (simp [Oper.looksAt, Op.operands, Call.operands, envOf, Det] at hE; simp [go_sem, Act.eval, IntWalk.i64_left, hE, k1, k2, k3, k4, k5, k6]; try rfl)
        | (clear hE; simp [go_sem, Act.eval, IntWalk.i64_left, k1, k2, k3, k4, k5, k6]; try rfl)
  iterate 2
    apply nd_detg (p := true) (hg := rfl) (hd := rfl) (hal := rfl)
    · intro v W' h
      simp [envOf, Det, GDet] at h
      simp
      exact h
    · intro hp hx a W' hC hE
      obtain ⟨_, k1, k2, k3, k4, k5, k6⟩ := hC
      have k1 := k1.cell
      have k3 := k3.cell
      have k4 := k4.cell
      simp [Oper.looksAt, Op.operands, Call.operands, envOf, Det, GDet, hx] at hE
      simp [go_sem, Act.eval, IntWalk.i64_left, hE, k1, k2, k3, k4, k5, k6]
      try rfl
  apply nd_callvg2 (p := true) (hg := rfl) (hd := rfl) (hal := rfl)
  · intro v W' h
    simp [envOf, Det] at h
    simp
    exact h
  · intro hp hx W' hC
    exact c8 W' pa qa ca va pb qb cb vb hC.2.2.2.2.2.1.inn hC.2.2.2.2.2.2.inn
  · intro hp hx a W' hC hE
    obtain ⟨_, k1, k2, k3, k4, k5, k6⟩ := hC
    have k1 := k1.cell
    have k3 := k3.cell
    have k4 := k4.cell
    first
      | (simp [Oper.looksAt, Op.operands, Call.operands, envOf, Det, GDet, hx] at hE; simp [go_sem, Act.eval, IntWalk.i64_left, hE, k1, k2, k3, k4, k5, k6]; try rfl)
      | (clear hE; simp [go_sem, Act.eval, IntWalk.i64_left, k1, k2, k3, k4, k5, k6]; try rfl)
  iterate 2
    apply nd_detg (p := true) (hg := rfl) (hd := rfl) (hal := rfl)
    · intro v W' h
      simp [envOf, Det, GDet] at h
      simp
      exact h
    · intro hp hx a W' hC hE
      obtain ⟨_, k1, k2, k3, k4, k5, k6⟩ := hC
      have k1 := k1.cell
      have k3 := k3.cell
      have k4 := k4.cell
      simp [Oper.looksAt, Op.operands, Call.operands, envOf, Det, GDet, hx] at hE
      simp [go_sem, Act.eval, IntWalk.i64_left, hE, k1, k2, k3, k4, k5, k6]
      try rfl
  apply nd_callvg2 (p := true) (hg := rfl) (hd := rfl) (hal := rfl)
  · intro v W' h
    simp [envOf, Det] at h
    simp
    exact h
  · intro hp hx W' hC
    exact c9 W' pa qa ca va pb qb cb vb hC.2.2.2.2.2.1.inn hC.2.2.2.2.2.2.inn
  · intro hp hx a W' hC hE
    obtain ⟨_, k1, k2, k3, k4, k5, k6⟩ := hC
    have k1 := k1.cell
    have k3 := k3.cell
    have k4 := k4.cell
    first
      | (simp [Oper.looksAt, Op.operands, Call.operands, envOf, Det, GDet, hx] at hE; simp [go_sem, Act.eval, IntWalk.i64_left, hE, k1, k2, k3, k4, k5, k6]; try rfl)
      | (clear hE; simp [go_sem, Act.eval, IntWalk.i64_left, k1, k2, k3, k4, k5, k6]; try rfl)
  iterate 1
    apply nd_detg (p := true) (hg := rfl) (hd := rfl) (hal := rfl)
    · intro v W' h
      simp [envOf, Det, GDet] at h
      simp
      exact h
    · intro hp hx a W' hC hE
      obtain ⟨_, k1, k2, k3, k4, k5, k6⟩ := hC
      have k1 := k1.cell
      have k3 := k3.cell
      have k4 := k4.cell
      simp [Oper.looksAt, Op.operands, Call.operands, envOf, Det, GDet, hx] at hE
      simp [go_sem, Act.eval, IntWalk.i64_left, hE, k1, k2, k3, k4, k5, k6]
      try rfl
  apply nd_pick_and (ho := rfl) (hg := rfl)
  · intro v W' h
    simp [envOf, Det] at h
    exact h
  · intro v W' h hx
    simp [envOf, GDet, hx] at h
    exact h
  iterate 1
    apply nd_det (hg := rfl) (hal := rfl)
    · intro a W' hC hE
      obtain ⟨_, k1, k2, k3, k4, k5, k6⟩ := hC
      have k1 := k1.cell
      have k3 := k3.cell
      have k4 := k4.cell
      first
        | (simp [Oper.looksAt, Op.operands, Call.operands, envOf, Det] at hE; simp [go_sem, Act.eval, IntWalk.i64_left, hE, k1, k2, k3, k4, k5, k6]; try rfl)
        | (clear hE; simp [go_sem, Act.eval, IntWalk.i64_left, k1, k2, k3, k4, k5, k6]; try rfl)
  iterate 2
    apply nd_detg (p := true) (hg := rfl) (hd := rfl) (hal := rfl)
    · intro v W' h
      simp [envOf, Det, GDet] at h
      simp
      exact h
    · intro hp hx a W' hC hE
      obtain ⟨_, k1, k2, k3, k4, k5, k6⟩ := hC
      have k1 := k1.cell
      have k3 := k3.cell
      have k4 := k4.cell
      simp [Oper.looksAt, Op.operands, Call.operands, envOf, Det, GDet, hx] at hE
      simp [go_sem, Act.eval, IntWalk.i64_left, hE, k1, k2, k3, k4, k5, k6]
      try rfl
  apply nd_oncall (OSer a) (hg := rfl) (hd := rfl) (hal := rfl)
  · exact OSer.closed _
  · intro v W' h
    simp [envOf, Det] at h
    exact h
  · intro a' W' hC hE
    obtain ⟨hR9, k1, _⟩ := hC
    have k1 := k1.cell
    simp [Oper.looksAt, Op.operands, Call.operands, envOf, Det, GDet] at hE
    refine ⟨_, _, ?_, (c2 W' (hW.trans (hR9.of_priv hW.size))).mono ?_⟩
    · simp [go_sem, Act.eval, hE]
      try rfl
    · rintro e w' ⟨v, rfl, hB, hO⟩
      exact ⟨_, rfl, hB, hO⟩
  apply nd_oncall (Det (.bool true)) (hg := rfl) (hd := rfl) (hal := rfl)
  · exact closed_det _ _
  · intro v W' h
    simp [envOf, Det] at h
    exact h
  · intro a' W' hC hE
    simp [Oper.looksAt, Op.operands, Call.operands, envOf, Det, GDet] at hE
    obtain ⟨p9, q9, c9, v9, e9, h9⟩ := hE.2.1
    refine ⟨_, _, ?_, (c10 W' pa qa ca va p9 q9 c9 v9 hC.2.2.2.2.2.1.inn h9.inn).mono ?_⟩
    · simp [go_sem, Act.eval, hE.1, hE.2.2, e9, serA]
      try rfl
    · rintro e w' ⟨rfl, hB⟩
      exact ⟨_, rfl, hB, rfl⟩
  apply nd_pick_and (ho := rfl) (hg := rfl)
  · intro v W' h
    simp [envOf, Det] at h
    exact h
  · intro v W' h hx
    simp [envOf, GDet, hx] at h
    exact h
  iterate 1
    apply nd_det (hg := rfl) (hal := rfl)
    · intro a W' hC hE
      obtain ⟨_, k1, k2, k3, k4, k5, k6⟩ := hC
      have k1 := k1.cell
      have k3 := k3.cell
      have k4 := k4.cell
      first
        | (simp [Oper.looksAt, Op.operands, Call.operands, envOf, Det] at hE; simp [go_sem, Act.eval, IntWalk.i64_left, hE, k1, k2, k3, k4, k5, k6]; try rfl)
        | (clear hE; simp [go_sem, Act.eval, IntWalk.i64_left, k1, k2, k3, k4, k5, k6]; try rfl)
  iterate 2
    apply nd_detg (p := true) (hg := rfl) (hd := rfl) (hal := rfl)
    · intro v W' h
      simp [envOf, Det, GDet] at h
      simp
      exact h
    · intro hp hx a W' hC hE
      obtain ⟨_, k1, k2, k3, k4, k5, k6⟩ := hC
      have k1 := k1.cell
      have k3 := k3.cell
      have k4 := k4.cell
      simp [Oper.looksAt, Op.operands, Call.operands, envOf, Det, GDet, hx] at hE
      simp [go_sem, Act.eval, IntWalk.i64_left, hE, k1, k2, k3, k4, k5, k6]
      try rfl
  apply nd_oncall (OSer a) (hg := rfl) (hd := rfl) (hal := rfl)
  · exact OSer.closed _
  · intro v W' h
    simp [envOf, Det] at h
    exact h
  · intro a' W' hC hE
    obtain ⟨hR9, k1, _⟩ := hC
    have k1 := k1.cell
    simp [Oper.looksAt, Op.operands, Call.operands, envOf, Det, GDet] at hE
    refine ⟨_, _, ?_, (c2 W' (hW.trans (hR9.of_priv hW.size))).mono ?_⟩
    · simp [go_sem, Act.eval, hE]
      try rfl
    · rintro e w' ⟨v, rfl, hB, hO⟩
      exact ⟨_, rfl, hB, hO⟩
  apply nd_oncall (Det (.bool true)) (hg := rfl) (hd := rfl) (hal := rfl)
  · exact closed_det _ _
  · intro v W' h
    simp [envOf, Det] at h
    exact h
  · intro a' W' hC hE
    simp [Oper.looksAt, Op.operands, Call.operands, envOf, Det, GDet] at hE
    obtain ⟨p9, q9, c9, v9, e9, h9⟩ := hE.2.1
    refine ⟨_, _, ?_, (c11 W' pa qa ca va p9 q9 c9 v9 hC.2.2.2.2.2.1.inn h9.inn).mono ?_⟩
    · simp [go_sem, Act.eval, hE.1, hE.2.2, e9, serA]
      try rfl
    · rintro e w' ⟨rfl, hB⟩
      exact ⟨_, rfl, hB, rfl⟩
  apply nd_pick_and (ho := rfl) (hg := rfl)
  · intro v W' h
    simp [envOf, Det] at h
    exact h
  · intro v W' h hx
    simp [envOf, GDet, hx] at h
    exact h
  iterate 1
    apply nd_det (hg := rfl) (hal := rfl)
    · intro a W' hC hE
      obtain ⟨_, k1, k2, k3, k4, k5, k6⟩ := hC
      have k1 := k1.cell
      have k3 := k3.cell
      have k4 := k4.cell
      first
        | (simp [Oper.looksAt, Op.operands, Call.operands, envOf, Det] at hE; simp [go_sem, Act.eval, IntWalk.i64_left, hE, k1, k2, k3, k4, k5, k6]; try rfl)
        | (clear hE; simp [go_sem, Act.eval, IntWalk.i64_left, k1, k2, k3, k4, k5, k6]; try rfl)
  rintro W91 ⟨hR, d1, d2, d3, d4, d5, d6⟩
  simp only [ndFinR, Det, forall_eq]
  intros
  repeat (rename GDet _ _ _ _ => hgd; clear hgd)
  simp only [Act.put, List.setIfInBounds_toArray, List.set_cons_zero, List.set_cons_succ]
  refine wpList_nil ?_
  replace hW := hW.trans (hR.of_priv hW.size)
  clear hR
  clear c7
  clear c8
  clear c9
  try clear b1 b2 b3 b4 b5 b6
  have b1 := d1
  clear d1
  have b2 := d2
  clear d2
  have b3 := d3
  clear d3
  have b4 := d4
  clear d4
  have b5 := d5
  clear d5
  have b6 := d6
  clear d6
  clear c2
  clear c10
  clear c11
  go_wp2
  have y_1 := b1.lt
  have y_2 := b2.lt
  have y_3 := b3.lt
  have y_4 := b4.lt
  refine bodyPost_ret (v := .bool true) (by simp [results, Tryz.results8, go_sem, y_1, y_2, y_3, y_4]) rfl ⟨rfl, hW⟩
inductive Tr (α : Type) where
  | nil
  | node (o : Option α) (l r : Tr α)
noncomputable def Tr.get {α : Type} (t : Tr α) : Nat → Option α :=
  Tr.rec (motive := fun _ => Nat → Option α) (fun _ => none) (fun o _ _ gl gr k => bif Nat.beq k 0 then o else bif Nat.beq (Nat.mod k 2) 1 then gl (Nat.div k 2) else gr (Nat.pred (Nat.div k 2))) t
noncomputable def Tr.set {α : Type} (n : Nat) : Tr α → Nat → Option α → Tr α :=
  Nat.rec (motive := fun _ => Tr α → Nat → Option α → Tr α) (fun t _ _ => t)
    (fun _ ih t k v => Tr.rec (motive := fun _ => Tr α)
      (bif Nat.beq k 0 then .node v .nil .nil else bif Nat.beq (Nat.mod k 2) 1 then .node none (ih .nil (Nat.div k 2) v) .nil else .node none .nil (ih .nil (Nat.pred (Nat.div k 2)) v))
      (fun o l r _ _ => bif Nat.beq k 0 then .node v l r else bif Nat.beq (Nat.mod k 2) 1 then .node o (ih l (Nat.div k 2) v) r else .node o l (ih r (Nat.pred (Nat.div k 2)) v)) t) n
/-- A block: a row of cells (behind which there may be more: op), a map's entries, a string's reader, a range's record, a block for deferred calls. -/
inductive AO where
  | cells (cs : List Value) (t : TypeId) (op : Bool)
  | map (es : List MapEntry) (clock : Nat)
  | iter (s : ByteArray) (pos : Nat)
  | loop (st : LoopState) (pend : Option Code) (t : Tr Value) (m : Nat) (ps : Array Tmp) (asg body : Code) (d : Nat)
  | dfr (open_ : Bool)
/-- The memory; the next number; below lim nothing may be written but one; hid: numbers that are not seen. -/
structure St where
  T : Tr AO
  next : Nat
  lim : Nat
  one : Nat
  hid : List (Nat × Nat)
  /-- numbers below this are package-level variables -/
  ng : Nat
structure Fr where
  t : Tr Value
  m : Nat
  marks : List Nat
  round : Option Nat
def hidden : List (Nat × Nat) → Nat → Bool
  | [], _ => false
  | (a, b) :: r, k => (Nat.ble a k && Nat.blt k b) || hidden r k
def big : Nat := 1000000
noncomputable def St.get (s : St) (k : Nat) : Option AO := bif hidden s.hid k then none else s.T.get k
noncomputable def St.new (s : St) (o : AO) : Option (Nat × St) := bif Nat.blt s.next big then some (s.next, { s with T := s.T.set 24 s.next (some o), next := Nat.succ s.next }) else none
noncomputable def St.put (s : St) (k : Nat) (o : Option AO) : Option St := bif (Nat.ble s.lim k || Nat.beq k s.one) && Nat.blt k s.next then some { s with T := s.T.set 24 k o } else none
noncomputable def Fr.get (f : Fr) (k : Nat) : Value := (f.t.get k).getD undef
noncomputable def Fr.put (f : Fr) (d : Option Tmp) (v : Value) : Option Fr := match d with
  | none => some f
  | some d => bif Nat.blt d f.m then some { f with t := f.t.set 24 d (some v) } else none
mutual
/-- no address in it -/
def pl : Value → Bool
  | .bool _ | .int _ _ | .string _ | .pointer none | .slice none _ _ | .map none | .nilFunc | .nilIface => true
  | .agg ⟨cs⟩ => pls cs
  | .tuple ⟨cs⟩ => pls cs
  | .func (.func _) ⟨[]⟩ ⟨[]⟩ => true
  | _ => false
def pls : List Value → Bool
  | [] => true
  | v :: r => pl v && pls r
end
def okOpd (ng : Nat) : Operand → Bool
  | .tmp _ => true
  | .const v => pl v
  | .func _ => true
  | .global g => Nat.blt g ng
noncomputable def Fr.ev (f : Fr) : Operand → Value
  | .tmp t => f.get t
  | .const v => v
  | .global g => .pointer (some ⟨g, 0, none⟩)
  | .func g => .func (.func g) #[] #[]
def pv {α : Type} (P : Program) : Sem α → Option α
  | .pure a => some a
  | .program k => pv P (k P)
  | .mark _ k => pv P k
  | _ => none
def ival : Value → Option Nat
  | .int _ n => match n with | .ofNat k => some k | _ => none
  | _ => none
def takeN : Nat → List Value → List Value
  | 0, _ => []
  | _, [] => []
  | n + 1, x :: l => x :: takeN n l
def dropN : Nat → List Value → List Value
  | 0, l => l
  | _, [] => []
  | n + 1, _ :: l => dropN n l
def aggB (P : Program) (t : TypeId) : Option Bool := match P.underlying t with
  | some (.struct _) => some true
  | some (.array _ _) => some true
  | some _ => some false
  | none => none
def elemB (P : Program) (t : TypeId) : Option TypeId := match P.underlying t with
  | some (.slice e) => some e
  | _ => none
def szB (P : Program) (t : TypeId) : Option Nat := (P.info? t).map (·.size)
def zeroB (P : Program) (t : TypeId) : Option Value := ((P.info? t).bind (·.zero)).bind fun z => bif pl z then some z else none
/-- n cells at a place -/
noncomputable def rd (s : St) (k off n : Nat) : Option (List Value) := match s.get k with
  | some (.cells cs _ _) => bif Nat.ble (Nat.add off n) cs.length then some (takeN n (dropN off cs)) else none
  | _ => none
def ones : List Value → Bool
  | [] => true
  | v :: l => v.oneCell' && ones l
noncomputable def wr (s : St) (k off : Nat) (vs : List Value) : Option St := match s.get k with
  | some (.cells cs t op) => bif Nat.ble (Nat.add off vs.length) cs.length && ones vs then s.put k (some (.cells (takeN off cs ++ (vs ++ dropN (Nat.add off vs.length) cs)) t op)) else none
  | _ => none
noncomputable def ld (P : Program) (s : St) (t : TypeId) (k off : Nat) : Option Value := match aggB P t, szB P t with
  | some true, some n => (rd s k off n).map fun l => .agg l.toArray
  | some false, some _ => match rd s k off 1 with | some (v :: _) => some v | _ => none
  | _, _ => none
def reps : Nat → List Value → List Value
  | 0, _ => []
  | n + 1, l => l ++ reps n l
def bnd (s : Option Value) (d : Nat) : Option Nat := match s with | none => some d | some v => ival v
/-- a part of a slice -/
def slB (sz : Nat) (a : Option Addr) (len cap : Nat) (lo hi mx : Option Value) : Option Value := match bnd mx cap, bnd hi len, bnd lo 0 with
  | some m, some h, some l => bif Nat.ble m cap && Nat.ble h m && Nat.ble l h && (mx.isNone || hi.isSome) then
      (match a with
       | none => some (.slice none (Nat.sub h l) (Nat.sub m l))
       | some a => match mx, a.spot with
         | none, some _ => bif Nat.beq m l then none else some (.slice (some ⟨a.block, Nat.add a.off (Nat.mul l sz), a.spot⟩) (Nat.sub h l) (Nat.sub m l))
         | _, _ => some (.slice (some (bif Nat.beq m l then ⟨a.block, a.off, none⟩ else ⟨a.block, Nat.add a.off (Nat.mul l sz), none⟩)) (Nat.sub h l) (Nat.sub m l)))
    else none
  | _, _, _ => none
def mfind (k : Value) : List MapEntry → Option (Option Value)
  | [] => some none
  | e :: es => match e.key, k with
    | .int a x, .int b y => bif decide (a = b) then (bif decide (y = x) then some (some e.val) else mfind k es) else none
    | _, _ => none
structure Rec where
  code : Code → Fr → St → Option (Exit × Fr × St)
  call : FuncId → List Value → St → Option (Value × St)
  yield : Nat → List Value → St → Option (Value × St)
  /-- code within a scope: a jump to a label of it goes on behind the label -/
  back : Code → Code → Fr → St → Option (Exit × Fr × St)
noncomputable def callV (R : Rec) (f : Value) (args : List Value) (st : St) : Option (Value × St) := match f with
  | .func (.func g) first cap => R.call g (first.toList ++ (args ++ cap.toList)) st
  | .func (.yield l) ⟨[]⟩ ⟨[]⟩ => R.yield l args st
  | _ => none
noncomputable def appB (P : Program) (st : St) (t : TypeId) (s x : Value) : Option (Value × St) := match elemB P t with
  | none => none
  | some e => match P.info? e, zeroB P e with
    | some i, some z => bif Nat.beq z.cells.size i.size then match s, x with
      | .slice a len cap, .slice (some ⟨kb, ob, _⟩) n _ =>
        match rd st kb ob (Nat.mul n i.size) with
        | none => none
        | some src => bif Nat.ble (Nat.add len n) cap then
            match a with
            | some ⟨k, 0, sp⟩ => match st.get k with
              | some (.cells _ t' _) => bif Nat.beq t' e then (wr st k (Nat.mul len i.size) src).map fun st => (.slice (some ⟨k, 0, sp⟩) (Nat.add len n) cap, st) else none
              | _ => none
            | _ => none
          else bif Nat.ble (Nat.mul (Nat.mul 8 (Nat.add (Nat.add len n) 64)) (Nat.add i.bytes 1)) 100000000 && ones src then
            match a with
            | none => bif Nat.beq len 0 && Nat.beq cap 0 then (bif Nat.blt 0 n then (st.new (.cells src e true)).map fun r => (.slice (some ⟨r.1, 0, some 0⟩) n n, r.2) else none) else none
            | some ⟨k, off, sp⟩ => match rd st k off (Nat.mul len i.size) with
              | none => none
              | some old => match sp with
                | none => (st.new (.cells (old ++ src) e true)).map fun r => (.slice (some ⟨r.1, 0, some 0⟩) (Nat.add len n) (Nat.add len n), r.2)
                | some _ => match st.get k, off with
                  | some (.cells cs t' true), 0 => bif Nat.beq t' e && Nat.beq cs.length (Nat.mul cap i.size) then
                      match st.put k none with
                      | none => none
                      | some st => (st.new (.cells (old ++ src) e true)).map fun r => (.slice (some ⟨r.1, 0, some 0⟩) (Nat.add len n) (Nat.add len n), r.2)
                    else none
                  | _, _ => none
          else none
      | .slice a len cap, .slice none n _ => bif Nat.beq n 0 && Nat.ble len cap then some (.slice a len cap, st) else none
      | _, _ => none
      else none
    | _, _ => none
def nilB (P : Program) (t : TypeId) (x y : Value) : Bool := match P.underlying t, x, y with
  | some (.slice _), .slice none _ _, .slice (some _) _ _ | some (.slice _), .slice (some _) _ _, .slice none _ _ | some (.pointer _), .pointer none, .pointer (some _) | some (.pointer _), .pointer (some _), .pointer none | some (.func _ _ _), .nilFunc, .func _ _ _ | some (.func _ _ _), .func _ _ _, .nilFunc => true
  | _, _, _ => false
def eqNil (P : Program) (t : TypeId) (op : BinOp) (x y : Value) : Option Value := bif nilB P t x y then (match op with | .eql => some (.bool false) | .neq => some (.bool true) | _ => none) else none
def pvV (P : Program) (ρ : Operand → Value) (o : Oper) : Option Value := match pv P (execOp ρ o) with
  | some (.value v) => bif pl v then some v else none
  | _ => none
/-- an operation that looks at no memory -/
def pureK (o : Oper) : Bool := match o.op with
  | .move _ | .assign _ | .pick _ _ _ | .extract _ _ | .field _ _ _ | .index _ _ _ | .build _ _ | .makeFunc _ _ _ | .nilCheck _ | .binOp _ _ _ _ _ | .unOp _ _ _ | .convert _ _ _ | .fieldAddr _ _ _ | .indexAddr _ _ _ | .slice _ _ _ _ _ => true
  | _ => false
def partB (P : Program) (t : TypeId) (cs : Array Value) (off : Nat) : Option Value := match aggB P t, szB P t with
  | some true, some n => some (.agg (cs.extract off (off + n)))
  | some false, some _ => cs[off]?
  | _, _ => none
def execP (P : Program) (ρ : Operand → Value) (o : Oper) : Option Value := match o.op with
  | .move x | .assign x => some (ρ x)
  | .pick c a b => match ρ c with | .bool t => some (bif t then ρ a else ρ b) | _ => none
  | .extract x i => match ρ x with | .tuple vs => vs[i]? | _ => none
  | .field t x f => match P.underlying t, ρ x with
    | some (.struct fs), .agg cs => match fs[f]? with | some fd => partB P fd.type cs fd.offset | none => none
    | _, _ => none
  | .index t x i => bif pl (ρ x) && pl (ρ i) then pvV P ρ o else match P.underlying t, ρ x, ival (ρ i) with
    | some (.array n e), .agg cs, some k => match szB P e with | some sz => bif Nat.blt k n then partB P e cs (k * sz) else none | none => none
    | _, _, _ => none
  | .build t parts => bif (zeroB P t).isSome then (P.built t (parts.toList.map fun p => (p.1, ρ p.2))).map .agg else none
  | .makeFunc (.func g) first cap => some (.func (.func g) (first.map ρ) (cap.map ρ))
  | .nilCheck x => match ρ x with
    | .pointer (some a) => some (.pointer (some a))
    | .func (.func g) a b => some (.func (.func g) a b)
    | .func (.yield g) a b => some (.func (.yield g) a b)
    | _ => none
  | .binOp op t x y _ => match eqNil P t op (ρ x) (ρ y) with
    | some v => some v
    | none => bif pl (ρ x) && pl (ρ y) then pvV P ρ o else none
  | .unOp _ _ x | .convert _ _ x => bif pl (ρ x) then pvV P ρ o else none
  | .fieldAddr s x f => match ρ x, P.underlying s with
    | .pointer (some ⟨k, off, none⟩), some (.struct fs) => match fs[f]? with
      | some fd => match szB P fd.type with | some (.succ _) => some (.pointer (some ⟨k, Nat.add off fd.offset, none⟩)) | _ => none
      | none => none
    | _, _ => none
  | .indexAddr t x i => match P.underlying t, ρ x, ival (ρ i) with
    | some (.array len e), .pointer (some ⟨k, off, none⟩), some n => match szB P e with | some sz => bif Nat.blt n len then some (.pointer (some ⟨k, Nat.add off (Nat.mul n sz), none⟩)) else none | none => none
    | some (.slice e), .slice (some ⟨k, off, _⟩) len _, some n => match szB P e with | some sz => bif Nat.blt n len then some (.pointer (some ⟨k, Nat.add off (Nat.mul n sz), none⟩)) else none | none => none
    | _, _, _ => none
  | .slice t x lo hi mx => match P.underlying t, ρ x with
    | some (.slice e), .slice a len cap => match szB P e with | some sz => slB sz a len cap (lo.map ρ) (hi.map ρ) (mx.map ρ) | none => none
    | some .string, .string _ => bif pl (ρ x) && ((lo.toList ++ hi.toList ++ mx.toList).all fun y => pl (ρ y)) then pvV P ρ o else none
    | _, _ => none
  | _ => none
noncomputable def allPl (l : List Value) : Bool := pls l
noncomputable def newC (s : St) (cs : List Value) (t : TypeId) : Option (Value × St) := bif ones cs then (s.new (.cells cs t false)).map fun r => (.pointer (some ⟨r.1, 0, none⟩), r.2) else none
def pvp (P : Program) (x : Sem Value) : Option Value := match pv P x with | some v => bif pl v then some v else none | none => none
noncomputable def bi (P : Program) (b : Builtin) (tys : List TypeId) (type : TypeId) (args : List Value) (st : St) : Option (Value × St) := match b, tys, args with
  | .len, t :: _, [.slice _ n _] => (elemB P t).map fun _ => (.int .i64 n, st)
  | .len, _, [.string s] => (pvp P (Builtin.len_ tys.toArray type #[.string s])).map fun v => (v, st)
  | .cap, t :: _, [.slice none _ n] => (elemB P t).map fun _ => (.int .i64 n, st)
  | .cap, t :: _, [.slice (some ⟨_, _, none⟩) _ n] => (elemB P t).map fun _ => (.int .i64 n, st)
  | .append, [t, u], [s, x] => bif Nat.beq t u then appB P st t s x else none
  | .copy, [t, u], [.slice a n _, .slice b m _] => bif Nat.beq t u then (match (elemB P t).bind (szB P) with
    | none => none
    | some sz => bif Nat.beq (Nat.min m n) 0 then some (.int .i64 0, st) else match a, b with
      | some ⟨ka, oa, _⟩, some ⟨kb, ob, _⟩ => match rd st kb ob (Nat.mul (Nat.min m n) sz) with
        | none => none
        | some src => (wr st ka oa src).map fun st => (.int .i64 (Nat.min m n), st)
      | _, _ => none) else none
  | .clear, t :: _, [.slice a n _] => bif Nat.beq n 0 then (elemB P t).map fun _ => (.tuple #[], st) else match (elemB P t).bind (zeroB P), a with
    | some z, some ⟨k, off, _⟩ => (wr st k off (reps n z.cells.toList)).map fun st => (.tuple #[], st)
    | _, _ => none
  | .max, _, l => bif pls l then (pvp P (Builtin.max_ tys.toArray type l.toArray)).map fun v => (v, st) else none
  | .min, _, l => bif pls l then (pvp P (Builtin.min_ tys.toArray type l.toArray)).map fun v => (v, st) else none
  | _, _, _ => none
/-- an operation that looks at memory, or calls -/
noncomputable def execH (P : Program) (R : Rec) (ρ : Operand → Value) (o : Oper) (st : St) : Option (Value × St) := match o.op with
  | .alloc e => match zeroB P e with | some z => newC st z.cells.toList e | none => none
  | .box e x => newC st (ρ x).cells.toList e
  | .buildSlice t len parts => match elemB P t with
    | none => none
    | some e => match szB P e, zeroB P e with
      | some sz, some z => bif Nat.beq sz 0 || Nat.blt 10000 (len * sz) || !(Nat.beq z.cells.size sz) then none else
        match Instr.fill (fun i => some (i * sz, sz)) (reps len z.cells.toList).toArray (parts.toList.map fun p => (p.1, ρ p.2)) with
        | none => none
        | some cs => bif ones cs.toList then (st.new (.cells cs.toList e false)).map fun r => (.slice (some ⟨r.1, 0, none⟩) len len, r.2) else none
      | _, _ => none
  | .load t a => match ρ a with
    | .pointer (some ⟨k, off, none⟩) => (ld P st t k off).map fun v => (v, st)
    | _ => none
  | .store t a x => match ρ a, szB P t with
    | .pointer (some ⟨k, off, none⟩), some n => bif Nat.beq (ρ x).cells.size n then (wr st k off (ρ x).cells.toList).map fun st => (undef, st) else none
    | _, _ => none
  | .makeSlice t l c => match elemB P t with
    | none => none
    | some e => match P.info? e, zeroB P e, ρ l, ρ c with
      | some i, some z, .int _ (.ofNat l), .int _ (.ofNat c) => bif Nat.ble l c && Nat.ble (Nat.mul c (Nat.add (Nat.add i.size i.bytes) 1)) 10000000 && Nat.beq z.cells.size i.size && ones z.cells.toList then
          (st.new (.cells (reps c z.cells.toList) e false)).map fun r => (.slice (some ⟨r.1, 0, none⟩) l c, r.2) else none
      | _, _, _, _ => none
  | .makeMap _ none => (st.new (.map [] 0)).map fun r => (.map (some r.1), r.2)
  | .insert t m k v => match ρ m, P.underlying t with
    | .map (some r), some (.map kt _) => match P.underlying kt, ρ k, st.get r with
      | some (.int _), .int a x, some (.map es c) => match mfind (.int a x) es with
        | some none => (st.put r (some (.map (es ++ [{ key := .int a x, val := ρ v, born := c }]) (c + 1)))).map fun st => (undef, st)
        | _ => none
      | _, _, _ => none
    | _, _ => none
  | .lookup t m k true => match ρ m, P.underlying t with
    | .map (some r), some (.map kt e) => match P.underlying kt, ρ k, st.get r with
      | some (.int _), .int a x, some (.map es _) => match mfind (.int a x) es, zeroB P e with
        | some none, some z => some (.tuple #[z, .bool false], st)
        | some (some v), some _ => some (.tuple #[v, .bool true], st)
        | _, _ => none
      | _, _, _ => none
    | _, _ => none
  | .range t x => match ρ x, P.underlying t with
    | .string s, some .string => (st.new (.iter s 0)).map fun r => (.pointer (some ⟨r.1, 0, none⟩), r.2)
    | _, _ => none
  | .next x true => match ρ x with
    | .pointer (some ⟨k, 0, none⟩) => match st.get k with
      | some (.iter s pos) => bif Nat.blt pos s.size then
          (st.put k (some (.iter s (pos + (Utf8.decode s pos).2)))).map fun st => (.tuple #[.bool true, .int .i64 pos, .int .i32 (Utf8.decode s pos).1], st)
        else some (.tuple #[.bool false], st)
      | _ => none
    | _ => none
  | .call c => match c.callee with
    | .builtin b => bi P b c.argTypes.toList o.type (c.args.toList.map ρ) st
    | .value f => callV R (ρ f) (c.args.toList.map ρ) st
    | _ => none
  | _ => none
noncomputable def exec (P : Program) (R : Rec) (ρ : Operand → Value) (o : Oper) (st : St) : Option (Value × St) := bif pureK o then (execP P ρ o).map fun v => (v, st) else execH P R ρ o st
/-- is the guard met? -/
noncomputable def guardB (ops : Array Oper) (f : Fr) (o : Oper) : Bool := match o.guard with
  | none => true
  | some (k, want) => match wrOf ops k with
    | some d => match f.get d with | .bool b => bif b then want else !want | _ => false
    | none => false
noncomputable def seqB (P : Program) (R : Rec) (ops : Array Oper) : List Oper → Fr → St → Option (Fr × St)
  | [], fr, st => some (fr, st)
  | o :: l, fr, st => bif guardB ops fr o then
      match exec P R fr.ev o st with
      | some r => match fr.put o.dst r.1 with | some fr => seqB P R ops l fr r.2 | none => none
      | none => none
    else match fr.put o.dst undef with | some fr => seqB P R ops l fr st | none => none
/-- what stands ahead of each operation, as a mask -/
def maskOf (A : List Nat) (es : List Edge) : Nat := es.foldr (fun e m => bif Region.binds .any e then Nat.lor (Nat.lor m (Nat.shiftLeft 1 e.on)) (A.getD e.on 0) else m) 0
def ancs : List Oper → List Nat → List Nat
  | [], A => A
  | o :: l, A => ancs l (A ++ [maskOf A o.after.toList])
def bitL (A : List Nat) (i k : Nat) : Bool := Nat.testBit (A.getD i 0) k
def aheadB (A : List Nat) (i k : Nat) : Bool := bif Nat.blt k i then bitL A i k else bitL A k i
/-- an operation that each other that looks at memory stands ahead of, or behind -/
def wrB (ops : Array Oper) (A : List Nat) (i : Nat) : Bool := (List.range ops.size).all fun k => Nat.beq k i || aheadB A i k || (match ops[k]? with | some o => pureK o | none => true)
def wrs (ops : Array Oper) (A : List Nat) : List Bool := (List.range ops.size).map fun i => wrB ops A i
def readsA (ops : Array Oper) (A : List Nat) : Bool := (List.range ops.size).all fun i => match ops[i]? with
  | some o => (o.looksAt ops).all fun s => (List.range ops.size).all fun j => (match wrOf ops j with | some d => !(Nat.beq d s) | none => true) || (bif Nat.beq i j then Nat.beq 0 0 else aheadB A i j)
  | none => true
def okOps (ng : Nat) (ops : Array Oper) : Bool := ops.toList.all fun o => o.op.operands.toList.all (okOpd ng)
def okR (ng : Nat) (ops : Array Oper) : Bool := backB ops && uniqB ops ops.size && readsA ops (ancs ops.toList []) && okOps ng ops
def wrIx (ops : Array Oper) (s : Tmp) : Option Nat := (List.range ops.size).find? fun j => match wrOf ops j with | some d => Nat.beq d s | none => false
/-- the block of a place whose block is known ahead of the region -/
noncomputable def baseB (ops : Array Oper) (fr : Fr) : Nat → Tmp → Option Nat
  | 0, _ => none
  | n + 1, s => match wrIx ops s with
    | none => match fr.get s with | .pointer (some ⟨b, _, none⟩) => some b | _ => none
    | some j => match ops[j]? with
      | some o => match o.op with
        | .move (.tmp x) => baseB ops fr n x
        | .nilCheck (.tmp x) => baseB ops fr n x
        | .fieldAddr _ (.tmp x) _ => baseB ops fr n x
        | _ => none
      | none => none
/-- stores into blocks that are known ahead of the region -/
noncomputable def psts (ops : Array Oper) (W : List Bool) (fr : Fr) : List Nat → List (Nat × Nat)
  | [] => []
  | i :: l => match (bif W.getD i false then none else match ops[i]? with | some o => (match o.op with | .store _ (.tmp s) _ => baseB ops fr 10 s | _ => none) | none => none) with
    | some b => (i, b) :: psts ops W fr l
    | none => psts ops W fr l
def userCall (o : Oper) : Bool := match o.op with | .call c => (match c.callee with | .builtin _ => false | _ => true) | _ => false
def mayPut (o : Oper) : Bool := match o.op with | .store .. => true | .call c => (match c.callee with | .builtin .append => true | .builtin .copy => true | _ => false) | _ => false
/-- the block that an operation writes, by a run in the text's order -/
noncomputable def putAt (ρ : Operand → Value) (o : Oper) : Option Nat := match o.op with
  | .store _ x _ => match ρ x with | .pointer (some ⟨b, _, none⟩) => some b | _ => none
  | .call c => match c.callee with
    | .builtin .append | .builtin .copy => match c.args.toList.map ρ with | .slice (some ⟨b, _, _⟩) _ _ :: _ => some b | _ => none
    | _ => none
  | _ => none
noncomputable def pass1 (P : Program) (R : Rec) (ops : Array Oper) (W : List Bool) (nx : Nat) : List Oper → Nat → Fr → St → List (Nat × Nat)
  | [], _, _, _ => []
  | o :: l, i, fr, st => bif guardB ops fr o then
      match exec P R fr.ev o st with
      | some r => match fr.put o.dst r.1 with
        | some fr' => match (bif W.getD i false then none else putAt fr.ev o) with
          | some b => bif Nat.blt b nx then (i, b) :: pass1 P R ops W nx l (Nat.succ i) fr' r.2 else pass1 P R ops W nx l (Nat.succ i) fr' r.2
          | none => pass1 P R ops W nx l (Nat.succ i) fr' r.2
        | none => []
      | none => []
    else match fr.put o.dst undef with | some fr => pass1 P R ops W nx l (Nat.succ i) fr st | none => []
/-- which operations write, and into what: found by any way, for it is looked at again -/
noncomputable def putsB (P : Program) (R : Rec) (ops : Array Oper) (W : List Bool) (fr : Fr) (st : St) : List (Nat × Nat) :=
  bif (List.range ops.size).any fun i => !(W.getD i false) && (match ops[i]? with | some o => mayPut o | none => false) then
    (bif ops.toList.any userCall then psts ops W fr (List.range ops.size) else pass1 P R ops W st.next ops.toList 0 fr st) else []
/-- what operation i does not see: what was made by those that stand neither ahead nor behind, and the blocks into which such store -/
def hidOf (A : List Nat) (i : Nat) (rs : List (Nat × Nat × Nat)) (ps : List (Nat × Nat)) : List (Nat × Nat) :=
  (rs.filterMap fun r => bif bitL A i r.1 then none else some (r.2.1, r.2.2)) ++ (ps.filterMap fun p => bif Nat.beq p.1 i || aheadB A i p.1 then none else some (p.2, Nat.succ p.2))
def oneOf (i : Nat) (ps : List (Nat × Nat)) : Nat := match ps with
  | [] => big
  | (k, b) :: l => bif Nat.beq k i then b else oneOf i l
/-- a region that draws its order; rs: what each made -/
noncomputable def anyB (P : Program) (R : Rec) (ops : Array Oper) (A : List Nat) (W : List Bool) (ps : List (Nat × Nat)) : List Oper → Nat → List (Nat × Nat × Nat) → Fr → St → Option (Fr × St)
  | [], _, _, fr, st => some (fr, st)
  | o :: l, i, rs, fr, st =>
    bif guardB ops fr o then
      bif pureK o then match execP P fr.ev o with
        | some v => match fr.put o.dst v with | some fr => anyB P R ops A W ps l (Nat.succ i) rs fr st | none => none
        | none => none
      else match execH P R fr.ev o (bif W.getD i false then st else { st with lim := st.next, one := oneOf i ps, hid := hidOf A i rs ps ++ st.hid }) with
        | some r => match fr.put o.dst r.1 with | some fr => anyB P R ops A W ps l (Nat.succ i) ((i, st.next, r.2.next) :: rs) fr { r.2 with lim := st.lim, one := st.one, hid := st.hid } | none => none
        | none => none
    else match fr.put o.dst undef with | some fr => anyB P R ops A W ps l (Nat.succ i) rs fr st | none => none
/-- these blocks may be written, and are apart -/
def apartB (lim one next : Nat) : List (Nat × Nat) → Bool
  | [] => true
  | (_, b) :: l => (Nat.ble lim b || Nat.beq b one) && Nat.blt b next && (l.all fun q => !(Nat.beq q.2 b)) && apartB lim one next l
noncomputable def regB (P : Program) (R : Rec) (ops : Array Oper) (draw : Bool) (fr : Fr) (st : St) : Option (Fr × St) :=
  bif draw then (bif okR st.ng ops then (match putsB P R ops (wrs ops (ancs ops.toList [])) fr st with | ps => bif apartB st.lim st.one st.next ps then anyB P R ops (ancs ops.toList []) (wrs ops (ancs ops.toList [])) ps ops.toList 0 [] fr st else none) else none) else (bif okOps st.ng ops then seqB P R ops ops.toList fr st else none)
def entersB (P : Program) : Value → Bool
  | .func (.func g) _ _ => match P.funcs[g]? with | some fn => fn.body.isSome && !(fn.name == "runtime.NumGoroutine") | none => false
  | _ => false
noncomputable def stepCode (P : Program) (R : Rec) (c : Code) (fr : Fr) (st : St) : Option (Exit × Fr × St) := match c with
  | .skip => some (.normal, fr, st)
  | .label _ => some (.normal, fr, st)
  | .region _ ops draw => (regB P R ops draw fr st).map fun r => (.normal, r.1, r.2)
  | .seq a b => match R.code a fr st with
    | some (.normal, fr, st) => R.code b fr st
    | r => r
  | .cond c a b => bif okOpd st.ng c then (match fr.ev c with | .bool t => bif t then R.code a fr st else R.code b fr st | _ => none) else none
  | .block id b => match R.code b fr st with
    | some (.exit k, fr, st) => bif Nat.beq k id then some (.normal, fr, st) else some (.exit k, fr, st)
    | r => r
  | .loop b => match R.code b fr st with
    | some (.normal, fr, st) => R.code c fr st
    | r => r
  | .exit id => some (.exit id, fr, st)
  | .goto l => some (.goto l, fr, st)
  | .ret => some (.ret, fr, st)
  | .scope b => match fr.round with | none => R.back b b fr st | some _ => none
  | .rangeFunc f ps asg body => bif okOpd st.ng f && entersB P (fr.ev f) then
      match (show Option (Nat × List Nat × St) from match fr.round with
        | some l => (match st.get l with | some (.loop _ _ _ _ _ _ _ d) => some (d, ([] : List Nat), st) | _ => none)
        | none => (st.new (.dfr true)).map fun r => (r.1, [r.1], r.2)) with
      | none => none
      | some (d, mk, st) => match st.new (.loop .ready none fr.t fr.m ps asg body d) with
        | none => none
        | some (l, st) => match callV R (fr.ev f) [.func (.yield l) #[] #[]] st with
          | none => none
          | some (_, st) => match st.get l with
            | some (.loop s pend t m ps asg body d) => match s with
              | .busy => none
              | _ => match st.put l (some (.loop .exhausted pend t m ps asg body d)) with
                | none => none
                | some st => match pend with
                  | none => some (.normal, { fr with marks := mk ++ fr.marks }, st)
                  | some .ret => some (.ret, { fr with marks := mk ++ fr.marks }, st)
                  | some (.exit k) => some (.exit k, { fr with marks := mk ++ fr.marks }, st)
                  | some _ => none
            | _ => none
    else none
  | .refuse _ => none
noncomputable def putAll : List Value → Nat → Tr Value → Tr Value
  | [], _, t => t
  | v :: l, i, t => putAll l (Nat.succ i) (t.set 24 i (some v))
noncomputable def putPar (m : Nat) : List (Tmp × Value) → Tr Value → Option (Tr Value)
  | [], t => some t
  | (d, v) :: l, t => bif Nat.blt d m then putPar m l (t.set 24 d (some v)) else none
noncomputable def takeMarks : List Nat → St → Option St
  | [], st => some st
  | d :: l, st => match st.get d with
    | some (.dfr true) => match st.put d (some (.dfr false)) with | some st => takeMarks l st | none => none
    | _ => none
noncomputable def resB (P : Program) (st : St) (fr : Fr) : List ResultVar → Option (List Value)
  | [] => some []
  | .tmp t :: l => match resB P st fr l with | some vs => some (fr.get t :: vs) | none => none
  | .cell a t :: l => match fr.get a with
    | .pointer (some ⟨k, off, none⟩) => match ld P st t k off, resB P st fr l with | some v, some vs => some (v :: vs) | _, _ => none
    | _ => none
/-- what is known of some functions without a walk -/
abbrev Orc := FuncId → List Value → St → Option Value
noncomputable def stepCall (P : Program) (O : Orc) (R : Rec) (f : FuncId) (args : List Value) (st : St) : Option (Value × St) := match O f args st with
 | some v => some (v, st)
 | none => match P.funcs[f]? with
  | none => none
  | some fn => bif fn.name == "runtime.NumGoroutine" then none else match fn.body with
    | none => bif pls args then (match pv P (callFunc f args.toArray) with | some (.value v) => bif pl v then some (v, st) else none | _ => none) else none
    | some c => bif Nat.ble args.length fn.ntmps && Nat.ble fn.ntmps big then
      match R.code c ⟨putAll args 0 .nil, fn.ntmps, [], none⟩ st with
      | some (e, fr, st) => match e with
        | .normal | .ret => match takeMarks fr.marks st with
          | none => none
          | some st => match resB P st fr fn.results.toList with
            | some [v] => some (v, st)
            | some vs => some (.tuple vs.toArray, st)
            | none => none
        | _ => none
      | none => none else none
noncomputable def stepYield (P : Program) (R : Rec) (l : Nat) (args : List Value) (st : St) : Option (Value × St) := match st.get l with
  | some (.loop .ready pend t m ps asg body d) => bif Nat.beq args.length ps.size then match putPar m (ps.toList.zip args) t with
    | none => none
    | some t' => match R.code asg ⟨t', m, [], some l⟩ st with
      | some (.normal, fr, st) => match st.get l with
        | some (.loop .ready pend t m ps asg body' d) => match st.put l (some (.loop .busy pend t m ps asg body' d)) with
          | none => none
          | some st => match R.code body fr st with
            | none => none
            | some (e, _, st) => match st.get l, (match e with | .normal => some none | .ret => some (some Code.ret) | .exit k => some (some (Code.exit k)) | _ => none) with
              | some (.loop _ _ t m ps asg body d), some jump => (st.put l (some (.loop (bif Option.isNone jump then .ready else .done) jump t m ps asg body d))).map fun st => (.bool (Option.isNone jump), st)
              | _, _ => none
        | _ => none
      | _ => none
    else none
  | _ => none
noncomputable def stepBack (R : Rec) (b c : Code) (fr : Fr) (st : St) : Option (Exit × Fr × St) := match R.code c fr st with
  | some (.goto l, fr, st) => (match findLabel b l with
    | some rest => R.back b rest fr st
    | none => some (.goto l, fr, st))
  | r => r
noncomputable def ev (P : Program) (O : Orc) (n : Nat) : Rec :=
  Nat.rec (motive := fun _ => Rec) ⟨fun _ _ _ => none, fun _ _ _ => none, fun _ _ _ => none, fun _ _ _ _ => none⟩ (fun _ R => ⟨stepCode P R, stepCall P O R, stepYield P R, stepBack R⟩) n
noncomputable def runB (P : Program) (O : Orc) (s : St) (f : FuncId) : Bool := match (ev P O 1000000).call f [] s with
  | some (.bool true, _) => true
  | _ => false
end Go.Proofs.YtpdhdjlhicceoaaGreatDoor
