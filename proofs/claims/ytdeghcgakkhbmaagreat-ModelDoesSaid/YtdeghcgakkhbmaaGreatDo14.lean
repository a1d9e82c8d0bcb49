/- Parts of the proof that follows: The laws of chapter 28: ModelDoes' walk. No condition. | Layer model: how long the names and the points of what a mutation makes are. No condition. | The document's series: why points may not come. No condition. | slices.Clone of runs, and of numbers: what comes of it begins where its block does. No condition. | The laws of chapter 24: own; all that it makes begins where its block does. No condition. | The laws of chapter 25: AnswerParted's walks. No condition. | The laws of chapter 25: AnswerParted, at every series. No condition. | The laws of chapter 26: own, of every series. No condition. | The laws of chapter 24: own, of every series; all that it makes begins where its block does. No condition. | The document's copy of a series (layer 24), of whatever series came in; what is written into blocks that do not begin with a number leaves a series as it was. No condition but that a slice has fewer bytes than Go's own bound. | The document's models: what a mutation makes of a model, by its parts. No condition. | The document's models: points that come to a model. No condition. -/
import Derived.Test.YtdeghcgakkhbmaaGreatDo13
set_option linter.unusedSimpArgs false
set_option linter.unusedVariables false
namespace Go.Proofs.YtdeghcgakkhbmaaGreat
open Go.RowKit
def mdsRel1 (V : World) (nb o7 o8 o9 : Nat) (pn : Option Addr) (N cn : Nat) (a' : Act) (W : World) : Prop :=
  Below V.heap.size V W ∧ Blk W o9 #[.slice pn N cn] 27 ∧ ∃ i : Nat, (∃ u : Nat → Value, a' = { tmps := #[u 0, u 1, .pointer (some ⟨nb, 0, none⟩), .pointer (some ⟨(nb + 1), 0, none⟩), u 4, .pointer (some ⟨o7, 0, none⟩), .pointer (some ⟨o8, 0, none⟩), .pointer (some ⟨o9, 0, none⟩), u 8, u 9, u 10, u 11, u 12, u 13, u 14, u 15, u 16, u 17, u 18, u 19, u 20, u 21, u 22, u 23, u 24, u 25, u 26, u 27, u 28, u 29, u 30, u 31, u 32, u 33, u 34, u 35, u 36, u 37, u 38, u 39, u 40, u 41, u 42, u 43, u 44, .int .i64 (N : Int), .int .i64 (i : Int), u 47, u 48, u 49, u 50, u 51, u 52, u 53, u 54, u 55, u 56, u 57, u 58, u 59, u 60, u 61, u 62, u 63, u 64, u 65, u 66, u 67, u 68, u 69, u 70, u 71, u 72, u 73, u 74, u 75, u 76, u 77, u 78, u 79, u 80, u 81, u 82, u 83, u 84, u 85, u 86, u 87, u 88, u 89, u 90, u 91, u 92, u 93, u 94], defers := [] }) ∧ NSh W V.heap.size (20 + i) pn N ∧ i ≤ N
def mdsRel2 (V : World) (nb o7 o8 o9 gn og : Nat) (cur : Array Value) (N cn M i len : Nat) (p : Option Addr) (a' : Act) (W : World) : Prop :=
  Below V.heap.size V W ∧ Blk W o9 #[.slice (some ⟨gn, og, none⟩) N cn] 27 ∧ Blk W gn cur 35 ∧ NSh W V.heap.size M (some ⟨gn, og, none⟩) N ∧ IntsR W V.heap.size p len ∧ ∃ k : Nat, (∃ u : Nat → Value, a' = { tmps := #[u 0, u 1, .pointer (some ⟨nb, 0, none⟩), .pointer (some ⟨(nb + 1), 0, none⟩), u 4, .pointer (some ⟨o7, 0, none⟩), .pointer (some ⟨o8, 0, none⟩), .pointer (some ⟨o9, 0, none⟩), u 8, u 9, u 10, .int .i64 (i : Int), u 12, u 13, u 14, u 15, u 16, u 17, u 18, u 19, u 20, u 21, u 22, u 23, u 24, u 25, u 26, u 27, u 28, u 29, u 30, u 31, u 32, u 33, u 34, u 35, u 36, u 37, u 38, u 39, u 40, u 41, u 42, u 43, u 44, .int .i64 (N : Int), .int .i64 (i : Int), u 47, u 48, u 49, u 50, u 51, u 52, u 53, u 54, .int .i64 (len : Int), .int .i64 (k : Int), u 57, u 58, u 59, u 60, u 61, u 62, u 63, u 64, u 65, u 66, u 67, u 68, u 69, u 70, u 71, u 72, u 73, u 74, u 75, u 76, u 77, u 78, u 79, u 80, u 81, u 82, u 83, u 84, u 85, u 86, u 87, u 88, u 89, u 90, u 91, u 92, u 93, u 94], defers := [] }) ∧ k ≤ len
set_option maxRecDepth 100000 in
set_option maxHeartbeats 2000000 in
theorem mdoes_w (px qx : Option Addr) (nx cx dx : Nat) (x z : MutT) (A R : List RawT) (RB : Bool) (ER : Int) (w : World) (hRB : RB = false → ER = 380 ∧ R = []) (hR9 : R.length ≤ 1000) (hR : ∀ r, r ∈ R → r.name.size ≤ 20 ∧ r.pts.length ≤ 2000)
    (c1 : ∀ W, Below w.heap.size w W → Calls Tryz.prog 8 #[] W fun e w' => e = .returned (.bool true) ∧ Below W.heap.size W w')
    (c2 : ∀ W, Below w.heap.size w W → Calls Tryz.prog 9 #[.agg #[.slice px nx cx]] W fun e w' => ∃ v, e = .returned v ∧ Below W.heap.size W w' ∧ OwnM 0 A v w')
    (c3 : ∀ W, Below w.heap.size w W → Calls Tryz.prog 16 #[.agg #[.int .i64 x.kind, .string x.name, .int .i64 x.eps, .int .i64 x.floor, .int .i64 x.scale, .slice qx x.pts.length dx]] W fun e w' => ∃ v, e = .returned v ∧ Below W.heap.size W w' ∧ OwnMu 0 z v w')
    (c4 : ∀ W p c, OwnM 0 A (.agg #[.slice p A.length c]) W → Calls Tryz.prog 18 #[.agg #[.slice p A.length c]] W fun e w' => e = .returned (.bool RB) ∧ Below W.heap.size W w')
    (c5 : ∀ W p c q d, OwnM 0 A (.agg #[.slice p A.length c]) W → OwnMu 0 z (.agg #[.int .i64 z.kind, .string z.name, .int .i64 z.eps, .int .i64 z.floor, .int .i64 z.scale, .slice q z.pts.length d]) W → Calls Tryz.prog 17 #[.agg #[.slice p A.length c], .agg #[.int .i64 z.kind, .string z.name, .int .i64 z.eps, .int .i64 z.floor, .int .i64 z.scale, .slice q z.pts.length d]] W fun e w' => ∃ p' c', e = .returned (.tuple #[.agg #[.slice p' R.length c'], .int .i64 ER]) ∧ Below W.heap.size W w' ∧ OwnM W.heap.size R (.agg #[.slice p' R.length c']) w')
    (c6 : RB = true → ∀ W p c q d, OwnM 0 A (.agg #[.slice p A.length c]) W → OwnMu 0 z (.agg #[.int .i64 z.kind, .string z.name, .int .i64 z.eps, .int .i64 z.floor, .int .i64 z.scale, .slice q z.pts.length d]) W → Calls Tryz.prog 19 #[.agg #[.slice p A.length c], .agg #[.int .i64 z.kind, .string z.name, .int .i64 z.eps, .int .i64 z.floor, .int .i64 z.scale, .slice q z.pts.length d]] W fun e w' => ∃ p' c', e = .returned (.tuple #[.agg #[.slice p' R.length c'], .int .i64 ER]) ∧ Below W.heap.size W w' ∧ RawsIn w' p' R)
    (c7 : ∀ W p c p' c' B, OwnM B R (.agg #[.slice p R.length c]) W → RawsIn W p' R → Calls Tryz.prog 13 #[.agg #[.slice p R.length c], .agg #[.slice p' R.length c']] W fun e w' => e = .returned (.bool true) ∧ Below W.heap.size W w')
    (c8 : ∀ W p c p' c', OwnM 0 A (.agg #[.slice p A.length c]) W → OwnM 0 A (.agg #[.slice p' A.length c']) W → Calls Tryz.prog 13 #[.agg #[.slice p A.length c], .agg #[.slice p' A.length c']] W fun e w' => e = .returned (.bool true) ∧ Below W.heap.size W w')
    (c9 : ∀ W p c p' c', PtsIn W p z.pts → PtsIn W p' z.pts → Calls Tryz.prog 20 #[.slice p z.pts.length c, .slice p' z.pts.length c'] W fun e w' => e = .returned (.bool true) ∧ Below W.heap.size W w') :
    Calls Tryz.prog 5 #[.agg #[.slice px nx cx], .agg #[.int .i64 x.kind, .string x.name, .int .i64 x.eps, .int .i64 x.floor, .int .i64 x.scale, .slice qx x.pts.length dx]] w fun e w' => e = .returned (.bool true) ∧ Below w.heap.size w w' := by
  replace c4 := Lib.hid c4
  replace c5 := Lib.hid c5
  replace c6 := Lib.hid c6
  replace c7 := Lib.hid c7
  replace c8 := Lib.hid c8
  replace c9 := Lib.hid c9
  replace hR := Lib.hid hR
  replace hRB := Lib.hid hRB
  have H_c1 := Lib.hid c1
  clear c1
  have H_c2 := Lib.hid c2
  clear c2
  have H_c3 := Lib.hid c3
  clear c3
  go_enter Tryz.func5, Tryz.ntmps5
  go_upto_region 1 with (fail)
  refine wp_cutB w (Bc w.heap.size #[.slice px nx cx] 27 <| Bc (w.heap.size + 1) #[.int .i64 x.kind, .string x.name, .int .i64 x.eps, .int .i64 x.floor, .int .i64 x.scale, .slice qx x.pts.length dx] 52 <| Bz) ?_
  rintro W1 hW z2 ⟨⟨b1, yb1, k1, f1⟩, ⟨b2, yb2, k2, f2⟩, -⟩
  go_wp2_with fail
  refine (H_c1.out _ (belowAny)).mono ?_
  rintro e w3 ⟨rfl, hb3⟩
  have z4 := hb3.size
  try simp at z4
  clear k1 f1 k2 f2
  refine haveB w w3 (Bc w.heap.size #[.slice px nx cx] 27 <| Bc (w.heap.size + 1) #[.int .i64 x.kind, .string x.name, .int .i64 x.eps, .int .i64 x.floor, .int .i64 x.scale, .slice qx x.pts.length dx] 52 <| Bz) ?_
  clear b1 b2 hW
  rintro hW z5 ⟨⟨b1, yb1, k1, f1⟩, ⟨b2, yb2, k2, f2⟩, -⟩
  clear hb3
  go_upto_region 3 with (fail)
  clear k1 f1 k2 f2
  refine wp_cutB w (Bc w.heap.size #[.slice px nx cx] 27 <| Bc (w.heap.size + 1) #[.int .i64 x.kind, .string x.name, .int .i64 x.eps, .int .i64 x.floor, .int .i64 x.scale, .slice qx x.pts.length dx] 52 <| Bz) ?_
  clear b1 b2 hW
  rintro W6 hW z7 ⟨⟨b1, yb1, k1, f1⟩, ⟨b2, yb2, k2, f2⟩, -⟩
  have c2 := H_c2.out
  have c3 := H_c3.out
  refine wp_region_ndA 6 95 [] (fun W' => Rex [] W6 W' ∧ Blk W' w.heap.size #[.slice px nx cx] 27 ∧ Blk W' (w.heap.size + 1) #[.int .i64 x.kind, .string x.name, .int .i64 x.eps, .int .i64 x.floor, .int .i64 x.scale, .slice qx x.pts.length dx] 52) mixed (by kernel_rfl) rfl ⟨(Rex.refl _ _).drew, b1, b2⟩ (fun w w' ⟨h0, h1, h2⟩ hr => ⟨h0.trans hr, h1.rex hr (by simp <;> omega), h2.rex hr (by simp <;> omega)⟩) (fun c a d v w h => by cases d <;> exact h) ?_
  iterate 1
    apply nd_det (hg := rfl) (hal := rfl)
    · intro a W' hC hE
      obtain ⟨_, k1, k2⟩ := hC
      have k1 := k1.cell
      have k2 := k2.cell
      first
        | (simp [Oper.looksAt, Op.operands, Call.operands, envOf, Det] at hE; simp [go_sem, Act.eval, IntWalk.i64_left, hE, k1, k2]; try rfl)
        | (clear hE; simp [go_sem, Act.eval, IntWalk.i64_left, k1, k2]; try rfl)
  apply nd_call (OwnM 0 A) (hg := rfl) (hal := rfl)
  · exact OwnM.closed _ _
  · intro a' W' hC hE
    obtain ⟨hR9, k1, k2⟩ := hC
    have k1 := k1.cell
    have k2 := k2.cell
    simp [Oper.looksAt, Op.operands, Call.operands, envOf, Det] at hE
    refine ⟨_, _, ?_, (c2 W' (hW.trans (hR9.of_priv hW.size))).mono ?_⟩
    · simp [go_sem, Act.eval, hE]
      try rfl
    · rintro e w' ⟨v, rfl, hB, hO⟩
      exact ⟨_, rfl, hB, hO⟩
  iterate 1
    apply nd_det (hg := rfl) (hal := rfl)
    · intro a W' hC hE
      obtain ⟨_, k1, k2⟩ := hC
      have k1 := k1.cell
      have k2 := k2.cell
      first
        | (simp [Oper.looksAt, Op.operands, Call.operands, envOf, Det] at hE; simp [go_sem, Act.eval, IntWalk.i64_left, hE, k1, k2]; try rfl)
        | (clear hE; simp [go_sem, Act.eval, IntWalk.i64_left, k1, k2]; try rfl)
  apply nd_call (OwnMu 0 z) (hg := rfl) (hal := rfl)
  · exact OwnMu.closed _ _
  · intro a' W' hC hE
    obtain ⟨hR9, k1, k2⟩ := hC
    have k1 := k1.cell
    have k2 := k2.cell
    simp [Oper.looksAt, Op.operands, Call.operands, envOf, Det] at hE
    refine ⟨_, _, ?_, (c3 W' (hW.trans (hR9.of_priv hW.size))).mono ?_⟩
    · simp [go_sem, Act.eval, hE]
      try rfl
    · rintro e w' ⟨v, rfl, hB, hO⟩
      exact ⟨_, rfl, hB, hO⟩
  apply nd_alloc W6.heap.size #[.slice none 0 0] 27 rfl rfl
  · exact fun W' hC => hC.1.size
  · simp [others] <;> omega
  · intro w; kernel_rfl
  apply nd_alloc W6.heap.size #[.int .i64 0, .string .empty, .int .i64 0, .int .i64 0, .int .i64 0, .slice none 0 0] 52 rfl rfl
  · exact fun W' hC => hC.1.size
  · simp [others] <;> omega
  · intro w; kernel_rfl
  rintro W12 ⟨hR, d1, d2⟩
  simp only [ndFinR, Det, forall_eq]
  intros
  repeat (rename GDet _ _ _ _ => hgd; clear hgd)
  simp only [Act.put, List.setIfInBounds_toArray, List.set_cons_zero, List.set_cons_succ, List.drop_succ_cons, List.drop_zero]
  clear c2
  clear c3
  clear b1 b2
  have b1 := d1
  have b2 := d2
  clear d1 d2
  replace hW := hW.trans (hR.of_priv hW.size)
  clear hR
  rename AllocApart _ _ => hap
  rename OwnM 0 A _ _ => sa
  rename OwnMu 0 z _ _ => sz
  obtain ⟨pa, ca, rfl, -, -⟩ := sa.form
  have sz' := sz
  obtain ⟨pz, cz, rfl, -⟩ := sz'
  rename NewVar _ _ _ _ _ => hn8
  obtain ⟨o8, rfl, hg8, b4⟩ := hn8
  rename NewVar _ _ _ _ _ => hn7
  obtain ⟨o7, rfl, hg7, b3⟩ := hn7
  have hne : o7 ≠ o8 := fun e => hap 5 6 (by simp [allocDsts, isAlloc]) (by simp [allocDsts, isAlloc]) (by decide) ⟨o7, 0, none⟩ (by simp [Act.put]) (by simp [Act.put, e])
  clear hap
  have z91 := hW.size
  have z92 := b1.lt
  have z93 := b2.lt
  have z94 := b3.lt
  have z95 := b4.lt
  clear k1 f1 k2 f2
  have k1 := b1.cell
  have f1 := b1.frozen
  have k2 := b2.cell
  have f2 := b2.frozen
  have k3 := b3.cell
  have f3 := b3.frozen
  have k4 := b4.cell
  have f4 := b4.frozen
  go_upto_region 4 with (fail)
  clear k1 f1 k2 f2 k3 f3 k4 f4
  refine wp_cutB w (Bc w.heap.size #[.slice px nx cx] 27 <| Bc (w.heap.size + 1) #[.int .i64 x.kind, .string x.name, .int .i64 x.eps, .int .i64 x.floor, .int .i64 x.scale, .slice qx x.pts.length dx] 52 <| Bc o7 #[.slice pa A.length ca] 27 <| Bc o8 #[.int .i64 z.kind, .string z.name, .int .i64 z.eps, .int .i64 z.floor, .int .i64 z.scale, .slice pz z.pts.length cz] 52 <| Rc (fun W' => OwnM 0 A (.agg #[.slice pa A.length ca]) W') <| Rc (fun W' => OwnMu 0 z (.agg #[.int .i64 z.kind, .string z.name, .int .i64 z.eps, .int .i64 z.floor, .int .i64 z.scale, .slice pz z.pts.length cz]) W') <| Bz) ?_ (hI := by exact belowAny) (hR := (Bc.mk (by exact blkAny2) <| Bc.mk (by exact blkAny2) <| Bc.mk (by exact blkAny2) <| Bc.mk (by exact blkAny2) <| Rc.mk (by exact (((((((sa).store b3 (by decide) (by decide)).store (Blk.setO b4 (Ne.symm hne) _ _) (by decide) (by decide)).store (((Blk.setO b4 (Ne.symm hne) _ _)).set 0 _) (by decide) (by decide)).store (((((Blk.setO b4 (Ne.symm hne) _ _)).set 0 _)).set 1 _) (by decide) (by decide)).store (((((((Blk.setO b4 (Ne.symm hne) _ _)).set 0 _)).set 1 _)).set 2 _) (by decide) (by decide)).store (((((((((Blk.setO b4 (Ne.symm hne) _ _)).set 0 _)).set 1 _)).set 2 _)).set 3 _) (by decide) (by decide)).store (((((((((((Blk.setO b4 (Ne.symm hne) _ _)).set 0 _)).set 1 _)).set 2 _)).set 3 _)).set 4 _) (by decide) (by decide)) <| Rc.mk (by exact (((((((sz).store b3 (by decide)).store (Blk.setO b4 (Ne.symm hne) _ _) (by decide)).store (((Blk.setO b4 (Ne.symm hne) _ _)).set 0 _) (by decide)).store (((((Blk.setO b4 (Ne.symm hne) _ _)).set 0 _)).set 1 _) (by decide)).store (((((((Blk.setO b4 (Ne.symm hne) _ _)).set 0 _)).set 1 _)).set 2 _) (by decide)).store (((((((((Blk.setO b4 (Ne.symm hne) _ _)).set 0 _)).set 1 _)).set 2 _)).set 3 _) (by decide)).store (((((((((((Blk.setO b4 (Ne.symm hne) _ _)).set 0 _)).set 1 _)).set 2 _)).set 3 _)).set 4 _) (by decide)) <| trivial))
  clear b1 b2 b3 b4 hW
  rintro W61 hW z62 ⟨⟨b1, yb1, k1, f1⟩, ⟨b2, yb2, k2, f2⟩, ⟨b3, yb3, k3, f3⟩, ⟨b4, yb4, k4, f4⟩, b5, b6, -⟩
  clear sa sz
  have v1 := Lib.hid b1
  have v2 := Lib.hid b2
  have v3 := Lib.hid b3
  have v4 := Lib.hid b4
  have v5 := Lib.hid b5
  have v6 := Lib.hid b6
  have hWV := hW
  clear hW
  go_wp2_with fail
  refine (c5.out _ pa ca pz cz b5 b6).mono ?_
  rintro e w101 ⟨pn, cn, rfl, hb101, hO⟩
  have z102 := hb101.size
  try simp at z102
  clear k1 f1 k2 f2 k3 f3 k4 f4
  refine haveB W61 w101 (Bc w.heap.size #[.slice px nx cx] 27 <| Bc (w.heap.size + 1) #[.int .i64 x.kind, .string x.name, .int .i64 x.eps, .int .i64 x.floor, .int .i64 x.scale, .slice qx x.pts.length dx] 52 <| Bc o7 #[.slice pa A.length ca] 27 <| Bc o8 #[.int .i64 z.kind, .string z.name, .int .i64 z.eps, .int .i64 z.floor, .int .i64 z.scale, .slice pz z.pts.length cz] 52 <| Rc (fun W' => OwnM 0 A (.agg #[.slice pa A.length ca]) W') <| Rc (fun W' => OwnMu 0 z (.agg #[.int .i64 z.kind, .string z.name, .int .i64 z.eps, .int .i64 z.floor, .int .i64 z.scale, .slice pz z.pts.length cz]) W') <| Bz) ?_ (hR := (Bc.mk (by exact blkAny2) <| Bc.mk (by exact blkAny2) <| Bc.mk (by exact blkAny2) <| Bc.mk (by exact blkAny2) <| Rc.mk (by exact b5.below (by first | assumption | exact belowAny)) <| Rc.mk (by exact b6.below (by first | assumption | exact belowAny)) <| trivial))
  clear b1 b2 b3 b4 b5 b6
  rintro hW z103 ⟨⟨b1, yb1, k1, f1⟩, ⟨b2, yb2, k2, f2⟩, ⟨b3, yb3, k3, f3⟩, ⟨b4, yb4, k4, f4⟩, b5, b6, -⟩
  go_upto_region 6 with (fail)
  clear k1 f1 k2 f2 k3 f3 k4 f4
  refine wp_cutB W61 (Bc w.heap.size #[.slice px nx cx] 27 <| Bc (w.heap.size + 1) #[.int .i64 x.kind, .string x.name, .int .i64 x.eps, .int .i64 x.floor, .int .i64 x.scale, .slice qx x.pts.length dx] 52 <| Bc o7 #[.slice pa A.length ca] 27 <| Bc o8 #[.int .i64 z.kind, .string z.name, .int .i64 z.eps, .int .i64 z.floor, .int .i64 z.scale, .slice pz z.pts.length cz] 52 <| Rc (fun W' => OwnM 0 A (.agg #[.slice pa A.length ca]) W') <| Rc (fun W' => OwnMu 0 z (.agg #[.int .i64 z.kind, .string z.name, .int .i64 z.eps, .int .i64 z.floor, .int .i64 z.scale, .slice pz z.pts.length cz]) W') <| Bc w101.heap.size #[.slice pn R.length cn] 27 <| Bc (w101.heap.size + 1) #[.slice none 0 0] 27 <| Rc (fun W' => OwnM W61.heap.size R (.agg #[.slice pn R.length cn]) W') <| Bz) ?_ (hI := by exact belowAny) (hR := (Bc.mk (by exact blkAny2) <| Bc.mk (by exact blkAny2) <| Bc.mk (by exact blkAny2) <| Bc.mk (by exact blkAny2) <| Rc.mk (by exact b5.below (by first | assumption | exact belowAny)) <| Rc.mk (by exact b6.below (by first | assumption | exact belowAny)) <| Bc.mk (by exact blkAny2) <| Bc.mk (by exact blkAny2) <| Rc.mk (by exact hO.below (by exact belowAny)) <| trivial))
  clear b1 b2 b3 b4 b5 b6 hW
  rintro W104 hW z105 ⟨⟨b1, yb1, k1, f1⟩, ⟨b2, yb2, k2, f2⟩, ⟨b3, yb3, k3, f3⟩, ⟨b4, yb4, k4, f4⟩, b5, b6, ⟨b7, yb7, k7, f7⟩, ⟨b8, yb8, k8, f8⟩, b9, -⟩
  clear hO
  obtain ⟨o9, ho9⟩ : ∃ o, o = w101.heap.size := ⟨_, rfl⟩
  have hV9 : W61.heap.size ≤ o9 := by omega
  rw [← ho9] at b7 b8 yb7 yb8 ⊢
  clear ho9
  clear k1 f1 k2 f2 k3 f3 k4 f4 k7 f7 k8 f8
  have k1 := b1.cell
  have f1 := b1.frozen
  have k2 := b2.cell
  have f2 := b2.frozen
  have k3 := b3.cell
  have f3 := b3.frozen
  have k4 := b4.cell
  have f4 := b4.frozen
  have k7 := b7.cell
  have f7 := b7.frozen
  have k8 := b8.cell
  have f8 := b8.frozen
  go_wp2_with fail
  refine (c4.out _ pa ca b5).mono ?_
  rintro e w106 ⟨rfl, hb106⟩
  have z107 := hb106.size
  try simp at z107
  clear k1 f1 k2 f2 k3 f3 k4 f4 k7 f7 k8 f8
  refine haveB W61 w106 (Bc w.heap.size #[.slice px nx cx] 27 <| Bc (w.heap.size + 1) #[.int .i64 x.kind, .string x.name, .int .i64 x.eps, .int .i64 x.floor, .int .i64 x.scale, .slice qx x.pts.length dx] 52 <| Bc o7 #[.slice pa A.length ca] 27 <| Bc o8 #[.int .i64 z.kind, .string z.name, .int .i64 z.eps, .int .i64 z.floor, .int .i64 z.scale, .slice pz z.pts.length cz] 52 <| Rc (fun W' => OwnM 0 A (.agg #[.slice pa A.length ca]) W') <| Rc (fun W' => OwnMu 0 z (.agg #[.int .i64 z.kind, .string z.name, .int .i64 z.eps, .int .i64 z.floor, .int .i64 z.scale, .slice pz z.pts.length cz]) W') <| Bc o9 #[.slice pn R.length cn] 27 <| Bc (o9 + 1) #[.slice none 0 0] 27 <| Rc (fun W' => OwnM W61.heap.size R (.agg #[.slice pn R.length cn]) W') <| Bz) ?_ (hR := (Bc.mk (by exact blkAny2) <| Bc.mk (by exact blkAny2) <| Bc.mk (by exact blkAny2) <| Bc.mk (by exact blkAny2) <| Rc.mk (by exact b5.below (by first | assumption | exact belowAny)) <| Rc.mk (by exact b6.below (by first | assumption | exact belowAny)) <| Bc.mk (by exact blkAny2) <| Bc.mk (by exact blkAny2) <| Rc.mk (by exact b9.below (by first | assumption | exact belowAny)) <| trivial))
  clear b1 b2 b3 b4 b5 b6 b7 b8 b9 hW
  rintro hW z108 ⟨⟨b1, yb1, k1, f1⟩, ⟨b2, yb2, k2, f2⟩, ⟨b3, yb3, k3, f3⟩, ⟨b4, yb4, k4, f4⟩, b5, b6, ⟨b7, yb7, k7, f7⟩, ⟨b8, yb8, k8, f8⟩, b9, -⟩
  clear hb106
  clear c5 c4
  cases RB with
  | true =>
    replace c6 := Lib.hid (c6.out rfl)
    go_wp2_with fail
    refine (c6.out _ pa ca pz cz b5 b6).mono ?_
    rintro e w109 ⟨pw, cw, rfl, hb109, hw⟩
    have z110 := hb109.size
    try simp at z110
    clear k1 f1 k2 f2 k3 f3 k4 f4 k7 f7 k8 f8
    refine haveB W61 w109 (Bc w.heap.size #[.slice px nx cx] 27 <| Bc (w.heap.size + 1) #[.int .i64 x.kind, .string x.name, .int .i64 x.eps, .int .i64 x.floor, .int .i64 x.scale, .slice qx x.pts.length dx] 52 <| Bc o7 #[.slice pa A.length ca] 27 <| Bc o8 #[.int .i64 z.kind, .string z.name, .int .i64 z.eps, .int .i64 z.floor, .int .i64 z.scale, .slice pz z.pts.length cz] 52 <| Rc (fun W' => OwnM 0 A (.agg #[.slice pa A.length ca]) W') <| Rc (fun W' => OwnMu 0 z (.agg #[.int .i64 z.kind, .string z.name, .int .i64 z.eps, .int .i64 z.floor, .int .i64 z.scale, .slice pz z.pts.length cz]) W') <| Bc o9 #[.slice pn R.length cn] 27 <| Bc (o9 + 1) #[.slice none 0 0] 27 <| Rc (fun W' => OwnM W61.heap.size R (.agg #[.slice pn R.length cn]) W') <| Bz) ?_ (hR := (Bc.mk (by exact blkAny2) <| Bc.mk (by exact blkAny2) <| Bc.mk (by exact blkAny2) <| Bc.mk (by exact blkAny2) <| Rc.mk (by exact b5.below (by first | assumption | exact belowAny)) <| Rc.mk (by exact b6.below (by first | assumption | exact belowAny)) <| Bc.mk (by exact blkAny2) <| Bc.mk (by exact blkAny2) <| Rc.mk (by exact b9.below (by first | assumption | exact belowAny)) <| trivial))
    clear b1 b2 b3 b4 b5 b6 b7 b8 b9 hW
    rintro hW z111 ⟨⟨b1, yb1, k1, f1⟩, ⟨b2, yb2, k2, f2⟩, ⟨b3, yb3, k3, f3⟩, ⟨b4, yb4, k4, f4⟩, b5, b6, ⟨b7, yb7, k7, f7⟩, ⟨b8, yb8, k8, f8⟩, b9, -⟩
    go_upto_region 8 with (fail)
    clear k1 f1 k2 f2 k3 f3 k4 f4 k7 f7 k8 f8
    refine wp_cutB W61 (Bc w.heap.size #[.slice px nx cx] 27 <| Bc (w.heap.size + 1) #[.int .i64 x.kind, .string x.name, .int .i64 x.eps, .int .i64 x.floor, .int .i64 x.scale, .slice qx x.pts.length dx] 52 <| Bc o7 #[.slice pa A.length ca] 27 <| Bc o8 #[.int .i64 z.kind, .string z.name, .int .i64 z.eps, .int .i64 z.floor, .int .i64 z.scale, .slice pz z.pts.length cz] 52 <| Rc (fun W' => OwnM 0 A (.agg #[.slice pa A.length ca]) W') <| Rc (fun W' => OwnMu 0 z (.agg #[.int .i64 z.kind, .string z.name, .int .i64 z.eps, .int .i64 z.floor, .int .i64 z.scale, .slice pz z.pts.length cz]) W') <| Bc o9 #[.slice pn R.length cn] 27 <| Bc (o9 + 1) #[.slice pw R.length cw] 27 <| Rc (fun W' => OwnM W61.heap.size R (.agg #[.slice pn R.length cn]) W') <| Rc (fun W' => RawsIn W' pw R) <| Bz) ?_ (hI := by exact belowAny) (hR := (Bc.mk (by exact blkAny2) <| Bc.mk (by exact blkAny2) <| Bc.mk (by exact blkAny2) <| Bc.mk (by exact blkAny2) <| Rc.mk (by exact b5.store b8 (by decide) (by decide)) <| Rc.mk (by exact b6.store b8 (by decide)) <| Bc.mk (by exact blkAny2) <| Bc.mk (by exact blkAny2) <| Rc.mk (by exact b9.store b8 (by decide) (by decide)) <| Rc.mk (by exact hw.store b8) <| trivial))
    clear b1 b2 b3 b4 b5 b6 b7 b8 b9 hW
    rintro W112 hW z113 ⟨⟨b1, yb1, k1, f1⟩, ⟨b2, yb2, k2, f2⟩, ⟨b3, yb3, k3, f3⟩, ⟨b4, yb4, k4, f4⟩, b5, b6, ⟨b7, yb7, k7, f7⟩, ⟨b8, yb8, k8, f8⟩, b9, b10, -⟩
    clear hw c6
    go_wp2_with fail
    refine (c7.out _ pn cn pw cw _ b9 b10).mono ?_
    rintro e w114 ⟨rfl, hb114⟩
    have z115 := hb114.size
    try simp at z115
    clear k1 f1 k2 f2 k3 f3 k4 f4 k7 f7 k8 f8
    refine haveB W61 w114 (Bc w.heap.size #[.slice px nx cx] 27 <| Bc (w.heap.size + 1) #[.int .i64 x.kind, .string x.name, .int .i64 x.eps, .int .i64 x.floor, .int .i64 x.scale, .slice qx x.pts.length dx] 52 <| Bc o7 #[.slice pa A.length ca] 27 <| Bc o8 #[.int .i64 z.kind, .string z.name, .int .i64 z.eps, .int .i64 z.floor, .int .i64 z.scale, .slice pz z.pts.length cz] 52 <| Rc (fun W' => OwnM 0 A (.agg #[.slice pa A.length ca]) W') <| Rc (fun W' => OwnMu 0 z (.agg #[.int .i64 z.kind, .string z.name, .int .i64 z.eps, .int .i64 z.floor, .int .i64 z.scale, .slice pz z.pts.length cz]) W') <| Bc o9 #[.slice pn R.length cn] 27 <| Bc (o9 + 1) #[.slice pw R.length cw] 27 <| Rc (fun W' => OwnM W61.heap.size R (.agg #[.slice pn R.length cn]) W') <| Rc (fun W' => RawsIn W' pw R) <| Bz) ?_ (hR := (Bc.mk (by exact blkAny2) <| Bc.mk (by exact blkAny2) <| Bc.mk (by exact blkAny2) <| Bc.mk (by exact blkAny2) <| Rc.mk (by exact b5.below (by first | assumption | exact belowAny)) <| Rc.mk (by exact b6.below (by first | assumption | exact belowAny)) <| Bc.mk (by exact blkAny2) <| Bc.mk (by exact blkAny2) <| Rc.mk (by exact b9.below (by first | assumption | exact belowAny)) <| Rc.mk (by exact b10.below (by first | assumption | exact belowAny)) <| trivial))
    clear b1 b2 b3 b4 b5 b6 b7 b8 b9 b10 hW
    rintro hW z116 ⟨⟨b1, yb1, k1, f1⟩, ⟨b2, yb2, k2, f2⟩, ⟨b3, yb3, k3, f3⟩, ⟨b4, yb4, k4, f4⟩, b5, b6, ⟨b7, yb7, k7, f7⟩, ⟨b8, yb8, k8, f8⟩, b9, b10, -⟩
    clear hb114
    go_wp2
    refine wp_loop (mdsRel1 W61 w.heap.size o7 o8 o9 pn R.length cn) (fun a' _ => R.length - (intAt (a'.tmps.getD 46 undef)).toNat) ?_ ?_
    · unfold mdsRel1
      exact ⟨hW, b7, 0, frame_ex rfl, b9.shape (fun r hr => ⟨by have := (hR.out r hr).1; omega, (hR.out r hr).2⟩), Nat.zero_le _⟩
    clear b1 b2 b3 b4 b5 b6 b7 b8 b9 b10 hW c7 k1 f1 k2 f2 k3 f3 k4 f4 k7 f7 k8 f8
    rintro a' W ⟨hW, b1, i, ⟨u, rfl⟩, hN, hi'⟩
    have hz := hW.size
    have yb1 := b1.lt
    rcases Nat.lt_or_ge i R.length with hlt | hge
    · obtain ⟨gn, og, cur, r, p, c, rfl, hBg, hg, hc, hp, hnm, hpl⟩ := hN i hlt
      have q5 : W.cell? ⟨gn, og + i * 6 + 5, none⟩ = some (.slice p r.pts.length c) := (hg.cell _).trans (hc 5 _ rfl)
      have zg := hg.lt
      replace hc := Lib.hid hc
      have k1 := b1.cell
      have f1 := b1.frozen
      go_wp2
      refine wp_loop (mdsRel2 W61 w.heap.size o7 o8 o9 gn og cur R.length cn (20 + i) i r.pts.length p) (fun a' _ => r.pts.length - (intAt (a'.tmps.getD 56 undef)).toNat) ?_ ?_
      · unfold mdsRel2
        exact ⟨hW, b1, hg, hN, hp, 0, frame_ex rfl, Nat.zero_le _⟩
      clear q5 zg hp hg hN b1 hW k1 f1 yb1 hz
      rintro a' W ⟨hW, b1, b2, hN, hI, k, ⟨u, rfl⟩, hk⟩
      have hz := hW.size
      have yb1 := b1.lt
      have yb2 := b2.lt
      have q5 : W.cell? ⟨gn, og + i * 6 + 5, none⟩ = some (.slice p r.pts.length c) := (b2.cell _).trans (hc.out 5 _ rfl)
      have q0 : W.cell? ⟨gn, og + i * 6, none⟩ = some (.string r.name) := (b2.cell _).trans (hc.out 0 _ rfl)
      have k1 := b1.cell
      have f1 := b1.frozen
      rcases Nat.lt_or_ge k r.pts.length with hlk | hge
      · obtain ⟨g, o, cur2, t, y, rfl, hBg2, hg2, h0, h1⟩ := hI k hlk
        have q1 : W.cell? ⟨g, o + k * 2 + 1, none⟩ = some (.int .i64 y) := (hg2.cell _).trans h1
        have f9 := hg2.frozen
        have zg2 := hg2.lt
        clear h0 h1 q0
        replace hN := Lib.hid hN
        replace hI := Lib.hid hI
        go_wp2
        rw [show (k : Int) + 1 = ((k + 1 : Nat) : Int) by omega]
        refine ⟨?_, by simp [intAt]; omega⟩
        unfold mdsRel2
        exact ⟨hW.setCell hBg2 _, b1.setO (blk_ne b1 hg2 (by decide)) _ _, b2.setO (blk_ne b2 hg2 (by decide)) _ _, hN.out.pt hg2, hI.out.store hg2, k + 1, frame_ex rfl, by omega⟩
      · obtain rfl : k = r.pts.length := by omega
        have f2 := b2.frozen
        replace hN := Lib.hid hN
        replace hI := Lib.hid hI
        go_wp2
        rw [show (i : Int) + 1 = ((i + 1 : Nat) : Int) by omega]
        refine ⟨?_, by simp [intAt]; omega⟩
        unfold mdsRel1
        exact ⟨hW.setCell hBg _, b1.setO (blk_ne b1 b2 (by decide)) _ _, i + 1, frame_ex rfl, hN.out.nm b2 (by rw [ByteArray.size_append]; have h1 : ({ data := #[122] } : ByteArray).size = 1 := rfl; omega) (by omega), by omega⟩
    · have e1 := v1.out.below hW
      have e2 := v2.out.below hW
      have e3 := v3.out.below hW
      have e4 := v4.out.below hW
      have e5 := v5.out.below hW
      have e6 := v6.out.below hW
      have hWw := hWV.trans (hW.mono hWV.size)
      clear hW b1 yb1 v1 v2 v3 v4 v5 v6
      have hW := hWw
      clear hWw
      have b1 := e1
      have b2 := e2
      have b3 := e3
      have b4 := e4
      have b5 := e5
      have b6 := e6
      clear e1 e2 e3 e4 e5 e6
      have yb1 := b1.lt
      have yb2 := b2.lt
      have yb3 := b3.lt
      have yb4 := b4.lt
      have k1 := b1.cell
      have f1 := b1.frozen
      have k2 := b2.cell
      have f2 := b2.frozen
      have k3 := b3.cell
      have f3 := b3.frozen
      have k4 := b4.cell
      have f4 := b4.frozen
      have c2 := H_c2.out
      have c3 := H_c3.out
      go_upto_region 20 with (fail)
      clear k1 f1 k2 f2 k3 f3 k4 f4
      refine wp_cutB w (Bc w.heap.size #[.slice px nx cx] 27 <| Bc (w.heap.size + 1) #[.int .i64 x.kind, .string x.name, .int .i64 x.eps, .int .i64 x.floor, .int .i64 x.scale, .slice qx x.pts.length dx] 52 <| Bc o7 #[.slice pa A.length ca] 27 <| Bc o8 #[.int .i64 z.kind, .string z.name, .int .i64 z.eps, .int .i64 z.floor, .int .i64 z.scale, .slice pz z.pts.length cz] 52 <| Rc (fun W' => OwnM 0 A (.agg #[.slice pa A.length ca]) W') <| Rc (fun W' => OwnMu 0 z (.agg #[.int .i64 z.kind, .string z.name, .int .i64 z.eps, .int .i64 z.floor, .int .i64 z.scale, .slice pz z.pts.length cz]) W') <| Bz) ?_ (hI := by exact belowAny) (hR := (Bc.mk (by exact blkAny2) <| Bc.mk (by exact blkAny2) <| Bc.mk (by exact blkAny2) <| Bc.mk (by exact blkAny2) <| Rc.mk (by exact b5.below (by first | assumption | exact belowAny)) <| Rc.mk (by exact b6.below (by first | assumption | exact belowAny)) <| trivial))
      clear b1 b2 b3 b4 b5 b6 hW
      rintro W301 hW z302 hL
      obtain ⟨⟨b1, yb1, k1, f1⟩, ⟨b2, yb2, k2, f2⟩, ⟨b3, yb3, k3, f3⟩, ⟨b4, yb4, k4, f4⟩, b5, b6, -⟩ := id hL
      clear k1 f1 k2 f2 k3 f3 k4 f4
      refine wp_regD 13 95 hW hL ?_
      iterate 2 refine dA ?_
      apply nd_call (OwnM 0 A) (hg := rfl) (hal := rfl)
      · exact OwnM.closed _ _
      · intro a' W' hC hE
        obtain ⟨hR9, k1, _⟩ := hC
        simp [Oper.looksAt, Op.operands, Call.operands, envOf, Det] at hE
        refine ⟨_, _, ?_, (c2 W' (hW.trans (hR9.of_priv hW.size))).mono ?_⟩
        · simp [go_sem, Act.eval, hE]
          try rfl
        · rintro e w' ⟨v, rfl, hB, hO⟩
          exact ⟨_, rfl, hB, hO⟩
      apply nd_callv (.bool true) (hg := rfl) (hal := rfl)
      · intro a' W' hC hE
        obtain ⟨_, _, _, _, _, k5, k6, -⟩ := hC
        simp [Oper.looksAt, Op.operands, Call.operands, envOf, Det] at hE
        have h9 := hE.2
        obtain ⟨p9, d9, e9, -, -⟩ := h9.form
        rw [e9] at h9
        refine ⟨_, _, ?_, (c8.out W' pa ca p9 d9 k5 h9)⟩
        simp [go_sem, Act.eval, hE.1, e9]
        try rfl
      refine dA ?_
      iterate 3 refine gA ?_
      apply nd_oncall (OwnMu 0 z) (hg := rfl) (hd := rfl) (hal := rfl)
      · exact OwnMu.closed _ _
      · intro v W' h
        simp [envOf, Det] at h
        exact h
      · intro a' W' hC hE
        obtain ⟨hR9, _, k2, _⟩ := hC
        simp [Oper.looksAt, Op.operands, Call.operands, envOf, Det, GDet] at hE
        refine ⟨_, _, ?_, (c3 W' (hW.trans (hR9.of_priv hW.size))).mono ?_⟩
        · simp [go_sem, Act.eval, hE]
          try rfl
        · rintro e w' ⟨v, rfl, hB, hO⟩
          exact ⟨_, rfl, hB, hO⟩
      apply nd_onval (PtV z.pts) (hg := rfl) (hd := rfl) (hal := rfl)
      · exact PtV.closed _
      · intro v W' h
        simp [envOf, Det] at h
        exact h
      · intro a' W' hC hE
        simp [Oper.looksAt, Op.operands, Call.operands, envOf, Det, GDet] at hE
        obtain ⟨⟨p9, d9, e9, hp9, _⟩, hg9⟩ := hE
        refine ⟨.slice p9 z.pts.length d9, ?_, p9, d9, rfl, hp9⟩
        simp [go_sem, execOp, Act.eval, e9]
        try rfl
      apply nd_oncall (Det (.bool true)) (hg := rfl) (hd := rfl) (hal := rfl)
      · exact closed_det _ _
      · intro v W' h
        simp [envOf, Det] at h
        exact h
      · intro a' W' hC hE
        obtain ⟨_, _, _, _, _, _, k6, -⟩ := hC
        simp [Oper.looksAt, Op.operands, Call.operands, envOf, Det, GDet] at hE
        obtain ⟨h1, ⟨p9, d9, e9, hp9⟩, h3⟩ := hE
        refine ⟨_, _, ?_, (c9.out W' pz cz p9 d9 k6.got hp9.pts).mono ?_⟩
        · simp [go_sem, Act.eval, h1, h3, e9]
          try rfl
        · rintro e w' ⟨rfl, hB⟩
          exact ⟨_, rfl, hB, rfl⟩
      refine pA ?_
      refine dA ?_
      clear hW hL b1 b2 b3 b4 b5 b6
      rintro W303 hW z304 hL
      simp only [ndR]
      intros
      repeat (rename GDet _ _ _ _ => hgd; clear hgd)
      simp only [ndS]
      refine wpList_nil ?_
      obtain ⟨⟨b1, yb1, k1, f1⟩, ⟨b2, yb2, k2, f2⟩, ⟨b3, yb3, k3, f3⟩, ⟨b4, yb4, k4, f4⟩, b5, b6, -⟩ := hL
      clear c2
      clear c3
      go_wp2
      refine bodyPost_ret (by simp [results, Tryz.results5, go_sem, k1, f1, k2, f2, k3, f3, k4, f4, yb1, yb2, yb3, yb4]) rfl ⟨rfl, by exact belowAny⟩
  | false =>
    have hR0 := Lib.hid (hRB.out rfl).2
    obtain rfl := (hRB.out rfl).1
    have hl0 : R.length = 0 := by rw [hR0.out]; rfl
    have hw : RawsIn w106 none R := by rw [hR0.out]; exact .nil _
    have b8' : Blk w106 (o9 + 1) #[.slice none R.length 0] 27 := by rw [hl0]; exact b8
    clear b8 k8 f8 hR0 c6
    have b8 := b8'
    clear b8'
    have c7' := fun W p c B hO hI => c7.out W p c none 0 B hO hI
    replace hl0 := Lib.hid hl0
    go_upto_region 8 with (fail)
    clear k1 f1 k2 f2 k3 f3 k4 f4 k7 f7
    refine wp_cutB W61 (Bc w.heap.size #[.slice px nx cx] 27 <| Bc (w.heap.size + 1) #[.int .i64 x.kind, .string x.name, .int .i64 x.eps, .int .i64 x.floor, .int .i64 x.scale, .slice qx x.pts.length dx] 52 <| Bc o7 #[.slice pa A.length ca] 27 <| Bc o8 #[.int .i64 z.kind, .string z.name, .int .i64 z.eps, .int .i64 z.floor, .int .i64 z.scale, .slice pz z.pts.length cz] 52 <| Rc (fun W' => OwnM 0 A (.agg #[.slice pa A.length ca]) W') <| Rc (fun W' => OwnMu 0 z (.agg #[.int .i64 z.kind, .string z.name, .int .i64 z.eps, .int .i64 z.floor, .int .i64 z.scale, .slice pz z.pts.length cz]) W') <| Bc o9 #[.slice pn R.length cn] 27 <| Bc (o9 + 1) #[.slice none R.length 0] 27 <| Rc (fun W' => OwnM W61.heap.size R (.agg #[.slice pn R.length cn]) W') <| Rc (fun W' => RawsIn W' none R) <| Bz) ?_ (hI := by exact belowAny) (hR := (Bc.mk (by exact blkAny2) <| Bc.mk (by exact blkAny2) <| Bc.mk (by exact blkAny2) <| Bc.mk (by exact blkAny2) <| Rc.mk (by exact b5.below (by first | assumption | exact belowAny)) <| Rc.mk (by exact b6.below (by first | assumption | exact belowAny)) <| Bc.mk (by exact blkAny2) <| Bc.mk (by exact blkAny2) <| Rc.mk (by exact b9.below (by first | assumption | exact belowAny)) <| Rc.mk (by exact hw) <| trivial))
    clear b1 b2 b3 b4 b5 b6 b7 b8 b9 hW
    rintro W109 hW z110 ⟨⟨b1, yb1, k1, f1⟩, ⟨b2, yb2, k2, f2⟩, ⟨b3, yb3, k3, f3⟩, ⟨b4, yb4, k4, f4⟩, b5, b6, ⟨b7, yb7, k7, f7⟩, ⟨b8, yb8, k8, f8⟩, b9, b10, -⟩
    clear hw
    clear k1 f1 k2 f2 k3 f3 k4 f4 k7 f7 k8 f8
    have k1 := b1.cell
    have f1 := b1.frozen
    have k2 := b2.cell
    have f2 := b2.frozen
    have k3 := b3.cell
    have f3 := b3.frozen
    have k4 := b4.cell
    have f4 := b4.frozen
    have k7 := b7.cell
    have f7 := b7.frozen
    have k8 := b8.cell
    have f8 := b8.frozen
    go_wp2_with fail
    refine (c7' _ pn cn _ b9 b10).mono ?_
    rintro e w111 ⟨rfl, hb111⟩
    have z112 := hb111.size
    try simp at z112
    clear k1 f1 k2 f2 k3 f3 k4 f4 k7 f7 k8 f8
    refine haveB W61 w111 (Bc w.heap.size #[.slice px nx cx] 27 <| Bc (w.heap.size + 1) #[.int .i64 x.kind, .string x.name, .int .i64 x.eps, .int .i64 x.floor, .int .i64 x.scale, .slice qx x.pts.length dx] 52 <| Bc o7 #[.slice pa A.length ca] 27 <| Bc o8 #[.int .i64 z.kind, .string z.name, .int .i64 z.eps, .int .i64 z.floor, .int .i64 z.scale, .slice pz z.pts.length cz] 52 <| Rc (fun W' => OwnM 0 A (.agg #[.slice pa A.length ca]) W') <| Rc (fun W' => OwnMu 0 z (.agg #[.int .i64 z.kind, .string z.name, .int .i64 z.eps, .int .i64 z.floor, .int .i64 z.scale, .slice pz z.pts.length cz]) W') <| Bc o9 #[.slice pn R.length cn] 27 <| Bc (o9 + 1) #[.slice none R.length 0] 27 <| Rc (fun W' => OwnM W61.heap.size R (.agg #[.slice pn R.length cn]) W') <| Rc (fun W' => RawsIn W' none R) <| Bz) ?_ (hR := (Bc.mk (by exact blkAny2) <| Bc.mk (by exact blkAny2) <| Bc.mk (by exact blkAny2) <| Bc.mk (by exact blkAny2) <| Rc.mk (by exact b5.below (by first | assumption | exact belowAny)) <| Rc.mk (by exact b6.below (by first | assumption | exact belowAny)) <| Bc.mk (by exact blkAny2) <| Bc.mk (by exact blkAny2) <| Rc.mk (by exact b9.below (by first | assumption | exact belowAny)) <| Rc.mk (by exact b10.below (by first | assumption | exact belowAny)) <| trivial))
    clear b1 b2 b3 b4 b5 b6 b7 b8 b9 b10 hW
    rintro hW z113 ⟨⟨b1, yb1, k1, f1⟩, ⟨b2, yb2, k2, f2⟩, ⟨b3, yb3, k3, f3⟩, ⟨b4, yb4, k4, f4⟩, b5, b6, ⟨b7, yb7, k7, f7⟩, ⟨b8, yb8, k8, f8⟩, b9, b10, -⟩
    clear hb111
    go_wp2
    refine wp_loop (mdsRel1 W61 w.heap.size o7 o8 o9 pn R.length cn) (fun a' _ => R.length - (intAt (a'.tmps.getD 46 undef)).toNat) ?_ ?_
    · unfold mdsRel1
      exact ⟨hW, b7, 0, frame_ex rfl, b9.shape (fun r hr => ⟨by have := (hR.out r hr).1; omega, (hR.out r hr).2⟩), Nat.zero_le _⟩
    clear b1 b2 b3 b4 b5 b6 b7 b8 b9 b10 hW c7 k1 f1 k2 f2 k3 f3 k4 f4 k7 f7 k8 f8
    rintro a' W ⟨hW, b1, i, ⟨u, rfl⟩, hN, hi'⟩
    have hz := hW.size
    have yb1 := b1.lt
    have hge : R.length ≤ i := by rw [hl0.out]; exact Nat.zero_le _
    clear hl0
    have e1 := v1.out.below hW
    have e2 := v2.out.below hW
    have e3 := v3.out.below hW
    have e4 := v4.out.below hW
    have e5 := v5.out.below hW
    have e6 := v6.out.below hW
    have hWw := hWV.trans (hW.mono hWV.size)
    clear hW b1 yb1 v1 v2 v3 v4 v5 v6
    have hW := hWw
    clear hWw
    have b1 := e1
    have b2 := e2
    have b3 := e3
    have b4 := e4
    have b5 := e5
    have b6 := e6
    clear e1 e2 e3 e4 e5 e6
    have yb1 := b1.lt
    have yb2 := b2.lt
    have yb3 := b3.lt
    have yb4 := b4.lt
    have k1 := b1.cell
    have f1 := b1.frozen
    have k2 := b2.cell
    have f2 := b2.frozen
    have k3 := b3.cell
    have f3 := b3.frozen
    have k4 := b4.cell
    have f4 := b4.frozen
    have c2 := H_c2.out
    have c3 := H_c3.out
    go_upto_region 20 with (fail)
    clear k1 f1 k2 f2 k3 f3 k4 f4
    refine wp_cutB w (Bc w.heap.size #[.slice px nx cx] 27 <| Bc (w.heap.size + 1) #[.int .i64 x.kind, .string x.name, .int .i64 x.eps, .int .i64 x.floor, .int .i64 x.scale, .slice qx x.pts.length dx] 52 <| Bc o7 #[.slice pa A.length ca] 27 <| Bc o8 #[.int .i64 z.kind, .string z.name, .int .i64 z.eps, .int .i64 z.floor, .int .i64 z.scale, .slice pz z.pts.length cz] 52 <| Rc (fun W' => OwnM 0 A (.agg #[.slice pa A.length ca]) W') <| Rc (fun W' => OwnMu 0 z (.agg #[.int .i64 z.kind, .string z.name, .int .i64 z.eps, .int .i64 z.floor, .int .i64 z.scale, .slice pz z.pts.length cz]) W') <| Bz) ?_ (hI := by exact belowAny) (hR := (Bc.mk (by exact blkAny2) <| Bc.mk (by exact blkAny2) <| Bc.mk (by exact blkAny2) <| Bc.mk (by exact blkAny2) <| Rc.mk (by exact b5.below (by first | assumption | exact belowAny)) <| Rc.mk (by exact b6.below (by first | assumption | exact belowAny)) <| trivial))
    clear b1 b2 b3 b4 b5 b6 hW
    rintro W301 hW z302 hL
    obtain ⟨⟨b1, yb1, k1, f1⟩, ⟨b2, yb2, k2, f2⟩, ⟨b3, yb3, k3, f3⟩, ⟨b4, yb4, k4, f4⟩, b5, b6, -⟩ := id hL
    clear k1 f1 k2 f2 k3 f3 k4 f4
    refine wp_regD 13 95 hW hL ?_
    iterate 2 refine dA ?_
    apply nd_call (OwnM 0 A) (hg := rfl) (hal := rfl)
    · exact OwnM.closed _ _
    · intro a' W' hC hE
      obtain ⟨hR9, k1, _⟩ := hC
      simp [Oper.looksAt, Op.operands, Call.operands, envOf, Det] at hE
      refine ⟨_, _, ?_, (c2 W' (hW.trans (hR9.of_priv hW.size))).mono ?_⟩
      · simp [go_sem, Act.eval, hE]
        try rfl
      · rintro e w' ⟨v, rfl, hB, hO⟩
        exact ⟨_, rfl, hB, hO⟩
    apply nd_callv (.bool true) (hg := rfl) (hal := rfl)
    · intro a' W' hC hE
      obtain ⟨_, _, _, _, _, k5, k6, -⟩ := hC
      simp [Oper.looksAt, Op.operands, Call.operands, envOf, Det] at hE
      have h9 := hE.2
      obtain ⟨p9, d9, e9, -, -⟩ := h9.form
      rw [e9] at h9
      refine ⟨_, _, ?_, (c8.out W' pa ca p9 d9 k5 h9)⟩
      simp [go_sem, Act.eval, hE.1, e9]
      try rfl
    refine dA ?_
    iterate 3 refine gA ?_
    apply nd_oncall (OwnMu 0 z) (hg := rfl) (hd := rfl) (hal := rfl)
    · exact OwnMu.closed _ _
    · intro v W' h
      simp [envOf, Det] at h
      exact h
    · intro a' W' hC hE
      obtain ⟨hR9, _, k2, _⟩ := hC
      simp [Oper.looksAt, Op.operands, Call.operands, envOf, Det, GDet] at hE
      refine ⟨_, _, ?_, (c3 W' (hW.trans (hR9.of_priv hW.size))).mono ?_⟩
      · simp [go_sem, Act.eval, hE]
        try rfl
      · rintro e w' ⟨v, rfl, hB, hO⟩
        exact ⟨_, rfl, hB, hO⟩
    apply nd_onval (PtV z.pts) (hg := rfl) (hd := rfl) (hal := rfl)
    · exact PtV.closed _
    · intro v W' h
      simp [envOf, Det] at h
      exact h
    · intro a' W' hC hE
      simp [Oper.looksAt, Op.operands, Call.operands, envOf, Det, GDet] at hE
      obtain ⟨⟨p9, d9, e9, hp9, _⟩, hg9⟩ := hE
      refine ⟨.slice p9 z.pts.length d9, ?_, p9, d9, rfl, hp9⟩
      simp [go_sem, execOp, Act.eval, e9]
      try rfl
    apply nd_oncall (Det (.bool true)) (hg := rfl) (hd := rfl) (hal := rfl)
    · exact closed_det _ _
    · intro v W' h
      simp [envOf, Det] at h
      exact h
    · intro a' W' hC hE
      obtain ⟨_, _, _, _, _, _, k6, -⟩ := hC
      simp [Oper.looksAt, Op.operands, Call.operands, envOf, Det, GDet] at hE
      obtain ⟨h1, ⟨p9, d9, e9, hp9⟩, h3⟩ := hE
      refine ⟨_, _, ?_, (c9.out W' pz cz p9 d9 k6.got hp9.pts).mono ?_⟩
      · simp [go_sem, Act.eval, h1, h3, e9]
        try rfl
      · rintro e w' ⟨rfl, hB⟩
        exact ⟨_, rfl, hB, rfl⟩
    refine pA ?_
    refine dA ?_
    clear hW hL b1 b2 b3 b4 b5 b6
    rintro W303 hW z304 hL
    simp only [ndR]
    intros
    repeat (rename GDet _ _ _ _ => hgd; clear hgd)
    simp only [ndS]
    refine wpList_nil ?_
    obtain ⟨⟨b1, yb1, k1, f1⟩, ⟨b2, yb2, k2, f2⟩, ⟨b3, yb3, k3, f3⟩, ⟨b4, yb4, k4, f4⟩, b5, b6, -⟩ := hL
    clear c2
    clear c3
    go_wp2
    refine bodyPost_ret (by simp [results, Tryz.results5, go_sem, k1, f1, k2, f2, k3, f3, k4, f4, yb1, yb2, yb3, yb4]) rfl ⟨rfl, by exact belowAny⟩
end Go.Proofs.YtdeghcgakkhbmaaGreat
namespace Go.Proofs.YtdeghcgakkhbmaaGreat
open Go.RowKit
/-- How long the names and the points of what a mutation makes are. -/
theorem doR_few {rows : List RawT} {x : MutT} (h : ∀ r, r ∈ rows → r.name.size ≤ 20 ∧ r.pts.length ≤ 1025) (hx : x.name.size ≤ 20 ∧ x.pts.length ≤ 20) : ∀ r, r ∈ (doR rows x).1 → r.name.size ≤ 20 ∧ r.pts.length ≤ 2000 := by
  have h' : ∀ r, r ∈ rows → r.name.size ≤ 20 ∧ r.pts.length ≤ 2000 := fun r hr => ⟨(h r hr).1, by have := (h r hr).2; omega⟩
  have hnil : ∀ r, r ∈ ([] : List RawT) → r.name.size ≤ 20 ∧ r.pts.length ≤ 2000 := fun r hr => by cases hr
  have hat : ∀ (hF : isM rows x = true), (atM rows x).name.size ≤ 20 ∧ (atM rows x).pts.length ≤ 1025 := fun hF => h _ (List.mem_of_getElem? (isM_at hF).1)
  have hset : ∀ (i : Nat) (y : RawT), y.name.size ≤ 20 ∧ y.pts.length ≤ 2000 → ∀ r, r ∈ rows.set i y → r.name.size ≤ 20 ∧ r.pts.length ≤ 2000 := fun i y hy r hr => by
    rcases List.mem_or_eq_of_mem_set hr with h1 | rfl
    · exact h' r h1
    · exact hy
  unfold doR
  split
  · unfold doM
    split
    · unfold createM
      repeat' split
      all_goals first | exact hnil | skip
      intro r hr
      rcases List.mem_append.1 hr with h1 | h1
      · exact h' r (List.mem_of_mem_take h1)
      · rcases List.mem_cons.1 h1 with rfl | h1
        · exact ⟨hx.1, by simp⟩
        · exact h' r (List.mem_of_mem_drop h1)
    · split
      · unfold dropM
        split
        · exact fun r hr => h' r (List.mem_of_mem_eraseIdx hr)
        · exact hnil
      · split
        · unfold pointsM
          split
          · exact hnil
          · split
            · exact hnil
            · rename_i hF
              rw [Bool.not_eq_false] at hF
              split
              · exact hnil
              · refine hset _ _ ⟨(hat hF).1, ?_⟩
                have h2 := (hat hF).2
                have h3 := hx.2
                simp only [List.length_append]
                omega
        · split
          · unfold retainM
            split
            · exact hnil
            · rename_i hF
              rw [Bool.not_eq_false] at hF
              split
              · exact hnil
              · split
                · exact hnil
                · refine hset _ _ ⟨(hat hF).1, ?_⟩
                  have h2 := (hat hF).2
                  have h3 := List.length_filter_le (fun q : Int × Int => decide (x.floor ≤ q.1)) (atM rows x).pts
                  simp only [keepL]
                  omega
          · exact hnil
  · exact hnil
theorem doR_len (rows : List RawT) (x : MutT) : (doR rows x).1.length ≤ rows.length + 1 := by
  have hn : ([] : List RawT).length ≤ rows.length + 1 := Nat.zero_le _
  unfold doR
  split
  · unfold doM
    split
    · unfold createM
      repeat' split
      all_goals first | exact hn | skip
      simp only [List.length_append, List.length_take, List.length_cons, List.length_drop]
      omega
    · split
      · unfold dropM
        split
        · have := List.length_eraseIdx_le rows (posN rows x.name)
          simp only
          omega
        · exact hn
      · split
        · unfold pointsM
          repeat' split
          all_goals first | exact hn | (simp only [List.length_set]; omega)
        · split
          · unfold retainM
            repeat' split
            all_goals first | exact hn | (simp only [List.length_set]; omega)
          · exact hn
  · exact hn
end Go.Proofs.YtdeghcgakkhbmaaGreat
namespace Go.Proofs.YtdeghcgakkhbmaaGreat
open Go.RowKit
def rf24Rel (w : World) (pl : Option Addr) (cl : Nat) (l : List (Int × Int)) (flr : Int) (kp : Nat) (RES : Int) (a' : Act) (W : World) : Prop :=
  Below w.heap.size w W ∧ ∃ (i : Nat) (ah : Int), (∃ u : Nat → Value, a' = { tmps := #[.slice pl l.length cl, .int .i64 ah, .int .i64 flr, .int .i64 (kp : Int), u 4, u 5, u 6, u 7, .int .i64 0, u 9, u 10, u 11, u 12, u 13, u 14, u 15, u 16, u 17, u 18, .slice pl l.length cl, .int .i64 (l.length : Int), .int .i64 (i : Int), u 22, u 23, u 24, u 25, u 26, u 27, u 28, u 29, u 30, u 31, u 32, u 33, u 34, u 35, u 36, u 37, u 38, u 39, u 40, u 41, u 42, u 43], defers := [] }) ∧ Hid (refL flr (decide (kp + l.length > 1024)) ah (l.drop i) = RES) ∧ i ≤ l.length
set_option maxRecDepth 100000 in
set_option maxHeartbeats 2000000 in
theorem c_r24Refused (pl : Option Addr) (cl : Nat) (l : List (Int × Int)) (la flr : Int) (kp : Nat) (w : World) (hl : PtsIn w pl l) (h1 : 1 ≤ l.length) (h16 : l.length ≤ 16) (hrm : kp ≤ 2000) :
    Calls Tryz.prog 53 #[.slice pl l.length cl, .int .i64 la, .int .i64 flr, .int .i64 (kp : Int)] w fun e w' => e = .returned (.int .i64 (refL flr (decide (kp + l.length > 1024)) la l)) ∧ Below w.heap.size w w' := by
  obtain ⟨RES, hRES⟩ : ∃ x, refL flr (decide (kp + l.length > 1024)) la l = x := ⟨_, rfl⟩
  rw [hRES]
  replace hRES := Lib.hid hRES
  have hg1 : ¬((l.length : Int) < 1) := by omega
  have hg2 : ¬((16 : Int) < (l.length : Int)) := by omega
  go_enter Tryz.func53, Tryz.ntmps53
  go_wp2
  refine wp_loop (rf24Rel w pl cl l flr kp RES) (fun a' _ => l.length - (intAt (a'.tmps.getD 21 undef)).toNat) ?_ ?_
  · unfold rf24Rel
    exact ⟨belowAny, 0, la, frame_ex rfl, Lib.hid hRES.out, Nat.zero_le _⟩
  clear hRES hg1 hg2
  rintro a' W ⟨hW0, i, ah, ⟨u, rfl⟩, hi, hi'⟩
  have hz := hW0.size
  rcases Nat.lt_or_ge i l.length with hlt | hge
  · obtain ⟨⟨t, y⟩, tr⟩ : ∃ x, l[i]? = some x := ⟨l[i]'(by omega), List.getElem?_eq_getElem (by omega)⟩
    obtain ⟨bp, op, rfl, q0, q1⟩ := (hl.below hW0).at' i _ tr
    have hd : l.drop i = (t, y) :: l.drop (i + 1) := by rw [List.drop_eq_getElem_cons hlt]; congr 1; rw [List.getElem?_eq_getElem hlt] at tr; injection tr
    have hiv := hi.out
    rw [hd] at hiv
    obtain ⟨F, hF⟩ : ∃ B, ptB (t, y) = B := ⟨_, rfl⟩
    have c1 := Lib.hid (fun W => (show Calls Tryz.prog 59 #[.agg #[.int .i64 t, .int .i64 y]] W fun e w' => e = .returned (.bool F) ∧ Below W.heap.size W w' from hF ▸ (c_r13Point t y W : Calls Tryz.prog 59 #[.agg #[.int .i64 t, .int .i64 y]] W fun e w' => e = .returned (.bool (ptB (t, y))) ∧ Below W.heap.size W w')))
    obtain ⟨fl, hfl⟩ : ∃ b, decide (kp + l.length > 1024) = b := ⟨_, rfl⟩
    rw [hfl] at hiv
    have hnA := Lib.hid (fun (e : F = false) => (show RES = 2 by rw [← hiv, refL_bad (hF.trans e)]))
    have hnB := Lib.hid (fun (e : F = true) (e1 : t ≤ ah) => (show RES = 342 by rw [← hiv, refL_order (hF.trans e) e1]))
    have hnC := Lib.hid (fun (e : F = true) (e1 : ¬t ≤ ah) (e2 : t < flr) => (show RES = 343 by rw [← hiv, refL_below (hF.trans e) e1 e2]))
    have hst := Lib.hid (fun (e : F = true ∧ ¬t ≤ ah ∧ ¬t < flr) => (show Hid (refL flr (decide (kp + l.length > 1024)) t (l.drop (i + 1)) = RES) from Lib.hid (by
      rw [← hiv, hfl, refL_on (hF.trans e.1) e.2.1 e.2.2])))
    clear hiv hF hfl hd tr hi
    go_upto_region 6 with (fail)
    refine wp_cutB W (Bc W.heap.size #[.int .i64 t, .int .i64 y] 58 <| Bz) ?_
    rintro W21 hW z22 ⟨⟨b1, yb1, k1, f1⟩, -⟩
    clear q0 q1
    go_wp2_with fail
    refine (c1.out _).mono ?_
    rintro e w23 ⟨rfl, hb23⟩
    have z24 := hb23.size
    try simp at z24
    clear k1 f1
    refine haveB W w23 (Bc W.heap.size #[.int .i64 t, .int .i64 y] 58 <| Bz) ?_
    clear b1 hW
    rintro hW z25 ⟨⟨b1, yb1, k1, f1⟩, -⟩
    clear hb23
    cases F with
    | false =>
      go_wp2
      go_ret
      exact ⟨by rw [hnA.out (by trivial)]; rfl, hW0.trans (hW.mono hz)⟩
    | true =>
      by_cases h1 : t ≤ ah
      · go_wp2
        go_ret
        exact ⟨by rw [hnB.out (by trivial) h1]; rfl, hW0.trans (hW.mono hz)⟩
      by_cases h2 : t < flr
      · go_wp2
        go_ret
        exact ⟨by rw [hnC.out (by trivial) h1 h2]; rfl, hW0.trans (hW.mono hz)⟩
      go_wp2
      rw [show (i : Int) + 1 = ((i + 1 : Nat) : Int) by omega]
      refine ⟨?_, by simp [intAt]; omega⟩
      unfold rf24Rel
      exact ⟨hW0.trans (hW.mono hz), i + 1, t, frame_ex rfl, hst.out ⟨by trivial, h1, h2⟩, by omega⟩
  · obtain rfl : i = l.length := by omega
    have hend := Lib.hid (show RES = if decide (kp + l.length > 1024) = true then 344 else 0 by
      have h9 := hi.out
      rw [List.drop_length] at h9
      exact h9.symm)
    clear hi
    by_cases h9 : kp + l.length > 1024
    · go_wp2
      go_ret
      exact ⟨by rw [hend.out, decide_eq_true h9]; rfl, hW0⟩
    · go_wp2
      go_ret
      exact ⟨by rw [hend.out, decide_eq_false h9]; rfl, hW0⟩
end Go.Proofs.YtdeghcgakkhbmaaGreat
namespace Go.Proofs.YtdeghcgakkhbmaaGreat
open Go.RowKit
def CloneR0 (w : World) (p : Option Addr) (l : List RunT) (e : Ending) (w' : World) : Prop := ∃ p' cap', e = .returned (.slice p' l.length cap') ∧ Below w.heap.size w w' ∧ RunsIn w' p' l ∧ l.length ≤ cap' ∧ ∀ a, p' = some a → w.heap.size ≤ a.block ∧ a.off = 0
def CloneI0 (w : World) (p : Option Addr) (l : List Int) (e : Ending) (w' : World) : Prop := ∃ p' cap', e = .returned (.slice p' l.length cap') ∧ Below w.heap.size w w' ∧ IntsIn w' p' l ∧ l.length ≤ cap' ∧ ∀ a, p' = some a → w.heap.size ≤ a.block ∧ a.off = 0
end Go.Proofs.YtdeghcgakkhbmaaGreat
namespace Go.Proofs.YtdeghcgakkhbmaaGreat
open Go.RowKit
structure OwnSegD (W : World) (g : Nat) (r0 r : SegR) : Prop where
  says : r.s = ownK r0.s
  runs : RunsIn W r.p r.s.runs
  raw : IntsIn W r.q r.s.raw
  capV : r.s.raw.length ≤ r.vc
  farR : ∀ a, r.p = some a → g < a.block ∧ a.off = 0
  farV : ∀ a, r.q = some a → g < a.block ∧ a.off = 0
theorem OwnSegD.rex {W W' : World} {g : Nat} {r0 r : SegR} {L : List Nat} (h : OwnSegD W g r0 r) (hL : ∀ x, x ∈ L → x ≤ g) (hr : Rex L W W') : OwnSegD W' g r0 r := ⟨h.says, h.runs.rex1 hL (fun a e => (h.farR a e).1) hr, h.raw.rex1 hL (fun a e => (h.farV a e).1) hr, h.capV, h.farR, h.farV⟩
structure OwnToD (W : World) (g : Nat) (rows R : List SegR) (i : Nat) : Prop where
  len : R.length = rows.length
  rest : ∀ k, i ≤ k → R[k]? = rows[k]?
  own : ∀ k, k < i → ∀ r, R[k]? = some r → ∃ r0, rows[k]? = some r0 ∧ OwnSegD W g r0 r
theorem OwnToD.rex {W W' : World} {g i : Nat} {rows R : List SegR} {L : List Nat} (h : OwnToD W g rows R i) (hL : ∀ x, x ∈ L → x ≤ g) (hr : Rex L W W') : OwnToD W' g rows R i := ⟨h.len, h.rest, fun k hk r hR => by
  obtain ⟨r0, h1, h2⟩ := h.own k hk r hR
  exact ⟨r0, h1, h2.rex hL hr⟩⟩
theorem OwnToD.step {W : World} {g i : Nat} {rows R : List SegR} {r0 r1 : SegR} (h : OwnToD W g rows R i) (h0 : rows[i]? = some r0) (h1 : OwnSegD W g r0 r1) : OwnToD W g rows (R.set i r1) (i + 1) := ⟨by rw [List.length_set]; exact h.len, fun k hk => by rw [List.getElem?_set_ne (by omega)]; exact h.rest k (by omega), fun k hk r hR => by
  rw [List.getElem?_set] at hR
  split at hR
  · rename_i e
    subst e
    split at hR
    · injection hR with hR
      subst hR
      exact ⟨r0, h0, h1⟩
    · cases hR
  · exact h.own k (by omega) r hR⟩
def Off0 (p : Option Addr) : Prop := ∀ a, p = some a → a.off = 0
/-- Segments in a block, from its begin; what they have begins where its block does. -/
structure SegsIn0 (w : World) (g : Nat) (l : List SegT) : Prop where
  at' : ∀ (i : Nat) (s : SegT), l[i]? = some s → ∃ p' q' cap vc, (∀ j v, (segA s p' q' cap vc)[j]? = some v → w.cell? ⟨g, i * 8 + j, none⟩ = some v) ∧ SegIn w s p' q' ∧ s.raw.length ≤ vc ∧ Off0 p' ∧ Off0 q'
theorem SegsIn0.segs {w : World} {g : Nat} {l : List SegT} (h : SegsIn0 w g l) : SegsIn w (some ⟨g, 0, none⟩) l := ⟨fun i s hs => by
  obtain ⟨p', q', cap, vc, h1, h2, h3, _⟩ := h.at' i s hs
  exact ⟨g, 0, p', q', cap, vc, rfl, fun j v hv => by rw [show 0 + i * 8 + j = i * 8 + j by omega]; exact h1 j v hv, h2, h3⟩⟩
theorem PtRow.off {w : World} {B : Nat} {p : Option Addr} {l : List (Int × Int)} (h : PtRow w B p l) : Off0 p := fun a e => by
  rcases h.at' with ⟨h1, _⟩ | ⟨g, cur, k, h1, _⟩
  · rw [h1] at e; cases e
  · rw [h1] at e; injection e with e; rw [← e]
def RunD (B K : Nat) (l : List RunT) : Spec := fun v w => ∃ p c, v = .slice p K c ∧ RunsIn w p l ∧ K ≤ c ∧ ∀ a, p = some a → B ≤ a.block ∧ a.off = 0
theorem RunD.closed (B K : Nat) (l : List RunT) : Closed [] (RunD B K l) := fun _ _ _ hr ⟨p, c, e, h, h2⟩ => ⟨p, c, e, h.rex hr rfl, h2⟩
def IntD (B K : Nat) (l : List Int) : Spec := fun v w => ∃ p c, v = .slice p K c ∧ IntsIn w p l ∧ K ≤ c ∧ ∀ a, p = some a → B ≤ a.block ∧ a.off = 0
theorem IntD.closed (B K : Nat) (l : List Int) : Closed [] (IntD B K l) := fun _ _ _ hr ⟨p, c, e, h, h2⟩ => ⟨p, c, e, h.below hr.below, h2⟩
def own24RelD (w : World) (nm9 : ByteArray) (ep fl la sc : Int) (pP : Option Addr) (capP N : Nat) (rows : List SegR) (pts : List (Int × Int)) (M gS capS : Nat) (a' : Act) (W : World) : Prop :=
  Below w.heap.size w W ∧ Blk W w.heap.size #[.string nm9, .int .i64 ep, .int .i64 fl, .int .i64 la, .int .i64 sc, .slice (some ⟨gS, 0, none⟩) M capS, .slice pP N capP] 79 ∧ Blk W (w.heap.size + 1) #[.string .empty, .int .i64 0, .int .i64 0, .int .i64 0, .int .i64 0, .slice none 0 0, .slice none 0 0] 79 ∧ PtRow W (w.heap.size + 1 + 1) pP pts ∧ ∃ (i : Nat) (cur : Array Value) (R : List SegR), Blk W gS cur 135 ∧ SegCells cur R ∧ OwnToD W gS rows R i ∧ (∃ u : Nat → Value, a' = { tmps := #[u 0, .pointer (some ⟨w.heap.size, 0, none⟩), .pointer (some ⟨w.heap.size + 1, 0, none⟩), u 3, u 4, u 5, u 6, u 7, u 8, u 9, u 10, u 11, u 12, u 13, u 14, u 15, u 16, u 17, u 18, u 19, u 20, u 21, u 22, u 23, u 24, u 25, u 26, u 27, u 28, u 29, u 30, u 31, .slice (some ⟨gS, 0, none⟩) M capS, .int .i64 (M : Int), .int .i64 (i : Int), u 35, u 36, u 37, u 38, u 39, u 40, u 41, u 42, u 43, u 44, u 45, u 46, u 47, u 48, u 49, u 50, u 51, u 52, u 53, u 54, u 55, u 56, u 57, u 58, u 59, u 60, u 61, u 62, u 63, u 64, u 65, u 66], defers := [] }) ∧ i ≤ M
end Go.Proofs.YtdeghcgakkhbmaaGreat
namespace Go.Proofs.YtdeghcgakkhbmaaGreat
open Go.RowKit
end Go.Proofs.YtdeghcgakkhbmaaGreat
namespace Go.Proofs.YtdeghcgakkhbmaaGreat
open Go.RowKit
/-- What own leaves of a series. -/
def ownSer (nm : ByteArray) (ep fl la sc : Int) (rows : List SegR) (pts : List (Int × Int)) : SerT := ⟨nm, ep, fl, la, sc, (rows.take (min rows.length 60)).map fun r => ownG r.s, pts.take (min pts.length 60)⟩
/-- A series that came in. -/
structure SerCame (w : World) (ps po : Option Addr) (cs co : Nat) (rows : List SegR) (pts : List (Int × Int)) : Prop where
  segs : SegsCame w ps rows
  opn : PtsIn w po pts
  nilS : ps = none → rows.length = 0 ∧ cs = 0
  nilO : po = none → pts.length = 0 ∧ co = 0
  capS : rows.length ≤ cs
  capO : pts.length ≤ co
theorem SerCame.below {w w' : World} {ps po : Option Addr} {cs co : Nat} {rows : List SegR} {pts : List (Int × Int)} (h : SerCame w ps po cs co rows pts) (hb : Below w.heap.size w w') : SerCame w' ps po cs co rows pts := ⟨h.segs.below hb, h.opn.below hb, h.nilS, h.nilO, h.capS, h.capO⟩
end Go.Proofs.YtdeghcgakkhbmaaGreat
namespace Go.Proofs.YtdeghcgakkhbmaaGreat
open Go.RowKit
/-- What own leaves of a series. -/
def ownSer26 (nm : ByteArray) (ep fl la sc : Int) (rows : List SegR) (pts : List (Int × Int)) : SerT := ⟨nm.extract 0 (mn (nm.size : Int) 20).toNat, ep, fl, la, sc, (rows.take (min rows.length 12)).map fun r => ownK r.s, pts.take (min pts.length 40)⟩
end Go.Proofs.YtdeghcgakkhbmaaGreat
namespace Go.Proofs.YtdeghcgakkhbmaaGreat
open Go.RowKit
/-- A series all of whose parts begin where their blocks do. -/
structure SerO (w : World) (s : SerT) (pS pP : Option Addr) : Prop where
  inn : SerIn w s pS pP
  segs : (pS = none ∧ s.segs = []) ∨ ∃ g, pS = some ⟨g, 0, none⟩ ∧ SegsIn0 w g s.segs
  off : Off0 pP
theorem str_ne {w : World} {b g : Nat} {k : IntKind} {z : Int} (hz : ∃ s, w.cell? ⟨g, 0, none⟩ = some (.string s)) (h : w.cell? ⟨b, 0, none⟩ = some (.int k z)) : b ≠ g := by
  rintro rfl
  obtain ⟨s, hs⟩ := hz
  rw [hs] at h
  cases h
theorem cell_rexL {L : List Nat} {w w' : World} (hr : Rex L w w') {b z : Nat} {v : Value} (h : w.cell? ⟨b, z, none⟩ = some v) (hn : b ∉ L) : w'.cell? ⟨b, z, none⟩ = some v := (World.cell?_of_block (hr.block b (cell_lt h) hn)).trans h
/-- blocks that begin with a string -/
def StrL (w : World) (L : List Nat) : Prop := ∀ g, g ∈ L → ∃ s, w.cell? ⟨g, 0, none⟩ = some (.string s)
theorem StrL.out {w : World} {L : List Nat} (h : StrL w L) {b : Nat} {k : IntKind} {z : Int} (hc : w.cell? ⟨b, 0, none⟩ = some (.int k z)) : b ∉ L := fun hm => str_ne (h b hm) hc rfl
theorem RunsIn.rexS {L : List Nat} {w w' : World} {p : Option Addr} {l : List RunT} (h : RunsIn w p l) (h0 : Off0 p) (hz : StrL w L) (hr : Rex L w w') : RunsIn w' p l := ⟨fun i r hi => by
  obtain ⟨b, o, e, q0, q1, q2⟩ := h.at' i r hi
  have ho : o = 0 := h0 _ e
  subst ho
  obtain ⟨r0, hr0⟩ : ∃ r0, l[0]? = some r0 := ⟨_, List.getElem?_eq_getElem (by have := (List.getElem?_eq_some_iff.1 hi).1; omega)⟩
  obtain ⟨b', o', e', z0, _⟩ := h.at' 0 r0 hr0
  rw [e] at e'
  injection e' with e'; injection e' with eb eo _
  subst eb; subst eo
  have hn := hz.out (b := b) (by simpa using z0)
  exact ⟨b, 0, e, cell_rexL hr q0 hn, cell_rexL hr q1 hn, cell_rexL hr q2 hn⟩⟩
theorem IntsIn.rexS {L : List Nat} {w w' : World} {p : Option Addr} {l : List Int} (h : IntsIn w p l) (h0 : Off0 p) (hz : StrL w L) (hr : Rex L w w') : IntsIn w' p l := ⟨fun i r hi => by
  obtain ⟨b, o, e, q0⟩ := h.at' i r hi
  have ho : o = 0 := h0 _ e
  subst ho
  obtain ⟨r0, hr0⟩ : ∃ r0, l[0]? = some r0 := ⟨_, List.getElem?_eq_getElem (by have := (List.getElem?_eq_some_iff.1 hi).1; omega)⟩
  obtain ⟨b', o', e', z0⟩ := h.at' 0 r0 hr0
  rw [e] at e'
  injection e' with e'; injection e' with eb eo _
  subst eb; subst eo
  have hn := hz.out (b := b) (by simpa using z0)
  exact ⟨b, 0, e, cell_rexL hr q0 hn⟩⟩
theorem PtsIn.rexS {L : List Nat} {w w' : World} {p : Option Addr} {l : List (Int × Int)} (h : PtsIn w p l) (h0 : Off0 p) (hz : StrL w L) (hr : Rex L w w') : PtsIn w' p l := ⟨fun i r hi => by
  obtain ⟨b, o, e, q0, q1⟩ := h.at' i r hi
  have ho : o = 0 := h0 _ e
  subst ho
  obtain ⟨r0, hr0⟩ : ∃ r0, l[0]? = some r0 := ⟨_, List.getElem?_eq_getElem (by have := (List.getElem?_eq_some_iff.1 hi).1; omega)⟩
  obtain ⟨b', o', e', z0, _⟩ := h.at' 0 r0 hr0
  rw [e] at e'
  injection e' with e'; injection e' with eb eo _
  subst eb; subst eo
  have hn := hz.out (b := b) (by simpa using z0)
  exact ⟨b, 0, e, cell_rexL hr q0 hn, cell_rexL hr q1 hn⟩⟩
theorem SegsIn0.rexS {L : List Nat} {w w' : World} {g : Nat} {l : List SegT} (h : SegsIn0 w g l) (hz : StrL w L) (hr : Rex L w w') : SegsIn0 w' g l := ⟨fun i s hs => by
  obtain ⟨p', q', cap, vc, h1, h2, h3, h4, h5⟩ := h.at' i s hs
  obtain ⟨s0, hs0⟩ : ∃ s0, l[0]? = some s0 := ⟨_, List.getElem?_eq_getElem (by have := (List.getElem?_eq_some_iff.1 hs).1; omega)⟩
  obtain ⟨p0, q0, c0, v0, k1, _⟩ := h.at' 0 s0 hs0
  have hn := hz.out (b := g) (show w.cell? ⟨g, 0, none⟩ = some (.int .i64 s0.K) from k1 0 _ rfl)
  exact ⟨p', q', cap, vc, fun j v hv => cell_rexL hr (h1 j v hv) hn, ⟨h2.runs.rexS h4 hz hr, h2.raw.rexS h5 hz hr, h2.fewR, h2.fewV⟩, h3, h4, h5⟩⟩
/-- What is written into blocks that begin with a string, does not change a series. -/
theorem SerO.rexS {L : List Nat} {w w' : World} {s : SerT} {pS pP : Option Addr} (h : SerO w s pS pP) (hz : StrL w L) (hr : Rex L w w') : SerO w' s pS pP := by
  obtain ⟨⟨h1, h2, h3, h4⟩, hs, ho⟩ := h
  rcases hs with ⟨rfl, e⟩ | ⟨g, rfl, hg⟩
  · exact ⟨⟨⟨fun i x hx => by rw [e] at hx; simp at hx⟩, h2.rexS ho hz hr, h3, h4⟩, .inl ⟨rfl, e⟩, ho⟩
  · exact ⟨⟨(hg.rexS hz hr).segs, h2.rexS ho hz hr, h3, h4⟩, .inr ⟨g, rfl, hg.rexS hz hr⟩, ho⟩
theorem SerO.rex {L : List Nat} {w w' : World} {s : SerT} {pS pP : Option Addr} (h : SerO w s pS pP) (hr : Rex L w w') (hL : L = []) : SerO w' s pS pP := by
  subst hL
  exact h.rexS (L := []) (fun g hg => by cases hg) hr
theorem SerO.drew {w : World} {s : SerT} {pS pP : Option Addr} (h : SerO w s pS pP) : SerO w.drew s pS pP := h.rex (L := []) (Rex.refl _ _).drew rfl
theorem SerO.below {w w' : World} {s : SerT} {pS pP : Option Addr} (h : SerO w s pS pP) (hb : Below w.heap.size w w') : SerO w' s pS pP := h.rex (L := []) (Rex.of_below hb) rfl
end Go.Proofs.YtdeghcgakkhbmaaGreat
namespace Go.Proofs.YtdeghcgakkhbmaaGreat
open Go.RowKit
theorem app_ownW {P : Program} {W : World} {g : Nat} {p : Option Addr} {m c : Nat} {news : List Value} (t ty e : TypeId) (i : TypeInfo) (z : Value) (size bytes : Nat) (ht : P.underlying t = some (.slice e)) (hi : P.info? e = some i) (hz : i.zero = some z)
    (hsize : i.size = size) (hby : i.bytes = bytes) (hzs : z.cells.size = size) (hsz : 0 < size) (hg : Blk W g #[] e)
    (hnil : p = none → m = 0 ∧ c = 0) (hl : news.length = m * size) (hnews : ∀ a, p = some a → ∀ j u, news[j]? = some u → W.cell? (a.add j) = some u) (h1 : ∀ u ∈ news, u.oneCell' = true) (hm : m ≤ 9223372036854775807) (hbm : m * bytes ≤ 140737488355328) :
    ∃ v' w', (Builtin.append_ #[t, t] ty #[.slice (some ⟨g, 0, none⟩) 0 0, .slice p m c]).run P W = .ok v' w' ∧ Below W.heap.size W w' ∧ ∃ g' cap' cur, v' = .slice (some ⟨g', 0, none⟩) m cap' ∧ g ≤ g' ∧ Blk w' g' cur e ∧ m ≤ cap' ∧ m * size ≤ cur.size ∧ cur.toList.take (m * size) = news := by
  have hglt := hg.lt
  have hown : W.ownsRow g e size (.slice (some ⟨g, 0, none⟩) 0 0) 0 [] := ⟨by simp, .inr ⟨g, 0, #[], rfl, Nat.le_refl _, hg, Nat.le_refl _, Nat.zero_le _, by simp, by simp⟩⟩
  cases p with
  | none =>
    obtain ⟨rfl, rfl⟩ := hnil rfl
    obtain rfl : news = [] := List.eq_nil_of_length_eq_zero (by simpa using hl)
    exact ⟨_, _, run_append_owned_none (P := P) (w := W) g t ty e i size ht hi _ 0 [] hown, Below.refl _ _, g, 0, #[], rfl, Nat.le_refl _, hg, Nat.le_refl _, by simp, by simp⟩
  | some a =>
    obtain ⟨v', w', hr, ho, hgr, hn⟩ := run_append_own (P := P) W g t ty e i z size bytes ht hi hz hsize hby hzs hsz _ 0 [] hown a m c news hl (hnews a rfl) h1 (by simp only [maxLen]; omega) (by rw [Nat.zero_add]; omega) (by omega)
    have hBel : Below W.heap.size W w' := by
      refine ⟨hgr.os, hgr.tape, hgr.output, hgr.size, fun k hk => ?_⟩
      by_cases hkg : k = g
      · subst hkg
        by_cases hm0 : m = 0
        · subst hm0
          obtain rfl : news = [] := List.eq_nil_of_length_eq_zero (by simpa using hl)
          have hr2 := run_append_room (P := P) W t ty e i ht hi k 0 0 #[] hg a 0 c [] (by simp) (fun j u h => by simp at h) (fun u h => by simp at h) (by omega) (by simp)
          rw [hr2] at hr
          injection hr with _ hr
          subst hr
          rw [setRow_heap W k #[] _ e _ hg]
          have hg2 := hg
          unfold Blk at hg2
          simpa using hg2.symm
        · have hr2 := run_append_grow (P := P) W t ty e i z ht hi hz ⟨k, 0, none⟩ 0 0 [] (by simp) (fun j u h => by simp at h) a m c news (by rw [hl, hsize]) (hnews a rfl) (by omega) (by omega) (by rw [hby]; exact growslice_fits (by omega) (by rw [Nat.zero_add]; omega))
          rw [hr2] at hr
          injection hr with _ hr
          subst hr
          exact Below.heap_alloc W.drew _ k hk
      · exact hgr.block k hk (by simp [Value.ownBlock]; omega)
    rw [Nat.zero_add, List.nil_append] at ho
    obtain ⟨hlen, h2 | ⟨g', cap', cur, rfl, hgg, hb', hnc, hcm, hcs, htk⟩⟩ := ho
    · exact absurd (hn.1 h2.1).1 (by simp)
    · refine ⟨_, _, hr, hBel, g', cap', cur, rfl, hgg, hb', hnc, ?_, ?_⟩
      · rw [hcs]; exact Nat.mul_le_mul_right _ hnc
      · exact htk
/-- Every block that begins with a number stays. -/
def IntK (w w' : World) : Prop := ∀ b, (∃ k z, w.cell? ⟨b, 0, none⟩ = some (.int k z)) → ∀ z v, w.cell? ⟨b, z, none⟩ = some v → w'.cell? ⟨b, z, none⟩ = some v
theorem IntK.refl (w : World) : IntK w w := fun _ _ _ _ h => h
theorem IntK.trans {w w1 w2 : World} (h1 : IntK w w1) (h2 : IntK w1 w2) : IntK w w2 := fun b hb z v hv => h2 b (by obtain ⟨k, y, h⟩ := hb; exact ⟨k, y, h1 b ⟨k, y, h⟩ 0 _ h⟩) z v (h1 b hb z v hv)
theorem IntK.of_below {w w' : World} (h : Below w.heap.size w w') : IntK w w' := fun b _ z v hv => ((bcell h).1 b z (cell_lt hv)).trans hv
end Go.Proofs.YtdeghcgakkhbmaaGreat
namespace Go.Proofs.YtdeghcgakkhbmaaGreat
open Go.RowKit
theorem app_ownX {P : Program} {W : World} {g : Nat} {p : Option Addr} {m c : Nat} {news : List Value} (t ty e : TypeId) (i : TypeInfo) (z : Value) (size bytes : Nat) (ht : P.underlying t = some (.slice e)) (hi : P.info? e = some i) (hz : i.zero = some z)
    (hsize : i.size = size) (hby : i.bytes = bytes) (hzs : z.cells.size = size) (hsz : 0 < size) (hg : Blk W g #[] e)
    (hnil : p = none → m = 0 ∧ c = 0) (hl : news.length = m * size) (hnews : ∀ a, p = some a → ∀ j u, news[j]? = some u → W.cell? (a.add j) = some u) (h1 : ∀ u ∈ news, u.oneCell' = true) (hm : m ≤ 9223372036854775807) (hbm : m * bytes ≤ 140737488355328) :
    ∃ v' w', (Builtin.append_ #[t, t] ty #[.slice (some ⟨g, 0, none⟩) 0 0, .slice p m c]).run P W = .ok v' w' ∧ Below W.heap.size W w' ∧ w'.ownsRow g e size v' m news := by
  have hglt := hg.lt
  have hown : W.ownsRow g e size (.slice (some ⟨g, 0, none⟩) 0 0) 0 [] := ⟨by simp, .inr ⟨g, 0, #[], rfl, Nat.le_refl _, hg, Nat.le_refl _, Nat.zero_le _, by simp, by simp⟩⟩
  obtain ⟨v', w', hr, hB, -⟩ := app_ownW (P := P) t ty e i z size bytes ht hi hz hsize hby hzs hsz hg hnil hl hnews h1 hm hbm
  refine ⟨v', w', hr, hB, ?_⟩
  cases p with
  | none =>
    obtain ⟨rfl, rfl⟩ := hnil rfl
    obtain rfl : news = [] := List.eq_nil_of_length_eq_zero (by simpa using hl)
    rw [run_append_owned_none (P := P) (w := W) g t ty e i size ht hi _ 0 [] hown] at hr
    injection hr with e1 e2
    subst e1; subst e2
    exact hown
  | some a =>
    obtain ⟨v2, w2, hr2, ho, -, -⟩ := run_append_own (P := P) W g t ty e i z size bytes ht hi hz hsize hby hzs hsz _ 0 [] hown a m c news hl (hnews a rfl) h1 (by simp only [maxLen]; omega) (by rw [Nat.zero_add]; omega) (by omega)
    rw [hr] at hr2
    injection hr2 with e1 e2
    subst e1; subst e2
    rw [Nat.zero_add, List.nil_append] at ho
    exact ho
/-- Points in a row of one's own, wherever. -/
def ApO (B : Nat) (l : List (Int × Int)) : Spec := fun v w => OwnR w B 58 2 v l.length (flatPts l)
theorem ApO.closed (B : Nat) (l : List (Int × Int)) : Closed [] (ApO B l) := fun _ _ _ hr h => OwnR.below h hr.below
set_option maxRecDepth 100000 in
set_option maxHeartbeats 2000000 in
theorem rdo_low (p : Option Addr) (cap : Nat) (rows : List RawT) (x : MutT) (px : Option Addr) (cx : Nat) (w : World) (hk : x.kind < 1) : Calls Tryz.prog 19 #[.agg #[.slice p rows.length cap], .agg #[.int .i64 x.kind, .string x.name, .int .i64 x.eps, .int .i64 x.floor, .int .i64 x.scale, .slice px x.pts.length cx]] w fun e w' => e = .returned (.tuple #[.agg #[.slice none 0 0], .int .i64 2]) ∧ Below w.heap.size w w' := by
  go_enter Tryz.func19, Tryz.ntmps19
  go_upto_region 1 with (fail)
  refine wp_cutB w (Bc w.heap.size #[.slice p rows.length cap] 27 <| Bc (w.heap.size + 1) #[.int .i64 x.kind, .string x.name, .int .i64 x.eps, .int .i64 x.floor, .int .i64 x.scale, .slice px x.pts.length cx] 52 <| Bc (w.heap.size + 1 + 1) #[.slice none 0 0] 27 <| Bz) ?_
  rintro W1 hW z2 ⟨⟨b1, yb1, k1, f1⟩, ⟨b2, yb2, k2, f2⟩, ⟨b3, yb3, k3, f3⟩, -⟩
  go_wp2
  have d2 := b3.set2 (i := 0) (v := .slice none 0 0) (cs' := #[.slice none 0 0]) rfl
  have d0 := d2.cell 0
  simp only [List.getElem?_toArray, List.getElem?_cons_zero] at d0
  refine bodyPost_ret (v := .tuple #[.agg #[.slice none 0 0], .int .i64 (2)]) (by simp [results, Tryz.results19, go_sem, d0]) rfl ⟨rfl, hW.setCell (by simp; omega) _⟩
set_option maxRecDepth 100000 in
set_option maxHeartbeats 2000000 in
theorem rdo_high (p : Option Addr) (cap : Nat) (rows : List RawT) (x : MutT) (px : Option Addr) (cx : Nat) (w : World) (hk : ¬x.kind < 1) (hk4 : 4 < x.kind) : Calls Tryz.prog 19 #[.agg #[.slice p rows.length cap], .agg #[.int .i64 x.kind, .string x.name, .int .i64 x.eps, .int .i64 x.floor, .int .i64 x.scale, .slice px x.pts.length cx]] w fun e w' => e = .returned (.tuple #[.agg #[.slice none 0 0], .int .i64 2]) ∧ Below w.heap.size w w' := by
  go_enter Tryz.func19, Tryz.ntmps19
  go_upto_region 1 with (fail)
  refine wp_cutB w (Bc w.heap.size #[.slice p rows.length cap] 27 <| Bc (w.heap.size + 1) #[.int .i64 x.kind, .string x.name, .int .i64 x.eps, .int .i64 x.floor, .int .i64 x.scale, .slice px x.pts.length cx] 52 <| Bc (w.heap.size + 1 + 1) #[.slice none 0 0] 27 <| Bz) ?_
  rintro W1 hW z2 ⟨⟨b1, yb1, k1, f1⟩, ⟨b2, yb2, k2, f2⟩, ⟨b3, yb3, k3, f3⟩, -⟩
  go_wp2
  have d2 := b3.set2 (i := 0) (v := .slice none 0 0) (cs' := #[.slice none 0 0]) rfl
  have d0 := d2.cell 0
  simp only [List.getElem?_toArray, List.getElem?_cons_zero] at d0
  refine bodyPost_ret (v := .tuple #[.agg #[.slice none 0 0], .int .i64 (2)]) (by simp [results, Tryz.results19, go_sem, d0]) rfl ⟨rfl, hW.setCell (by simp; omega) _⟩
set_option maxRecDepth 100000 in
set_option maxHeartbeats 2000000 in
theorem rdo_len (p : Option Addr) (cap : Nat) (rows : List RawT) (x : MutT) (px : Option Addr) (cx : Nat) (w : World) (hl : Hid (x.pts.length = 0 ∨ 16 < x.pts.length)) : Calls Tryz.prog 19 #[.agg #[.slice p rows.length cap], .agg #[.int .i64 3, .string x.name, .int .i64 x.eps, .int .i64 x.floor, .int .i64 x.scale, .slice px x.pts.length cx]] w fun e w' => e = .returned (.tuple #[.agg #[.slice none 0 0], .int .i64 2]) ∧ Below w.heap.size w w' := by
  go_enter Tryz.func19, Tryz.ntmps19
  go_upto_region 1 with (fail)
  refine wp_cutB w (Bc w.heap.size #[.slice p rows.length cap] 27 <| Bc (w.heap.size + 1) #[.int .i64 3, .string x.name, .int .i64 x.eps, .int .i64 x.floor, .int .i64 x.scale, .slice px x.pts.length cx] 52 <| Bc (w.heap.size + 1 + 1) #[.slice none 0 0] 27 <| Bz) ?_
  rintro W1 hW z2 ⟨⟨b1, yb1, k1, f1⟩, ⟨b2, yb2, k2, f2⟩, ⟨b3, yb3, k3, f3⟩, -⟩
  rcases hl.out with h1 | h1
  · have g1 : (x.pts.length : Int) < 1 := by omega
    go_wp2
    have d2 := b3.set2 (i := 0) (v := .slice none 0 0) (cs' := #[.slice none 0 0]) rfl
    have d0 := d2.cell 0
    simp only [List.getElem?_toArray, List.getElem?_cons_zero] at d0
    refine bodyPost_ret (v := .tuple #[.agg #[.slice none 0 0], .int .i64 (2)]) (by simp [results, Tryz.results19, go_sem, d0]) rfl ⟨rfl, hW.setCell (by simp; omega) _⟩
  · have g1 : ¬((x.pts.length : Int) < 1) := by omega
    have g2 : (16 : Int) < (x.pts.length : Int) := by omega
    go_wp2
    have d2 := b3.set2 (i := 0) (v := .slice none 0 0) (cs' := #[.slice none 0 0]) rfl
    have d0 := d2.cell 0
    simp only [List.getElem?_toArray, List.getElem?_cons_zero] at d0
    refine bodyPost_ret (v := .tuple #[.agg #[.slice none 0 0], .int .i64 (2)]) (by simp [results, Tryz.results19, go_sem, d0]) rfl ⟨rfl, hW.setCell (by simp; omega) _⟩
set_option maxRecDepth 100000 in
set_option maxHeartbeats 2000000 in
theorem rdo_create (p : Option Addr) (cap : Nat) (rows : List RawT) (x : MutT) (px : Option Addr) (cx : Nat) (w : World) (R : List RawT) (er : Int)
    (c2 : Hid (∀ W, Below w.heap.size w W → Calls Tryz.prog 51 #[.agg #[.slice p rows.length cap], .agg #[.int .i64 1, .string x.name, .int .i64 x.eps, .int .i64 x.floor, .int .i64 x.scale, .slice px x.pts.length cx]] W fun e w' => ∃ p' c', e = .returned (.tuple #[.agg #[.slice p' R.length c'], .int .i64 er]) ∧ Below W.heap.size W w' ∧ RawsIn w' p' R)) :
    Calls Tryz.prog 19 #[.agg #[.slice p rows.length cap], .agg #[.int .i64 1, .string x.name, .int .i64 x.eps, .int .i64 x.floor, .int .i64 x.scale, .slice px x.pts.length cx]] w fun e w' => ∃ p' c', e = .returned (.tuple #[.agg #[.slice p' R.length c'], .int .i64 (er)]) ∧ Below w.heap.size w w' ∧ RawsIn w' p' R := by
  go_enter Tryz.func19, Tryz.ntmps19
  go_upto_region 1 with (fail)
  refine wp_cutB w (Bc w.heap.size #[.slice p rows.length cap] 27 <| Bc (w.heap.size + 1) #[.int .i64 1, .string x.name, .int .i64 x.eps, .int .i64 x.floor, .int .i64 x.scale, .slice px x.pts.length cx] 52 <| Bc (w.heap.size + 1 + 1) #[.slice none 0 0] 27 <| Bz) ?_
  rintro W1 hW z2 ⟨⟨b1, yb1, k1, f1⟩, ⟨b2, yb2, k2, f2⟩, ⟨b3, yb3, k3, f3⟩, -⟩
  go_wp2_with fail
  refine (c2.out _ hW).mono ?_
  rintro e w3 ⟨p', c', rfl, hb3, hR⟩
  have z4 := hb3.size
  try simp at z4
  clear k1 f1 k2 f2 k3 f3
  refine haveB w w3 (Bc w.heap.size #[.slice p rows.length cap] 27 <| Bc (w.heap.size + 1) #[.int .i64 1, .string x.name, .int .i64 x.eps, .int .i64 x.floor, .int .i64 x.scale, .slice px x.pts.length cx] 52 <| Bc (w.heap.size + 1 + 1) #[.slice none 0 0] 27 <| Bz) ?_
  clear b1 b2 b3 hW
  rintro hW z5 ⟨⟨b1, yb1, k1, f1⟩, ⟨b2, yb2, k2, f2⟩, ⟨b3, yb3, k3, f3⟩, -⟩
  clear c2
  replace hR := Lib.hid hR
  go_wp2
  have d2 := b3.set2 (i := 0) (v := .slice p' R.length c') (cs' := #[.slice p' R.length c']) rfl
  have d0 := d2.cell 0
  simp only [List.getElem?_toArray, List.getElem?_cons_zero] at d0
  refine bodyPost_ret (v := .tuple #[.agg #[.slice p' R.length c'], .int .i64 (er)]) (by simp [results, Tryz.results19, go_sem, d0]) rfl ⟨p', c', rfl, hW.setCell (by simp; omega) _, hR.out.store b3⟩
set_option maxRecDepth 100000 in
set_option maxHeartbeats 2000000 in
theorem rdo_none2 (p : Option Addr) (cap : Nat) (rows : List RawT) (x : MutT) (px : Option Addr) (cx : Nat) (w : World) (at9 : Int) (hat : at9 < 0) (c1 : Hid (∀ W, Below w.heap.size w W → Calls Tryz.prog 34 #[.agg #[.slice p rows.length cap], .string x.name] W fun e w' => e = .returned (.int .i64 at9) ∧ Below W.heap.size W w')) : Calls Tryz.prog 19 #[.agg #[.slice p rows.length cap], .agg #[.int .i64 2, .string x.name, .int .i64 x.eps, .int .i64 x.floor, .int .i64 x.scale, .slice px x.pts.length cx]] w fun e w' => e = .returned (.tuple #[.agg #[.slice none 0 0], .int .i64 372]) ∧ Below w.heap.size w w' := by
  go_enter Tryz.func19, Tryz.ntmps19

  go_upto_region 1 with (fail)
  refine wp_cutB w (Bc w.heap.size #[.slice p rows.length cap] 27 <| Bc (w.heap.size + 1) #[.int .i64 2, .string x.name, .int .i64 x.eps, .int .i64 x.floor, .int .i64 x.scale, .slice px x.pts.length cx] 52 <| Bc (w.heap.size + 1 + 1) #[.slice none 0 0] 27 <| Bz) ?_
  rintro W1 hW z2 ⟨⟨b1, yb1, k1, f1⟩, ⟨b2, yb2, k2, f2⟩, ⟨b3, yb3, k3, f3⟩, -⟩
  go_wp2_with fail
  refine (c1.out _ hW).mono ?_
  rintro e w3 ⟨rfl, hb3⟩
  have z4 := hb3.size
  try simp at z4
  clear k1 f1 k2 f2 k3 f3
  refine haveB w w3 (Bc w.heap.size #[.slice p rows.length cap] 27 <| Bc (w.heap.size + 1) #[.int .i64 2, .string x.name, .int .i64 x.eps, .int .i64 x.floor, .int .i64 x.scale, .slice px x.pts.length cx] 52 <| Bc (w.heap.size + 1 + 1) #[.slice none 0 0] 27 <| Bz) ?_
  clear b1 b2 b3 hW
  rintro hW z5 ⟨⟨b1, yb1, k1, f1⟩, ⟨b2, yb2, k2, f2⟩, ⟨b3, yb3, k3, f3⟩, -⟩
  clear hb3
  go_wp2
  have d2 := b3.set2 (i := 0) (v := .slice none 0 0) (cs' := #[.slice none 0 0]) rfl
  have d0 := d2.cell 0
  simp only [List.getElem?_toArray, List.getElem?_cons_zero] at d0
  refine bodyPost_ret (v := .tuple #[.agg #[.slice none 0 0], .int .i64 (372)]) (by simp [results, Tryz.results19, go_sem, d0]) rfl ⟨rfl, hW.setCell (by simp; omega) _⟩
set_option maxRecDepth 100000 in
set_option maxHeartbeats 2000000 in
theorem rdo_none3 (p : Option Addr) (cap : Nat) (rows : List RawT) (x : MutT) (px : Option Addr) (cx : Nat) (w : World) (at9 : Int) (hat : at9 < 0) (h1 : 1 ≤ x.pts.length) (h16 : x.pts.length ≤ 16) (c1 : Hid (∀ W, Below w.heap.size w W → Calls Tryz.prog 34 #[.agg #[.slice p rows.length cap], .string x.name] W fun e w' => e = .returned (.int .i64 at9) ∧ Below W.heap.size W w')) : Calls Tryz.prog 19 #[.agg #[.slice p rows.length cap], .agg #[.int .i64 3, .string x.name, .int .i64 x.eps, .int .i64 x.floor, .int .i64 x.scale, .slice px x.pts.length cx]] w fun e w' => e = .returned (.tuple #[.agg #[.slice none 0 0], .int .i64 372]) ∧ Below w.heap.size w w' := by
  go_enter Tryz.func19, Tryz.ntmps19
  have g1 : ¬((x.pts.length : Int) < 1) := by omega
  have g2 : ¬((16 : Int) < (x.pts.length : Int)) := by omega
  go_upto_region 1 with (fail)
  refine wp_cutB w (Bc w.heap.size #[.slice p rows.length cap] 27 <| Bc (w.heap.size + 1) #[.int .i64 3, .string x.name, .int .i64 x.eps, .int .i64 x.floor, .int .i64 x.scale, .slice px x.pts.length cx] 52 <| Bc (w.heap.size + 1 + 1) #[.slice none 0 0] 27 <| Bz) ?_
  rintro W1 hW z2 ⟨⟨b1, yb1, k1, f1⟩, ⟨b2, yb2, k2, f2⟩, ⟨b3, yb3, k3, f3⟩, -⟩
  go_wp2_with fail
  refine (c1.out _ hW).mono ?_
  rintro e w3 ⟨rfl, hb3⟩
  have z4 := hb3.size
  try simp at z4
  clear k1 f1 k2 f2 k3 f3
  refine haveB w w3 (Bc w.heap.size #[.slice p rows.length cap] 27 <| Bc (w.heap.size + 1) #[.int .i64 3, .string x.name, .int .i64 x.eps, .int .i64 x.floor, .int .i64 x.scale, .slice px x.pts.length cx] 52 <| Bc (w.heap.size + 1 + 1) #[.slice none 0 0] 27 <| Bz) ?_
  clear b1 b2 b3 hW
  rintro hW z5 ⟨⟨b1, yb1, k1, f1⟩, ⟨b2, yb2, k2, f2⟩, ⟨b3, yb3, k3, f3⟩, -⟩
  clear hb3
  go_wp2
  have d2 := b3.set2 (i := 0) (v := .slice none 0 0) (cs' := #[.slice none 0 0]) rfl
  have d0 := d2.cell 0
  simp only [List.getElem?_toArray, List.getElem?_cons_zero] at d0
  refine bodyPost_ret (v := .tuple #[.agg #[.slice none 0 0], .int .i64 (372)]) (by simp [results, Tryz.results19, go_sem, d0]) rfl ⟨rfl, hW.setCell (by simp; omega) _⟩
set_option maxRecDepth 100000 in
set_option maxHeartbeats 2000000 in
theorem rdo_none4 (p : Option Addr) (cap : Nat) (rows : List RawT) (x : MutT) (px : Option Addr) (cx : Nat) (w : World) (at9 : Int) (hat : at9 < 0) (c1 : Hid (∀ W, Below w.heap.size w W → Calls Tryz.prog 34 #[.agg #[.slice p rows.length cap], .string x.name] W fun e w' => e = .returned (.int .i64 at9) ∧ Below W.heap.size W w')) : Calls Tryz.prog 19 #[.agg #[.slice p rows.length cap], .agg #[.int .i64 4, .string x.name, .int .i64 x.eps, .int .i64 x.floor, .int .i64 x.scale, .slice px x.pts.length cx]] w fun e w' => e = .returned (.tuple #[.agg #[.slice none 0 0], .int .i64 372]) ∧ Below w.heap.size w w' := by
  go_enter Tryz.func19, Tryz.ntmps19

  go_upto_region 1 with (fail)
  refine wp_cutB w (Bc w.heap.size #[.slice p rows.length cap] 27 <| Bc (w.heap.size + 1) #[.int .i64 4, .string x.name, .int .i64 x.eps, .int .i64 x.floor, .int .i64 x.scale, .slice px x.pts.length cx] 52 <| Bc (w.heap.size + 1 + 1) #[.slice none 0 0] 27 <| Bz) ?_
  rintro W1 hW z2 ⟨⟨b1, yb1, k1, f1⟩, ⟨b2, yb2, k2, f2⟩, ⟨b3, yb3, k3, f3⟩, -⟩
  go_wp2_with fail
  refine (c1.out _ hW).mono ?_
  rintro e w3 ⟨rfl, hb3⟩
  have z4 := hb3.size
  try simp at z4
  clear k1 f1 k2 f2 k3 f3
  refine haveB w w3 (Bc w.heap.size #[.slice p rows.length cap] 27 <| Bc (w.heap.size + 1) #[.int .i64 4, .string x.name, .int .i64 x.eps, .int .i64 x.floor, .int .i64 x.scale, .slice px x.pts.length cx] 52 <| Bc (w.heap.size + 1 + 1) #[.slice none 0 0] 27 <| Bz) ?_
  clear b1 b2 b3 hW
  rintro hW z5 ⟨⟨b1, yb1, k1, f1⟩, ⟨b2, yb2, k2, f2⟩, ⟨b3, yb3, k3, f3⟩, -⟩
  clear hb3
  go_wp2
  have d2 := b3.set2 (i := 0) (v := .slice none 0 0) (cs' := #[.slice none 0 0]) rfl
  have d0 := d2.cell 0
  simp only [List.getElem?_toArray, List.getElem?_cons_zero] at d0
  refine bodyPost_ret (v := .tuple #[.agg #[.slice none 0 0], .int .i64 (372)]) (by simp [results, Tryz.results19, go_sem, d0]) rfl ⟨rfl, hW.setCell (by simp; omega) _⟩
set_option maxRecDepth 100000 in
set_option maxHeartbeats 2000000 in
theorem rdo_drop (b0 o0 cap : Nat) (rows : List RawT) (x : MutT) (px : Option Addr) (cx : Nat) (w : World) (i : Nat) (r0 : RawT) (p0 : Option Addr) (c0 : Nat) (hrow : Hid (∀ j v, (rawA r0 p0 c0)[j]? = some v → w.cell? ⟨b0, o0 + i * 6 + j, none⟩ = some v)) (hir : i < rows.length) (hmx : rows.length ≤ 100) (R : List RawT) (c1 : Hid (∀ W, Below w.heap.size w W → Calls Tryz.prog 34 #[.agg #[.slice (some ⟨b0, o0, none⟩) rows.length cap], .string x.name] W fun e w' => e = .returned (.int .i64 (i : Int)) ∧ Below W.heap.size W w'))
    (c2 : Hid (∀ W, Below w.heap.size w W → Calls Tryz.prog 52 #[.agg #[.slice (some ⟨b0, o0, none⟩) rows.length cap], .string x.name] W fun e w' => ∃ p' c', e = .returned (.agg #[.slice p' R.length c']) ∧ Below W.heap.size W w' ∧ RawsIn w' p' R)) :
    Calls Tryz.prog 19 #[.agg #[.slice (some ⟨b0, o0, none⟩) rows.length cap], .agg #[.int .i64 2, .string x.name, .int .i64 x.eps, .int .i64 x.floor, .int .i64 x.scale, .slice px x.pts.length cx]] w fun e w' => ∃ p' c', e = .returned (.tuple #[.agg #[.slice p' R.length c'], .int .i64 (0)]) ∧ Below w.heap.size w w' ∧ RawsIn w' p' R := by
  go_enter Tryz.func19, Tryz.ntmps19

  go_upto_region 1 with (fail)
  refine wp_cutB w (Bc w.heap.size #[.slice (some ⟨b0, o0, none⟩) rows.length cap] 27 <| Bc (w.heap.size + 1) #[.int .i64 2, .string x.name, .int .i64 x.eps, .int .i64 x.floor, .int .i64 x.scale, .slice px x.pts.length cx] 52 <| Bc (w.heap.size + 1 + 1) #[.slice none 0 0] 27 <| Bz) ?_
  rintro W1 hW z2 ⟨⟨b1, yb1, k1, f1⟩, ⟨b2, yb2, k2, f2⟩, ⟨b3, yb3, k3, f3⟩, -⟩
  go_wp2_with fail
  refine (c1.out _ hW).mono ?_
  rintro e w3 ⟨rfl, hb3⟩
  have z4 := hb3.size
  try simp at z4
  clear k1 f1 k2 f2 k3 f3
  refine haveB w w3 (Bc w.heap.size #[.slice (some ⟨b0, o0, none⟩) rows.length cap] 27 <| Bc (w.heap.size + 1) #[.int .i64 2, .string x.name, .int .i64 x.eps, .int .i64 x.floor, .int .i64 x.scale, .slice px x.pts.length cx] 52 <| Bc (w.heap.size + 1 + 1) #[.slice none 0 0] 27 <| Bz) ?_
  clear b1 b2 b3 hW
  rintro hW z5 ⟨⟨b1, yb1, k1, f1⟩, ⟨b2, yb2, k2, f2⟩, ⟨b3, yb3, k3, f3⟩, -⟩
  clear hb3
  have hcs : ∀ j v, (rawA r0 p0 c0)[j]? = some v → w3.cell? ⟨b0, o0 + i * 6 + j, none⟩ = some v := fun j v hv => ((bcell hW).1 b0 _ (cell_lt (hrow.out j v hv))).trans (hrow.out j v hv)
  have q0 : w3.cell? ⟨b0, o0 + i * 6, none⟩ = some (.string r0.name) := hcs 0 _ rfl
  have q1 : w3.cell? ⟨b0, o0 + i * 6 + 1, none⟩ = some (.int .i64 r0.eps) := hcs 1 _ rfl
  have q2 : w3.cell? ⟨b0, o0 + i * 6 + 2, none⟩ = some (.int .i64 r0.floor) := hcs 2 _ rfl
  have q3 : w3.cell? ⟨b0, o0 + i * 6 + 3, none⟩ = some (.int .i64 r0.last) := hcs 3 _ rfl
  have q4 : w3.cell? ⟨b0, o0 + i * 6 + 4, none⟩ = some (.int .i64 r0.scale) := hcs 4 _ rfl
  have q5 : w3.cell? ⟨b0, o0 + i * 6 + 5, none⟩ = some (.slice p0 r0.pts.length c0) := hcs 5 _ rfl
  clear hcs
  go_upto_region 9 with (fail)
  clear k1 f1 k2 f2 k3 f3
  refine wp_cutB w (Bc w.heap.size #[.slice (some ⟨b0, o0, none⟩) rows.length cap] 27 <| Bc (w.heap.size + 1) #[.int .i64 2, .string x.name, .int .i64 x.eps, .int .i64 x.floor, .int .i64 x.scale, .slice px x.pts.length cx] 52 <| Bc (w.heap.size + 1 + 1) #[.slice none 0 0] 27 <| Bc w3.heap.size #[.string r0.name, .int .i64 r0.eps, .int .i64 r0.floor, .int .i64 r0.last, .int .i64 r0.scale, .slice p0 r0.pts.length c0] 35 <| Bz) ?_
  clear b1 b2 b3 hW
  rintro W6 hW z7 ⟨⟨b1, yb1, k1, f1⟩, ⟨b2, yb2, k2, f2⟩, ⟨b3, yb3, k3, f3⟩, ⟨b4, yb4, k4, f4⟩, -⟩
  clear q0 q1 q2 q3 q4 q5
  go_wp2_with fail
  refine (c2.out _ hW).mono ?_
  rintro e w8 ⟨p', c', rfl, hb8, hR⟩
  have z9 := hb8.size
  try simp at z9
  clear k1 f1 k2 f2 k3 f3 k4 f4
  refine haveB w w8 (Bc w.heap.size #[.slice (some ⟨b0, o0, none⟩) rows.length cap] 27 <| Bc (w.heap.size + 1) #[.int .i64 2, .string x.name, .int .i64 x.eps, .int .i64 x.floor, .int .i64 x.scale, .slice px x.pts.length cx] 52 <| Bc (w.heap.size + 1 + 1) #[.slice none 0 0] 27 <| Bc w3.heap.size #[.string r0.name, .int .i64 r0.eps, .int .i64 r0.floor, .int .i64 r0.last, .int .i64 r0.scale, .slice p0 r0.pts.length c0] 35 <| Bz) ?_
  clear b1 b2 b3 b4 hW
  rintro hW z10 ⟨⟨b1, yb1, k1, f1⟩, ⟨b2, yb2, k2, f2⟩, ⟨b3, yb3, k3, f3⟩, ⟨b4, yb4, k4, f4⟩, -⟩
  clear c2
  replace hR := Lib.hid hR
  go_wp2
  have d2 := b3.set2 (i := 0) (v := .slice p' R.length c') (cs' := #[.slice p' R.length c']) rfl
  have d0 := d2.cell 0
  simp only [List.getElem?_toArray, List.getElem?_cons_zero] at d0
  refine bodyPost_ret (v := .tuple #[.agg #[.slice p' R.length c'], .int .i64 (0)]) (by simp [results, Tryz.results19, go_sem, d0]) rfl ⟨p', c', rfl, hW.setCell (by simp; omega) _, hR.out.store b3⟩
set_option maxRecDepth 100000 in
set_option maxHeartbeats 2000000 in
theorem rdo_ref (b0 o0 cap : Nat) (rows : List RawT) (x : MutT) (px : Option Addr) (cx : Nat) (w : World) (i : Nat) (r0 : RawT) (p0 : Option Addr) (c0 : Nat) (hrow : Hid (∀ j v, (rawA r0 p0 c0)[j]? = some v → w.cell? ⟨b0, o0 + i * 6 + j, none⟩ = some v)) (hir : i < rows.length) (hmx : rows.length ≤ 100) (er : Int) (her : (er != 0) = true) (h1 : 1 ≤ x.pts.length) (h16 : x.pts.length ≤ 16) (c1 : Hid (∀ W, Below w.heap.size w W → Calls Tryz.prog 34 #[.agg #[.slice (some ⟨b0, o0, none⟩) rows.length cap], .string x.name] W fun e w' => e = .returned (.int .i64 (i : Int)) ∧ Below W.heap.size W w'))
    (c2 : Hid (∀ W, Below w.heap.size w W → Calls Tryz.prog 53 #[.slice px x.pts.length cx, .int .i64 r0.last, .int .i64 r0.floor, .int .i64 (r0.pts.length : Int)] W fun e w' => e = .returned (.int .i64 er) ∧ Below W.heap.size W w')) :
    Calls Tryz.prog 19 #[.agg #[.slice (some ⟨b0, o0, none⟩) rows.length cap], .agg #[.int .i64 3, .string x.name, .int .i64 x.eps, .int .i64 x.floor, .int .i64 x.scale, .slice px x.pts.length cx]] w fun e w' => e = .returned (.tuple #[.agg #[.slice none 0 0], .int .i64 er]) ∧ Below w.heap.size w w' := by
  go_enter Tryz.func19, Tryz.ntmps19
  have g1 : ¬((x.pts.length : Int) < 1) := by omega
  have g2 : ¬((16 : Int) < (x.pts.length : Int)) := by omega
  go_upto_region 1 with (fail)
  refine wp_cutB w (Bc w.heap.size #[.slice (some ⟨b0, o0, none⟩) rows.length cap] 27 <| Bc (w.heap.size + 1) #[.int .i64 3, .string x.name, .int .i64 x.eps, .int .i64 x.floor, .int .i64 x.scale, .slice px x.pts.length cx] 52 <| Bc (w.heap.size + 1 + 1) #[.slice none 0 0] 27 <| Bz) ?_
  rintro W1 hW z2 ⟨⟨b1, yb1, k1, f1⟩, ⟨b2, yb2, k2, f2⟩, ⟨b3, yb3, k3, f3⟩, -⟩
  go_wp2_with fail
  refine (c1.out _ hW).mono ?_
  rintro e w3 ⟨rfl, hb3⟩
  have z4 := hb3.size
  try simp at z4
  clear k1 f1 k2 f2 k3 f3
  refine haveB w w3 (Bc w.heap.size #[.slice (some ⟨b0, o0, none⟩) rows.length cap] 27 <| Bc (w.heap.size + 1) #[.int .i64 3, .string x.name, .int .i64 x.eps, .int .i64 x.floor, .int .i64 x.scale, .slice px x.pts.length cx] 52 <| Bc (w.heap.size + 1 + 1) #[.slice none 0 0] 27 <| Bz) ?_
  clear b1 b2 b3 hW
  rintro hW z5 ⟨⟨b1, yb1, k1, f1⟩, ⟨b2, yb2, k2, f2⟩, ⟨b3, yb3, k3, f3⟩, -⟩
  clear hb3
  have hcs : ∀ j v, (rawA r0 p0 c0)[j]? = some v → w3.cell? ⟨b0, o0 + i * 6 + j, none⟩ = some v := fun j v hv => ((bcell hW).1 b0 _ (cell_lt (hrow.out j v hv))).trans (hrow.out j v hv)
  have q0 : w3.cell? ⟨b0, o0 + i * 6, none⟩ = some (.string r0.name) := hcs 0 _ rfl
  have q1 : w3.cell? ⟨b0, o0 + i * 6 + 1, none⟩ = some (.int .i64 r0.eps) := hcs 1 _ rfl
  have q2 : w3.cell? ⟨b0, o0 + i * 6 + 2, none⟩ = some (.int .i64 r0.floor) := hcs 2 _ rfl
  have q3 : w3.cell? ⟨b0, o0 + i * 6 + 3, none⟩ = some (.int .i64 r0.last) := hcs 3 _ rfl
  have q4 : w3.cell? ⟨b0, o0 + i * 6 + 4, none⟩ = some (.int .i64 r0.scale) := hcs 4 _ rfl
  have q5 : w3.cell? ⟨b0, o0 + i * 6 + 5, none⟩ = some (.slice p0 r0.pts.length c0) := hcs 5 _ rfl
  clear hcs
  go_upto_region 9 with (fail)
  clear k1 f1 k2 f2 k3 f3
  refine wp_cutB w (Bc w.heap.size #[.slice (some ⟨b0, o0, none⟩) rows.length cap] 27 <| Bc (w.heap.size + 1) #[.int .i64 3, .string x.name, .int .i64 x.eps, .int .i64 x.floor, .int .i64 x.scale, .slice px x.pts.length cx] 52 <| Bc (w.heap.size + 1 + 1) #[.slice none 0 0] 27 <| Bc w3.heap.size #[.string r0.name, .int .i64 r0.eps, .int .i64 r0.floor, .int .i64 r0.last, .int .i64 r0.scale, .slice p0 r0.pts.length c0] 35 <| Bz) ?_
  clear b1 b2 b3 hW
  rintro W6 hW z7 ⟨⟨b1, yb1, k1, f1⟩, ⟨b2, yb2, k2, f2⟩, ⟨b3, yb3, k3, f3⟩, ⟨b4, yb4, k4, f4⟩, -⟩
  clear q0 q1 q2 q3 q4 q5
  go_wp2_with fail
  refine (c2.out _ hW).mono ?_
  rintro e w8 ⟨rfl, hb8⟩
  have z9 := hb8.size
  try simp at z9
  clear k1 f1 k2 f2 k3 f3 k4 f4
  refine haveB w w8 (Bc w.heap.size #[.slice (some ⟨b0, o0, none⟩) rows.length cap] 27 <| Bc (w.heap.size + 1) #[.int .i64 3, .string x.name, .int .i64 x.eps, .int .i64 x.floor, .int .i64 x.scale, .slice px x.pts.length cx] 52 <| Bc (w.heap.size + 1 + 1) #[.slice none 0 0] 27 <| Bc w3.heap.size #[.string r0.name, .int .i64 r0.eps, .int .i64 r0.floor, .int .i64 r0.last, .int .i64 r0.scale, .slice p0 r0.pts.length c0] 35 <| Bz) ?_
  clear b1 b2 b3 b4 hW
  rintro hW z10 ⟨⟨b1, yb1, k1, f1⟩, ⟨b2, yb2, k2, f2⟩, ⟨b3, yb3, k3, f3⟩, ⟨b4, yb4, k4, f4⟩, -⟩
  clear hb8
  go_wp2
  have d2 := b3.set2 (i := 0) (v := .slice none 0 0) (cs' := #[.slice none 0 0]) rfl
  have d0 := d2.cell 0
  simp only [List.getElem?_toArray, List.getElem?_cons_zero] at d0
  refine bodyPost_ret (v := .tuple #[.agg #[.slice none 0 0], .int .i64 (er)]) (by simp [results, Tryz.results19, go_sem, d0]) rfl ⟨rfl, hW.setCell (by simp; omega) _⟩
set_option maxRecDepth 100000 in
set_option maxHeartbeats 2000000 in
theorem rdo_bad (b0 o0 cap : Nat) (rows : List RawT) (x : MutT) (px : Option Addr) (cx : Nat) (w : World) (i : Nat) (r0 : RawT) (p0 : Option Addr) (c0 : Nat) (hrow : Hid (∀ j v, (rawA r0 p0 c0)[j]? = some v → w.cell? ⟨b0, o0 + i * 6 + j, none⟩ = some v)) (hir : i < rows.length) (hmx : rows.length ≤ 100) (c1 : Hid (∀ W, Below w.heap.size w W → Calls Tryz.prog 34 #[.agg #[.slice (some ⟨b0, o0, none⟩) rows.length cap], .string x.name] W fun e w' => e = .returned (.int .i64 (i : Int)) ∧ Below W.heap.size W w'))
    (c2 : Hid (∀ W, Calls Tryz.prog 55 #[.int .i64 x.floor] W fun e w' => e = .returned (.bool false) ∧ Below W.heap.size W w')) :
    Calls Tryz.prog 19 #[.agg #[.slice (some ⟨b0, o0, none⟩) rows.length cap], .agg #[.int .i64 4, .string x.name, .int .i64 x.eps, .int .i64 x.floor, .int .i64 x.scale, .slice px x.pts.length cx]] w fun e w' => e = .returned (.tuple #[.agg #[.slice none 0 0], .int .i64 2]) ∧ Below w.heap.size w w' := by
  go_enter Tryz.func19, Tryz.ntmps19

  go_upto_region 1 with (fail)
  refine wp_cutB w (Bc w.heap.size #[.slice (some ⟨b0, o0, none⟩) rows.length cap] 27 <| Bc (w.heap.size + 1) #[.int .i64 4, .string x.name, .int .i64 x.eps, .int .i64 x.floor, .int .i64 x.scale, .slice px x.pts.length cx] 52 <| Bc (w.heap.size + 1 + 1) #[.slice none 0 0] 27 <| Bz) ?_
  rintro W1 hW z2 ⟨⟨b1, yb1, k1, f1⟩, ⟨b2, yb2, k2, f2⟩, ⟨b3, yb3, k3, f3⟩, -⟩
  go_wp2_with fail
  refine (c1.out _ hW).mono ?_
  rintro e w3 ⟨rfl, hb3⟩
  have z4 := hb3.size
  try simp at z4
  clear k1 f1 k2 f2 k3 f3
  refine haveB w w3 (Bc w.heap.size #[.slice (some ⟨b0, o0, none⟩) rows.length cap] 27 <| Bc (w.heap.size + 1) #[.int .i64 4, .string x.name, .int .i64 x.eps, .int .i64 x.floor, .int .i64 x.scale, .slice px x.pts.length cx] 52 <| Bc (w.heap.size + 1 + 1) #[.slice none 0 0] 27 <| Bz) ?_
  clear b1 b2 b3 hW
  rintro hW z5 ⟨⟨b1, yb1, k1, f1⟩, ⟨b2, yb2, k2, f2⟩, ⟨b3, yb3, k3, f3⟩, -⟩
  clear hb3
  have hcs : ∀ j v, (rawA r0 p0 c0)[j]? = some v → w3.cell? ⟨b0, o0 + i * 6 + j, none⟩ = some v := fun j v hv => ((bcell hW).1 b0 _ (cell_lt (hrow.out j v hv))).trans (hrow.out j v hv)
  have q0 : w3.cell? ⟨b0, o0 + i * 6, none⟩ = some (.string r0.name) := hcs 0 _ rfl
  have q1 : w3.cell? ⟨b0, o0 + i * 6 + 1, none⟩ = some (.int .i64 r0.eps) := hcs 1 _ rfl
  have q2 : w3.cell? ⟨b0, o0 + i * 6 + 2, none⟩ = some (.int .i64 r0.floor) := hcs 2 _ rfl
  have q3 : w3.cell? ⟨b0, o0 + i * 6 + 3, none⟩ = some (.int .i64 r0.last) := hcs 3 _ rfl
  have q4 : w3.cell? ⟨b0, o0 + i * 6 + 4, none⟩ = some (.int .i64 r0.scale) := hcs 4 _ rfl
  have q5 : w3.cell? ⟨b0, o0 + i * 6 + 5, none⟩ = some (.slice p0 r0.pts.length c0) := hcs 5 _ rfl
  clear hcs
  go_upto_region 9 with (fail)
  clear k1 f1 k2 f2 k3 f3
  refine wp_cutB w (Bc w.heap.size #[.slice (some ⟨b0, o0, none⟩) rows.length cap] 27 <| Bc (w.heap.size + 1) #[.int .i64 4, .string x.name, .int .i64 x.eps, .int .i64 x.floor, .int .i64 x.scale, .slice px x.pts.length cx] 52 <| Bc (w.heap.size + 1 + 1) #[.slice none 0 0] 27 <| Bc w3.heap.size #[.string r0.name, .int .i64 r0.eps, .int .i64 r0.floor, .int .i64 r0.last, .int .i64 r0.scale, .slice p0 r0.pts.length c0] 35 <| Bz) ?_
  clear b1 b2 b3 hW
  rintro W6 hW z7 ⟨⟨b1, yb1, k1, f1⟩, ⟨b2, yb2, k2, f2⟩, ⟨b3, yb3, k3, f3⟩, ⟨b4, yb4, k4, f4⟩, -⟩
  clear q0 q1 q2 q3 q4 q5
  go_wp2_with fail
  refine (c2.out _).mono ?_
  rintro e w8 ⟨rfl, hb8⟩
  have z9 := hb8.size
  try simp at z9
  clear k1 f1 k2 f2 k3 f3 k4 f4
  refine haveB w w8 (Bc w.heap.size #[.slice (some ⟨b0, o0, none⟩) rows.length cap] 27 <| Bc (w.heap.size + 1) #[.int .i64 4, .string x.name, .int .i64 x.eps, .int .i64 x.floor, .int .i64 x.scale, .slice px x.pts.length cx] 52 <| Bc (w.heap.size + 1 + 1) #[.slice none 0 0] 27 <| Bc w3.heap.size #[.string r0.name, .int .i64 r0.eps, .int .i64 r0.floor, .int .i64 r0.last, .int .i64 r0.scale, .slice p0 r0.pts.length c0] 35 <| Bz) ?_
  clear b1 b2 b3 b4 hW
  rintro hW z10 ⟨⟨b1, yb1, k1, f1⟩, ⟨b2, yb2, k2, f2⟩, ⟨b3, yb3, k3, f3⟩, ⟨b4, yb4, k4, f4⟩, -⟩
  clear hb8
  go_wp2
  have d2 := b3.set2 (i := 0) (v := .slice none 0 0) (cs' := #[.slice none 0 0]) rfl
  have d0 := d2.cell 0
  simp only [List.getElem?_toArray, List.getElem?_cons_zero] at d0
  refine bodyPost_ret (v := .tuple #[.agg #[.slice none 0 0], .int .i64 (2)]) (by simp [results, Tryz.results19, go_sem, d0]) rfl ⟨rfl, hW.setCell (by simp; omega) _⟩
set_option maxRecDepth 100000 in
set_option maxHeartbeats 2000000 in
theorem rdo_below (b0 o0 cap : Nat) (rows : List RawT) (x : MutT) (px : Option Addr) (cx : Nat) (w : World) (i : Nat) (r0 : RawT) (p0 : Option Addr) (c0 : Nat) (hrow : Hid (∀ j v, (rawA r0 p0 c0)[j]? = some v → w.cell? ⟨b0, o0 + i * 6 + j, none⟩ = some v)) (hir : i < rows.length) (hmx : rows.length ≤ 100) (hlb : x.floor < r0.floor) (c1 : Hid (∀ W, Below w.heap.size w W → Calls Tryz.prog 34 #[.agg #[.slice (some ⟨b0, o0, none⟩) rows.length cap], .string x.name] W fun e w' => e = .returned (.int .i64 (i : Int)) ∧ Below W.heap.size W w'))
    (c2 : Hid (∀ W, Calls Tryz.prog 55 #[.int .i64 x.floor] W fun e w' => e = .returned (.bool true) ∧ Below W.heap.size W w')) :
    Calls Tryz.prog 19 #[.agg #[.slice (some ⟨b0, o0, none⟩) rows.length cap], .agg #[.int .i64 4, .string x.name, .int .i64 x.eps, .int .i64 x.floor, .int .i64 x.scale, .slice px x.pts.length cx]] w fun e w' => e = .returned (.tuple #[.agg #[.slice none 0 0], .int .i64 343]) ∧ Below w.heap.size w w' := by
  go_enter Tryz.func19, Tryz.ntmps19

  go_upto_region 1 with (fail)
  refine wp_cutB w (Bc w.heap.size #[.slice (some ⟨b0, o0, none⟩) rows.length cap] 27 <| Bc (w.heap.size + 1) #[.int .i64 4, .string x.name, .int .i64 x.eps, .int .i64 x.floor, .int .i64 x.scale, .slice px x.pts.length cx] 52 <| Bc (w.heap.size + 1 + 1) #[.slice none 0 0] 27 <| Bz) ?_
  rintro W1 hW z2 ⟨⟨b1, yb1, k1, f1⟩, ⟨b2, yb2, k2, f2⟩, ⟨b3, yb3, k3, f3⟩, -⟩
  go_wp2_with fail
  refine (c1.out _ hW).mono ?_
  rintro e w3 ⟨rfl, hb3⟩
  have z4 := hb3.size
  try simp at z4
  clear k1 f1 k2 f2 k3 f3
  refine haveB w w3 (Bc w.heap.size #[.slice (some ⟨b0, o0, none⟩) rows.length cap] 27 <| Bc (w.heap.size + 1) #[.int .i64 4, .string x.name, .int .i64 x.eps, .int .i64 x.floor, .int .i64 x.scale, .slice px x.pts.length cx] 52 <| Bc (w.heap.size + 1 + 1) #[.slice none 0 0] 27 <| Bz) ?_
  clear b1 b2 b3 hW
  rintro hW z5 ⟨⟨b1, yb1, k1, f1⟩, ⟨b2, yb2, k2, f2⟩, ⟨b3, yb3, k3, f3⟩, -⟩
  clear hb3
  have hcs : ∀ j v, (rawA r0 p0 c0)[j]? = some v → w3.cell? ⟨b0, o0 + i * 6 + j, none⟩ = some v := fun j v hv => ((bcell hW).1 b0 _ (cell_lt (hrow.out j v hv))).trans (hrow.out j v hv)
  have q0 : w3.cell? ⟨b0, o0 + i * 6, none⟩ = some (.string r0.name) := hcs 0 _ rfl
  have q1 : w3.cell? ⟨b0, o0 + i * 6 + 1, none⟩ = some (.int .i64 r0.eps) := hcs 1 _ rfl
  have q2 : w3.cell? ⟨b0, o0 + i * 6 + 2, none⟩ = some (.int .i64 r0.floor) := hcs 2 _ rfl
  have q3 : w3.cell? ⟨b0, o0 + i * 6 + 3, none⟩ = some (.int .i64 r0.last) := hcs 3 _ rfl
  have q4 : w3.cell? ⟨b0, o0 + i * 6 + 4, none⟩ = some (.int .i64 r0.scale) := hcs 4 _ rfl
  have q5 : w3.cell? ⟨b0, o0 + i * 6 + 5, none⟩ = some (.slice p0 r0.pts.length c0) := hcs 5 _ rfl
  clear hcs
  go_upto_region 9 with (fail)
  clear k1 f1 k2 f2 k3 f3
  refine wp_cutB w (Bc w.heap.size #[.slice (some ⟨b0, o0, none⟩) rows.length cap] 27 <| Bc (w.heap.size + 1) #[.int .i64 4, .string x.name, .int .i64 x.eps, .int .i64 x.floor, .int .i64 x.scale, .slice px x.pts.length cx] 52 <| Bc (w.heap.size + 1 + 1) #[.slice none 0 0] 27 <| Bc w3.heap.size #[.string r0.name, .int .i64 r0.eps, .int .i64 r0.floor, .int .i64 r0.last, .int .i64 r0.scale, .slice p0 r0.pts.length c0] 35 <| Bz) ?_
  clear b1 b2 b3 hW
  rintro W6 hW z7 ⟨⟨b1, yb1, k1, f1⟩, ⟨b2, yb2, k2, f2⟩, ⟨b3, yb3, k3, f3⟩, ⟨b4, yb4, k4, f4⟩, -⟩
  clear q0 q1 q2 q3 q4 q5
  go_wp2_with fail
  refine (c2.out _).mono ?_
  rintro e w8 ⟨rfl, hb8⟩
  have z9 := hb8.size
  try simp at z9
  clear k1 f1 k2 f2 k3 f3 k4 f4
  refine haveB w w8 (Bc w.heap.size #[.slice (some ⟨b0, o0, none⟩) rows.length cap] 27 <| Bc (w.heap.size + 1) #[.int .i64 4, .string x.name, .int .i64 x.eps, .int .i64 x.floor, .int .i64 x.scale, .slice px x.pts.length cx] 52 <| Bc (w.heap.size + 1 + 1) #[.slice none 0 0] 27 <| Bc w3.heap.size #[.string r0.name, .int .i64 r0.eps, .int .i64 r0.floor, .int .i64 r0.last, .int .i64 r0.scale, .slice p0 r0.pts.length c0] 35 <| Bz) ?_
  clear b1 b2 b3 b4 hW
  rintro hW z10 ⟨⟨b1, yb1, k1, f1⟩, ⟨b2, yb2, k2, f2⟩, ⟨b3, yb3, k3, f3⟩, ⟨b4, yb4, k4, f4⟩, -⟩
  clear hb8
  go_wp2
  have d2 := b3.set2 (i := 0) (v := .slice none 0 0) (cs' := #[.slice none 0 0]) rfl
  have d0 := d2.cell 0
  simp only [List.getElem?_toArray, List.getElem?_cons_zero] at d0
  refine bodyPost_ret (v := .tuple #[.agg #[.slice none 0 0], .int .i64 (343)]) (by simp [results, Tryz.results19, go_sem, d0]) rfl ⟨rfl, hW.setCell (by simp; omega) _⟩
end Go.Proofs.YtdeghcgakkhbmaaGreat
namespace Go.Proofs.YtdeghcgakkhbmaaGreat
open Go.RowKit
set_option maxRecDepth 100000 in
set_option maxHeartbeats 2000000 in
theorem rdo_points (b0 o0 cap : Nat) (rows : List RawT) (x : MutT) (ad : Addr) (cx : Nat) (w : World) (i : Nat) (r0 : RawT) (p0 : Option Addr) (c0 : Nat) (hrow : Hid (∀ j v, (rawA r0 p0 c0)[j]? = some v → w.cell? ⟨b0, o0 + i * 6 + j, none⟩ = some v)) (hir : i < rows.length) (hmx : rows.length ≤ 100) (R : List RawT) (tl yl : Int) (hpx : Hid (PtsIn w (some ad) x.pts)) (hpt0 : Hid (PtsIn w p0 r0.pts)) (hn0 : p0 = none → r0.pts.length = 0 ∧ c0 = 0) (hr2 : r0.pts.length ≤ 2000) (h1 : 1 ≤ x.pts.length) (h16 : x.pts.length ≤ 16) (hlast : Hid (x.pts[x.pts.length - 1]? = some (tl, yl))) (c1 : Hid (∀ W, Below w.heap.size w W → Calls Tryz.prog 34 #[.agg #[.slice (some ⟨b0, o0, none⟩) rows.length cap], .string x.name] W fun e w' => e = .returned (.int .i64 (i : Int)) ∧ Below W.heap.size W w'))
    (c2 : Hid (∀ W, Below w.heap.size w W → Calls Tryz.prog 53 #[.slice (some ad) x.pts.length cx, .int .i64 r0.last, .int .i64 r0.floor, .int .i64 (r0.pts.length : Int)] W fun e w' => e = .returned (.int .i64 0) ∧ Below W.heap.size W w'))
    (c4 : Hid (∀ W py cy, Below w.heap.size w W → PtsIn W py (r0.pts ++ x.pts) → (r0.pts ++ x.pts).length ≤ cy → (py = none → cy = 0) → Calls Tryz.prog 54 #[.agg #[.slice (some ⟨b0, o0, none⟩) rows.length cap], .agg #[.string r0.name, .int .i64 r0.eps, .int .i64 r0.floor, .int .i64 tl, .int .i64 r0.scale, .slice py (r0.pts ++ x.pts).length cy]] W fun e w' => ∃ p' c', e = .returned (.agg #[.slice p' R.length c']) ∧ Below W.heap.size W w' ∧ RawsIn w' p' R)) :
    Calls Tryz.prog 19 #[.agg #[.slice (some ⟨b0, o0, none⟩) rows.length cap], .agg #[.int .i64 3, .string x.name, .int .i64 x.eps, .int .i64 x.floor, .int .i64 x.scale, .slice (some ad) x.pts.length cx]] w fun e w' => ∃ p' c', e = .returned (.tuple #[.agg #[.slice p' R.length c'], .int .i64 (0)]) ∧ Below w.heap.size w w' ∧ RawsIn w' p' R := by
  obtain ⟨ip, hip, hpz0, hpz1, hpz2⟩ := info_parts Tryz.infoPt
  go_enter Tryz.func19, Tryz.ntmps19
  have g1 : ¬((x.pts.length : Int) < 1) := by omega
  have g2 : ¬((16 : Int) < (x.pts.length : Int)) := by omega
  go_upto_region 1 with (fail)
  refine wp_cutB w (Bc w.heap.size #[.slice (some ⟨b0, o0, none⟩) rows.length cap] 27 <| Bc (w.heap.size + 1) #[.int .i64 3, .string x.name, .int .i64 x.eps, .int .i64 x.floor, .int .i64 x.scale, .slice (some ad) x.pts.length cx] 52 <| Bc (w.heap.size + 1 + 1) #[.slice none 0 0] 27 <| Bz) ?_
  rintro W1 hW z2 ⟨⟨b1, yb1, k1, f1⟩, ⟨b2, yb2, k2, f2⟩, ⟨b3, yb3, k3, f3⟩, -⟩
  go_wp2_with fail
  refine (c1.out _ hW).mono ?_
  rintro e w3 ⟨rfl, hb3⟩
  have z4 := hb3.size
  try simp at z4
  clear k1 f1 k2 f2 k3 f3
  refine haveB w w3 (Bc w.heap.size #[.slice (some ⟨b0, o0, none⟩) rows.length cap] 27 <| Bc (w.heap.size + 1) #[.int .i64 3, .string x.name, .int .i64 x.eps, .int .i64 x.floor, .int .i64 x.scale, .slice (some ad) x.pts.length cx] 52 <| Bc (w.heap.size + 1 + 1) #[.slice none 0 0] 27 <| Bz) ?_
  clear b1 b2 b3 hW
  rintro hW z5 ⟨⟨b1, yb1, k1, f1⟩, ⟨b2, yb2, k2, f2⟩, ⟨b3, yb3, k3, f3⟩, -⟩
  clear hb3
  have hcs : ∀ j v, (rawA r0 p0 c0)[j]? = some v → w3.cell? ⟨b0, o0 + i * 6 + j, none⟩ = some v := fun j v hv => ((bcell hW).1 b0 _ (cell_lt (hrow.out j v hv))).trans (hrow.out j v hv)
  have q0 : w3.cell? ⟨b0, o0 + i * 6, none⟩ = some (.string r0.name) := hcs 0 _ rfl
  have q1 : w3.cell? ⟨b0, o0 + i * 6 + 1, none⟩ = some (.int .i64 r0.eps) := hcs 1 _ rfl
  have q2 : w3.cell? ⟨b0, o0 + i * 6 + 2, none⟩ = some (.int .i64 r0.floor) := hcs 2 _ rfl
  have q3 : w3.cell? ⟨b0, o0 + i * 6 + 3, none⟩ = some (.int .i64 r0.last) := hcs 3 _ rfl
  have q4 : w3.cell? ⟨b0, o0 + i * 6 + 4, none⟩ = some (.int .i64 r0.scale) := hcs 4 _ rfl
  have q5 : w3.cell? ⟨b0, o0 + i * 6 + 5, none⟩ = some (.slice p0 r0.pts.length c0) := hcs 5 _ rfl
  clear hcs
  go_upto_region 9 with (fail)
  clear k1 f1 k2 f2 k3 f3
  refine wp_cutB w (Bc w.heap.size #[.slice (some ⟨b0, o0, none⟩) rows.length cap] 27 <| Bc (w.heap.size + 1) #[.int .i64 3, .string x.name, .int .i64 x.eps, .int .i64 x.floor, .int .i64 x.scale, .slice (some ad) x.pts.length cx] 52 <| Bc (w.heap.size + 1 + 1) #[.slice none 0 0] 27 <| Bc w3.heap.size #[.string r0.name, .int .i64 r0.eps, .int .i64 r0.floor, .int .i64 r0.last, .int .i64 r0.scale, .slice p0 r0.pts.length c0] 35 <| Bz) ?_
  clear b1 b2 b3 hW
  rintro W6 hW z7 ⟨⟨b1, yb1, k1, f1⟩, ⟨b2, yb2, k2, f2⟩, ⟨b3, yb3, k3, f3⟩, ⟨b4, yb4, k4, f4⟩, -⟩
  clear q0 q1 q2 q3 q4 q5
  go_wp2_with fail
  refine (c2.out _ hW).mono ?_
  rintro e w8 ⟨rfl, hb8⟩
  have z9 := hb8.size
  try simp at z9
  clear k1 f1 k2 f2 k3 f3 k4 f4
  refine haveB w w8 (Bc w.heap.size #[.slice (some ⟨b0, o0, none⟩) rows.length cap] 27 <| Bc (w.heap.size + 1) #[.int .i64 3, .string x.name, .int .i64 x.eps, .int .i64 x.floor, .int .i64 x.scale, .slice (some ad) x.pts.length cx] 52 <| Bc (w.heap.size + 1 + 1) #[.slice none 0 0] 27 <| Bc w3.heap.size #[.string r0.name, .int .i64 r0.eps, .int .i64 r0.floor, .int .i64 r0.last, .int .i64 r0.scale, .slice p0 r0.pts.length c0] 35 <| Bz) ?_
  clear b1 b2 b3 b4 hW
  rintro hW z10 ⟨⟨b1, yb1, k1, f1⟩, ⟨b2, yb2, k2, f2⟩, ⟨b3, yb3, k3, f3⟩, ⟨b4, yb4, k4, f4⟩, -⟩
  clear hb8
  go_upto_region 16 with (fail)
  clear k1 f1 k2 f2 k3 f3 k4 f4
  refine wp_cutB w (Bc w.heap.size #[.slice (some ⟨b0, o0, none⟩) rows.length cap] 27 <| Bc (w.heap.size + 1) #[.int .i64 3, .string x.name, .int .i64 x.eps, .int .i64 x.floor, .int .i64 x.scale, .slice (some ad) x.pts.length cx] 52 <| Bc (w.heap.size + 1 + 1) #[.slice none 0 0] 27 <| Bc w3.heap.size #[.string r0.name, .int .i64 r0.eps, .int .i64 r0.floor, .int .i64 r0.last, .int .i64 r0.scale, .slice p0 r0.pts.length c0] 35 <| Bz) ?_
  clear b1 b2 b3 b4 hW
  rintro W11 hW z12 hL
  obtain ⟨⟨b1, yb1, k1, f1⟩, ⟨b2, yb2, k2, f2⟩, ⟨b3, yb3, k3, f3⟩, ⟨b4, yb4, k4, f4⟩, -⟩ := id hL
  clear k1 f1 k2 f2 k3 f3 k4 f4
  refine wp_regD 6 141 hW hL ?_
  apply nd_mem (MadeV W11.heap.size 58) (hg := rfl) (hal := rfl)
  · exact MadeV.closed _ _
  · intro a' W' hC hE
    exact ⟨.slice (some ⟨W'.heap.size, 0, none⟩) 0 0, W'.alloc (.cells #[] 58), by kernel_rfl, (Below.refl _ _).alloc (Nat.le_refl _) _, W'.heap.size, rfl, hC.1.size, Blk.new' rfl⟩
  iterate 2 refine dA ?_
  apply nd_mem (ApO W11.heap.size r0.pts) (hg := rfl) (hal := rfl)
  · exact ApO.closed _ _
  · intro a' W' hC hE
    have h9 := (hW.trans (hC.1.of_priv hW.size))
    simp [Oper.looksAt, Op.operands, Call.operands, envOf, Det] at hE
    obtain ⟨⟨g9, hv9, hgB9, hgb9⟩, hx9⟩ := hE
    obtain ⟨i9, hi9, hz0, hz1, hz2⟩ := info_parts Tryz.infoPt
    obtain ⟨v9, w9, hr9, hB9, hO9⟩ := app_ownX (P := Tryz.prog) (m := r0.pts.length) (p := p0) (c := c0) (news := flatPts r0.pts) 33 33 58 i9 _ 2 16 (by kernel_rfl) hi9 hz0 hz1 hz2 rfl (by omega) hgb9 hn0 (flatPts_len9 r0.pts) (fun a ha j u hu => pts_flat9 (ha ▸ hpt0.out.below h9) j u hu) (fun u hu => flatPts_one9 _ u hu) (by omega) (by omega)
    refine ⟨v9, w9, ?_, hB9, OwnR.mono (OwnR.mk hO9) (by omega)⟩
    simp [execOp, resolve, invoke, builtin, Act.eval, hx9, hv9, hr9, Result.andThen]
  iterate 2 refine dA ?_
  clear hW hL b1 b2 b3 b4
  rintro W13 hW z14 hL
  simp only [ndR]
  intros
  repeat (rename GDet _ _ _ _ => hgd; clear hgd)
  simp only [ndS]
  obtain ⟨⟨b1, yb1, k1, f1⟩, ⟨b2, yb2, k2, f2⟩, ⟨b3, yb3, k3, f3⟩, ⟨b4, yb4, k4, f4⟩, -⟩ := hL
  rename ApO _ _ _ _ => hap
  repeat (rename MadeV _ _ _ _ => hm; clear hm)
  obtain ⟨v0, c9, hvv, -, -, -, -⟩ := OwnR.form hap
  have hap' : OwnR W13 _ 58 2 _ r0.pts.length (flatPts r0.pts) := OwnR.mono hap (show w.heap.size ≤ _ by omega)
  subst hvv
  clear hap
  have hpxW := hpx.out.below hW
  have hBs := hW.size
  go_wp2_with (at_builtin; refine wpList_append_own _ rfl (.tmp 85) (.tmp 87) 33 rfl w.heap.size 58 ip _ 2 16 (by kernel_rfl) hip hpz0 hpz1 hpz2 rfl (by omega) _ r0.pts.length (flatPts r0.pts) rfl hap'.own ad x.pts.length cx (flatPts x.pts) rfl (flatPts_len9 _) (fun j u hu => pts_flat9 hpxW j u hu) (fun v hv => flatPts_one9 _ v hv) (by simp [maxLen]; omega) (by omega) (by omega) ?_)
  intro v' w' hown hgr hvn
  rw [← flatPts_append] at hown
  obtain ⟨p', c', rfl, -, -, -, -⟩ := (OwnR.mk hown).form
  have d1 := Blk.grown0 b1 hap'.own (by decide) hgr
  have d2 := Blk.grown0 b2 hap'.own (by decide) hgr
  have d3 := Blk.grown0 b3 hap'.own (by decide) hgr
  have d4 := Blk.grown0 b4 hap'.own (by decide) hgr
  have hB9 : Below w.heap.size w w' := hW.trans (grown_belowB hap'.own hgr hBs)
  have hz9 := hB9.size
  obtain ⟨L1, hL1⟩ : ∃ l, l = r0.pts ++ x.pts := ⟨_, rfl⟩
  have hl1 : r0.pts.length + x.pts.length = L1.length := by rw [hL1, List.length_append]
  rw [← hL1, hl1] at hown
  rw [hl1]
  replace hL1 := Lib.hid hL1
  replace hl1 := Lib.hid hl1
  have e4 := d4.set2 (i := 5) (v := .slice p' L1.length c') (cs' := #[.string r0.name, .int .i64 r0.eps, .int .i64 r0.floor, .int .i64 r0.last, .int .i64 r0.scale, .slice p' L1.length c']) rfl
  have yX := d4.lt
  have eB : Below w.heap.size w (w'.setCell ⟨w3.heap.size, 5, none⟩ (.slice p' L1.length c')) := hB9.setCell (by simp; omega) _
  have HH := Lib.hid (And.intro (Blk.setO (g := w3.heap.size) d1 (by omega) 5 (.slice p' L1.length c')) (And.intro (Blk.setO (g := w3.heap.size) d2 (by omega) 5 (.slice p' L1.length c')) (And.intro (Blk.setO (g := w3.heap.size) d3 (by omega) 5 (.slice p' L1.length c')) (And.intro e4 (And.intro eB ((OwnR.mk hown).setX (j := 5) (u := .slice p' L1.length c') (own_apart hown d4 (by decide))))))))
  have k9 := d4.cell
  have f9 := d4.frozen
  clear d1 d2 d3 d4 e4 eB hown hgr hvn hap' hpxW b1 b2 b3 b4 hW hB9 k1 f1 k2 f2 k3 f3 k4 f4
  go_upto_region 17 with (fail)
  clear k9 f9 yX
  obtain ⟨b1, b2, b3, b4, hW, hown⟩ := HH.out
  clear HH hz9
  generalize World.setCell w' _ _ = w8 at b1 b2 b3 b4 hW hown ⊢
  obtain ⟨X, hX⟩ : ∃ X, X = w3.heap.size := ⟨_, rfl⟩
  have hXw : w.heap.size + 1 + 1 < X := by omega
  rw [← hX] at b4 ⊢
  have hN1 : x.pts.length - 1 < x.pts.length := by omega
  have hE1 : wrap64 ((x.pts.length : Int) - 1) = ((x.pts.length - 1 : Nat) : Int) := by rw [wrap64_eq]; omega
  obtain ⟨bx, ox, ex, qx, -⟩ := (hpx.out.below hW).at' _ _ hlast.out
  injection ex with ex
  subst ex
  have hzx := cell_lt qx
  try simp only at hzx
  replace hown := Lib.hid hown
  clear hX
  have yb1 := b1.lt
  have yb2 := b2.lt
  have yb3 := b3.lt
  have yb4 := b4.lt
  have hz8 := hW.size
  have k1 := b1.cell
  have f1 := b1.frozen
  have k2 := b2.cell
  have f2 := b2.frozen
  have k3 := b3.cell
  have f3 := b3.frozen
  have k4 := b4.cell
  have f4 := b4.frozen
  have hN2 := Nat.not_le.2 hN1
  go_upto_region 18 with (fail)
  clear qx hzx hN2 hE1 hN1
  have hO9 := Lib.hid (hown.out.setX (j := 3) (u := .int .i64 tl) (own_apart hown.out.own b4 (by decide)))
  clear hown
  clear k1 f1 k2 f2 k3 f3 k4 f4
  refine wp_cutB w (Bc w.heap.size #[.slice (some ⟨b0, o0, none⟩) rows.length cap] 27 <| Bc (w.heap.size + 1) #[.int .i64 3, .string x.name, .int .i64 x.eps, .int .i64 x.floor, .int .i64 x.scale, .slice (some ⟨bx, ox, none⟩) x.pts.length cx] 52 <| Bc (w.heap.size + 1 + 1) #[.slice none 0 0] 27 <| Bc X #[.string r0.name, .int .i64 r0.eps, .int .i64 r0.floor, .int .i64 tl, .int .i64 r0.scale, .slice p' L1.length c'] 35 <| Rc (fun W' => OwnR W' w.heap.size 58 2 (.slice p' L1.length c') L1.length (flatPts L1)) <| Bz) ?_ (hI := by exact belowAny) (hR := (Bc.mk (by exact blkAny2) <| Bc.mk (by exact blkAny2) <| Bc.mk (by exact blkAny2) <| Bc.mk (by exact blkAny2) <| Rc.mk (by exact hO9.out) <| trivial))
  clear b1 b2 b3 b4 hW
  rintro W201 hW z202 ⟨⟨b1, yb1, k1, f1⟩, ⟨b2, yb2, k2, f2⟩, ⟨b3, yb3, k3, f3⟩, ⟨b4, yb4, k4, f4⟩, b5, -⟩
  rw [← hL1.out] at c4
  have hPO : PtO _ w.heap.size p' c' L1 := b5
  clear b5 hO9
  have hPi := hPO.row.pts
  have hPc := hPO.cap
  go_wp2_with fail
  refine (c4.out _ p' c' hW hPi hPc.1 hPc.2).mono ?_
  rintro e w203 ⟨p9, c9', rfl, hb203, hR⟩
  have z204 := hb203.size
  try simp at z204
  clear k1 f1 k2 f2 k3 f3 k4 f4
  refine haveB w w203 (Bc w.heap.size #[.slice (some ⟨b0, o0, none⟩) rows.length cap] 27 <| Bc (w.heap.size + 1) #[.int .i64 3, .string x.name, .int .i64 x.eps, .int .i64 x.floor, .int .i64 x.scale, .slice (some ⟨bx, ox, none⟩) x.pts.length cx] 52 <| Bc (w.heap.size + 1 + 1) #[.slice none 0 0] 27 <| Bc X #[.string r0.name, .int .i64 r0.eps, .int .i64 r0.floor, .int .i64 tl, .int .i64 r0.scale, .slice p' L1.length c'] 35 <| Bz) ?_
  clear b1 b2 b3 b4 hW
  rintro hW z205 ⟨⟨b1, yb1, k1, f1⟩, ⟨b2, yb2, k2, f2⟩, ⟨b3, yb3, k3, f3⟩, ⟨b4, yb4, k4, f4⟩, -⟩
  clear hPi hPc hPO
  replace hR := Lib.hid hR
  go_wp2
  have d2 := b3.set2 (i := 0) (v := .slice p9 R.length c9') (cs' := #[.slice p9 R.length c9']) rfl
  have d0 := d2.cell 0
  simp only [List.getElem?_toArray, List.getElem?_cons_zero] at d0
  refine bodyPost_ret (v := .tuple #[.agg #[.slice p9 R.length c9'], .int .i64 (0)]) (by simp [results, Tryz.results19, go_sem, d0]) rfl ⟨p9, c9', rfl, hW.setCell (by simp; omega) _, hR.out.store b3⟩
end Go.Proofs.YtdeghcgakkhbmaaGreat
