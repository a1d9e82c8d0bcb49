/- Parts of the proof that follows: The document's segments: Kind, Right walked. | The document's segments: Right, Points told. | References 13, 14, 18, 24: what a name, a bound, a scale, a time, a point may be; a segment's last time; which segment begins behind another. No condition but that the segments may be. | Layer merge: a bound for segments; the document's. No condition. | Layer span: Least, Most. No condition but that there is a span, and that they may be. | Layer span: Plus, Around. No condition but that the spans may be. | Layer wide: Sub. -/
import Derived.Test.YtbanjolokkghdaaGreatDoorMz20
set_option maxRecDepth 100000
set_option maxHeartbeats 8000000
set_option linter.unusedSimpArgs false
set_option linter.unusedVariables false
namespace Go.Proofs.YtbanjolokkghdaaGreatDoor
open Go.RowKit
attribute [local simp] Oper.looksAt Op.operands Call.operands envOf Det GDet
theorem ite_z4 {A R n d : Int} {w : World} : ((if A = 0 then (if R = 0 then (if n = 0 then (if d = 0 then Result.ok (Go.Next.value (Value.bool false)) w else Result.ok (Go.Next.value (Value.bool true)) w) else Result.ok (Go.Next.value (Value.bool true)) w) else Result.ok (Go.Next.value (Value.bool true)) w) else Result.ok (Go.Next.value (Value.bool true)) w) : Result Go.Next) = Result.ok (Go.Next.value (Value.bool (!(lineZ A R n d)))) w := by
 unfold lineZ
 by_cases h1 : A = 0 <;> by_cases h2 : R = 0 <;> by_cases h3 : n = 0 <;> by_cases h4 : d = 0 <;> simp [h1, h2, h3, h4]
theorem nd_on {P : Program} {ops : Array Oper} {C : World -> Prop} {X : List (Nat × Nat)} {a0 : Act} {Fin : List (Option Tmp × Spec) -> Prop} {i : Nat} {o : Oper} {rest : List Oper} {acc : List (Option Tmp × Spec)}
  (Φ : Spec) (want : Bool) (k : Nat) (d : Tmp) (hcl : Closed (others X i) Φ) (hg : o.guard = some (k, want)) (hd : wrOf ops k = some d) (hx : ∀ v w, envOf a0 acc d v w -> v = .bool want)
  (h : ∀ (a : Act) (w : World), C w -> (∀ s ∈ o.looksAt ops, envOf a0 acc s (a.tmps.getD s undef) w) -> runND P o (priv X i) Φ w ((execOp a.eval o).run P w))
  (hr : ndWalk P ops C X a0 Fin (i + 1) rest ((o.dst, Φ) :: acc)) : ndWalk P ops C X a0 Fin i (o :: rest) acc := by
 refine ⟨Φ, hcl, fun a w hC hE => ?_, hr⟩
 have hin : d ∈ o.looksAt ops := by
  unfold wrOf at hd
  simp [Oper.looksAt, hg, hd]
 have hv := hx _ _ (hE d hin)
 have hw := wanted_some (o := o) hg hd hv
 refine ⟨fun _ => h a w hC hE, fun e => ?_⟩
 rw [hw] at e
 simp at e
theorem nd_oncall {P : Program} {ops : Array Oper} {C : World -> Prop} {X : List (Nat × Nat)} {a0 : Act} {Fin : List (Option Tmp × Spec) -> Prop} {i : Nat} {o : Oper} {rest : List Oper} {acc : List (Option Tmp × Spec)}
  (Φ : Spec) {want : Bool} {k : Nat} {d : Tmp} (hcl : Closed (others X i) Φ) (hg : o.guard = some (k, want)) (hd : wrOf ops k = some d) (hal : isAlloc o = false) (hx : ∀ v w, envOf a0 acc d v w -> v = .bool want)
  (h : ∀ (a : Act) (w : World), C w -> (∀ s ∈ o.looksAt ops, envOf a0 acc s (a.tmps.getD s undef) w) -> ∃ f args, (execOp a.eval o).run P w = .ok (.enter f args) w /\ Calls P f args w fun e w' => ∃ u, e = .returned u /\ Below w.heap.size w w' /\ Φ u w')
  (hr : ndWalk P ops C X a0 Fin (i + 1) rest ((o.dst, Φ) :: acc)) : ndWalk P ops C X a0 Fin i (o :: rest) acc :=
 nd_on Φ want k d hcl hg hd hx (fun a w hC hE => by
  obtain ⟨f, args, h1, h2⟩ := h a w hC hE
  rw [h1]
  exact ⟨rfl, hal, h2.mono fun e w' ⟨u, he, hb, hΦ⟩ => ⟨u, he, Rex.of_below hb, hΦ⟩⟩) hr
theorem nd_onval {P : Program} {ops : Array Oper} {C : World -> Prop} {X : List (Nat × Nat)} {a0 : Act} {Fin : List (Option Tmp × Spec) -> Prop} {i : Nat} {o : Oper} {rest : List Oper} {acc : List (Option Tmp × Spec)}
  (Φ : Spec) {want : Bool} {k : Nat} {d : Tmp} (hcl : Closed (others X i) Φ) (hg : o.guard = some (k, want)) (hd : wrOf ops k = some d) (hal : isAlloc o = false) (hx : ∀ v w, envOf a0 acc d v w -> v = .bool want)
  (h : ∀ (a : Act) (w : World), C w -> (∀ s ∈ o.looksAt ops, envOf a0 acc s (a.tmps.getD s undef) w) -> ∃ v, (execOp a.eval o).run P w = .ok (.value v) w /\ Φ v w)
  (hr : ndWalk P ops C X a0 Fin (i + 1) rest ((o.dst, Φ) :: acc)) : ndWalk P ops C X a0 Fin i (o :: rest) acc :=
 nd_on Φ want k d hcl hg hd hx (fun a w hC hE => by
  obtain ⟨v, h1, h2⟩ := h a w hC hE
  rw [h1]
  exact ⟨Rex.refl _ _, h2, fun e => by rw [hal] at e; cases e⟩) hr
def OV (B : Nat) (T : List Int) : Spec := fun v w => OwnR w B 2 1 v T.length (T.map (Value.int .i64))
theorem OV.closed (B : Nat) (T : List Int) : Closed [] (OV B T) := fun _ _ _ hr h => OwnR.rex h hr rfl
def kindR (R n : Int) : Int := if n = 0 then 1 else if R = 0 then 2 else 3
theorem c_rkind (A R n d : Int) (w : World) : Calls Tryz.prog 32 #[.agg #[.int .i64 A, .int .i64 R, .int .i64 n, .int .i64 d]] w fun e w' => e = .returned (.int .i64 (kindR R n)) /\ Below w.heap.size w w' := by
 unfold kindR
 go_enter Tryz.func32, Tryz.ntmps32
 by_cases h1 : n = 0
 ·subst h1
  rw [if_pos rfl]
  go_wp2
  go_ret
  exact ⟨rfl, belowAny⟩
 ·rw [if_neg h1]
  have h1' : (n == 0) = false := by simp [h1]
  by_cases h2 : R = 0
  ·subst h2
   rw [if_pos rfl]
   go_wp2
   go_ret
   exact ⟨rfl, belowAny⟩
  ·rw [if_neg h2]
   have h2' : (R == 0) = false := by simp [h2]
   go_wp2
   go_ret
   exact ⟨rfl, belowAny⟩
theorem rr_no1 (K A R n d E : Int) (p q : Option Addr) (len cap m vc : Nat) (w : World) (c1 : ∀ W, Below w.heap.size w W -> Calls Tryz.prog 29 #[.slice p len cap] W fun e w' => e = .returned (.bool false) /\ Below W.heap.size W w') :
  Calls Tryz.prog 7 #[.agg #[.int .i64 K, .slice p len cap, .int .i64 A, .int .i64 R, .int .i64 n, .int .i64 d, .slice q m vc, .int .i64 E]] w fun e w' => e = .returned (.bool false) /\ Below w.heap.size w w' := by
 have H_c1 := Lib.hid c1
 clear c1
 go_enter Tryz.func7, Tryz.ntmps7
 go_wp2_with fail
 refine (H_c1.out _ belowAny).mono ?_
 rintro e w1 ⟨rfl, hb1⟩
 have z2 := hb1.size
 try simp at z2
 refine haveB w w1 (Bc w.heap.size #[.int .i64 K, .slice p len cap, .int .i64 A, .int .i64 R, .int .i64 n, .int .i64 d, .slice q m vc, .int .i64 E] 29 <| Bz) ?_
 rintro hW z3 ⟨⟨b1, yb1, k1, f1⟩, -⟩
 clear hb1
 go_wp2
 refine bodyPost_ret (v := .bool false) (by simp [results, Tryz.results7, go_sem, k1, f1, yb1]) rfl ⟨rfl, hW⟩
theorem rr_no2 (K A R n d E : Int) (p q : Option Addr) (len cap m vc : Nat) (w : World) (hE : E < 0 ∨ 1099511627776 < E) (c1 : ∀ W, Below w.heap.size w W -> Calls Tryz.prog 29 #[.slice p len cap] W fun e w' => e = .returned (.bool true) /\ Below W.heap.size W w') :
  Calls Tryz.prog 7 #[.agg #[.int .i64 K, .slice p len cap, .int .i64 A, .int .i64 R, .int .i64 n, .int .i64 d, .slice q m vc, .int .i64 E]] w fun e w' => e = .returned (.bool false) /\ Below w.heap.size w w' := by
 rcases hE with hE | hE
 ·have H_c1 := Lib.hid c1
  clear c1
  go_enter Tryz.func7, Tryz.ntmps7
  go_wp2_with fail
  refine (H_c1.out _ belowAny).mono ?_
  rintro e w1 ⟨rfl, hb1⟩
  have z2 := hb1.size
  try simp at z2
  refine haveB w w1 (Bc w.heap.size #[.int .i64 K, .slice p len cap, .int .i64 A, .int .i64 R, .int .i64 n, .int .i64 d, .slice q m vc, .int .i64 E] 29 <| Bz) ?_
  rintro hW z3 ⟨⟨b1, yb1, k1, f1⟩, -⟩
  clear hb1
  go_wp2
  refine bodyPost_ret (v := .bool false) (by simp [results, Tryz.results7, go_sem, k1, f1, yb1]) rfl ⟨rfl, hW⟩
 ·have H_c1 := Lib.hid c1
  clear c1
  go_enter Tryz.func7, Tryz.ntmps7
  go_wp2_with fail
  refine (H_c1.out _ belowAny).mono ?_
  rintro e w1 ⟨rfl, hb1⟩
  have z2 := hb1.size
  try simp at z2
  refine haveB w w1 (Bc w.heap.size #[.int .i64 K, .slice p len cap, .int .i64 A, .int .i64 R, .int .i64 n, .int .i64 d, .slice q m vc, .int .i64 E] 29 <| Bz) ?_
  rintro hW z3 ⟨⟨b1, yb1, k1, f1⟩, -⟩
  clear hb1
  go_wp2
  refine bodyPost_ret (v := .bool false) (by simp [results, Tryz.results7, go_sem, k1, f1, yb1]) rfl ⟨rfl, hW⟩
theorem rr_raw0 (A R n d E : Int) (p q : Option Addr) (len cap m vc : Nat) (w : World) (hE0 : 0 <= E) (hE1 : E <= 1099511627776) (hz : Hid (lineZ A R n d = false)) (c1 : ∀ W, Below w.heap.size w W -> Calls Tryz.prog 29 #[.slice p len cap] W fun e w' => e = .returned (.bool true) /\ Below W.heap.size W w') :
  Calls Tryz.prog 7 #[.agg #[.int .i64 4, .slice p len cap, .int .i64 A, .int .i64 R, .int .i64 n, .int .i64 d, .slice q m vc, .int .i64 E]] w fun e w' => e = .returned (.bool false) /\ Below w.heap.size w w' := by
 have H_c1 := Lib.hid c1
 clear c1
 go_enter Tryz.func7, Tryz.ntmps7
 go_wp2_with fail
 refine (H_c1.out _ belowAny).mono ?_
 rintro e w1 ⟨rfl, hb1⟩
 have z2 := hb1.size
 try simp at z2
 refine haveB w w1 (Bc w.heap.size #[.int .i64 4, .slice p len cap, .int .i64 A, .int .i64 R, .int .i64 n, .int .i64 d, .slice q m vc, .int .i64 E] 29 <| Bz) ?_
 rintro hW z3 ⟨⟨b1, yb1, k1, f1⟩, -⟩
 clear hb1
 go_upto_region 4 with (fail)
 clear k1 f1
 refine wp_cutB w (Bc w.heap.size #[.int .i64 4, .slice p len cap, .int .i64 A, .int .i64 R, .int .i64 n, .int .i64 d, .slice q m vc, .int .i64 E] 29 <| Bz) ?_
 clear b1 hW
 rintro W4 hW z5 hL
 obtain ⟨⟨b1, yb1, k1, f1⟩, -⟩ := id hL
 clear k1 f1
 refine wp_regD 14 60 hW hL ?_
 iterate 5
  apply nd_det (hg := rfl) (hal := rfl)
  ·intro a W' hC hE
   obtain ⟨_, ⟨-, -, k1, -⟩, -⟩ := hC
   first
    | (simp at hE; simp [go_sem, Act.eval, IntWalk.i64_left, hE, k1, ite_z4, hz.out]; try rfl)
    | (clear hE; simp [go_sem, Act.eval, IntWalk.i64_left, k1, ite_z4, hz.out]; try rfl)
 apply nd_detg (p := true) (c := undef) (hg := rfl) (hd := rfl) (hal := rfl)
 ·intro v W' h
  simp at h
  simp
  exact h
 ·intro hp hx
  exact absurd hx (by decide)
 apply nd_detg (p := true) (c := undef) (hg := rfl) (hd := rfl) (hal := rfl)
 ·intro v W' h
  simp at h
  simp
  exact h
 ·intro hp hx
  exact absurd hx (by decide)
 apply nd_detg (p := true) (c := undef) (hg := rfl) (hd := rfl) (hal := rfl)
 ·intro v W' h
  simp at h
  simp
  exact h
 ·intro hp hx
  exact absurd hx (by decide)
 apply nd_detg (p := true) (c := undef) (hg := rfl) (hd := rfl) (hal := rfl)
 ·intro v W' h
  simp at h
  simp
  exact h
 ·intro hp hx
  exact absurd hx (by decide)
 apply nd_detg (p := true) (c := undef) (hg := rfl) (hd := rfl) (hal := rfl)
 ·intro v W' h
  simp at h
  simp
  exact h
 ·intro hp hx
  exact absurd hx (by decide)
 apply nd_detg (p := true) (c := undef) (hg := rfl) (hd := rfl) (hal := rfl)
 ·intro v W' h
  simp at h
  simp
  exact h
 ·intro hp hx
  exact absurd hx (by decide)
 apply nd_detg (p := true) (c := undef) (hg := rfl) (hd := rfl) (hal := rfl)
 ·intro v W' h
  simp at h
  simp
  exact h
 ·intro hp hx
  exact absurd hx (by decide)
 apply nd_detg (p := true) (c := undef) (hg := rfl) (hd := rfl) (hal := rfl)
 ·intro v W' h
  simp at h
  simp
  exact h
 ·intro hp hx
  exact absurd hx (by decide)
 apply nd_pick_or (y := false) (ho := rfl) (hg := rfl)
 ·intro v W' h
  simp at h
  exact h
 ·intro v W' h hx
  exact absurd hx (by decide)
 clear hW hL b1
 rintro W6 hW z7 hL
 simp only [ndR]
 intros
 repeat (rename GDet _ _ _ _ => hgd; clear hgd)
 simp only [ndS]
 refine wpList_nil ?_
 obtain ⟨⟨b1, yb1, k1, f1⟩, -⟩ := hL
 rw [Bool.true_or]
 go_wp2
 refine bodyPost_ret (v := .bool false) (by simp [results, Tryz.results7, go_sem, k1, f1, yb1]) rfl ⟨rfl, hW⟩
theorem rr_raw2 (A R n d E : Int) (p q : Option Addr) (len cap m vc : Nat) (w : World) (T : List Int) (ok : Bool) (hm : Hid (m = T.length)) (hE0 : 0 <= E) (hE1 : E <= 1099511627776) (hz : Hid (lineZ A R n d = true)) (c1 : ∀ W, Below w.heap.size w W -> Calls Tryz.prog 29 #[.slice p len cap] W fun e w' => e = .returned (.bool true) /\ Below W.heap.size W w') (c2 : ∀ W, Below w.heap.size w W -> Calls Tryz.prog 30 #[.slice p len cap] W fun e w' => ∃ v, e = .returned v /\ OwnR w' W.heap.size 2 1 v T.length (T.map (Value.int .i64)) /\ Below W.heap.size W w') (c3 : ∀ W, Below w.heap.size w W -> Calls Tryz.prog 33 #[.agg #[.int .i64 4, .slice p len cap, .int .i64 A, .int .i64 R, .int .i64 n, .int .i64 d, .slice q m vc, .int .i64 E]] W fun e w' => ∃ v, e = .returned (.tuple #[v, .bool ok]) /\ Below W.heap.size W w') :
  Calls Tryz.prog 7 #[.agg #[.int .i64 4, .slice p len cap, .int .i64 A, .int .i64 R, .int .i64 n, .int .i64 d, .slice q m vc, .int .i64 E]] w fun e w' => e = .returned (.bool ok) /\ Below w.heap.size w w' := by
 have H_c1 := Lib.hid c1
 clear c1
 have H_c2 := Lib.hid c2
 clear c2
 have H_c3 := Lib.hid c3
 clear c3
 go_enter Tryz.func7, Tryz.ntmps7
 go_wp2_with fail
 refine (H_c1.out _ belowAny).mono ?_
 rintro e w1 ⟨rfl, hb1⟩
 have z2 := hb1.size
 try simp at z2
 refine haveB w w1 (Bc w.heap.size #[.int .i64 4, .slice p len cap, .int .i64 A, .int .i64 R, .int .i64 n, .int .i64 d, .slice q m vc, .int .i64 E] 29 <| Bz) ?_
 rintro hW z3 ⟨⟨b1, yb1, k1, f1⟩, -⟩
 clear hb1
 have c2 := H_c2.out
 go_upto_region 4 with (fail)
 clear k1 f1
 refine wp_cutB w (Bc w.heap.size #[.int .i64 4, .slice p len cap, .int .i64 A, .int .i64 R, .int .i64 n, .int .i64 d, .slice q m vc, .int .i64 E] 29 <| Bz) ?_
 clear b1 hW
 rintro W4 hW z5 hL
 obtain ⟨⟨b1, yb1, k1, f1⟩, -⟩ := id hL
 clear k1 f1
 refine wp_regD 14 60 hW hL ?_
 iterate 5
  apply nd_det (hg := rfl) (hal := rfl)
  ·intro a W' hC hE
   obtain ⟨_, ⟨-, -, k1, -⟩, -⟩ := hC
   first
    | (simp at hE; simp [go_sem, Act.eval, IntWalk.i64_left, hE, k1, ite_z4, hz.out]; try rfl)
    | (clear hE; simp [go_sem, Act.eval, IntWalk.i64_left, k1, ite_z4, hz.out]; try rfl)
 iterate 5
  apply nd_detg (p := true) (hg := rfl) (hd := rfl) (hal := rfl)
  ·intro v W' h
   simp [envOf, Det, GDet] at h
   simp
   exact h
  ·intro hp hx a W' hC hE
   obtain ⟨_, ⟨-, -, k1, -⟩, -⟩ := hC
   simp [hx] at hE
   simp [go_sem, Act.eval, IntWalk.i64_left, hE, k1, ite_z4, hz.out]
   try rfl
 apply nd_oncall (OV 0 T) (hg := rfl) (hd := rfl) (hal := rfl)
 ·exact OV.closed _ _
 ·intro v W' h
  simp at h
  exact h
 ·intro a W' hC hE
  obtain ⟨hR9, k1⟩ := hC
  simp [Oper.looksAt, Op.operands, Call.operands, envOf, Det, GDet] at hE
  refine ⟨_, _, ?_, (H_c2.out W' (hW.trans (hR9.of_priv hW.size))).mono ?_⟩
  ·simp [go_sem, Act.eval, hE]
   try rfl
  ·rintro e w' ⟨v, rfl, hv, hB⟩
   exact ⟨_, rfl, hB, hv.mono (Nat.zero_le _)⟩
 apply nd_onval (Det (.int .i64 (T.length : Int))) (hg := rfl) (hd := rfl) (hal := rfl)
 ·exact closed_det _ _
 ·intro v W' h
  simp at h
  exact h
 ·intro a W' hC hE
  simp [Oper.looksAt, Op.operands, Call.operands, envOf, Det, GDet] at hE
  obtain ⟨h1, h2⟩ := hE
  obtain ⟨p9, c9, e9, -, -, -, -⟩ := OwnR.form h1
  refine ⟨_, ?_, rfl⟩
  simp [go_sem, Act.eval, e9]
 iterate 1
  apply nd_detg (p := true) (hg := rfl) (hd := rfl) (hal := rfl)
  ·intro v W' h
   simp [envOf, Det, GDet] at h
   simp
   exact h
  ·intro hp hx a W' hC hE
   obtain ⟨_, ⟨-, -, k1, -⟩, -⟩ := hC
   simp [hx] at hE
   simp [go_sem, Act.eval, IntWalk.i64_left, hE, k1, ite_z4, hz.out]
   try rfl
 refine pO ?_
 clear hW hL b1
 rintro W6 hW z7 hL
 simp only [ndR]
 intros
 repeat (rename GDet _ _ _ _ => hgd; clear hgd)
 simp only [ndS]
 refine wpList_nil ?_
 obtain ⟨⟨b1, yb1, k1, f1⟩, -⟩ := hL
 clear c2
 rw [show (false || (m : Int) != (T.length : Int)) = false by simp [hm.out]]
 have z77 := hW.size
 go_wp2_with fail
 refine (H_c3.out _ belowAny).mono ?_
 rintro e w8 ⟨v9, rfl, hb8⟩
 have z9 := hb8.size
 try simp at z9
 clear k1 f1
 refine haveB w w8 (Bc w.heap.size #[.int .i64 4, .slice p len cap, .int .i64 A, .int .i64 R, .int .i64 n, .int .i64 d, .slice q m vc, .int .i64 E] 29 <| Bz) ?_
 clear b1 hW
 rintro hW z10 ⟨⟨b1, yb1, k1, f1⟩, -⟩
 go_wp2
 refine bodyPost_ret (v := .bool ok) (by simp [results, Tryz.results7, go_sem, k1, f1, yb1]) rfl ⟨rfl, hW⟩
theorem rr_line0 (K A R n d E : Int) (p q : Option Addr) (len cap m vc : Nat) (w : World) (hK : (K == 4) = false) (hF : Hid ((decide (0 < m) || !isLine A R n d || K != kindR R n) = true)) (hE0 : 0 <= E) (hE1 : E <= 1099511627776) (c1 : ∀ W, Below w.heap.size w W -> Calls Tryz.prog 29 #[.slice p len cap] W fun e w' => e = .returned (.bool true) /\ Below W.heap.size W w') :
  Calls Tryz.prog 7 #[.agg #[.int .i64 K, .slice p len cap, .int .i64 A, .int .i64 R, .int .i64 n, .int .i64 d, .slice q m vc, .int .i64 E]] w fun e w' => e = .returned (.bool false) /\ Below w.heap.size w w' := by
 have H_c1 := Lib.hid c1
 clear c1
 go_enter Tryz.func7, Tryz.ntmps7
 go_wp2_with fail
 refine (H_c1.out _ belowAny).mono ?_
 rintro e w1 ⟨rfl, hb1⟩
 have z2 := hb1.size
 try simp at z2
 refine haveB w w1 (Bc w.heap.size #[.int .i64 K, .slice p len cap, .int .i64 A, .int .i64 R, .int .i64 n, .int .i64 d, .slice q m vc, .int .i64 E] 29 <| Bz) ?_
 rintro hW z3 ⟨⟨b1, yb1, k1, f1⟩, -⟩
 clear hb1
 go_upto_region 6 with (fail)
 clear k1 f1
 refine wp_cutB w (Bc w.heap.size #[.int .i64 K, .slice p len cap, .int .i64 A, .int .i64 R, .int .i64 n, .int .i64 d, .slice q m vc, .int .i64 E] 29 <| Bz) ?_
 clear b1 hW
 rintro W4 hW z5 hL
 refine wp_regD 18 60 hW hL ?_
 iterate 5 refine dA ?_
 iterate 2 refine gA ?_
 refine cG (fun hp hx W' hC => c_rline A R n d W') ?_
 refine gA ?_
 refine pO ?_
 refine dA ?_
 iterate 4 refine gA ?_
 refine cG (fun hp hx W' hC => c_rkind A R n d W') ?_
 refine gA ?_
 refine pO ?_
 clear hW hL
 rintro W6 hW z7 hL
 simp only [ndR]
 intros
 repeat (rename GDet _ _ _ _ => hgd; clear hgd)
 simp only [ndS]
 refine wpList_nil ?_
 obtain ⟨⟨b1, yb1, k1, f1⟩, -⟩ := hL
 rw [hF.out]
 go_wp2
 refine bodyPost_ret (v := .bool false) (by simp [results, Tryz.results7, go_sem, k1, f1, yb1]) rfl ⟨rfl, hW⟩
theorem rr_line1 (K A R n d E : Int) (p q : Option Addr) (len cap m vc : Nat) (w : World) (ok : Bool) (hK : (K == 4) = false) (hF : Hid ((decide (0 < m) || !isLine A R n d || K != kindR R n) = false)) (hE0 : 0 <= E) (hE1 : E <= 1099511627776) (c1 : ∀ W, Below w.heap.size w W -> Calls Tryz.prog 29 #[.slice p len cap] W fun e w' => e = .returned (.bool true) /\ Below W.heap.size W w') (c3 : ∀ W, Below w.heap.size w W -> Calls Tryz.prog 33 #[.agg #[.int .i64 K, .slice p len cap, .int .i64 A, .int .i64 R, .int .i64 n, .int .i64 d, .slice q m vc, .int .i64 E]] W fun e w' => ∃ v, e = .returned (.tuple #[v, .bool ok]) /\ Below W.heap.size W w') :
  Calls Tryz.prog 7 #[.agg #[.int .i64 K, .slice p len cap, .int .i64 A, .int .i64 R, .int .i64 n, .int .i64 d, .slice q m vc, .int .i64 E]] w fun e w' => e = .returned (.bool ok) /\ Below w.heap.size w w' := by
 have H_c1 := Lib.hid c1
 clear c1
 have H_c3 := Lib.hid c3
 clear c3
 go_enter Tryz.func7, Tryz.ntmps7
 go_wp2_with fail
 refine (H_c1.out _ belowAny).mono ?_
 rintro e w1 ⟨rfl, hb1⟩
 have z2 := hb1.size
 try simp at z2
 refine haveB w w1 (Bc w.heap.size #[.int .i64 K, .slice p len cap, .int .i64 A, .int .i64 R, .int .i64 n, .int .i64 d, .slice q m vc, .int .i64 E] 29 <| Bz) ?_
 rintro hW z3 ⟨⟨b1, yb1, k1, f1⟩, -⟩
 clear hb1
 go_upto_region 6 with (fail)
 clear k1 f1
 refine wp_cutB w (Bc w.heap.size #[.int .i64 K, .slice p len cap, .int .i64 A, .int .i64 R, .int .i64 n, .int .i64 d, .slice q m vc, .int .i64 E] 29 <| Bz) ?_
 clear b1 hW
 rintro W4 hW z5 hL
 refine wp_regD 18 60 hW hL ?_
 iterate 5 refine dA ?_
 iterate 2 refine gA ?_
 refine cG (fun hp hx W' hC => c_rline A R n d W') ?_
 refine gA ?_
 refine pO ?_
 refine dA ?_
 iterate 4 refine gA ?_
 refine cG (fun hp hx W' hC => c_rkind A R n d W') ?_
 refine gA ?_
 refine pO ?_
 clear hW hL
 rintro W6 hW z7 hL
 simp only [ndR]
 intros
 repeat (rename GDet _ _ _ _ => hgd; clear hgd)
 simp only [ndS]
 refine wpList_nil ?_
 obtain ⟨⟨b1, yb1, k1, f1⟩, -⟩ := hL
 rw [hF.out]
 have z77 := hW.size
 go_wp2_with fail
 refine (H_c3.out _ belowAny).mono ?_
 rintro e w8 ⟨v9, rfl, hb8⟩
 have z9 := hb8.size
 try simp at z9
 clear k1 f1
 refine haveB w w8 (Bc w.heap.size #[.int .i64 K, .slice p len cap, .int .i64 A, .int .i64 R, .int .i64 n, .int .i64 d, .slice q m vc, .int .i64 E] 29 <| Bz) ?_
 clear b1 hW
 rintro hW z10 ⟨⟨b1, yb1, k1, f1⟩, -⟩
 go_wp2
 refine bodyPost_ret (v := .bool ok) (by simp [results, Tryz.results7, go_sem, k1, f1, yb1]) rfl ⟨rfl, hW⟩
theorem rr_raw1 (A R n d E : Int) (p q : Option Addr) (len cap m vc : Nat) (w : World) (T : List Int) (hm : ¬ m = T.length) (hE0 : 0 <= E) (hE1 : E <= 1099511627776) (hz : Hid (lineZ A R n d = true)) (c1 : ∀ W, Below w.heap.size w W -> Calls Tryz.prog 29 #[.slice p len cap] W fun e w' => e = .returned (.bool true) /\ Below W.heap.size W w') (c2 : ∀ W, Below w.heap.size w W -> Calls Tryz.prog 30 #[.slice p len cap] W fun e w' => ∃ v, e = .returned v /\ OwnR w' W.heap.size 2 1 v T.length (T.map (Value.int .i64)) /\ Below W.heap.size W w') :
  Calls Tryz.prog 7 #[.agg #[.int .i64 4, .slice p len cap, .int .i64 A, .int .i64 R, .int .i64 n, .int .i64 d, .slice q m vc, .int .i64 E]] w fun e w' => e = .returned (.bool false) /\ Below w.heap.size w w' := by
 have H_c1 := Lib.hid c1
 clear c1
 have H_c2 := Lib.hid c2
 clear c2
 go_enter Tryz.func7, Tryz.ntmps7
 go_wp2_with fail
 refine (H_c1.out _ belowAny).mono ?_
 rintro e w1 ⟨rfl, hb1⟩
 have z2 := hb1.size
 try simp at z2
 refine haveB w w1 (Bc w.heap.size #[.int .i64 4, .slice p len cap, .int .i64 A, .int .i64 R, .int .i64 n, .int .i64 d, .slice q m vc, .int .i64 E] 29 <| Bz) ?_
 rintro hW z3 ⟨⟨b1, yb1, k1, f1⟩, -⟩
 clear hb1
 have c2 := H_c2.out
 go_upto_region 4 with (fail)
 clear k1 f1
 refine wp_cutB w (Bc w.heap.size #[.int .i64 4, .slice p len cap, .int .i64 A, .int .i64 R, .int .i64 n, .int .i64 d, .slice q m vc, .int .i64 E] 29 <| Bz) ?_
 clear b1 hW
 rintro W4 hW z5 hL
 obtain ⟨⟨b1, yb1, k1, f1⟩, -⟩ := id hL
 clear k1 f1
 refine wp_regD 14 60 hW hL ?_
 iterate 5
  apply nd_det (hg := rfl) (hal := rfl)
  ·intro a W' hC hE
   obtain ⟨_, ⟨-, -, k1, -⟩, -⟩ := hC
   first
    | (simp at hE; simp [go_sem, Act.eval, IntWalk.i64_left, hE, k1, ite_z4, hz.out]; try rfl)
    | (clear hE; simp [go_sem, Act.eval, IntWalk.i64_left, k1, ite_z4, hz.out]; try rfl)
 iterate 5
  apply nd_detg (p := true) (hg := rfl) (hd := rfl) (hal := rfl)
  ·intro v W' h
   simp [envOf, Det, GDet] at h
   simp
   exact h
  ·intro hp hx a W' hC hE
   obtain ⟨_, ⟨-, -, k1, -⟩, -⟩ := hC
   simp [hx] at hE
   simp [go_sem, Act.eval, IntWalk.i64_left, hE, k1, ite_z4, hz.out]
   try rfl
 apply nd_oncall (OV 0 T) (hg := rfl) (hd := rfl) (hal := rfl)
 ·exact OV.closed _ _
 ·intro v W' h
  simp at h
  exact h
 ·intro a W' hC hE
  obtain ⟨hR9, k1⟩ := hC
  simp [Oper.looksAt, Op.operands, Call.operands, envOf, Det, GDet] at hE
  refine ⟨_, _, ?_, (H_c2.out W' (hW.trans (hR9.of_priv hW.size))).mono ?_⟩
  ·simp [go_sem, Act.eval, hE]
   try rfl
  ·rintro e w' ⟨v, rfl, hv, hB⟩
   exact ⟨_, rfl, hB, hv.mono (Nat.zero_le _)⟩
 apply nd_onval (Det (.int .i64 (T.length : Int))) (hg := rfl) (hd := rfl) (hal := rfl)
 ·exact closed_det _ _
 ·intro v W' h
  simp at h
  exact h
 ·intro a W' hC hE
  simp [Oper.looksAt, Op.operands, Call.operands, envOf, Det, GDet] at hE
  obtain ⟨h1, h2⟩ := hE
  obtain ⟨p9, c9, e9, -, -, -, -⟩ := OwnR.form h1
  refine ⟨_, ?_, rfl⟩
  simp [go_sem, Act.eval, e9]
 iterate 1
  apply nd_detg (p := true) (hg := rfl) (hd := rfl) (hal := rfl)
  ·intro v W' h
   simp [envOf, Det, GDet] at h
   simp
   exact h
  ·intro hp hx a W' hC hE
   obtain ⟨_, ⟨-, -, k1, -⟩, -⟩ := hC
   simp [hx] at hE
   simp [go_sem, Act.eval, IntWalk.i64_left, hE, k1, ite_z4, hz.out]
   try rfl
 refine pO ?_
 clear hW hL b1
 rintro W6 hW z7 hL
 simp only [ndR]
 intros
 repeat (rename GDet _ _ _ _ => hgd; clear hgd)
 simp only [ndS]
 refine wpList_nil ?_
 obtain ⟨⟨b1, yb1, k1, f1⟩, -⟩ := hL
 clear c2
 rw [show (false || (m : Int) != (T.length : Int)) = true by simp; omega]
 go_wp2
 refine bodyPost_ret (v := .bool false) (by simp [results, Tryz.results7, go_sem, k1, f1, yb1]) rfl ⟨rfl, hW⟩
end Go.Proofs.YtbanjolokkghdaaGreatDoor
namespace Go.Proofs.YtbanjolokkghdaaGreatDoor
open Go.RowKit
theorem line_first {A R n d : Int} (h : isLine A R n d = true) (hn : n = 0) : R = 0 := by
 unfold isLine at h
 simp only [Bool.and_eq_true, decide_eq_true_eq] at h
 obtain ⟨⟨⟨⟨_, hs⟩, hg⟩, h0⟩, h1⟩ := h
 have := isSlope_bd hs
 subst hn
 unfold gcdI at hg
 simp at hg
 omega
theorem ends_iff {s : SegT} (hl : RunsOk s.runs) (hi : isLine s.A s.R s.n s.d = true) : endsOk s.A s.R s.n s.d 0 (lastT s.runs - firstT s.runs) = ((timesL s.runs).map (valAt s)).all isBack := by
 rw [Bool.eq_iff_iff]
 constructor
 ·intro h
  have hL : LineSeg s := ⟨hl, isLine_ok.1 hi, h⟩
  rw [List.all_eq_true]
  intro y hy
  obtain ⟨t, ht, rfl⟩ := List.mem_map.1 hy
  have := mem_times hl ht
  exact hL.back this.1 this.2.1
 ·intro h
  rw [List.all_eq_true] at h
  have hc := cnt_pos hl
  have key : ∀ i : Int, 0 <= i -> i < cnt s.runs -> isBack (valAt s (atV s.runs i)) = true := by
   intro i h0 h1
   obtain ⟨v, _, hm, e, _⟩ := atL_some hl h0 h1
   rw [e]
   exact h _ (List.mem_map_of_mem hm)
  have a := key 0 (by omega) (by omega)
  have b := key (cnt s.runs - 1) (by omega) (by omega)
  unfold endsOk
  unfold valAt firstT at a b
  rw [show atV s.runs 0 - atV s.runs 0 = 0 by omega] at a
  rw [Bool.and_eq_true]
  exact ⟨a, b⟩
theorem vals_line {s : SegT} (hK : s.K ≠ 4) : vals s = (timesL s.runs).map (valAt s) := by unfold vals; rw [if_neg hK]
theorem vals_raw {s : SegT} (hK : s.K = 4) : vals s = s.raw := by unfold vals; rw [if_pos hK]
theorem kindB_line {s : SegT} (hl : RunsOk s.runs) (hK : s.K ≠ 4) : kindB s = (!(decide (0 < s.raw.length) || !isLine s.A s.R s.n s.d || s.K != kindR s.R s.n) && (vals s).all isBack) := by
 rw [vals_line hK]
 unfold kindB lineIsB
 cases hi : isLine s.A s.R s.n s.d with
 | false => simp [hK]
 | true =>
  rw [<- ends_iff hl hi]
  generalize endsOk s.A s.R s.n s.d 0 (lastT s.runs - firstT s.runs) = e
  have hr : s.raw.isEmpty = !decide (0 < s.raw.length) := by cases s.raw <;> simp
  rw [hr]
  unfold kindR
  by_cases h1 : s.n = 0
  ·have h2 := line_first hi h1
   by_cases k1 : s.K = 1
   ·simp [h1, k1, Bool.and_comm]
   ·by_cases k2 : s.K = 2
    ·simp [h1, k2]
    ·by_cases k3 : s.K = 3
     ·simp [h1, h2, k3]
     ·simp [h1, k1, k2, k3, hK]
  ·by_cases h2 : s.R = 0
   ·by_cases k1 : s.K = 1
    ·simp [h1, h2, k1]
    ·by_cases k2 : s.K = 2
     ·simp [h1, h2, k2, Bool.and_comm]
     ·by_cases k3 : s.K = 3
      ·simp [h1, h2, k3]
      ·simp [h1, h2, k1, k2, k3, hK]
   ·by_cases k1 : s.K = 1
    ·simp [h1, h2, k1]
    ·by_cases k2 : s.K = 2
     ·simp [h1, h2, k2]
     ·by_cases k3 : s.K = 3
      ·simp [h1, h2, k3, Bool.and_comm]
      ·simp [h1, h2, k1, k2, k3, hK]
theorem kindB_raw {s : SegT} (hK : s.K = 4) : kindB s = (lineZ s.A s.R s.n s.d && (s.raw.length : Int) == cnt s.runs && (vals s).all isBack) := by
 rw [vals_raw hK]
 unfold kindB
 simp [hK]
theorem c_refTimes {p : Option Addr} {cap : Nat} {l : List RunT} {w : World} (hl : RunsOk l) (h : RunsIn w p l) (hlen : l.length <= 300) : ∀ W, Below w.heap.size w W -> Calls Tryz.prog 30 #[.slice p l.length cap] W fun e w' => ∃ v, e = .returned v /\ OwnR w' W.heap.size 2 1 v (timesL l).length ((timesL l).map (Value.int .i64)) /\ Below W.heap.size W w' := by
 intro W hW
 have := reftimes_w p cap l W (h.below hW) (by omega)
 rw [times_ok hl] at this
 exact this
def PtsDom (s : SegT) : Prop := (s.K = 4 /\ (s.raw.length : Int) = cnt s.runs) ∨ (s.K ≠ 4 /\ isLine s.A s.R s.n s.d = true)
theorem length_tl {l : List RunT} (hl : RunsOk l) : 1 <= (timesL l).length /\ (timesL l).length <= 256 := by
 have h1 := length_times hl
 have h2 := cnt_pos hl
 omega
theorem c_refPts (s : SegT) (p q : Option Addr) (cap vc : Nat) (w : World) (h : SegIn w s p q) (hl : RunsOk s.runs) (hd : PtsDom s) :
  Calls Tryz.prog 33 #[.agg (segA s p q cap vc)] w (PtsPost w (timesL s.runs) (vals s)) := by
 have ht := length_times hl
 have h256 := length_tl hl
 have c1 := fun (W : World) (hW : Below w.heap.size w W) => c_refTimes (cap := cap) hl h.runs h.fewR W hW
 rcases hd with ⟨hK, hr⟩ | ⟨hK, hi⟩
 ·rw [vals_raw hK]
  obtain ⟨b, o, e, _⟩ := h.raw.at' 0 _ (List.getElem?_eq_getElem (show 0 < s.raw.length by omega))
  have hraw := h.raw
  rw [e] at hraw
  have := pts_raw s.A s.R s.n s.d s.E p s.runs.length cap b o vc (timesL s.runs) s.raw w ⟨hraw⟩ (by omega) h256.1 h256.2 c1
  unfold segA
  rw [hK, e]
  exact this
 ·rw [vals_line hK]
  have hx0 : (timesL s.runs)[0]? = some (firstT s.runs) := at_times hl (k := 0) (by omega)
  have hv : ∀ (i : Nat) (x y : Int), (timesL s.runs)[i]? = some x -> ((timesL s.runs).map (valAt s))[i]? = some y -> 0 <= x - firstT s.runs /\ x - firstT s.runs <= 281474976710656 /\ y = lineVal s.A s.R s.n s.d (x - firstT s.runs) := by
   intro i x y hx hy
   rw [List.getElem?_map, hx] at hy
   have hm := mem_times hl (List.mem_of_getElem? hx)
   have hf := first_in hl
   simp at hy
   exact ⟨by omega, by omega, by rw [<- hy]; rfl⟩
  refine pts_line s.K s.A s.R s.n s.d s.E (firstT s.runs) p q s.runs.length cap s.raw.length vc (timesL s.runs) _ w (by simp [hK]) (by simp) h256.1 h256.2 hx0 (fun x hx => by have := mem_times hl hx; omega) c1 ?_ ?_
  ·intro W i x y hx hy hb
   obtain ⟨a1, a2, rfl⟩ := hv i x y hx hy
   exact c_rat_yes hi a1 a2 hb W
  ·intro W i x y hx hy hb
   obtain ⟨a1, a2, rfl⟩ := hv i x y hx hy
   exact c_rat_no hi a1 a2 hb W
theorem c_refPtsOk (s : SegT) (p q : Option Addr) (cap vc : Nat) (w : World) (h : SegIn w s p q) (hl : RunsOk s.runs) (hd : PtsDom s) :
  Calls Tryz.prog 33 #[.agg (segA s p q cap vc)] w fun e w' => ∃ v, e = .returned (.tuple #[v, .bool ((vals s).all isBack)]) /\ Below w.heap.size w w' := by
 refine (c_refPts s p q cap vc w h hl hd).mono ?_
 rintro e w' ⟨hB, ⟨h1, v, rfl, _⟩ | ⟨h1, rfl⟩⟩
 ·exact ⟨v, by rw [h1], hB⟩
 ·exact ⟨_, by rw [h1], hB⟩
theorem c_refRight (s : SegT) (p q : Option Addr) (cap vc : Nat) (w : World) (h : SegIn w s p q) :
  Calls Tryz.prog 7 #[.agg (segA s p q cap vc)] w fun e w' => e = .returned (.bool (segB s)) /\ Below w.heap.size w w' := by
 have c1 := fun (W : World) (hW : Below w.heap.size w W) => c_refright p cap s.runs W (by have := h.fewR; omega) (h.runs.below hW)
 unfold segB
 cases hr : risesB s.runs with
 | false =>
  rw [hr] at c1
  rw [Bool.false_and]
  exact rr_no1 s.K s.A s.R s.n s.d s.E p q s.runs.length cap s.raw.length vc w c1
 | true =>
  rw [hr] at c1
  rw [Bool.true_and]
  have hl := (risesB_iff _).1 hr
  by_cases hE : s.E < 0 ∨ 1099511627776 < s.E
  ·rw [show (decide (0 <= s.E) && decide (s.E <= 1099511627776) && kindB s) = false by
    rcases hE with hE | hE
    ·rw [decide_eq_false (show ¬ 0 <= s.E by omega)]; rfl
    ·rw [decide_eq_false (show ¬ s.E <= 1099511627776 by omega), Bool.and_false]; rfl]
   exact rr_no2 s.K s.A s.R s.n s.d s.E p q s.runs.length cap s.raw.length vc w hE c1
  ·have hE0 : 0 <= s.E := by omega
   have hE1 : s.E <= 1099511627776 := by omega
   rw [decide_eq_true hE0, decide_eq_true hE1, Bool.true_and, Bool.true_and]
   by_cases hK : s.K = 4
   ·rw [kindB_raw hK]
    have ht := length_times hl
    have c2 := fun (W : World) (hW : Below w.heap.size w W) => c_refTimes (cap := cap) hl h.runs h.fewR W hW
    cases hz : lineZ s.A s.R s.n s.d with
    | false =>
     have := rr_raw0 s.A s.R s.n s.d s.E p q s.runs.length cap s.raw.length vc w hE0 hE1 (Lib.hid hz) c1
     unfold segA
     rw [hK]
     exact this
    | true =>
     by_cases hm : (s.raw.length : Int) = cnt s.runs
     ·rw [show ((s.raw.length : Int) == cnt s.runs) = true by simp [hm], Bool.true_and, Bool.true_and]
      have c3 := fun (W : World) (hW : Below w.heap.size w W) => c_refPtsOk s p q cap vc W (h.below hW) hl (.inl ⟨hK, hm⟩)
      unfold segA at c3 ⊢
      rw [hK] at c3 ⊢
      exact rr_raw2 s.A s.R s.n s.d s.E p q s.runs.length cap s.raw.length vc w (timesL s.runs) _ (Lib.hid (by omega)) hE0 hE1 (Lib.hid hz) c1 c2 c3
     ·rw [show ((s.raw.length : Int) == cnt s.runs) = false by simp [hm], Bool.and_false, Bool.false_and]
      have := rr_raw1 s.A s.R s.n s.d s.E p q s.runs.length cap s.raw.length vc w (timesL s.runs) (by omega) hE0 hE1 (Lib.hid hz) c1 c2
      unfold segA
      rw [hK]
      exact this
   ·rw [kindB_line hl hK]
    cases hF : (decide (0 < s.raw.length) || !isLine s.A s.R s.n s.d || s.K != kindR s.R s.n) with
    | true => exact rr_line0 s.K s.A s.R s.n s.d s.E p q s.runs.length cap s.raw.length vc w (by simp [hK]) (Lib.hid hF) hE0 hE1 c1
    | false =>
     have hi : isLine s.A s.R s.n s.d = true := by
      cases hi : isLine s.A s.R s.n s.d with
      | true => rfl
      | false => rw [hi] at hF; simp at hF
     rw [Bool.not_false, Bool.true_and]
     exact rr_line1 s.K s.A s.R s.n s.d s.E p q s.runs.length cap s.raw.length vc w _ (by simp [hK]) (Lib.hid hF) hE0 hE1 c1 (fun W hW => c_refPtsOk s p q cap vc W (h.below hW) hl (.inr ⟨hK, hi⟩))
theorem ptsDom_of {s : SegT} (hs : segB s = true) : PtsDom s := by
 have hl := segB_runs hs
 have hk := segB_kind hs
 by_cases hK : s.K = 4
 ·rw [kindB_raw hK] at hk
  simp only [Bool.and_eq_true, beq_iff_eq] at hk
  exact .inl ⟨hK, hk.1.2⟩
 ·rw [kindB_line hl hK] at hk
  refine .inr ⟨hK, ?_⟩
  cases hi : isLine s.A s.R s.n s.d with
  | true => rfl
  | false => rw [hi] at hk; simp at hk
theorem vals_all {s : SegT} (hs : segB s = true) : (vals s).all isBack = true := by
 have hl := segB_runs hs
 have hk := segB_kind hs
 by_cases hK : s.K = 4
 ·rw [kindB_raw hK] at hk
  simp only [Bool.and_eq_true] at hk
  exact hk.2
 ·rw [kindB_line hl hK] at hk
  simp only [Bool.and_eq_true] at hk
  exact hk.2
theorem c_refPoints (s : SegT) (p q : Option Addr) (cap vc : Nat) (w : World) (h : SegIn w s p q) (hs : segB s = true) :
  Calls Tryz.prog 33 #[.agg (segA s p q cap vc)] w fun e w' => ∃ v, e = .returned (.tuple #[v, .bool true]) /\ OwnR w' w.heap.size 56 2 v (ptsL s).length (flatPts (ptsL s)) /\ Below w.heap.size w w' := by
 have hl := segB_runs hs
 refine (c_refPts s p q cap vc w h hl (ptsDom_of hs)).mono ?_
 rintro e w' ⟨hB, ⟨_, v, rfl, hv⟩ | ⟨h1, _⟩⟩
 ·refine ⟨v, rfl, ?_, hB⟩
  rw [show (ptsL s).length = (timesL s.runs).length by have a := length_pts hs; have b := length_times hl; omega]
  exact hv
 ·rw [vals_all hs] at h1; cases h1
set_option maxRecDepth 100000 in
set_option maxHeartbeats 2000000 in
theorem c_r13Eps (n : Int) (w : World) : Calls Tryz.prog 48 #[.int .i64 n] w fun e w' => e = .returned (.bool (btw n (0) 1099511627776)) ∧ Below w.heap.size w w' := by
  unfold btw
  go_enter Tryz.func48, Tryz.ntmps48
  go_upto_region 1 with (fail)
  refine wp_cutB w (Bz) ?_
  rintro W1 hW z2 hL
  refine wp_regS 7 9 hW hL ?_
  iterate 3 refine dA ?_
  iterate 2 refine gA ?_
  refine pA ?_
  refine dA ?_
  clear hW hL
  rintro W3 hW z4 hL
  simp only [ndR]
  intros
  repeat (rename GDet _ _ _ _ => hgd; clear hgd)
  simp only [ndS]
  refine wpList_nil ?_
  obtain ⟨-⟩ := hL
  go_wp2
  refine bodyPost_ret (by simp [results, Tryz.results48, go_sem]) rfl ⟨rfl, by exact belowAny⟩
def nm18Rel (w : World) (s : ByteArray) (a' : Act) (W : World) : Prop :=
  Below w.heap.size w W ∧ ∃ i f : Nat, (∃ u : Nat → Value, a' = { tmps := #[.string s, u 1, u 2, u 3, .string s, .int .i64 (s.size : Int), .int .i64 (i : Int), u 7, u 8, u 9, u 10, u 11, u 12, u 13, u 14, u 15, u 16, u 17, u 18, u 19, u 20, u 21, u 22], defers := [] }) ∧ s.size ≤ i + f ∧ lettersB s f i = lettersB s s.size 0 ∧ i ≤ s.size
set_option maxRecDepth 100000 in
set_option maxHeartbeats 2000000 in
theorem r14behind_w (n : Nat) (z : Int) (L : List Int) (r : RunT) (M : List RunT) (rb ro : Nat) (K1 A1 R1 m1 d1 E1 : Int) (p1 q1 : Option Addr) (n1 c1 l1 v1 : Nat) (K2 A2 R2 m2 d2 E2 : Int) (q2 : Option Addr) (n2 c2 l2 v2 : Nat) (w : World) (hL : L.length = n + 1) (hn : n ≤ 300) (hz : L[n]? = some z) (hM : RunsP w rb ro M) (hr : M[0]? = some r) (g2 : 0 < n2) (h1 : ∀ W, Below w.heap.size w W → Calls Tryz.prog 30 #[.slice p1 n1 c1] W fun e w' => ∃ p k, e = .returned (.slice p (n + 1) k) ∧ IntsIn w' p L ∧ Below W.heap.size W w') :
    Calls Tryz.prog 44 #[.agg #[.int .i64 K1, .slice p1 n1 c1, .int .i64 A1, .int .i64 R1, .int .i64 m1, .int .i64 d1, .slice q1 l1 v1, .int .i64 E1], .agg #[.int .i64 K2, .slice (some ⟨rb, ro, none⟩) n2 c2, .int .i64 A2, .int .i64 R2, .int .i64 m2, .int .i64 d2, .slice q2 l2 v2, .int .i64 E2]] w fun e w' => e = .returned (.bool (decide (z < r.f))) ∧ Below w.heap.size w w' := by
  have E := Lib.hid (show wrap64 (n : Int) = (n : Int) by rw [wrap64_eq]; omega)
  have g0 : ¬ ((n : Int) < 0) := by omega
  have g1 : n < n + 1 := by omega
  have g3 : (n : Int) < (n : Int) + 1 := by omega
  have H_h1 := Lib.hid h1
  clear h1
  go_enter Tryz.func44, Tryz.ntmps44
  go_wp2_with fail
  refine (H_h1.out _ belowAny).mono ?_
  rintro e w1 ⟨p, k, rfl, hI, hb1⟩
  have z2 := hb1.size
  try simp at z2
  refine haveB w w1 (Bc w.heap.size #[.int .i64 K1, .slice p1 n1 c1, .int .i64 A1, .int .i64 R1, .int .i64 m1, .int .i64 d1, .slice q1 l1 v1, .int .i64 E1] 29 <| Bc (w.heap.size + 1) #[.int .i64 K2, .slice (some ⟨rb, ro, none⟩) n2 c2, .int .i64 A2, .int .i64 R2, .int .i64 m2, .int .i64 d2, .slice q2 l2 v2, .int .i64 E2] 29 <| Bz) ?_
  rintro hW z3 ⟨⟨b1, yb1, k1, f1⟩, ⟨b2, yb2, k2, f2⟩, -⟩
  obtain ⟨pb, po, rfl, -⟩ := hI.at' n z hz
  have b3 : IntsP w1 pb po L := ⟨hI⟩
  clear hI
  have b4 : RunsP w1 rb ro M := hM.below hW
  go_upto_region 2 with (fail)
  clear k1 f1 k2 f2
  refine wp_cutB w (Bc w.heap.size #[.int .i64 K1, .slice p1 n1 c1, .int .i64 A1, .int .i64 R1, .int .i64 m1, .int .i64 d1, .slice q1 l1 v1, .int .i64 E1] 29 <| Bc (w.heap.size + 1) #[.int .i64 K2, .slice (some ⟨rb, ro, none⟩) n2 c2, .int .i64 A2, .int .i64 R2, .int .i64 m2, .int .i64 d2, .slice q2 l2 v2, .int .i64 E2] 29 <| Rc (fun W' => IntsP W' pb po L) <| Rc (fun W' => RunsP W' rb ro M) <| Bz) ?_ (hI := by exact belowAny) (hR := (Bc.mk (by exact blkAny2) <| Bc.mk (by exact blkAny2) <| Rc.mk (by first | exact b3 | exact b3.below (by assumption) | exact b3.below belowAny) <| Rc.mk (by first | exact b4 | exact b4.below (by assumption) | exact b4.below belowAny) <| trivial))
  clear b1 b2 b3 b4 hW
  rintro W4 hW z5 hL
  obtain ⟨⟨b1, yb1, k1, f1⟩, ⟨b2, yb2, k2, f2⟩, b3, b4, -⟩ := id hL
  clear k1 f1 k2 f2
  refine wp_regQ 13 21 hW hL ?_
  iterate 13 refine dE (fun W' hC => aI (hC.2.2.2.1.cellAt hz) (aI ((hC.2.2.2.2.1.cellAt hr).1) (aI E.out (aI g0 (aI g1 (aI g3 (aI (Nat.not_le.2 g1) (aI g2 (Nat.not_le.2 g2))))))))) ?_
  clear hW hL b1 b2 b3 b4
  rintro W6 hW z7 hL
  simp only [ndR]
  intros
  simp only [ndS]
  refine wpList_nil ?_
  obtain ⟨⟨b1, yb1, k1, f1⟩, ⟨b2, yb2, k2, f2⟩, b3, b4, -⟩ := hL
  go_wp2
  refine bodyPost_ret (by simp [results, Tryz.results44, go_sem, k1, f1, k2, f2, yb1, yb2]) rfl ⟨rfl, by exact belowAny⟩
theorem c_times24 (s : SegT) (p q : Option Addr) (cap : Nat) (w : World) (h : SegIn w s p q) (hs : segB s = true) :
    ∃ n, (timesL s.runs).length = n + 1 ∧ n ≤ 300 ∧ (timesL s.runs)[n]? = some (lastT s.runs) ∧ ∀ W, Below w.heap.size w W → Calls Tryz.prog 30 #[.slice p s.runs.length cap] W fun e w' => ∃ p k, e = .returned (.slice p (n + 1) k) ∧ IntsIn w' p (timesL s.runs) ∧ Below W.heap.size W w' := by
  have hr := segB_runs hs
  have h1 := length_times hr
  have h2 := cnt_pos hr
  refine ⟨(timesL s.runs).length - 1, by omega, by omega, ?_, fun W hW => ?_⟩
  · have := at_times hr (k := (timesL s.runs).length - 1) (by omega)
    rw [this]
    unfold lastT
    rw [show (((timesL s.runs).length - 1 : Nat) : Int) = cnt s.runs - 1 by omega]
  · refine (c_refTimes (cap := cap) hr h.runs h.fewR W hW).mono ?_
    rintro e w' ⟨v, rfl, hv, hB⟩
    obtain ⟨p1, k1, rfl, -⟩ := hv.form
    rw [show (timesL s.runs).length - 1 + 1 = (timesL s.runs).length by omega]
    exact ⟨p1, k1, rfl, hv.ints, hB⟩
theorem c_r14Behind (s x : SegT) (p q p' q' : Option Addr) (cap vc cap' vc' : Nat) (w : World) (h : SegIn w s p q) (hs : segB s = true) (h' : SegIn w x p' q') (hx : segB x = true) :
    Calls Tryz.prog 44 #[.agg (segA s p q cap vc), .agg (segA x p' q' cap' vc')] w fun e w' => e = .returned (.bool (decide (lastT s.runs < firstT x.runs))) ∧ Below w.heap.size w w' := by
  obtain ⟨n, a1, a2, a3, a4⟩ := c_times24 s p q cap w h hs
  have hr := segB_runs hx
  cases hl : x.runs with
  | nil => have := hr.some'; rw [hl] at this; simp at this
  | cons r l =>
    have e : firstT (r :: l) = r.f := firstT_is (by rw [← hl]; exact hr)
    have h0 := h'.runs
    rw [hl] at h0
    obtain ⟨rb, ro, rfl, -⟩ := h0.at' 0 r rfl
    rw [e]
    have := r14behind_w n _ _ r (r :: l) rb ro s.K s.A s.R s.n s.d s.E p q s.runs.length cap s.raw.length vc x.K x.A x.R x.n x.d x.E q' (r :: l).length cap' x.raw.length vc' w a1 a2 a3 ⟨h0⟩ rfl (by simp) a4
    unfold segA
    rw [hl]
    exact this
/-- Is a number a bound for segments? -/
def boundB (eps : Int) (l : List SegT) : Bool := btw eps 0 1099511627776 && l.all fun s => decide (s.E ≤ eps)
set_option maxRecDepth 100000 in
set_option maxHeartbeats 2000000 in
theorem c_bound1 (s : SegT) (p' q' : Option Addr) (cp vc : Nat) (eps : Int) (o6 : Nat) (w : World) (h6 : Blk w o6 #[.int .i64 eps] 2) : Calls Tryz.prog 72 #[.agg (segA s p' q' cp vc), .pointer (some ⟨o6, 0, none⟩)] w fun e w' => e = .returned (.bool (decide (eps < s.E))) ∧ Below w.heap.size w w' := by
  unfold segA
  go_enter Tryz.func72, Tryz.ntmps72
  go_upto_region 1 with (fail)
  refine wp_cutB w (Bc o6 #[.int .i64 eps] 2 <| Bc w.heap.size #[.int .i64 s.K, .slice p' s.runs.length cp, .int .i64 s.A, .int .i64 s.R, .int .i64 s.n, .int .i64 s.d, .slice q' s.raw.length vc, .int .i64 s.E] 29 <| Bz) ?_
  rintro W1 hW z2 ⟨⟨b1, yb1, k1, f1⟩, ⟨b2, yb2, k2, f2⟩, -⟩
  go_wp2
  refine bodyPost_ret (by simp [results, Tryz.results72, go_sem, k1, f1, k2, f2, yb1, yb2]) rfl ⟨rfl, by exact belowAny⟩
def ibRel (w : World) (p : Option Addr) (cap : Nat) (l : List SegT) (o6 : Nat) (eps : Int) (a' : Act) (W : World) : Prop :=
  Below w.heap.size w W ∧ Blk W o6 #[.int .i64 eps] 2 ∧ ∃ i : Nat, (∃ u : Nat → Value, a' = { tmps := #[.slice p l.length cap, .func (.func 72) #[] #[.pointer (some ⟨o6, 0, none⟩)], u 2, u 3, .int .i64 0, u 5, .slice p l.length cap, .int .i64 (l.length : Int), .int .i64 (i : Int), u 9, u 10, u 11, u 12, u 13, u 14, u 15, u 16, u 17, u 18], defers := [] }) ∧ (l.take i).all (fun x => decide (x.E ≤ eps)) = true ∧ i ≤ l.length
set_option maxRecDepth 100000 in
set_option maxHeartbeats 2000000 in
theorem c_idxBound (p : Option Addr) (cap : Nat) (l : List SegT) (o6 : Nat) (eps : Int) (w : World) (hin : SegsIn w p l) (h6 : Blk w o6 #[.int .i64 eps] 2) (hmx : l.length ≤ 1000000) :
    Calls Tryz.prog 95 #[.slice p l.length cap, .func (.func 72) #[] #[.pointer (some ⟨o6, 0, none⟩)]] w fun e w' => ∃ iv : Int, e = .returned (.int .i64 iv) ∧ Below w.heap.size w w' ∧ ((iv = -1 ∧ l.all (fun x => decide (x.E ≤ eps)) = true) ∨ 0 ≤ iv ∧ l.all (fun x => decide (x.E ≤ eps)) = false) := by
  go_enter Tryz.func95, Tryz.ntmps95
  go_wp2
  refine wp_loop (ibRel w p cap l o6 eps) (fun a' _ => l.length - (intAt (a'.tmps.getD 8 undef)).toNat) ?_ ?_
  · unfold ibRel
    exact ⟨Below.refl _ _, h6, 0, frame_ex rfl, by simp, Nat.zero_le _⟩
  clear h6
  rintro a' W ⟨hW0, b1, i, ⟨u, rfl⟩, hall, hi'⟩
  have hz := hW0.size
  have yb1 := b1.lt
  replace hall := Lib.hid hall
  rcases Nat.lt_or_ge i l.length with hlt | hge
  · obtain ⟨x, tr⟩ : ∃ x, l[i]? = some x := ⟨l[i]'(by omega), List.getElem?_eq_getElem (by omega)⟩
    obtain ⟨b, o, p', q', cp, vc, rfl, hs, hvc, q0, q1, q2, q3, q4, q5, q6, q7⟩ := (hin.below hW0).one tr
    have c1 := Lib.hid (fun W (hb : Blk W o6 #[.int .i64 eps] 2) => c_bound1 x p' q' cp vc eps o6 W hb)
    unfold segA at c1
    have hnx := Lib.hid (fun (e : x.E ≤ eps) => (show (l.take (i + 1)).all (fun x => decide (x.E ≤ eps)) = true by rw [List.take_add_one, tr, List.all_append, hall.out]; simp [e]))
    have hbd := Lib.hid (fun (e : eps < x.E) => (show l.all (fun x => decide (x.E ≤ eps)) = false by
      cases h0 : l.all (fun x => decide (x.E ≤ eps)) with
      | false => rfl
      | true => have := List.all_eq_true.1 h0 x (List.mem_of_getElem? tr); simp at this; omega))
    clear tr hs hvc
    by_cases hd : eps < x.E
    · have c1 := Lib.hid (fun W hb => decide_eq_true hd ▸ c1.out W hb)
      replace hbd := Lib.hid (hbd.out hd)
      go_wp2_with fail
      refine (c1.out W b1).mono ?_
      rintro e w9 ⟨rfl, hB9⟩
      have d1 := b1.below hB9
      have e1 := hW0.trans (hB9.mono hz)
      clear hB9 q0 q1 q2 q3 q4 q5 q6 q7
      go_wp2
      go_ret
      exact ⟨_, rfl, e1, .inr ⟨by omega, hbd.out⟩⟩
    · have c1 := Lib.hid (fun W hb => decide_eq_false hd ▸ c1.out W hb)
      replace hnx := Lib.hid (hnx.out (by omega))
      go_wp2_with fail
      refine (c1.out W b1).mono ?_
      rintro e w9 ⟨rfl, hB9⟩
      have d1 := b1.below hB9
      have e1 := hW0.trans (hB9.mono hz)
      clear hB9 q0 q1 q2 q3 q4 q5 q6 q7
      go_wp2
      rw [show (i : Int) + 1 = ((i + 1 : Nat) : Int) by omega]
      refine ⟨?_, by simp [intAt]; omega⟩
      unfold ibRel
      exact ⟨e1, d1, i + 1, frame_ex rfl, hnx.out, by omega⟩
  · obtain rfl : i = l.length := by omega
    go_wp2
    go_ret
    exact ⟨_, rfl, hW0, .inl ⟨rfl, by have := hall.out; rwa [List.take_length] at this⟩⟩
set_option maxRecDepth 100000 in
set_option maxHeartbeats 2000000 in
theorem c_ctBound (p : Option Addr) (cap : Nat) (l : List SegT) (o6 : Nat) (eps : Int) (w : World) (hin : SegsIn w p l) (h6 : Blk w o6 #[.int .i64 eps] 2) (hmx : l.length ≤ 1000000) :
    Calls Tryz.prog 71 #[.slice p l.length cap, .func (.func 72) #[] #[.pointer (some ⟨o6, 0, none⟩)]] w fun e w' => e = .returned (.bool (!l.all (fun x => decide (x.E ≤ eps)))) ∧ Below w.heap.size w w' := by
  have c1 := Lib.hid (c_idxBound p cap l o6 eps w hin h6 hmx)
  obtain ⟨B, hB⟩ : ∃ B, l.all (fun x => decide (x.E ≤ eps)) = B := ⟨_, rfl⟩
  rw [hB] at c1 ⊢
  clear hB
  go_enter Tryz.func71, Tryz.ntmps71
  go_wp2_with fail
  refine c1.out.mono ?_
  rintro e w9 ⟨iv, rfl, hB9, hiv⟩
  rcases hiv with ⟨rfl, rfl⟩ | ⟨h0, rfl⟩
  · go_wp2
    go_ret
    exact ⟨rfl, hB9⟩
  · go_wp2
    go_ret
    exact ⟨by simp [h0], hB9⟩
set_option maxRecDepth 100000 in
set_option maxHeartbeats 2000000 in
theorem c_mgBound (eps : Int) (p : Option Addr) (cap : Nat) (l : List SegT) (w : World) (hin : SegsIn w p l) (hmx : l.length ≤ 1000000) : Calls Tryz.prog 45 #[.int .i64 eps, .slice p l.length cap] w fun e w' => e = .returned (.bool (boundB eps l)) ∧ Below w.heap.size w w' := by
  have hA : Below w.heap.size w (w.alloc (.cells #[.int .i64 eps] 2)) := belowAny
  by_cases h0 : 0 ≤ eps
  · by_cases h1 : eps ≤ 1099511627776
    · have e : boundB eps l = l.all (fun x => decide (x.E ≤ eps)) := by unfold boundB btw; rw [decide_eq_true h0, decide_eq_true h1]; rfl
      rw [e]
      have c1 := Lib.hid (fun o6 h6 => c_ctBound p cap l o6 eps _ (hin.below hA) h6 hmx)
      obtain ⟨B, hB⟩ : ∃ B, l.all (fun x => decide (x.E ≤ eps)) = B := ⟨_, rfl⟩
      rw [hB] at c1 ⊢
      clear hB e
      go_enter Tryz.func45, Tryz.ntmps45
      go_wp2_with fail
      refine (c1.out _ (by exact blkAny2)).mono ?_
      rintro e w9 ⟨rfl, hB9⟩
      have hV := hA.trans (hB9.mono hA.size)
      clear hB9 hA
      go_wp2
      go_ret
      exact ⟨by simp, hV⟩
    · have e : boundB eps l = false := by unfold boundB btw; rw [decide_eq_false h1]; simp
      rw [e]
      go_enter Tryz.func45, Tryz.ntmps45
      go_wp2
      go_ret
      exact ⟨rfl, hA⟩
  · have e : boundB eps l = false := by unfold boundB btw; rw [decide_eq_false h0]; simp
    rw [e]
    go_enter Tryz.func45, Tryz.ntmps45
    go_wp2
    go_ret
    exact ⟨rfl, hA⟩

def plS1 (i : Nat) (S : Int) : Int := if 1 <= i then S else 0
def plS2 (i : Nat) (S : Int) : Int := if 2 <= i then S else 0
def plusV (f : Bool) (S1 S2 : Int) : Array Value := if f = true then #[.int .i64 S1, .int .i64 S2] else #[.int .i64 0, .int .i64 0]
def plusE (f : Bool) : Int := if f = true then 0 else 5
def spA (l : List (Int × Int)) : Int := lsum (l.map (·.1))
def spB (l : List (Int × Int)) : Int := lsum (l.map (·.2))

end Go.Proofs.YtbanjolokkghdaaGreatDoor
