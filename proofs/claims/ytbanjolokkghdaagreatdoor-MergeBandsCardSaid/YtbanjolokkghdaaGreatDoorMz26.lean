/- Parts of the proof that follows: The document's segments: Same. | References 13, 24: a series that lies twice is the same as itself. No condition. | slices.Equal of points, of whatever two rows. No condition. | slices.Equal of points, slices.EqualFunc of segments, reference 13's Same: of whatever two rows. No condition. | slices.Equal of bands that are one. No condition. -/
import Derived.Test.YtbanjolokkghdaaGreatDoorMz25
set_option maxRecDepth 100000
set_option maxHeartbeats 8000000
set_option linter.unusedSimpArgs false
set_option linter.unusedVariables false
namespace Go.Proofs.YtbanjolokkghdaaGreatDoor
open Go.RowKit
attribute [local simp] Oper.looksAt Op.operands Call.operands envOf Det GDet
theorem ite_n4 {a b c d e f g h : Int} {w : World} : ((if a = b then (if c = d then (if e = f then (if g = h then Result.ok (Go.Next.value (Value.bool false)) w else Result.ok (Go.Next.value (Value.bool true)) w) else Result.ok (Go.Next.value (Value.bool true)) w) else Result.ok (Go.Next.value (Value.bool true)) w) else Result.ok (Go.Next.value (Value.bool true)) w) : Result Go.Next) = Result.ok (Go.Next.value (Value.bool (!(decide (a = b) && decide (c = d) && decide (e = f) && decide (g = h))))) w := by
 by_cases h1 : a = b <;> by_cases h2 : c = d <;> by_cases h3 : e = f <;> by_cases h4 : g = h <;> simp [h1, h2, h3, h4]
theorem rsame_no (K A R n d E : Int) (p q : Option Addr) (len cap vc : Nat) (V : List Int) (w : World) (K' A' R' n' d' E' : Int) (p' q' : Option Addr) (len' cap' m' vc' : Nat) (r1 : Bool)
  (hF : Hid ((K != K' || (!decide (A = A') || !decide (R = R') || !decide (n = n') || !decide (d = d')) || E != E' || !r1 || (V.length : Int) != (m' : Int)) = true))
  (c1 : ∀ W, Below w.heap.size w W -> Calls Tryz.prog 55 #[.slice p len cap, .slice p' len' cap'] W fun e w' => e = .returned (.bool r1) /\ Below W.heap.size W w') :
  Calls Tryz.prog 39 #[.agg #[.int .i64 K, .slice p len cap, .int .i64 A, .int .i64 R, .int .i64 n, .int .i64 d, .slice q V.length vc, .int .i64 E], .agg #[.int .i64 K', .slice p' len' cap', .int .i64 A', .int .i64 R', .int .i64 n', .int .i64 d', .slice q' m' vc', .int .i64 E']] w fun e w' => e = .returned (.bool false) /\ Below w.heap.size w w' := by
 have H_c1 := Lib.hid c1
 clear c1
 go_enter Tryz.func39, Tryz.ntmps39
 go_upto_region 1 with (fail)
 refine wp_cutB w (Bc w.heap.size #[.int .i64 K, .slice p len cap, .int .i64 A, .int .i64 R, .int .i64 n, .int .i64 d, .slice q V.length vc, .int .i64 E] 29 <| Bc (w.heap.size + 1) #[.int .i64 K', .slice p' len' cap', .int .i64 A', .int .i64 R', .int .i64 n', .int .i64 d', .slice q' m' vc', .int .i64 E'] 29 <| Bz) ?_
 rintro W1 hW z2 hL
 refine wp_regS 36 60 hW hL ?_
 iterate 6
  apply nd_det (hg := rfl) (hal := rfl)
  ·intro a W' hC hE
   obtain ⟨_, ⟨-, -, k1, -⟩, ⟨-, -, k2, -⟩, -⟩ := hC
   first
    | (simp at hE; simp [go_sem, Act.eval, IntWalk.i64_left, hE, k1, k2, ite_n4]; try rfl)
    | (clear hE; simp [go_sem, Act.eval, IntWalk.i64_left, k1, k2, ite_n4]; try rfl)
 iterate 5
  apply nd_detg (p := true) (hg := rfl) (hd := rfl) (hal := rfl)
  ·intro v W' h
   simp [envOf, Det, GDet] at h
   simp
   exact h
  ·intro hp hx a W' hC hE
   obtain ⟨_, ⟨-, -, k1, -⟩, ⟨-, -, k2, -⟩, -⟩ := hC
   simp [hx] at hE
   simp [go_sem, Act.eval, IntWalk.i64_left, hE, k1, k2, ite_n4]
   try rfl
 refine pO ?_
 iterate 1
  apply nd_det (hg := rfl) (hal := rfl)
  ·intro a W' hC hE
   obtain ⟨_, ⟨-, -, k1, -⟩, ⟨-, -, k2, -⟩, -⟩ := hC
   first
    | (simp at hE; simp [go_sem, Act.eval, IntWalk.i64_left, hE, k1, k2, ite_n4]; try rfl)
    | (clear hE; simp [go_sem, Act.eval, IntWalk.i64_left, k1, k2, ite_n4]; try rfl)
 iterate 5
  apply nd_detg (p := true) (hg := rfl) (hd := rfl) (hal := rfl)
  ·intro v W' h
   simp [envOf, Det, GDet] at h
   simp
   exact h
  ·intro hp hx a W' hC hE
   obtain ⟨_, ⟨-, -, k1, -⟩, ⟨-, -, k2, -⟩, -⟩ := hC
   simp [hx] at hE
   simp [go_sem, Act.eval, IntWalk.i64_left, hE, k1, k2, ite_n4]
   try rfl
 refine pO ?_
 iterate 1
  apply nd_det (hg := rfl) (hal := rfl)
  ·intro a W' hC hE
   obtain ⟨_, ⟨-, -, k1, -⟩, ⟨-, -, k2, -⟩, -⟩ := hC
   first
    | (simp at hE; simp [go_sem, Act.eval, IntWalk.i64_left, hE, k1, k2, ite_n4]; try rfl)
    | (clear hE; simp [go_sem, Act.eval, IntWalk.i64_left, k1, k2, ite_n4]; try rfl)
 iterate 4
  apply nd_detg (p := true) (hg := rfl) (hd := rfl) (hal := rfl)
  ·intro v W' h
   simp [envOf, Det, GDet] at h
   simp
   exact h
  ·intro hp hx a W' hC hE
   obtain ⟨_, ⟨-, -, k1, -⟩, ⟨-, -, k2, -⟩, -⟩ := hC
   simp [hx] at hE
   simp [go_sem, Act.eval, IntWalk.i64_left, hE, k1, k2, ite_n4]
   try rfl
 apply nd_callvg2 (p := true) (hg := rfl) (hd := rfl) (hal := rfl)
 ·intro v W' h
  simp at h
  simp
  exact h
 ·intro hp hx W' hC
  exact H_c1.out W' (hW.trans (hC.1.of_priv hW.size))
 ·intro hp hx a W' hC hE
  obtain ⟨_, ⟨-, -, k1, -⟩, ⟨-, -, k2, -⟩, -⟩ := hC
  first
   | (simp [hx] at hE; simp [go_sem, Act.eval, IntWalk.i64_left, hE, k1, k2, ite_n4]; try rfl)
   | (clear hE; simp [go_sem, Act.eval, IntWalk.i64_left, k1, k2, ite_n4]; try rfl)
 iterate 1
  apply nd_detg (p := true) (hg := rfl) (hd := rfl) (hal := rfl)
  ·intro v W' h
   simp [envOf, Det, GDet] at h
   simp
   exact h
  ·intro hp hx a W' hC hE
   obtain ⟨_, ⟨-, -, k1, -⟩, ⟨-, -, k2, -⟩, -⟩ := hC
   simp [hx] at hE
   simp [go_sem, Act.eval, IntWalk.i64_left, hE, k1, k2, ite_n4]
   try rfl
 refine pO ?_
 iterate 1
  apply nd_det (hg := rfl) (hal := rfl)
  ·intro a W' hC hE
   obtain ⟨_, ⟨-, -, k1, -⟩, ⟨-, -, k2, -⟩, -⟩ := hC
   first
    | (simp at hE; simp [go_sem, Act.eval, IntWalk.i64_left, hE, k1, k2, ite_n4]; try rfl)
    | (clear hE; simp [go_sem, Act.eval, IntWalk.i64_left, k1, k2, ite_n4]; try rfl)
 iterate 7
  apply nd_detg (p := true) (hg := rfl) (hd := rfl) (hal := rfl)
  ·intro v W' h
   simp [envOf, Det, GDet] at h
   simp
   exact h
  ·intro hp hx a W' hC hE
   obtain ⟨_, ⟨-, -, k1, -⟩, ⟨-, -, k2, -⟩, -⟩ := hC
   simp [hx] at hE
   simp [go_sem, Act.eval, IntWalk.i64_left, hE, k1, k2, ite_n4]
   try rfl
 refine pO ?_
 clear hW hL
 rintro W3 hW z4 hL
 simp only [ndR]
 intros
 repeat (rename GDet _ _ _ _ => hgd; clear hgd)
 simp only [ndS]
 refine wpList_nil ?_
 obtain ⟨⟨b1, yb1, k1, f1⟩, ⟨b2, yb2, k2, f2⟩, -⟩ := hL
 have z51 := hW.size
 have z52 := b1.lt
 have z53 := b2.lt
 rw [hF.out]
 go_wp2
 refine bodyPost_ret (v := .bool false) (by simp [results, Tryz.results39, go_sem, k1, f1, k2, f2, yb1, yb2]) rfl ⟨rfl, hW⟩
def rsRel (w : World) (K A R n d E : Int) (p q : Option Addr) (len cap vc : Nat) (K' A' R' n' d' E' : Int) (p' q' : Option Addr) (len' cap' vc' : Nat) (V V' : List Int) (a' : Act) (W : World) : Prop :=
 Below w.heap.size w W /\ Blk W w.heap.size #[.int .i64 K, .slice p len cap, .int .i64 A, .int .i64 R, .int .i64 n, .int .i64 d, .slice q V.length vc, .int .i64 E] 29 /\ Blk W (w.heap.size + 1) #[.int .i64 K', .slice p' len' cap', .int .i64 A', .int .i64 R', .int .i64 n', .int .i64 d', .slice q' V.length vc', .int .i64 E'] 29 /\ ∃ (i : Nat), (∃ u : Nat -> Value, a' = { tmps := #[u 0, u 1, .pointer (some ⟨w.heap.size, 0, none⟩), .pointer (some ⟨w.heap.size + 1, 0, none⟩), .bool false, .int .i64 (i : Int), u 6, u 7, u 8, u 9, u 10, u 11, u 12, u 13, u 14, u 15, u 16, u 17, u 18, u 19, u 20, u 21, u 22, u 23, u 24, u 25, u 26, u 27, u 28, u 29, u 30, u 31, u 32, u 33, u 34, u 35, u 36, u 37, u 38, u 39, u 40, u 41, u 42, u 43, u 44, u 45, u 46, u 47, u 48, u 49, u 50, u 51, u 52, u 53, u 54, u 55, u 56, u 57, u 58, u 59], defers := [] }) /\ i <= V.length /\ ∀ k, k < i -> V[k]? = V'[k]?
theorem rsame_yes (K A R n d E : Int) (p q : Option Addr) (len cap vc : Nat) (V V' : List Int) (w : World) (K' A' R' n' d' E' : Int) (p' q' : Option Addr) (len' cap' vc' : Nat) (r1 : Bool) (hl : V.length = V'.length) (hlen : V.length <= 1000000) (hA0 : IntsIn w q V) (hB0 : IntsIn w q' V')
  (hF : Hid ((K != K' || (!decide (A = A') || !decide (R = R') || !decide (n = n') || !decide (d = d')) || E != E' || !r1 || false) = false))
  (c1 : ∀ W, Below w.heap.size w W -> Calls Tryz.prog 55 #[.slice p len cap, .slice p' len' cap'] W fun e w' => e = .returned (.bool r1) /\ Below W.heap.size W w') :
  Calls Tryz.prog 39 #[.agg #[.int .i64 K, .slice p len cap, .int .i64 A, .int .i64 R, .int .i64 n, .int .i64 d, .slice q V.length vc, .int .i64 E], .agg #[.int .i64 K', .slice p' len' cap', .int .i64 A', .int .i64 R', .int .i64 n', .int .i64 d', .slice q' V.length vc', .int .i64 E']] w fun e w' => e = .returned (.bool (decide (V = V'))) /\ Below w.heap.size w w' := by
 replace hl := Lib.hid hl
 have H_c1 := Lib.hid c1
 clear c1
 go_enter Tryz.func39, Tryz.ntmps39
 go_upto_region 1 with (fail)
 refine wp_cutB w (Bc w.heap.size #[.int .i64 K, .slice p len cap, .int .i64 A, .int .i64 R, .int .i64 n, .int .i64 d, .slice q V.length vc, .int .i64 E] 29 <| Bc (w.heap.size + 1) #[.int .i64 K', .slice p' len' cap', .int .i64 A', .int .i64 R', .int .i64 n', .int .i64 d', .slice q' V.length vc', .int .i64 E'] 29 <| Bz) ?_
 rintro W1 hW z2 hL
 refine wp_regS 36 60 hW hL ?_
 iterate 6
  apply nd_det (hg := rfl) (hal := rfl)
  ·intro a W' hC hE
   obtain ⟨_, ⟨-, -, k1, -⟩, ⟨-, -, k2, -⟩, -⟩ := hC
   first
    | (simp at hE; simp [go_sem, Act.eval, IntWalk.i64_left, hE, k1, k2, ite_n4]; try rfl)
    | (clear hE; simp [go_sem, Act.eval, IntWalk.i64_left, k1, k2, ite_n4]; try rfl)
 iterate 5
  apply nd_detg (p := true) (hg := rfl) (hd := rfl) (hal := rfl)
  ·intro v W' h
   simp [envOf, Det, GDet] at h
   simp
   exact h
  ·intro hp hx a W' hC hE
   obtain ⟨_, ⟨-, -, k1, -⟩, ⟨-, -, k2, -⟩, -⟩ := hC
   simp [hx] at hE
   simp [go_sem, Act.eval, IntWalk.i64_left, hE, k1, k2, ite_n4]
   try rfl
 refine pO ?_
 iterate 1
  apply nd_det (hg := rfl) (hal := rfl)
  ·intro a W' hC hE
   obtain ⟨_, ⟨-, -, k1, -⟩, ⟨-, -, k2, -⟩, -⟩ := hC
   first
    | (simp at hE; simp [go_sem, Act.eval, IntWalk.i64_left, hE, k1, k2, ite_n4]; try rfl)
    | (clear hE; simp [go_sem, Act.eval, IntWalk.i64_left, k1, k2, ite_n4]; try rfl)
 iterate 5
  apply nd_detg (p := true) (hg := rfl) (hd := rfl) (hal := rfl)
  ·intro v W' h
   simp [envOf, Det, GDet] at h
   simp
   exact h
  ·intro hp hx a W' hC hE
   obtain ⟨_, ⟨-, -, k1, -⟩, ⟨-, -, k2, -⟩, -⟩ := hC
   simp [hx] at hE
   simp [go_sem, Act.eval, IntWalk.i64_left, hE, k1, k2, ite_n4]
   try rfl
 refine pO ?_
 iterate 1
  apply nd_det (hg := rfl) (hal := rfl)
  ·intro a W' hC hE
   obtain ⟨_, ⟨-, -, k1, -⟩, ⟨-, -, k2, -⟩, -⟩ := hC
   first
    | (simp at hE; simp [go_sem, Act.eval, IntWalk.i64_left, hE, k1, k2, ite_n4]; try rfl)
    | (clear hE; simp [go_sem, Act.eval, IntWalk.i64_left, k1, k2, ite_n4]; try rfl)
 iterate 4
  apply nd_detg (p := true) (hg := rfl) (hd := rfl) (hal := rfl)
  ·intro v W' h
   simp [envOf, Det, GDet] at h
   simp
   exact h
  ·intro hp hx a W' hC hE
   obtain ⟨_, ⟨-, -, k1, -⟩, ⟨-, -, k2, -⟩, -⟩ := hC
   simp [hx] at hE
   simp [go_sem, Act.eval, IntWalk.i64_left, hE, k1, k2, ite_n4]
   try rfl
 apply nd_callvg2 (p := true) (hg := rfl) (hd := rfl) (hal := rfl)
 ·intro v W' h
  simp at h
  simp
  exact h
 ·intro hp hx W' hC
  exact H_c1.out W' (hW.trans (hC.1.of_priv hW.size))
 ·intro hp hx a W' hC hE
  obtain ⟨_, ⟨-, -, k1, -⟩, ⟨-, -, k2, -⟩, -⟩ := hC
  first
   | (simp [hx] at hE; simp [go_sem, Act.eval, IntWalk.i64_left, hE, k1, k2, ite_n4]; try rfl)
   | (clear hE; simp [go_sem, Act.eval, IntWalk.i64_left, k1, k2, ite_n4]; try rfl)
 iterate 1
  apply nd_detg (p := true) (hg := rfl) (hd := rfl) (hal := rfl)
  ·intro v W' h
   simp [envOf, Det, GDet] at h
   simp
   exact h
  ·intro hp hx a W' hC hE
   obtain ⟨_, ⟨-, -, k1, -⟩, ⟨-, -, k2, -⟩, -⟩ := hC
   simp [hx] at hE
   simp [go_sem, Act.eval, IntWalk.i64_left, hE, k1, k2, ite_n4]
   try rfl
 refine pO ?_
 iterate 1
  apply nd_det (hg := rfl) (hal := rfl)
  ·intro a W' hC hE
   obtain ⟨_, ⟨-, -, k1, -⟩, ⟨-, -, k2, -⟩, -⟩ := hC
   first
    | (simp at hE; simp [go_sem, Act.eval, IntWalk.i64_left, hE, k1, k2, ite_n4]; try rfl)
    | (clear hE; simp [go_sem, Act.eval, IntWalk.i64_left, k1, k2, ite_n4]; try rfl)
 iterate 7
  apply nd_detg (p := true) (hg := rfl) (hd := rfl) (hal := rfl)
  ·intro v W' h
   simp [envOf, Det, GDet] at h
   simp
   exact h
  ·intro hp hx a W' hC hE
   obtain ⟨_, ⟨-, -, k1, -⟩, ⟨-, -, k2, -⟩, -⟩ := hC
   simp [hx] at hE
   simp [go_sem, Act.eval, IntWalk.i64_left, hE, k1, k2, ite_n4]
   try rfl
 refine pO ?_
 clear hW hL
 rintro W3 hW z4 hL
 simp only [ndR]
 intros
 repeat (rename GDet _ _ _ _ => hgd; clear hgd)
 simp only [ndS]
 refine wpList_nil ?_
 obtain ⟨⟨b1, yb1, k1, f1⟩, ⟨b2, yb2, k2, f2⟩, -⟩ := hL
 have z51 := hW.size
 have z52 := b1.lt
 have z53 := b2.lt
 rw [hF.out]
 go_wp2
 refine wp_loop (rsRel w K A R n d E p q len cap vc K' A' R' n' d' E' p' q' len' cap' vc' V V') (fun a' _ => V.length - (intAt (a'.tmps.getD 5 undef)).toNat) ?_ ?_
 ·unfold rsRel
  exact ⟨hW, b1, b2, 0, frame_ex rfl, by omega, fun k hk => by omega⟩
 ·clear b1 b2 hW k1 f1 k2 f2
  rintro a' W ⟨hW0, b1, b2, i, ⟨u, rfl⟩, hi', hall⟩
  have hz := hW0.size
  have z61 := b1.lt
  have z62 := b2.lt
  replace hall := Lib.hid hall
  rcases Nat.lt_or_ge i V.length with hlt | hge
  ·obtain ⟨r, tr⟩ : ∃ r, V[i]? = some r := ⟨V[i]'(by omega), List.getElem?_eq_getElem (by omega)⟩
   obtain ⟨t, tq⟩ : ∃ q, V'[i]? = some q := ⟨V'[i]'(by have := hl.out; omega), List.getElem?_eq_getElem (by have := hl.out; omega)⟩
   obtain ⟨b, o, rfl, -⟩ := hA0.at' i r tr
   obtain ⟨b', o', rfl, -⟩ := hB0.at' i t tq
   have hA : IntsP W b o V := ⟨hA0.below hW0⟩
   have hB : IntsP W b' o' V' := ⟨hB0.below hW0⟩
   replace tr := Lib.hid tr
   replace tq := Lib.hid tq
   have l1 := hlt
   have l2 : i < V'.length := by have := hl.out; omega
   have k1 := b1.cell
   have f1 := b1.frozen
   have k2 := b2.cell
   have f2 := b2.frozen
   go_upto_region 6 with (fail)
   clear k1 f1 k2 f2
   refine wp_cutB W (Bc w.heap.size #[.int .i64 K, .slice p len cap, .int .i64 A, .int .i64 R, .int .i64 n, .int .i64 d, .slice (some ⟨b, o, none⟩) V.length vc, .int .i64 E] 29 <| Bc (w.heap.size + 1) #[.int .i64 K', .slice p' len' cap', .int .i64 A', .int .i64 R', .int .i64 n', .int .i64 d', .slice (some ⟨b', o', none⟩) V.length vc', .int .i64 E'] 29 <| Rc (fun W' => IntsP W' b o V) <| Rc (fun W' => IntsP W' b' o' V') <| Bz) ?_ (hI := by exact belowAny) (hR := (Bc.mk (by exact blkAny2) <| Bc.mk (by exact blkAny2) <| Rc.mk (by exact hA.below belowAny) <| Rc.mk (by exact hB.below belowAny) <| trivial))
   clear b1 b2
   rintro W61 hW z62 hL
   obtain ⟨⟨b1, yb1, k1, f1⟩, ⟨b2, yb2, k2, f2⟩, b3, b4, -⟩ := id hL
   clear k1 f1 k2 f2
   refine wp_regQ 11 60 hW hL ?_
   iterate 11 refine dE (fun W' hC => aI (hC.2.2.2.1.cellAt tr.out) (aI (hC.2.2.2.2.1.cellAt tq.out) (aI l1 l2))) ?_
   clear hW hL b1 b2 b3 b4
   rintro W63 hW z64 hL
   simp only [ndR]
   intros
   simp only [ndS]
   refine wpList_nil ?_
   obtain ⟨⟨b1, yb1, k1, f1⟩, ⟨b2, yb2, k2, f2⟩, b3, b4, -⟩ := hL
   by_cases hrq : r = t
   ·have hall' := Lib.hid (show ∀ k, k < i + 1 -> V[k]? = V'[k]? from fun k hk => by
     rcases Nat.lt_or_ge k i with h | h
     ·exact hall.out k h
     ·obtain rfl : k = i := by omega
      rw [tr.out, tq.out, hrq])
    rw [show (r != t) = false by subst hrq; simp]
    clear hrq
    go_wp2
    rw [show (i : Int) + 1 = ((i + 1 : Nat) : Int) by omega]
    refine ⟨?_, by simp [intAt]; omega⟩
    unfold rsRel
    exact ⟨hW0.trans (hW.mono hz), b1, b2, i + 1, frame_ex rfl, by omega, hall'.out⟩
   ·have hne := Lib.hid (show decide (V = V') = false by
     rw [decide_eq_false_iff_not]
     rintro rfl
     rw [tr.out] at tq
     exact hrq (Option.some.inj tq.out))
    rw [show (r != t) = true by simp [hrq]]
    clear hrq
    go_wp2
    go_ret
    exact ⟨by rw [hne.out]; rfl, hW0.trans (hW.mono hz)⟩
  ·obtain rfl : i = V.length := by omega
   have heq := Lib.hid (show decide (V = V') = true by
    rw [decide_eq_true_eq]
    apply List.ext_getElem?
    intro k
    rcases Nat.lt_or_ge k V.length with h | h
    ·exact hall.out k h
    ·rw [List.getElem?_eq_none h, List.getElem?_eq_none (by have := hl.out; omega)])
   have k1 := b1.cell
   have f1 := b1.frozen
   go_wp2
   go_ret
   exact ⟨by rw [heq.out]; rfl, hW0⟩
def sameT (s t : SegT) : Bool := (s.K == t.K) && (decide (s.A = t.A) && decide (s.R = t.R) && decide (s.n = t.n) && decide (s.d = t.d)) && (s.E == t.E) && decide (s.runs = t.runs) && decide (s.raw = t.raw)
theorem sameT_refl (s : SegT) : sameT s s = true := by simp [sameT]
theorem c_refSame (s t : SegT) (p q p' q' : Option Addr) (cap vc cap' vc' : Nat) (w : World) (h : SegIn w s p q) (h' : SegIn w t p' q') :
  Calls Tryz.prog 39 #[.agg (segA s p q cap vc), .agg (segA t p' q' cap' vc')] w fun e w' => e = .returned (.bool (sameT s t)) /\ Below w.heap.size w w' := by
 have a := h.fewR; have b := h.fewV
 have c1 := fun (W : World) (hW : Below w.heap.size w W) => c_refsame p cap p' cap' s.runs t.runs W (by omega) (h.runs.below hW) (h'.runs.below hW)
 cases hF : (s.K != t.K || (!decide (s.A = t.A) || !decide (s.R = t.R) || !decide (s.n = t.n) || !decide (s.d = t.d)) || s.E != t.E || !decide (s.runs = t.runs) || (s.raw.length : Int) != (t.raw.length : Int)) with
 | true =>
  rw [show sameT s t = false by
   cases hs : sameT s t with
   | false => rfl
   | true =>
    unfold sameT at hs
    simp only [Bool.and_eq_true, decide_eq_true_eq, beq_iff_eq] at hs
    obtain ⟨⟨⟨⟨h1, ⟨⟨h2, h3⟩, h4⟩, h5⟩, h6⟩, h7⟩, h8⟩ := hs
    rw [h1, h2, h3, h4, h5, h6, h7, h8] at hF
    simp at hF]
  exact rsame_no _ _ _ _ _ _ p q _ cap vc s.raw w _ _ _ _ _ _ p' q' _ cap' _ vc' _ (Lib.hid hF) c1
 | false =>
  have hF' := hF
  simp only [Bool.or_eq_false_iff, Bool.not_eq_false', bne_eq_false_iff_eq, Bool.and_eq_true, decide_eq_true_eq] at hF
  obtain ⟨⟨⟨⟨h1, ⟨⟨h2, h3⟩, h4⟩, h5⟩, h6⟩, h7⟩, h8⟩ := hF
  have hl : s.raw.length = t.raw.length := by omega
  rw [<- hl, show ((s.raw.length : Int) != (s.raw.length : Int)) = false by simp] at hF'
  rw [show sameT s t = decide (s.raw = t.raw) by simp [sameT, h1, h2, h3, h4, h5, h6, h7]]
  have := rsame_yes _ _ _ _ _ _ p q _ cap vc s.raw t.raw w _ _ _ _ _ _ p' q' _ cap' vc' _ hl (by omega) h.raw h'.raw (Lib.hid hF') c1
  unfold segA
  rw [<- hl]
  exact this
end Go.Proofs.YtbanjolokkghdaaGreatDoor
namespace Go.Proofs.YtbanjolokkghdaaGreatDoor
open Go.RowKit
def s13Rel (w : World) (p p' : Option Addr) (cap cap' : Nat) (l : List SegT) (a' : Act) (W : World) : Prop :=
 Below w.heap.size w W /\ ∃ i : Nat, (∃ u : Nat -> Value, a' = { tmps := #[.slice p l.length cap, .slice p' l.length cap', u 2, u 3, u 4, .int .i64 (i : Int), u 6, u 7, u 8, u 9, u 10, u 11, u 12, u 13, u 14, u 15, u 16, u 17, u 18, u 19, u 20, u 21, u 22, u 23, u 24, u 25, u 26], defers := [] }) /\ i <= l.length
def eqqRel (w : World) (p : Option Addr) (cap : Nat) (p' : Option Addr) (cap' : Nat) (A B : List (Int × Int)) (a' : Act) (W : World) : Prop :=
  Below w.heap.size w W ∧ ∃ (i : Nat), (∃ u : Nat → Value, a' = { tmps := #[.slice p A.length cap, .slice p' A.length cap', u 2, u 3, .bool false, u 5, u 6, u 7, u 8, u 9, u 10, u 11, .int .i64 (A.length : Int), .int .i64 (i : Int), u 14, u 15, u 16, u 17, u 18, u 19, u 20, u 21, u 22, u 23, u 24, u 25], defers := [] }) ∧ i ≤ A.length ∧ ∀ k, k < i → A[k]? = B[k]?
/-- the same segments -/
def sameL : List SegT → List SegT → Bool
  | [], [] => true
  | s :: l, t :: m => sameT s t && sameL l m
  | _, _ => false
theorem sameL_refl : ∀ l : List SegT, sameL l l = true
  | [] => rfl
  | s :: l => by simp [sameL, sameT_refl, sameL_refl l]
theorem sameL_len : ∀ {l m : List SegT}, ¬ l.length = m.length → sameL l m = false
  | [], [], h => absurd rfl h
  | [], _ :: _, _ => rfl
  | _ :: _, [], _ => rfl
  | s :: l, t :: m, h => by simp only [sameL, sameL_len (l := l) (m := m) (by simpa using h), Bool.and_false]
theorem sameL_no : ∀ {l m : List SegT} {i : Nat} {x y : SegT}, l[i]? = some x → m[i]? = some y → sameT x y = false → sameL l m = false
  | [], _, _, _, _, h1, _, _ => by simp at h1
  | _ :: _, [], _, _, _, _, h2, _ => by simp at h2
  | s :: l, t :: m, 0, x, y, h1, h2, h => by
    simp at h1 h2; subst h1; subst h2
    simp [sameL, h]
  | s :: l, t :: m, i + 1, x, y, h1, h2, h => by
    rw [List.getElem?_cons_succ] at h1 h2
    show (sameT s t && sameL l m) = false
    rw [sameL_no h1 h2 h, Bool.and_false]
theorem sameL_yes : ∀ {l m : List SegT}, l.length = m.length → (∀ (i : Nat) x y, l[i]? = some x → m[i]? = some y → sameT x y = true) → sameL l m = true
  | [], [], _, _ => rfl
  | s :: l, t :: m, hl, h => by
    simp only [sameL, h 0 s t rfl rfl, Bool.true_and]
    exact sameL_yes (by simpa using hl) fun i x y h1 h2 => h (i + 1) x y (by simpa using h1) (by simpa using h2)
def Upto (l m : List SegT) (i : Nat) : Prop := ∀ (k : Nat) x y, k < i → l[k]? = some x → m[k]? = some y → sameT x y = true
theorem Upto.next {l m : List SegT} {i : Nat} {x y : SegT} (h : Upto l m i) (h1 : l[i]? = some x) (h2 : m[i]? = some y) (h3 : sameT x y = true) : Upto l m (i + 1) := fun k u v hk hu hv => by
  rcases Nat.lt_or_ge k i with hlt | hge
  · exact h k u v hlt hu hv
  · obtain rfl : k = i := by omega
    rw [h1] at hu; rw [h2] at hv
    injection hu with hu; injection hv with hv
    rw [← hu, ← hv]; exact h3
def s13gRel (w : World) (p p' : Option Addr) (cap cap' : Nat) (l m : List SegT) (a' : Act) (W : World) : Prop :=
  Below w.heap.size w W ∧ ∃ i : Nat, (∃ u : Nat → Value, a' = { tmps := #[.slice p l.length cap, .slice p' l.length cap', u 2, u 3, u 4, .int .i64 (i : Int), u 6, u 7, u 8, u 9, u 10, u 11, u 12, u 13, u 14, u 15, u 16, u 17, u 18, u 19, u 20, u 21, u 22, u 23, u 24, u 25, u 26], defers := [] }) ∧ i ≤ l.length ∧ Upto l m i
set_option maxRecDepth 100000 in
set_option maxHeartbeats 2000000 in
theorem r13Same_w (l m : List SegT) (p p' : Option Addr) (cap cap' : Nat) (w : World) (h : SegsIn w p l) (h' : SegsIn w p' m) (hl : l.length ≤ 100) (hlm : l.length = m.length) :
    Calls Tryz.prog 18 #[.slice p l.length cap, .slice p' l.length cap'] w fun e w' => e = .returned (.bool (sameL l m)) ∧ Below w.heap.size w w' := by
  go_enter Tryz.func18, Tryz.ntmps18
  replace hlm := Lib.hid hlm
  go_wp2
  refine wp_loop (s13gRel w p p' cap cap' l m) (fun a' _ => l.length - (intAt (a'.tmps.getD 5 undef)).toNat) ?_ ?_
  · unfold s13gRel
    exact ⟨Below.refl _ _, 0, frame_ex rfl, by omega, fun k x y hk => by omega⟩
  rintro a' W ⟨hW0, i, ⟨u, rfl⟩, hi, hup⟩
  have hz := hW0.size
  replace hup := Lib.hid hup
  rcases Nat.lt_or_ge i l.length with hlt | hge
  · obtain ⟨x, tr⟩ : ∃ r, l[i]? = some r := ⟨l[i]'(by omega), List.getElem?_eq_getElem (by omega)⟩
    obtain ⟨y, tq⟩ : ∃ r, m[i]? = some r := ⟨m[i]'(by have := hlm.out; omega), List.getElem?_eq_getElem (by have := hlm.out; omega)⟩
    obtain ⟨b1, o1, p1, q1, cp1, vc1, rfl, h1, g1, -⟩ := (h.below hW0).at' i x tr
    obtain ⟨b2, o2, p2, q2, cp2, vc2, rfl, h2, g2, -⟩ := (h'.below hW0).at' i y tq
    have c1 := fun W' (hW' : Below W.heap.size W W') => c_refSame x y p1 q1 p2 q2 cp1 vc1 cp2 vc2 W' (g1.below hW') (g2.below hW')
    replace tr := Lib.hid tr
    replace tq := Lib.hid tq
    cases hB : sameT x y with
    | true =>
      have hup' := Lib.hid (hup.out.next tr.out tq.out hB)
      rw [hB] at c1
      unfold segA at c1 h1 h2
      replace c1 := Lib.hid c1
      clear g1 g2 hB
      go_upto_region 6 with (fail)
      refine wp_cutB W (Rc (fun W' => CellsP W' b1 (o1 + i * 8) #[.int .i64 x.K, .slice p1 x.runs.length cp1, .int .i64 x.A, .int .i64 x.R, .int .i64 x.n, .int .i64 x.d, .slice q1 x.raw.length vc1, .int .i64 x.E]) <| Rc (fun W' => CellsP W' b2 (o2 + i * 8) #[.int .i64 y.K, .slice p2 y.runs.length cp2, .int .i64 y.A, .int .i64 y.R, .int .i64 y.n, .int .i64 y.d, .slice q2 y.raw.length vc2, .int .i64 y.E]) <| Bz) ?_ (hI := by exact belowAny) (hR := (Rc.mk (by first | exact ⟨h1⟩ | (exact (CellsP.mk h1).below belowAny)) <| Rc.mk (by first | exact ⟨h2⟩ | (exact (CellsP.mk h2).below belowAny)) <| trivial))
      rintro W21 hW z22 hL
      obtain ⟨b1, b2, -⟩ := id hL
      refine wp_regQ 10 27 hW hL ?_
      iterate 8 refine dE (fun W' hC => aI hlt (aI (Nat.not_le.2 hlt) (aI (hC.2.1.at' 0 _ rfl) (aI (hC.2.1.at' 1 _ rfl) (aI (hC.2.1.at' 2 _ rfl) (aI (hC.2.1.at' 3 _ rfl) (aI (hC.2.1.at' 4 _ rfl) (aI (hC.2.1.at' 5 _ rfl) (aI (hC.2.1.at' 6 _ rfl) (aI (hC.2.1.at' 7 _ rfl) (aI (hC.2.2.1.at' 0 _ rfl) (aI (hC.2.2.1.at' 1 _ rfl) (aI (hC.2.2.1.at' 2 _ rfl) (aI (hC.2.2.1.at' 3 _ rfl) (aI (hC.2.2.1.at' 4 _ rfl) (aI (hC.2.2.1.at' 5 _ rfl) (aI (hC.2.2.1.at' 6 _ rfl) (hC.2.2.1.at' 7 _ rfl)))))))))))))))))) ?_
      refine cE (fun W' hC => aI hlt (aI (Nat.not_le.2 hlt) (aI (hC.2.1.at' 0 _ rfl) (aI (hC.2.1.at' 1 _ rfl) (aI (hC.2.1.at' 2 _ rfl) (aI (hC.2.1.at' 3 _ rfl) (aI (hC.2.1.at' 4 _ rfl) (aI (hC.2.1.at' 5 _ rfl) (aI (hC.2.1.at' 6 _ rfl) (aI (hC.2.1.at' 7 _ rfl) (aI (hC.2.2.1.at' 0 _ rfl) (aI (hC.2.2.1.at' 1 _ rfl) (aI (hC.2.2.1.at' 2 _ rfl) (aI (hC.2.2.1.at' 3 _ rfl) (aI (hC.2.2.1.at' 4 _ rfl) (aI (hC.2.2.1.at' 5 _ rfl) (aI (hC.2.2.1.at' 6 _ rfl) (hC.2.2.1.at' 7 _ rfl)))))))))))))))))) (fun W' hC => c1.out W' (hW.trans (hC.1.of_priv hW.size))) ?_
      refine dE (fun W' hC => aI hlt (aI (Nat.not_le.2 hlt) (aI (hC.2.1.at' 0 _ rfl) (aI (hC.2.1.at' 1 _ rfl) (aI (hC.2.1.at' 2 _ rfl) (aI (hC.2.1.at' 3 _ rfl) (aI (hC.2.1.at' 4 _ rfl) (aI (hC.2.1.at' 5 _ rfl) (aI (hC.2.1.at' 6 _ rfl) (aI (hC.2.1.at' 7 _ rfl) (aI (hC.2.2.1.at' 0 _ rfl) (aI (hC.2.2.1.at' 1 _ rfl) (aI (hC.2.2.1.at' 2 _ rfl) (aI (hC.2.2.1.at' 3 _ rfl) (aI (hC.2.2.1.at' 4 _ rfl) (aI (hC.2.2.1.at' 5 _ rfl) (aI (hC.2.2.1.at' 6 _ rfl) (hC.2.2.1.at' 7 _ rfl)))))))))))))))))) ?_
      clear hW hL b1 b2
      rintro W23 hW z24 hL
      simp only [ndR]
      intros
      simp only [ndS]
      refine wpList_nil ?_
      obtain ⟨b1, b2, -⟩ := hL
      go_wp2
      rw [show (i : Int) + 1 = ((i + 1 : Nat) : Int) by omega]
      refine ⟨?_, by simp [intAt]; omega⟩
      unfold s13gRel
      exact ⟨hW0.trans (hW.mono hz), i + 1, frame_ex rfl, by omega, hup'.out⟩
    | false =>
      have hno := Lib.hid (sameL_no tr.out tq.out hB)
      rw [hB] at c1
      unfold segA at c1 h1 h2
      replace c1 := Lib.hid c1
      clear g1 g2 hB
      go_upto_region 6 with (fail)
      refine wp_cutB W (Rc (fun W' => CellsP W' b1 (o1 + i * 8) #[.int .i64 x.K, .slice p1 x.runs.length cp1, .int .i64 x.A, .int .i64 x.R, .int .i64 x.n, .int .i64 x.d, .slice q1 x.raw.length vc1, .int .i64 x.E]) <| Rc (fun W' => CellsP W' b2 (o2 + i * 8) #[.int .i64 y.K, .slice p2 y.runs.length cp2, .int .i64 y.A, .int .i64 y.R, .int .i64 y.n, .int .i64 y.d, .slice q2 y.raw.length vc2, .int .i64 y.E]) <| Bz) ?_ (hI := by exact belowAny) (hR := (Rc.mk (by first | exact ⟨h1⟩ | (exact (CellsP.mk h1).below belowAny)) <| Rc.mk (by first | exact ⟨h2⟩ | (exact (CellsP.mk h2).below belowAny)) <| trivial))
      rintro W21 hW z22 hL
      obtain ⟨b1, b2, -⟩ := id hL
      refine wp_regQ 10 27 hW hL ?_
      iterate 8 refine dE (fun W' hC => aI hlt (aI (Nat.not_le.2 hlt) (aI (hC.2.1.at' 0 _ rfl) (aI (hC.2.1.at' 1 _ rfl) (aI (hC.2.1.at' 2 _ rfl) (aI (hC.2.1.at' 3 _ rfl) (aI (hC.2.1.at' 4 _ rfl) (aI (hC.2.1.at' 5 _ rfl) (aI (hC.2.1.at' 6 _ rfl) (aI (hC.2.1.at' 7 _ rfl) (aI (hC.2.2.1.at' 0 _ rfl) (aI (hC.2.2.1.at' 1 _ rfl) (aI (hC.2.2.1.at' 2 _ rfl) (aI (hC.2.2.1.at' 3 _ rfl) (aI (hC.2.2.1.at' 4 _ rfl) (aI (hC.2.2.1.at' 5 _ rfl) (aI (hC.2.2.1.at' 6 _ rfl) (hC.2.2.1.at' 7 _ rfl)))))))))))))))))) ?_
      refine cE (fun W' hC => aI hlt (aI (Nat.not_le.2 hlt) (aI (hC.2.1.at' 0 _ rfl) (aI (hC.2.1.at' 1 _ rfl) (aI (hC.2.1.at' 2 _ rfl) (aI (hC.2.1.at' 3 _ rfl) (aI (hC.2.1.at' 4 _ rfl) (aI (hC.2.1.at' 5 _ rfl) (aI (hC.2.1.at' 6 _ rfl) (aI (hC.2.1.at' 7 _ rfl) (aI (hC.2.2.1.at' 0 _ rfl) (aI (hC.2.2.1.at' 1 _ rfl) (aI (hC.2.2.1.at' 2 _ rfl) (aI (hC.2.2.1.at' 3 _ rfl) (aI (hC.2.2.1.at' 4 _ rfl) (aI (hC.2.2.1.at' 5 _ rfl) (aI (hC.2.2.1.at' 6 _ rfl) (hC.2.2.1.at' 7 _ rfl)))))))))))))))))) (fun W' hC => c1.out W' (hW.trans (hC.1.of_priv hW.size))) ?_
      refine dE (fun W' hC => aI hlt (aI (Nat.not_le.2 hlt) (aI (hC.2.1.at' 0 _ rfl) (aI (hC.2.1.at' 1 _ rfl) (aI (hC.2.1.at' 2 _ rfl) (aI (hC.2.1.at' 3 _ rfl) (aI (hC.2.1.at' 4 _ rfl) (aI (hC.2.1.at' 5 _ rfl) (aI (hC.2.1.at' 6 _ rfl) (aI (hC.2.1.at' 7 _ rfl) (aI (hC.2.2.1.at' 0 _ rfl) (aI (hC.2.2.1.at' 1 _ rfl) (aI (hC.2.2.1.at' 2 _ rfl) (aI (hC.2.2.1.at' 3 _ rfl) (aI (hC.2.2.1.at' 4 _ rfl) (aI (hC.2.2.1.at' 5 _ rfl) (aI (hC.2.2.1.at' 6 _ rfl) (hC.2.2.1.at' 7 _ rfl)))))))))))))))))) ?_
      clear hW hL b1 b2
      rintro W23 hW z24 hL
      simp only [ndR]
      intros
      simp only [ndS]
      refine wpList_nil ?_
      obtain ⟨b1, b2, -⟩ := hL
      go_wp2
      go_ret
      exact ⟨by rw [hno.out]; rfl, hW0.trans (hW.mono hz)⟩
  · obtain rfl : i = l.length := by omega
    have hyes := Lib.hid (sameL_yes hlm.out fun k x y h1 h2 => hup.out k x y (List.getElem?_eq_some_iff.1 h1).1 h1 h2)
    go_wp2
    go_ret
    exact ⟨by rw [hyes.out]; rfl, hW0⟩
set_option maxRecDepth 100000 in
set_option maxHeartbeats 2000000 in
theorem r13Same_len (p : Option Addr) (n cap : Nat) (p' : Option Addr) (k cap' : Nat) (w : World) (hl : ¬ n = k) :
    Calls Tryz.prog 18 #[.slice p n cap, .slice p' k cap'] w fun e w' => e = .returned (.bool false) ∧ Below w.heap.size w w' := by
  go_enter Tryz.func18, Tryz.ntmps18
  go_wp2
  go_ret
  exact ⟨rfl, Below.refl _ _⟩
theorem c_r13SameG (l m : List SegT) (p p' : Option Addr) (cap cap' : Nat) (w : World) (h : SegsIn w p l) (h' : SegsIn w p' m) (hl : l.length ≤ 100) :
    Calls Tryz.prog 18 #[.slice p l.length cap, .slice p' m.length cap'] w fun e w' => e = .returned (.bool (sameL l m)) ∧ Below w.heap.size w w' := by
  by_cases e : l.length = m.length
  · rw [← e]; exact r13Same_w l m p p' cap cap' w h h' hl e
  · rw [sameL_len e]; exact r13Same_len p _ cap p' _ cap' w e
def eqbRel (w : World) (p : Option Addr) (cap : Nat) (p' : Option Addr) (cap' : Nat) (l : List RunT) (a' : Act) (W : World) : Prop :=
  Below w.heap.size w W ∧ ∃ (i : Nat), (∃ u : Nat → Value, a' = { tmps := #[.slice p l.length cap, .slice p' l.length cap', u 2, u 3, .bool false, u 5, u 6, u 7, u 8, u 9, u 10, u 11, .int .i64 (l.length : Int), .int .i64 (i : Int), u 14, u 15, u 16, u 17, u 18, u 19, u 20, u 21, u 22, u 23, u 24, u 25], defers := [] }) ∧ i ≤ l.length
set_option maxRecDepth 100000 in
set_option maxHeartbeats 2000000 in
theorem c_eqBnd (p : Option Addr) (cap : Nat) (p' : Option Addr) (cap' : Nat) (l : List RunT) (w : World) (hlen : l.length ≤ 1000000) (hA0 : RunsIn w p l) (hB0 : RunsIn w p' l) :
    Calls Tryz.prog 16 #[.slice p l.length cap, .slice p' l.length cap'] w fun e w' => e = .returned (.bool true) ∧ Below w.heap.size w w' := by
  go_enter Tryz.func16, Tryz.ntmps16
  go_wp2
  refine wp_loop (eqbRel w p cap p' cap' l) (fun a' _ => l.length - (intAt (a'.tmps.getD 13 undef)).toNat) ?_ ?_
  · unfold eqbRel
    exact ⟨Below.refl _ _, 0, frame_ex rfl, by omega⟩
  · rintro a' W ⟨hW0, i, ⟨u, rfl⟩, hi'⟩
    have hz := hW0.size
    rcases Nat.lt_or_ge i l.length with hlt | hge
    · obtain ⟨r, tr⟩ : ∃ r, l[i]? = some r := ⟨l[i]'(by omega), List.getElem?_eq_getElem (by omega)⟩
      obtain ⟨b, o, rfl, -⟩ := hA0.at' i r tr
      obtain ⟨b', o', rfl, -⟩ := hB0.at' i r tr
      have hA : RunsP W b o l := ⟨hA0.below hW0⟩
      have hB : RunsP W b' o' l := ⟨hB0.below hW0⟩
      replace tr := Lib.hid tr
      go_upto_region 6 with (fail)
      refine wp_cutB W (Rc (fun W' => RunsP W' b o l) <| Rc (fun W' => RunsP W' b' o' l) <| Bz) ?_ (hI := by exact belowAny) (hR := (Rc.mk (by exact hA.below belowAny) <| Rc.mk (by exact hB.below belowAny) <| trivial))
      rintro W1 hW z2 hL
      obtain ⟨b1, b2, -⟩ := id hL
      refine wp_regQ 9 26 hW hL ?_
      iterate 9 refine dE (fun W' hC => aI (hC.2.1.cellAt tr.out) (aI (hC.2.2.1.cellAt tr.out) hlt)) ?_
      clear hW hL b1 b2
      rintro W3 hW z4 hL
      simp only [ndR]
      intros
      simp only [ndS]
      refine wpList_nil ?_
      obtain ⟨b1, b2, -⟩ := hL
      go_wp2
      rw [show (i : Int) + 1 = ((i + 1 : Nat) : Int) by omega]
      refine ⟨?_, by simp [intAt]; omega⟩
      unfold eqbRel
      exact ⟨hW0.trans (hW.mono hz), i + 1, frame_ex rfl, by omega⟩
    · obtain rfl : i = l.length := by omega
      go_wp2
      go_ret
      exact ⟨rfl, hW0⟩
end Go.Proofs.YtbanjolokkghdaaGreatDoor
