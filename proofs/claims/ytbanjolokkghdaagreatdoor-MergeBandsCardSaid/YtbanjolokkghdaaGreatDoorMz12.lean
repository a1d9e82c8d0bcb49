/- Parts of the proof that follows: Layer seg: Of, told. | Layer seg: Of, told. | The laws of chapter 11, plainly: which places some times have. No condition. | Ranges over functions: all times of runs, one behind the other. No condition. | Ranges over functions: what comes is collected; the times of runs. No condition. | All times of runs, told. | All points of a segment, one behind the other. No condition. -/
import Derived.RangeFuncNested
import Derived.RangeFuncBound
import Derived.RangeFuncCalls
import Derived.RangeFuncLeaves
import Derived.RangeFuncBox
import Derived.Maps.AppendAt
import Derived.Shelf.Abstract
import Derived.Shelf.RegionOpen
import Derived.WalkKit
import Derived.OwnWalkIn
import Derived.TacticsInMore
import Derived.LoopNIn
import Derived.LoopIn
import Derived.Test.YtbanjolokkghdaaGreatDoorMz11
set_option maxRecDepth 100000
set_option maxHeartbeats 8000000
set_option linter.unusedSimpArgs false
set_option linter.unusedVariables false
namespace Go.Proofs.YtbanjolokkghdaaGreatDoor
open Go.RowKit
theorem RunsIn.new {w w' : World} {p : Option Addr} {l : List RunT} (h : RunsIn w p l) (o i : Nat) (v : Value) (hne : ∀ a, p = some a -> a.block ≠ o) : RunsIn (w.setCell ⟨o, i, none⟩ v) p l := h.set' hne
section
variable {P : Program} {ops : Array Oper} {C : World -> Prop} {X : List (Nat × Nat)} {a0 : Act} {Fin : List (Option Tmp × Spec) -> Prop} {i : Nat} {o : Oper} {rest : List Oper} {acc : List (Option Tmp × Spec)}
theorem nd_spec (Φ : Spec) (hcl : Closed (others X i) Φ) (hg : o.guard = none) (hal : isAlloc o = false)
  (h : ∀ (a : Act) (w : World), C w -> (∀ s ∈ o.looksAt ops, envOf a0 acc s (a.tmps.getD s undef) w) -> ∃ v, (execOp a.eval o).run P w = .ok (.value v) w /\ Φ v w)
  (hr : ndWalk P ops C X a0 Fin (i + 1) rest ((o.dst, Φ) :: acc)) : ndWalk P ops C X a0 Fin i (o :: rest) acc :=
 ⟨Φ, hcl, fun a w hC hE => ⟨fun _ => by
  obtain ⟨v, h1, h2⟩ := h a w hC hE
  rw [h1]; exact ⟨Rex.refl _ _, h2, fun e => by rw [hal] at e; cases e⟩, fun e => by rw [wanted_none hg] at e; cases e⟩, hr⟩
end
def SV (K A R n d E : Int) (B : Nat) (l : List RunT) : Spec := fun v w => ∃ p1 cap1 q1 vc1, v = .agg #[.int .i64 K, .slice p1 l.length cap1, .int .i64 A, .int .i64 R, .int .i64 n, .int .i64 d, .slice q1 0 vc1, .int .i64 E] /\ RunsIn w p1 l /\ l.length <= cap1 /\ ∀ a, p1 = some a -> B <= a.block
def TV (K A R n d E : Int) (B : Nat) (l : List RunT) : Spec := fun v w => ∃ p1 cap1 q1 vc1, v = .tuple #[.agg #[.int .i64 K, .slice p1 l.length cap1, .int .i64 A, .int .i64 R, .int .i64 n, .int .i64 d, .slice q1 0 vc1, .int .i64 E], .int .i64 0] /\ RunsIn w p1 l /\ l.length <= cap1 /\ ∀ a, p1 = some a -> B <= a.block
theorem SV.closed (K A R n d E : Int) (B : Nat) (l : List RunT) : Closed [] (SV K A R n d E B l) := fun _ _ _ hr ⟨p', c', q', v', e, h, k⟩ => ⟨p', c', q', v', e, h.rex hr rfl, k⟩
theorem TV.closed (K A R n d E : Int) (B : Nat) (l : List RunT) : Closed [] (TV K A R n d E B l) := fun _ _ _ hr ⟨p', c', q', v', e, h, k⟩ => ⟨p', c', q', v', e, h.rex hr rfl, k⟩
def outOf (s : SegT) (i j : Int) : Array Value × Int := if i < j then (partA (slice (vals s) i.toNat j.toNat), 0) else (#[.int .i64 0, .int .i64 0, .int .i64 0, .int .i64 0, .int .u64 0], 9)
theorem vals_back {s : SegT} (hs : segB s = true) {v : Int} (hv : v ∈ vals s) : -2305844108725321728 <= v /\ v <= 2305844108725321728 := by
 unfold vals at hv
 rcases segB_cases hs with ⟨hk, hline⟩ | ⟨hk, _, hback⟩
 ·rw [if_neg (by omega)] at hv
  simp only [List.mem_map] at hv
  obtain ⟨t, ht, rfl⟩ := hv
  have := mem_times hline.runs ht
  exact isBack_iff.1 (hline.back this.1 this.2.1)
 ·rw [if_pos hk] at hv
  exact raw_back hback hv
end Go.Proofs.YtbanjolokkghdaaGreatDoor
namespace Go.Proofs.YtbanjolokkghdaaGreatDoor
open Go.RowKit Go.Shelf
attribute [local go_sem] Oper.semAt_some
theorem wpIn_scope {P : Program} {n : Nat} {c : Code} {Q : Exit -> Act -> World -> Prop} {a : Act} {w : World} (h : c.wpIn Fence.wide n P (Exit.noGoto Q) a w) : (Code.scope c).wpIn Fence.wide n P Q a w := wpIn_wide.2 (wp_scope_straight (wpIn_wide.1 h))
theorem wpIn_lab {F : Fence} {P : Program} {n l : Nat} {c : Code} {Q : Exit -> Act -> World -> Prop} {a : Act} {w : World} (h : c.wpIn F n P Q a w) : ((Code.label l).seq c).wpIn F n P Q a w := wpIn_seq (wpIn_label h)
def KeepsT (t : TypeId) (A B : World) : Prop := ∀ (b : Nat) (cs : Array Value) (f : Nat × Nat), A.heap[b]? = some (.cells cs t f) -> B.heap[b]? = some (.cells cs t f)
theorem KeepsT.refl (t : TypeId) (A : World) : KeepsT t A A := fun _ _ _ h => h
theorem KeepsT.trans {t : TypeId} {A B C : World} (h : KeepsT t A B) (k : KeepsT t B C) : KeepsT t A C := fun b cs f hb => k b cs f (h b cs f hb)
theorem times_step {l : List RunT} {k : Nat} {r : RunT} (hr : l[k]? = some r) : timesL (l.take (k + 1)) = timesL (l.take k) ++ timesR r := by
 rw [List.take_add_one, hr, timesL_append]
 simp [timesL]
theorem timesR_step {r : RunT} {j : Nat} (h : (j : Int) < r.c) : (timesR r).take (j + 1) = (timesR r).take j ++ [r.f + r.s * (j : Int)] := by
 rw [List.take_add_one, timesR_at r j h]
 rfl
theorem times_room {l : List RunT} {k j : Nat} {r : RunT} (hr : l[k]? = some r) (h : (j : Int) < r.c) : (timesL (l.take k) ++ (timesR r).take j).length < (timesL l).length := by
 have e : timesL l = timesL (l.take (k + 1)) ++ timesL (l.drop (k + 1)) := by rw [<- timesL_append, List.take_append_drop]
 rw [e, times_step hr]
 have := length_timesR r
 simp
 omega
theorem times_pre {l : List RunT} {k j : Nat} {r : RunT} (hr : l[k]? = some r) : timesL (l.take k) ++ (timesR r).take j <+: timesL l := by
 have e : timesL l = timesL (l.take (k + 1)) ++ timesL (l.drop (k + 1)) := by rw [<- timesL_append, List.take_append_drop]
 rw [e, times_step hr]
 exact ⟨(timesR r).drop j ++ timesL (l.drop (k + 1)), by rw [List.append_assoc, <- List.append_assoc (List.take j _), List.take_append_drop, List.append_assoc]⟩
theorem all1_in (n : Nat) (hn : 1 <= n) (lr Bs n₀ : Nat) (p : Option Addr) (cap : Nat) (l : List RunT) (hl : ∀ r, r ∈ l -> RunOk r) (hlen : l.length <= 256) (Kp : World -> World -> Prop) (hK : ∀ {A B}, Kp A B -> Below n₀ A B /\ KeepsT 94 A B)
  (J Jx : List Int -> World -> Prop) (B0 : Nat) (hJ : AbidesFrom B0 J)
  (hY : ∀ pre x W, J pre W -> pre.length < (timesL l).length -> YieldAt Fence.wide (n - 1) Tryz.prog lr #[.int .i64 x] W fun e W' => (e = .returned (.bool true) /\ J (pre ++ [x]) W' /\ Kp W W') ∨ (e = .returned (.bool false) /\ Jx (pre ++ [x]) W'))
  (W : World) (hBs : W.cell? ⟨Bs, 0, none⟩ = some (.slice p l.length cap)) (hR : RunsIn W p l) (hn₀ : ∀ a, p = some a -> a.block < n₀) (hn1 : n₀ <= W.heap.size) (h0 : J [] W) :
  CallsIn Fence.wide n Tryz.prog 226 #[.func (.yield lr) #[] #[], .pointer (some ⟨Bs, 0, none⟩)] W fun e W' => (∃ v, e = .returned v) /\ ((∃ ys, ys = timesL l /\ J ys W') ∨ (∃ pre, pre <+: timesL l /\ Jx pre W')) := by
 refine callsIn_of_wp Tryz.func226 rfl trivial ?_ rfl
 simp only [Tryz.ntmps226, List.size_toArray, List.length_cons, List.length_nil, Nat.reduceAdd, Nat.reduceSub, Array.replicate_succ, Array.replicate_zero, List.push_toArray, List.append_toArray, List.nil_append, List.cons_append]
 refine wpIn_scope (wpIn_lab ?_)
 gi_wp2
 gi_loopw [8] (fun i wr => ∃ k : Nat, k <= l.length /\ i = .int .i64 k /\ J (timesL (l.take k)) wr /\ Below n₀ W wr /\ W.heap.size <= wr.heap.size) (fun i _ => l.length - (intOf i).toNat)
 case atStart => exact ⟨0, Nat.zero_le _, rfl, h0, Below.refl _ _, Nat.le_refl _⟩
 case round =>
  obtain ⟨k, hk, rfl, hJs, hnx, hsz⟩ := hrel
  obtain ⟨wo, rfl⟩ : ∃ wo : World, wo = wr := ⟨_, rfl⟩
  rcases Nat.lt_or_ge k l.length with hlt | hge
  ·obtain ⟨r, hri⟩ : ∃ r, l[k]? = some r := ⟨l[k]'(by omega), List.getElem?_eq_getElem (by omega)⟩
   have hr := hl r (List.mem_of_getElem? hri)
   obtain ⟨b, o, rfl, k0, k1, k2⟩ := hR.at' k r hri
   have hbl : b < n₀ := hn₀ _ rfl
   have q0 : wo.cell? ⟨b, o + k * 3, none⟩ = some (.int .i64 r.f) := (hnx.cell (p := ⟨b, o + k * 3, none⟩) hbl).trans k0
   have q1 : wo.cell? ⟨b, o + k * 3 + 1, none⟩ = some (.int .i64 r.s) := (hnx.cell (p := ⟨b, o + k * 3 + 1, none⟩) hbl).trans k1
   have q2 : wo.cell? ⟨b, o + k * 3 + 2, none⟩ = some (.int .i64 r.c) := (hnx.cell (p := ⟨b, o + k * 3 + 2, none⟩) hbl).trans k2
   clear k0 k1 k2
   have r1 := hr.f0; have r2 := hr.f1; have r3 := hr.s0; have r4 := hr.s1; have r5 := hr.c0; have r6 := hr.c1; have r7 := lastI_le hr; have r8 := hr.last
   gi_wp2
   gi_loopw [14] (fun j wr => ∃ m : Nat, (m : Int) <= r.c /\ j = .int .i64 m /\ J (timesL (l.take k) ++ (timesR r).take m) wr /\ Below n₀ W wr /\ W.heap.size <= wr.heap.size /\ Blk wr wo.heap.size #[.int .i64 r.f, .int .i64 r.s, .int .i64 r.c] 94) (fun j _ => r.c.toNat - (intOf j).toNat)
   case atStart => exact ⟨0, by omega, rfl, by simpa using hJ _ _ _ none hJs (World.grownBy_alloc wo _ none) (fun r e => by cases e), hnx.alloc (by omega) _, by simp; omega, Blk.new' rfl⟩
   case round =>
    obtain ⟨m, hm, rfl, hJm, hnm, hsm, hb⟩ := hrel
    have kb := hb.cell
    have fb := hb.frozen
    by_cases hmc : (m : Int) < r.c
    ·have m0 : 0 <= r.s * (m : Int) := Int.mul_nonneg r3 (by omega)
     have m1 : r.f + r.s * (m : Int) <= lastI r := run_at_le hr (by omega)
     obtain ⟨fn, tmps, assign, body, hy, hR'⟩ := hY _ (r.f + r.s * (m : Int)) wr hJm (times_room hri hmc)
     gi_wp2
     refine hR'.mono ?_
     rintro e W3 (⟨rfl, hJ3, hk3⟩ | ⟨rfl, hJx3⟩)
     ·obtain ⟨g1, g2⟩ := hK hk3
      have g3 := g1.size
      gi_wp2
      go_roundw
      case rel => exact ⟨m + 1, by omega, by simp, by rw [timesR_step hmc, <- List.append_assoc]; exact hJ3, hnm.trans g1, by omega, g2 _ _ _ hb⟩
      case measure => simp [intOf]; omega
     ·gi_wp2
      simp only [Exit.noGoto]
      refine bodyPost_end (results_none rfl _ _ _) rfl ?_
      exact ⟨⟨_, rfl⟩, .inr ⟨_, by rw [List.append_assoc, <- timesR_step hmc]; exact times_pre hri, hJx3⟩⟩
    ·have e : (m : Int) = r.c := by omega
     have et : (timesR r).take m = timesR r := List.take_of_length_le (by rw [length_timesR]; omega)
     rw [et, <- times_step hri] at hJm
     gi_wp2
     go_roundw
     case rel => exact ⟨k + 1, by omega, by simp, hJm, hnm, hsm⟩
     case measure => simp [intOf]; omega
  ·obtain rfl : k = l.length := by omega
   rw [List.take_length] at hJs
   gi_wp2
   simp only [Exit.noGoto]
   refine bodyPost_end (results_none rfl _ _ _) rfl ?_
   exact ⟨⟨_, rfl⟩, .inl ⟨_, rfl, hJs⟩⟩
theorem keepsT_appended {W w1 : World} {n₀ B : Nat} {t e T : TypeId} {size : Nat} {v v' : Value} {k : Nat} {xs : List Value} {tmp : Obj} (hv : Boxed W B t v) (hrow : W.ownsRow n₀ e size v k xs) (hgrow : (W.alloc tmp).grownBy w1 v.ownBlock) (h1 : T ≠ t) (h2 : T ≠ e) : KeepsT T W (w1.setCell ⟨B, 0, none⟩ v') := by
 intro b cs f hb
 have hlt := lt_of_heap hb
 have e1 : b ≠ B := by
  rintro rfl
  rw [show W.heap[b]? = _ from hv] at hb
  injection hb with hb
  injection hb with _ h _
  exact h1 h.symm
 rw [Below.heap_setCell w1 ⟨B, 0, none⟩ v' b e1]
 rw [hgrow.block b (by simp; omega) ?_, Below.heap_alloc W tmp b hlt]
 ·exact hb
 ·rcases hrow.2 with ⟨rfl, _⟩ | ⟨g, cap, cur, rfl, _, hgb, _⟩
  ·simp [Value.ownBlock]
  ·intro e'
   obtain rfl : b = g := by simpa [Value.ownBlock] using e'
   rw [hgb] at hb
   injection hb with hb
   injection hb with _ h _
   exact h2 h.symm
theorem appendSeqI (gf : Nat) (lb : Array Value) (xs : List Int) (hlen : xs.length <= 1000000) (w w0 : World) (hw0 : Below w0.heap.size w0 w) (Kp : World -> World -> Prop) (enters : ∀ args w, (callFunc gf args).run Tryz.prog w = .ok (.enter gf args) w)
  (hKp : ∀ {A B}, Below w.heap.size A B -> (∀ T, T ≠ 27 -> T ≠ 2 -> KeepsT T A B) -> Kp A B) (hKt : ∀ {A B C}, Kp A B -> Kp B C -> Kp A C) (hKb : ∀ (W : World) (l : Nat) (o o' : Obj), w.heap.size <= l -> W.heap[l]? = some o -> o.isCells = false -> o.isWalk = false -> Kp W (W.putObj l o'))
  (hseq : SeqStopsK Fence.wide 2 Tryz.prog gf lb (fun x : Int => #[Value.int .i64 x]) Kp (fun ys => ys = xs) (fun pre => pre <+: xs) xs.length w0) :
  CallsIn Fence.wide 3 Tryz.prog 240 #[.slice none 0 0, .func (.func gf) #[] lb] w fun e W' => ∃ v, e = .returned v /\ W'.ownsRow w.heap.size 2 1 v xs.length (xs.map (Value.int .i64)) /\ Below w.heap.size w W' := by
 obtain ⟨i0, hi, hz0, hz1, hz2⟩ := info_parts Tryz.infoInt
 refine callsIn_of_wp_marks Tryz.func240 rfl trivial ?_ rfl
 simp only [Tryz.ntmps240, List.size_toArray, List.length_cons, List.length_nil, Nat.reduceAdd, Nat.reduceSub, Array.replicate_succ, Array.replicate_zero, List.push_toArray, List.append_toArray, List.nil_append, List.cons_append]
 gi_wp2
 have bO := Boxed.new w 27 (.slice none 0 0)
 have hB0 : Below w.heap.size w (w.alloc (.cells #[.slice none 0 0] 27)) := (Below.refl _ w).alloc (Nat.le_refl _) _
 refine wpIn_rangeFunc_ownG rfl (by omega) (gf := gf) (lb := lb) rfl trivial enters hseq hKt (fun W l o o' hl => hKb W l o o' (by simp at hl; omega)) (hw0.trans (hB0.mono hw0.size)) (fun _ => rfl)
  (fun pre W => (∃ v, Boxed W w.heap.size 27 v /\ W.ownsRow w.heap.size 2 1 v pre.length (pre.map (Value.int .i64)) /\ True) /\ Below w.heap.size w W)
  (fun _ _ _ => False)
  (OwnFrom.and (Own.from (holdsRow_own w.heap.size w.heap.size 27 2 1 (fun pre : List Int => pre.length) (fun pre => pre.map (Value.int .i64)) (fun _ _ => True)) _) (ownFrom_below (Nat.le_refl _) (by simp)))
  (fun _ _ _ _ _ hs _ _ => hs)
  ⟨⟨_, bO, World.ownsRow_nil _ _ _ _, trivial⟩, hB0⟩
  (fun x => { tmps := #[.slice none 0 0, .func (.func gf) #[] lb, .pointer (some ⟨w.heap.size, 0, none⟩), undef, .slice none 0 0, .int .i64 x, .func (.func gf) #[] lb, .int .i64 x, undef, undef, undef, undef, undef], defers := [] }) ?assign ?body ?done ?stop
 case assign =>
  intro l x W K hK
  gi_wp2
  exact hK
 case body =>
  rintro l pre x W ⟨⟨v, hv, hrow, _⟩, hB⟩ hlt
  have hc := hv.cell
  gi_wp2_with (gi_at_builtin; refine wpListIn_append_own _ rfl _ _ 27 rfl w.heap.size 2 i0 (.int .i64 0) 1 8 (by kernel_rfl) hi hz0 hz1 hz2 rfl (by decide) _ _ _ rfl (hrow.alloc _) ⟨W.heap.size, 0, none⟩ 1 1 [.int .i64 x] rfl rfl (cell_one_new _ _ _) (by simp [Value.oneCell']) (by simp [maxLen]; omega) (by omega) (by have := hB.size; simp; omega) ?_; intro v' w1 hown' hgrow _; obtain ⟨g', cap', rfl⟩ := ownsRow_succ hown'; obtain ⟨hv1, hv2, hr2, hk2, hb2⟩ := hv.appended (by decide) hrow hB.size (Nat.le_refl _) hown' hgrow; have hkt := fun T h1 h2 => keepsT_appended (v' := .slice (some ⟨g', 0, none⟩) (pre.length + 1) cap') (T := T) hv hrow hgrow h1 h2; have hc1 := hv1.cell; have hf1 := hv1.frozen)
  exact ⟨hk2.from _, hKp hb2 hkt, ⟨_, hv2, by simpa using hr2, trivial⟩, hB.trans hb2⟩
 case done =>
  rintro D ys W hD rfl ⟨⟨v, hv, hrow, _⟩, hB⟩ hK
  have hc := hv.cell
  gi_wp2
  refine ⟨by simp, .inl ⟨_, _, rfl, run_takeDeferred hK, ?_⟩⟩
  exact ⟨_, results_tmp rfl _ _ _, v, rfl, ownsRow_putObj hrow _ hK rfl, hB.trans (belowK_b (w := w) (Nat.le_refl _) W D _ _ (by simp at hD; omega) hK rfl rfl)⟩
 case stop =>
  rintro D c pre W _ _ h _
  exact h.elim
end Go.Proofs.YtbanjolokkghdaaGreatDoor
namespace Go.Proofs.YtbanjolokkghdaaGreatDoor
open Go.RowKit Go.Shelf
theorem ownsRow_le {W : World} {b b' : Nat} {e : TypeId} {s : Nat} {v : Value} {k : Nat} {xs : List Value} (h : W.ownsRow b e s v k xs) (hb : b' <= b) : W.ownsRow b' e s v k xs := by
 obtain ⟨h1, h2 | ⟨g, cap, cur, e1, hg, r⟩⟩ := h
 ·exact ⟨h1, .inl h2⟩
 ·exact ⟨h1, .inr ⟨g, cap, cur, e1, Nat.le_trans hb hg, r⟩⟩
theorem keepsT_putObj {T : TypeId} {W : World} {l : Nat} {o : Obj} (o' : Obj) (hl : W.heap[l]? = some o) (ho : o.isCells = false) : KeepsT T W (W.putObj l o') := by
 intro b cs f hb
 rw [World.putObj_heap_other]
 ·exact hb
 ·rintro rfl
  rw [hb] at hl
  cases hl
  cases ho
theorem keepsT_of_below {T : TypeId} {A B : World} (h : Below A.heap.size A B) : KeepsT T A B := fun b cs f hb => (h.block b (lt_of_heap hb)).trans hb
theorem collectI (gf : Nat) (lb : Array Value) (xs : List Int) (hlen : xs.length <= 1000000) (w w0 : World) (hw0 : Below w0.heap.size w0 w) (Kp : World -> World -> Prop) (enters : ∀ args w, (callFunc gf args).run Tryz.prog w = .ok (.enter gf args) w)
  (hKp : ∀ {A B}, Below w.heap.size A B -> (∀ T, T ≠ 27 -> T ≠ 2 -> KeepsT T A B) -> Kp A B) (hKt : ∀ {A B C}, Kp A B -> Kp B C -> Kp A C) (hKb : ∀ (W : World) (l : Nat) (o o' : Obj), w.heap.size <= l -> W.heap[l]? = some o -> o.isCells = false -> o.isWalk = false -> Kp W (W.putObj l o'))
  (hseq : SeqStopsK Fence.wide 2 Tryz.prog gf lb (fun x : Int => #[Value.int .i64 x]) Kp (fun ys => ys = xs) (fun pre => pre <+: xs) xs.length w0) :
  Calls Tryz.prog 201 #[.func (.func gf) #[] lb] w fun e W' => ∃ v, e = .returned v /\ W'.ownsRow w.heap.size 2 1 v xs.length (xs.map (Value.int .i64)) /\ Below w.heap.size w W' := by
 have c1 := Lib.hid (callsIn_wide.1 (appendSeqI gf lb xs hlen w w0 hw0 Kp enters hKp hKt hKb hseq))
 clear hKp hKt hKb hseq enters hw0
 go_enter Tryz.func201, Tryz.ntmps201
 go_wp2_with fail
 refine c1.out.mono ?_
 rintro e w1 ⟨v, rfl, hv, hB⟩
 replace hv := Lib.hid hv
 replace hB := Lib.hid hB
 go_wp2
 go_ret
 exact ⟨v, rfl, hv.out, hB.out⟩
theorem all_w (p : Option Addr) (len cap : Nat) (w : World) : Calls Tryz.prog 184 #[.slice p len cap] w fun e w' => e = .returned (.func (.func 226) #[] #[.pointer (some ⟨w.heap.size, 0, none⟩)]) /\ w' = w.alloc (.cells #[.slice p len cap] 24) := by
 have hmf : ∀ (fn : Fn) (first cap : Array Value) (w : World), (Instr.makeFunc fn first cap).run Tryz.prog w = .ok (.func fn first cap) w := fun _ _ _ _ => rfl
 go_enter Tryz.func184, Tryz.ntmps184
 go_wp2
 go_ret
 exact ⟨rfl, rfl⟩
def TimesOut (w : World) (l : List RunT) (e : Ending) (w' : World) : Prop := ∃ v, e = .returned (.tuple #[v, .int .i64 0]) /\ w'.ownsRow w.heap.size 2 1 v (timesL l).length ((timesL l).map (Value.int .i64)) /\ Below w.heap.size w w'
theorem collect_times (p : Option Addr) (cap : Nat) (l : List RunT) (w : World) (Bs : Nat) (hl : RunsOk l) (h : RunsIn w p l) (hBs : Blk w Bs #[.slice p l.length cap] 24) :
  Calls Tryz.prog 201 #[.func (.func 226) #[] #[.pointer (some ⟨Bs, 0, none⟩)]] w fun e W' => ∃ v, e = .returned v /\ W'.ownsRow w.heap.size 2 1 v (timesL l).length ((timesL l).map (Value.int .i64)) /\ Below w.heap.size w W' := by
 have hlt : ∀ a, p = some a -> a.block < w.heap.size := by
  rintro a rfl
  have := hl.some'
  obtain ⟨b, o, e, k0, _⟩ := h.at' 0 (l[0]'(by omega)) (List.getElem?_eq_getElem (by omega))
  cases e
  exact cell_lt k0
 have hcnt := hl.count
 have hlen := length_times hl
 refine collectI 226 _ (timesL l) (by omega) w w (Below.refl _ _) (fun A B => Below w.heap.size A B /\ KeepsT 94 A B) (enters_of Tryz.func226 (by kernel_rfl) rfl)
  (fun hb hk => ⟨hb, hk _ (by decide) (by decide)⟩) (fun h k => ⟨h.1.trans k.1, h.2.trans k.2⟩) (fun W k o o' hk ho h1 h2 => ⟨belowK_b (Nat.le_refl _) W k o o' hk ho h1 h2, keepsT_putObj o' ho h1⟩) ?_
 intro lr J Jx W hW hJ _ hY h0
 exact all1_in 2 (by omega) lr Bs w.heap.size p cap l hl.each (by have := hl.few; omega) _ (fun h => h) J Jx _ hJ hY W ((hBs.below hW).cell 0) (h.below hW) hlt hW.size h0
theorem c_Times (p : Option Addr) (cap : Nat) (l : List RunT) (w : World) (hl : RunsOk l) (h : RunsIn w p l) : Calls Tryz.prog 147 #[.slice p l.length cap] w (TimesOut w l) := by
 have hlen := hl.few
 have c1 := fun W (hW : Below w.heap.size w W) => rises_w p cap l W (by omega) (h.below hW)
 rw [(risesB_iff l).2 hl] at c1
 have c2 := Lib.hid (fun W Bs (hW : Below w.heap.size w W) (hb : Blk W Bs #[.slice p l.length cap] 24) => collect_times p cap l W Bs hl (h.below hW) hb)
 have H_c1 := Lib.hid c1
 clear c1
 go_enter Tryz.func147, Tryz.ntmps147
 have c1 := H_c1.out
 go_wp2_with fail
 refine (c1 _ (belowAny)).mono ?_
 rintro e w1 ⟨rfl, hb1⟩
 clear c1
 have z1 := hb1.size
 go_wp2_with fail
 refine (all_w _ _ _ _).mono ?_
 rintro e w2 ⟨rfl, rfl⟩
 go_wp2_with fail
 refine (c2.out _ _ (belowAny) (Blk.new' rfl)).mono ?_
 rintro e w3 ⟨v, rfl, hv, hB⟩
 replace hv := Lib.hid hv
 have hBB : Hid (Below w.heap.size w w3) := Lib.hid (belowAny)
 clear hB
 go_wp2
 refine bodyPost_ret (v := .tuple #[v, .int .i64 0]) (by simp [results, Tryz.results147, go_sem]) rfl ⟨v, rfl, ownsRow_le hv.out (by simp; omega), hBB.out⟩
attribute [local go_sem] Oper.semAt_some
def ptsL (s : SegT) : List (Int × Int) := (timesL s.runs).zip (vals s)
theorem length_pts {s : SegT} (hs : segB s = true) : ((ptsL s).length : Int) = cnt s.runs := by
 have h1 := length_times (segB_runs hs)
 have h2 := length_vals hs
 unfold ptsL
 simp
 omega
theorem pts_at {s : SegT} (hs : segB s = true) {k : Nat} (hk : (k : Int) < cnt s.runs) : ∃ t, (timesL s.runs)[k]? = some t /\ (ptsL s)[k]? = some (t, valI s k) := by
 have h1 := length_times (segB_runs hs)
 have h2 := length_vals hs
 refine ⟨(timesL s.runs)[k]'(by omega), List.getElem?_eq_getElem _, ?_⟩
 unfold ptsL valI
 rw [List.getElem?_eq_getElem (by simp; omega), List.getElem_zip]
 simp
 rw [List.getElem?_eq_getElem (by omega)]
 rfl
theorem abides_below {β : Type} {B : Nat} {J : β -> World -> Prop} (hJ : AbidesFrom B J) {s : β} {A C : World} (h : J s A) (hb : Below A.heap.size A C) : J s C :=
 hJ s A C none h ⟨hb.os, hb.tape, hb.output, hb.size, fun i hi _ => hb.block i hi⟩ (fun r e => by cases e)
structure KeepsPts (s : SegT) (p q : Option Addr) (cap vc Bs n₀ : Nat) (A B : World) : Prop where
 size : A.heap.size <= B.heap.size
 seg : SegIn A s p q -> SegIn B s p q
 box : Blk A Bs (segA s p q cap vc) 113 -> Blk B Bs (segA s p q cap vc) 113
 nums : ∀ (b : Nat) (cs : Array Value), n₀ <= b -> Blk A b cs 2 -> Blk B b cs 2
theorem points1_in (n : Nat) (hn : 1 <= n) (lr Bs n₀ : Nat) (s : SegT) (p q : Option Addr) (cap vc : Nat) (hs : segB s = true) (Kp : World -> World -> Prop) (hK : ∀ {A B}, Kp A B -> KeepsPts s p q cap vc Bs n₀ A B)
  (J Jx : List (Int × Int) -> World -> Prop) (B0 : Nat) (hJ : AbidesFrom B0 J)
  (hY : ∀ pre x W, J pre W -> pre.length < (ptsL s).length -> YieldAt Fence.wide (n - 1) Tryz.prog lr #[.agg #[.int .i64 x.1, .int .i64 x.2]] W fun e W' => (e = .returned (.bool true) /\ J (pre ++ [x]) W' /\ Kp W W') ∨ (e = .returned (.bool false) /\ Jx (pre ++ [x]) W'))
  (W : World) (hBs : Blk W Bs (segA s p q cap vc) 113) (hin : SegIn W s p q) (hn₀ : n₀ <= W.heap.size) (h0 : J [] W) :
  CallsIn Fence.wide n Tryz.prog 145 #[.func (.yield lr) #[] #[], .pointer (some ⟨Bs, 0, none⟩)] W fun e W' => (∃ v, e = .returned v) /\ ((∃ ys, ys = ptsL s /\ J ys W') ∨ (∃ pre, pre <+: ptsL s /\ Jx pre W')) := by
 have hl := segB_runs hs
 have ct := fun W' (hW : Below W.heap.size W W') => c_Times p cap s.runs W' hl (hin.runs.below hW)
 have hlen := Lib.hid (length_pts hs)
 have hlt := length_times hl
 have hcnt := cnt_pos hl
 have hBs' := hBs
 unfold segA at hBs'
 have k := hBs'.cell
 refine callsIn_of_wp Tryz.func145 rfl trivial ?_ rfl
 simp only [Tryz.ntmps145, List.size_toArray, List.length_cons, List.length_nil, Nat.reduceAdd, Nat.reduceSub, Array.replicate_succ, Array.replicate_zero, List.push_toArray, List.append_toArray, List.nil_append, List.cons_append]
 have hmf : ∀ (fn : Fn) (first cap : Array Value) (w : World), (Instr.makeFunc fn first cap).run Tryz.prog w = .ok (.func fn first cap) w := fun _ _ _ _ => rfl
 refine wpIn_scope ?_
 gi_wp2_with (refine ⟨trivial, ?_⟩; gi_at_call 147; refine (callsIn_wide.2 (ct _ (belowAny))).mono ?_; rintro e w1 ⟨v, rfl, hv, hB⟩)
 clear k ct
 obtain ⟨N, hN⟩ : ∃ N, (timesL s.runs).length = N + 1 := ⟨(timesL s.runs).length - 1, by omega⟩
 rw [hN] at hv
 obtain ⟨_, h2 | ⟨g, cap', cur, rfl, hg, hb, hnc, _, hc, htk⟩⟩ := hv
 ·omega
 have hs0 := hB.size
 have hin1 := hin.below hB
 have hbs1 := hBs.below hB
 have hJ1 := abides_below hJ h0 hB
 have htk' : cur.toList.take ((N + 1) * 1) = (timesL s.runs).map (Value.int .i64) := htk
 have HN := Lib.hid hN
 clear hs0 htk hBs' hN hlt
 clear hBs hin h0 hB
 refine wpIn_label ?_
 gi_wp2
 gi_loopw [19] (fun i wr => ∃ k : Nat, k <= N + 1 /\ i = .int .i64 k /\ J ((ptsL s).take k) wr /\ SegIn wr s p q /\ Blk wr Bs (segA s p q cap vc) 113 /\ Blk wr g cur 2) (fun i _ => N + 1 - (intOf i).toNat)
 case atStart => exact ⟨0, Nat.zero_le _, rfl, hJ1, hin1, hbs1, hb⟩
 case round =>
  obtain ⟨k, hk, rfl, hJk, hik, hbk, hgk⟩ := hrel
  rcases Nat.lt_or_ge k (N + 1) with hlk | hge
  ·have hkc : (k : Int) < cnt s.runs := by have := length_times hl; have := HN.out; omega
   obtain ⟨t, ht1, ht2⟩ := pts_at hs hkc
   have hcell : wr.cell? ⟨g, k, none⟩ = some (.int .i64 t) := by rw [cell_of_row wr g k cur _ (0, 0) hgk]; exact row_take htk' (by simp [ht1])
   have cv := Lib.hid (c_segValue s p q cap vc k wr hik hs (by omega) hkc)
   replace ht1 := Lib.hid ht1
   replace ht2 := Lib.hid ht2
   replace htk' := Lib.hid htk'
   have hst : (ptsL s).take (k + 1) = (ptsL s).take k ++ [(t, valI s k)] := by rw [List.take_add_one, ht2.out]; rfl
   have Hst := Lib.hid hst
   have hroom : ((ptsL s).take k).length < (ptsL s).length := by have := hlen.out; simp; omega
   clear hst
   gi_wp2_with (refine ⟨trivial, ?_⟩; gi_at_call 146; refine (callsIn_wide.2 cv.out).mono ?_; rintro e w2 ⟨rfl, hb2⟩; obtain ⟨fn, tmps, assign, body, hy, hR⟩ := hY _ (t, valI s k) w2 (abides_below hJ hJk hb2) hroom; dsimp only at hy)
   refine hR.mono ?_
   rintro e W3 (⟨rfl, hJ3, hk3⟩ | ⟨rfl, hJx3⟩)
   ·have hkp := hK hk3
    gi_wp2
    go_roundw
    case rel => exact ⟨k + 1, by omega, by simp, by rw [Hst.out]; exact hJ3, hkp.seg (hik.below hb2), hkp.box (hbk.below hb2), hkp.nums g cur (by omega) (hgk.below hb2)⟩
    case measure => simp [intOf]; omega
   ·gi_wp2
    simp only [Exit.noGoto]
    refine bodyPost_end (results_none rfl _ _ _) rfl ?_
    exact ⟨⟨_, rfl⟩, .inr ⟨_, by rw [<- Hst.out]; exact List.take_prefix _ _, hJx3⟩⟩
  ·obtain rfl : k = N + 1 := by omega
   have e : (ptsL s).take (N + 1) = ptsL s := List.take_of_length_le (by have := hlen.out; have := HN.out; have := length_times hl; omega)
   rw [e] at hJk
   clear e
   gi_wp2
   simp only [Exit.noGoto]
   refine bodyPost_end (results_none rfl _ _ _) rfl ?_
   exact ⟨⟨_, rfl⟩, .inl ⟨_, rfl, hJk⟩⟩
end Go.Proofs.YtbanjolokkghdaaGreatDoor
