/- Parts of the proof that follows: All points of a segment, one behind the other. No condition. | All points of a segment, collected. No condition. | seg.Points, told. No condition. | Points in memory; which of them lie within a span, plainly. No condition. | Binary digits, plainly, from the lowest on. No condition. | The references' numbers: Size, power. | The references' numbers: trim. | The references' numbers: plus. | The references' numbers: minus. | The references' numbers: plus, minus told; less. | The references' numbers: times. -/
import Derived.Test.YtgblmlefmohgnaaGreatBk9
set_option linter.unusedSimpArgs false
set_option linter.unusedVariables false
namespace Go.Proofs.YtgblmlefmohgnaaGreat
open Go.RowKit Go.Shelf
attribute [local go_sem] Oper.semAt_some
/-- The points of a segment. -/
def ptsL (s : SegT) : List (Int × Int) := (timesL s.runs).zip (vals s)
theorem length_pts {s : SegT} (hs : segB s = true) : ((ptsL s).length : Int) = cnt s.runs := by
  have h1 := length_times (segB_runs hs)
  have h2 := length_vals hs
  unfold ptsL
  simp
  omega
theorem pts_at {s : SegT} (hs : segB s = true) {k : Nat} (hk : (k : Int) < cnt s.runs) : ∃ t, (timesL s.runs)[k]? = some t ∧ (ptsL s)[k]? = some (t, valI s k) := by
  have h1 := length_times (segB_runs hs)
  have h2 := length_vals hs
  refine ⟨(timesL s.runs)[k]'(by omega), List.getElem?_eq_getElem _, ?_⟩
  unfold ptsL valI
  rw [List.getElem?_eq_getElem (by simp; omega), List.getElem_zip]
  simp
  rw [List.getElem?_eq_getElem (by omega)]
  rfl
theorem abides_below {β : Type} {B : Nat} {J : β → World → Prop} (hJ : AbidesFrom B J) {s : β} {A C : World} (h : J s A) (hb : Below A.heap.size A C) : J s C :=
  hJ s A C none h ⟨hb.os, hb.tape, hb.output, hb.size, fun i hi _ => hb.block i hi⟩ (fun r e => by cases e)
/-- What a round must keep for the points' sake. -/
structure KeepsPts (s : SegT) (p q : Option Addr) (cap vc Bs n₀ : Nat) (A B : World) : Prop where
  size : A.heap.size ≤ B.heap.size
  seg : SegIn A s p q → SegIn B s p q
  box : Blk A Bs (segA s p q cap vc) 78 → Blk B Bs (segA s p q cap vc) 78
  nums : ∀ (b : Nat) (cs : Array Value), n₀ ≤ b → Blk A b cs 2 → Blk B b cs 2
set_option maxRecDepth 100000 in
set_option maxHeartbeats 4000000 in
theorem points1_in (n : Nat) (hn : 1 ≤ n) (lr Bs n₀ : Nat) (s : SegT) (p q : Option Addr) (cap vc : Nat) (hs : segB s = true) (Kp : World → World → Prop) (hK : ∀ {A B}, Kp A B → KeepsPts s p q cap vc Bs n₀ A B)
    (J Jx : List (Int × Int) → World → Prop) (B0 : Nat) (hJ : AbidesFrom B0 J)
    (hY : ∀ pre x W, J pre W → pre.length < (ptsL s).length → YieldAt Fence.wide (n - 1) Tryz.prog lr #[.agg #[.int .i64 x.1, .int .i64 x.2]] W fun e W' => (e = .returned (.bool true) ∧ J (pre ++ [x]) W' ∧ Kp W W') ∨ (e = .returned (.bool false) ∧ Jx (pre ++ [x]) W'))
    (W : World) (hBs : Blk W Bs (segA s p q cap vc) 78) (hin : SegIn W s p q) (hn₀ : n₀ ≤ W.heap.size) (h0 : J [] W) :
    CallsIn Fence.wide n Tryz.prog 106 #[.func (.yield lr) #[] #[], .pointer (some ⟨Bs, 0, none⟩)] W fun e W' => (∃ v, e = .returned v) ∧ ((∃ ys, ys = ptsL s ∧ J ys W') ∨ (∃ pre, pre <+: ptsL s ∧ Jx pre W')) := by
  have hl := segB_runs hs
  have ct := fun W' (hW : Below W.heap.size W W') => c_Times p cap s.runs W' hl (hin.runs.below hW)
  have hlen := Lib.hid (length_pts hs)
  have hlt := length_times hl
  have hcnt := cnt_pos hl
  have hBs' := hBs
  unfold segA at hBs'
  have k := hBs'.cell
  refine callsIn_of_wp Tryz.func106 rfl trivial ?_ rfl
  simp only [Tryz.ntmps106, List.size_toArray, List.length_cons, List.length_nil, Nat.reduceAdd, Nat.reduceSub, Array.replicate_succ, Array.replicate_zero, List.push_toArray, List.append_toArray, List.nil_append, List.cons_append]
  have hmf : ∀ (fn : Fn) (first cap : Array Value) (w : World), (Instr.makeFunc fn first cap).run Tryz.prog w = .ok (.func fn first cap) w := fun _ _ _ _ => rfl
  refine wpIn_scope ?_
  gi_wp2_with (refine ⟨trivial, ?_⟩; gi_at_call 107; refine (callsIn_wide.2 (ct _ (belowAny))).mono ?_; rintro e w1 ⟨v, rfl, hv, hB⟩)
  clear k ct
  obtain ⟨N, hN⟩ : ∃ N, (timesL s.runs).length = N + 1 := ⟨(timesL s.runs).length - 1, by omega⟩
  rw [hN] at hv
  obtain ⟨_, h2 | ⟨g, cap', cur, rfl, hg, hb, hnc, _, hc, htk⟩⟩ := hv
  · omega
  have hs0 := hB.size
  have hin1 := hin.below hB
  have hbs1 := hBs.below hB
  have hJ1 := abides_below hJ h0 hB
  have htk' : cur.toList.take ((N + 1) * 1) = (timesL s.runs).map (Value.int .i64) := htk
  have HN := Lib.hid hN
  clear hs0 htk hBs' hN hlt
  clear hBs hin h0 hB
  refine wpIn_label ?_
  gi_wp2
  gi_loopw [19] (fun i wr => ∃ k : Nat, k ≤ N + 1 ∧ i = .int .i64 k ∧ J ((ptsL s).take k) wr ∧ SegIn wr s p q ∧ Blk wr Bs (segA s p q cap vc) 78 ∧ Blk wr g cur 2) (fun i _ => N + 1 - (intOf i).toNat)
  case atStart => exact ⟨0, Nat.zero_le _, rfl, hJ1, hin1, hbs1, hb⟩
  case round =>
    obtain ⟨k, hk, rfl, hJk, hik, hbk, hgk⟩ := hrel
    rcases Nat.lt_or_ge k (N + 1) with hlk | hge
    · have hkc : (k : Int) < cnt s.runs := by have := length_times hl; have := HN.out; omega
      obtain ⟨t, ht1, ht2⟩ := pts_at hs hkc
      have hcell : wr.cell? ⟨g, k, none⟩ = some (.int .i64 t) := by rw [cell_of_row wr g k cur _ (0, 0) hgk]; exact row_take htk' (by simp [ht1])
      have cv := Lib.hid (c_segValue s p q cap vc k wr hik hs (by omega) hkc)
      replace ht1 := Lib.hid ht1
      replace ht2 := Lib.hid ht2
      replace htk' := Lib.hid htk'
      have hst : (ptsL s).take (k + 1) = (ptsL s).take k ++ [(t, valI s k)] := by rw [List.take_add_one, ht2.out]; rfl
      have Hst := Lib.hid hst
      have hroom : ((ptsL s).take k).length < (ptsL s).length := by have := hlen.out; simp; omega
      clear hst
      gi_wp2_with (refine ⟨trivial, ?_⟩; gi_at_call 68; refine (callsIn_wide.2 cv.out).mono ?_; rintro e w2 ⟨rfl, hb2⟩; obtain ⟨fn, tmps, assign, body, hy, hR⟩ := hY _ (t, valI s k) w2 (abides_below hJ hJk hb2) hroom; dsimp only at hy)
      refine hR.mono ?_
      rintro e W3 (⟨rfl, hJ3, hk3⟩ | ⟨rfl, hJx3⟩)
      · have hkp := hK hk3
        gi_wp2
        go_roundw
        case rel => exact ⟨k + 1, by omega, by simp, by rw [Hst.out]; exact hJ3, hkp.seg (hik.below hb2), hkp.box (hbk.below hb2), hkp.nums g cur (by omega) (hgk.below hb2)⟩
        case measure => simp [intOf]; omega
      · gi_wp2
        simp only [Exit.noGoto]
        refine bodyPost_end (results_none rfl _ _ _) rfl ?_
        exact ⟨⟨_, rfl⟩, .inr ⟨_, by rw [← Hst.out]; exact List.take_prefix _ _, hJx3⟩⟩
    · obtain rfl : k = N + 1 := by omega
      have e : (ptsL s).take (N + 1) = ptsL s := List.take_of_length_le (by have := hlen.out; have := HN.out; have := length_times hl; omega)
      rw [e] at hJk
      clear e
      gi_wp2
      simp only [Exit.noGoto]
      refine bodyPost_end (results_none rfl _ _ _) rfl ?_
      exact ⟨⟨_, rfl⟩, .inl ⟨_, rfl, hJk⟩⟩
end Go.Proofs.YtgblmlefmohgnaaGreat
namespace Go.Proofs.YtgblmlefmohgnaaGreat
open Go.RowKit Go.Shelf
attribute [local go_sem] Oper.semAt_some
def flatPts (l : List (Int × Int)) : List Value := l.flatMap fun x => [.int .i64 x.1, .int .i64 x.2]
theorem flatPts_snoc (l : List (Int × Int)) (x : Int × Int) : flatPts (l ++ [x]) = flatPts l ++ [.int .i64 x.1, .int .i64 x.2] := by simp [flatPts]
theorem Tryz.infoPoint : (Tryz.prog.info? 58).map (fun i => (i.zero, i.size, i.bytes)) = some (some (.agg #[.int .i64 0, .int .i64 0]), 2, 16) := by kernel_rfl
theorem cell_two_new (W : World) (a b : Value) (t : TypeId) (j : Nat) (u : Value) (h : [a, b][j]? = some u) : (W.alloc (.cells #[a, b] t)).cell? ((⟨W.heap.size, 0, none⟩ : Addr).add j) = some u := by
  have hb : Blk (W.alloc (.cells #[a, b] t)) W.heap.size #[a, b] t := Blk.new' rfl
  have hadd : (⟨W.heap.size, 0, none⟩ : Addr).add j = ⟨W.heap.size, j, none⟩ := by unfold Addr.add; split <;> simp_all
  rw [hadd, hb.cell]
  simpa using h
theorem blk_own {β : Type} (B : Nat) (t : TypeId) (f : β → Array Value) : Own (fun s W => Blk W B (f s) t) := fun s X Y row hs hg hrow => by
  refine (hg.block B hs.lt fun e => ?_).trans hs
  obtain ⟨o, ho, hc⟩ := hrow B e.symm
  rw [show X.heap[B]? = _ from hs] at ho; cases ho; cases hc
set_option maxRecDepth 100000 in
set_option maxHeartbeats 4000000 in
theorem appendSeqP (gf : Nat) (lb : Array Value) (xs : List (Int × Int)) (hlen : xs.length ≤ 1000000) (w w0 : World) (hw0 : Below w0.heap.size w0 w) (Kp : World → World → Prop) (enters : ∀ args w, (callFunc gf args).run Tryz.prog w = .ok (.enter gf args) w)
    (hKp : ∀ {A B}, Below w.heap.size A B → (∀ T, T ≠ 39 → T ≠ 58 → KeepsT T A B) → Kp A B) (hKt : ∀ {A B C}, Kp A B → Kp B C → Kp A C) (hKb : ∀ (W : World) (l : Nat) (o o' : Obj), w.heap.size ≤ l → W.heap[l]? = some o → o.isCells = false → o.isWalk = false → Kp W (W.putObj l o'))
    (hseq : SeqStopsK Fence.wide 2 Tryz.prog gf lb (fun x : Int × Int => #[Value.agg #[.int .i64 x.1, .int .i64 x.2]]) Kp (fun ys => ys = xs) (fun pre => pre <+: xs) xs.length w0) :
    CallsIn Fence.wide 3 Tryz.prog 105 #[.slice none 0 0, .func (.func gf) #[] lb] w fun e W' => ∃ v, e = .returned v ∧ W'.ownsRow w.heap.size 58 2 v xs.length (flatPts xs) ∧ Below w.heap.size w W' := by
  obtain ⟨i0, hi, hz0, hz1, hz2⟩ := info_parts Tryz.infoPoint
  refine callsIn_of_wp_marks Tryz.func105 rfl trivial ?_ rfl
  simp only [Tryz.ntmps105, List.size_toArray, List.length_cons, List.length_nil, Nat.reduceAdd, Nat.reduceSub, Array.replicate_succ, Array.replicate_zero, List.push_toArray, List.append_toArray, List.nil_append, List.cons_append]
  gi_wp2
  have bO := Boxed.new w 39 (.slice none 0 0)
  have hB0 : Below w.heap.size w (w.alloc (.cells #[.slice none 0 0] 39)) := (Below.refl _ w).alloc (Nat.le_refl _) _
  refine wpIn_rangeFunc_ownH rfl (by omega) (gf := gf) (lb := lb) rfl trivial enters hseq hKt (fun W l o o' hl => hKb W l o o' (by simp at hl; omega)) (hw0.trans (hB0.mono hw0.size)) (fun _ => rfl)
    (fun pre W => (∃ v, Boxed W w.heap.size 39 v ∧ W.ownsRow w.heap.size 58 2 v pre.length (flatPts pre) ∧ True) ∧ Below w.heap.size w W)
    (fun _ _ _ => False)
    (OwnFrom.and (Own.from (holdsRow_own w.heap.size w.heap.size 39 58 2 (fun pre : List (Int × Int) => pre.length) (fun pre => flatPts pre) (fun _ _ => True)) _) (ownFrom_below (Nat.le_refl _) (by simp)))
    (fun _ _ _ _ _ hs _ _ => hs)
    ⟨⟨_, bO, World.ownsRow_nil _ _ _ _, trivial⟩, hB0⟩
    (fun x a' W => ∃ Bx, w.heap.size < Bx ∧ Blk W Bx #[.int .i64 x.1, .int .i64 x.2] 58 ∧ a' = { tmps := #[.slice none 0 0, .func (.func gf) #[] lb, .pointer (some ⟨w.heap.size, 0, none⟩), undef, .slice none 0 0, .pointer (some ⟨Bx, 0, none⟩), .func (.func gf) #[] lb, .agg #[.int .i64 x.1, .int .i64 x.2], undef, undef, undef, undef, undef], defers := [] })
    (fun x a' _ X Y row hs hg hr => by obtain ⟨Bx, h1, h2, h3⟩ := hs; exact ⟨Bx, h1, blk_own Bx 58 (fun (_ : Unit) => #[Value.int .i64 x.1, .int .i64 x.2]) () X Y row h2 hg (fun r e => (hr r e).2), h3⟩) ?assign ?body ?done ?stop
  case assign =>
    rintro l pre x W K ⟨⟨v, hv, hrow, _⟩, hB⟩ hK
    gi_wp2
    exact hK _ _ ((KeepsOthers.alloc _ _).from _) (hKp ((Below.refl _ W).alloc hB.size _) (fun T _ _ => keepsT_of_below ((Below.refl _ _).alloc (Nat.le_refl _) _))) ⟨⟨v, hv.alloc _, hrow.alloc _, trivial⟩, hB.alloc hB.size _⟩ ⟨W.heap.size, hv.lt, Blk.new' rfl, rfl⟩
  case body =>
    rintro l pre x a' W hl ⟨r, hr⟩ ⟨⟨v, hv, hrow, _⟩, hB⟩ ⟨Bx, hBx, bX, rfl⟩ hlt
    have hc := hv.cell
    have kx := bX.cell
    gi_wp2_with (gi_at_builtin; refine wpListIn_append_own _ rfl _ _ 39 rfl w.heap.size 58 i0 (.agg #[.int .i64 0, .int .i64 0]) 2 16 (by kernel_rfl) hi hz0 hz1 hz2 rfl (by decide) _ _ _ rfl (hrow.alloc _) ⟨W.heap.size, 0, none⟩ 1 1 [.int .i64 x.1, .int .i64 x.2] rfl rfl (cell_two_new _ _ _ _) (by simp [Value.oneCell']) (by simp [maxLen]; omega) (by omega) (by have := hB.size; simp; omega) ?_; intro v' w1 hown' hgrow _; obtain ⟨g', cap', rfl⟩ := ownsRow_succ hown'; obtain ⟨hv1, hv2, hr2, hk2, hb2⟩ := hv.appended (by decide) hrow hB.size (Nat.le_refl _) hown' hgrow; have hkt := fun T h1 h2 => keepsT_appended (v' := .slice (some ⟨g', 0, none⟩) (pre.length + 1) cap') (T := T) hv hrow hgrow h1 h2; have hc1 := hv1.cell; have hf1 := hv1.frozen)
    exact ⟨hk2.from _, hKp hb2 hkt, ⟨_, hv2, by rw [flatPts_snoc]; simpa using hr2, trivial⟩, hB.trans hb2⟩
  case done =>
    rintro D ys W hD rfl ⟨⟨v, hv, hrow, _⟩, hB⟩ hK
    have hc := hv.cell
    gi_wp2
    refine ⟨by simp, .inl ⟨_, _, rfl, run_takeDeferred hK, ?_⟩⟩
    exact ⟨_, results_tmp rfl _ _ _, v, rfl, ownsRow_putObj hrow _ hK rfl, hB.trans (belowK_b (w := w) (Nat.le_refl _) W D _ _ (by simp at hD; omega) hK rfl rfl)⟩
  case stop =>
    rintro D c pre W _ _ h _
    exact h.elim

set_option maxRecDepth 100000 in
set_option maxHeartbeats 2000000 in
theorem collectP (gf : Nat) (lb : Array Value) (xs : List (Int × Int)) (hlen : xs.length ≤ 1000000) (w w0 : World) (hw0 : Below w0.heap.size w0 w) (Kp : World → World → Prop) (enters : ∀ args w, (callFunc gf args).run Tryz.prog w = .ok (.enter gf args) w)
    (hKp : ∀ {A B}, Below w.heap.size A B → (∀ T, T ≠ 39 → T ≠ 58 → KeepsT T A B) → Kp A B) (hKt : ∀ {A B C}, Kp A B → Kp B C → Kp A C) (hKb : ∀ (W : World) (l : Nat) (o o' : Obj), w.heap.size ≤ l → W.heap[l]? = some o → o.isCells = false → o.isWalk = false → Kp W (W.putObj l o'))
    (hseq : SeqStopsK Fence.wide 2 Tryz.prog gf lb (fun x : (Int × Int) => #[Value.agg #[.int .i64 x.1, .int .i64 x.2]]) Kp (fun ys => ys = xs) (fun pre => pre <+: xs) xs.length w0) :
    Calls Tryz.prog 62 #[.func (.func gf) #[] lb] w fun e W' => ∃ v, e = .returned v ∧ W'.ownsRow w.heap.size 58 2 v xs.length (flatPts xs) ∧ Below w.heap.size w W' := by
  have c1 := Lib.hid (callsIn_wide.1 (appendSeqP gf lb xs hlen w w0 hw0 Kp enters hKp hKt hKb hseq))
  clear hKp hKt hKb hseq enters hw0
  go_enter Tryz.func62, Tryz.ntmps62
  go_wp2_with fail
  refine c1.out.mono ?_
  rintro e w1 ⟨v, rfl, hv, hB⟩
  replace hv := Lib.hid hv
  replace hB := Lib.hid hB
  go_wp2
  go_ret
  exact ⟨v, rfl, hv.out, hB.out⟩

set_option maxRecDepth 100000 in
set_option maxHeartbeats 2000000 in
theorem points_w (K A R n d E : Int) (p q : Option Addr) (len cap m vc : Nat) (w : World) : Calls Tryz.prog 63 #[.agg #[.int .i64 K, .slice p len cap, .int .i64 A, .int .i64 R, .int .i64 n, .int .i64 d, .slice q m vc, .int .i64 E]] w fun e w' => e = .returned (.func (.func 106) #[] #[.pointer (some ⟨w.heap.size, 0, none⟩)]) ∧ w' = w.alloc (.cells #[.int .i64 K, .slice p len cap, .int .i64 A, .int .i64 R, .int .i64 n, .int .i64 d, .slice q m vc, .int .i64 E] 78) := by
  have hmf : ∀ (fn : Fn) (first cap : Array Value) (w : World), (Instr.makeFunc fn first cap).run Tryz.prog w = .ok (.func fn first cap) w := fun _ _ _ _ => rfl
  go_enter Tryz.func63, Tryz.ntmps63
  go_wp2
  go_ret
  exact ⟨rfl, rfl⟩
theorem RunsIn.keep {w A B : World} {p : Option Addr} {l : List RunT} (h : RunsIn w p l) (hb : Below w.heap.size A B) (ha : RunsIn A p l) : RunsIn B p l := ⟨fun i r hr => by
  obtain ⟨b, o, e, k0, k1, k2⟩ := ha.at' i r hr
  obtain ⟨b', o', e', q0, _⟩ := h.at' i r hr
  rw [e] at e'
  injection e' with e'
  injection e' with e1 e2
  subst e1
  have hlt := cell_lt q0
  exact ⟨b, o, e, (hb.cell (p := ⟨b, _, none⟩) hlt).trans k0, (hb.cell (p := ⟨b, _, none⟩) hlt).trans k1, (hb.cell (p := ⟨b, _, none⟩) hlt).trans k2⟩⟩
theorem IntsIn.keep {w A B : World} {p : Option Addr} {l : List Int} (h : IntsIn w p l) (hb : Below w.heap.size A B) (ha : IntsIn A p l) : IntsIn B p l := ⟨fun i r hr => by
  obtain ⟨b, o, e, k0⟩ := ha.at' i r hr
  obtain ⟨b', o', e', q0⟩ := h.at' i r hr
  rw [e] at e'
  injection e' with e'
  injection e' with e1 e2
  subst e1
  exact ⟨b, o, e, (hb.cell (p := ⟨b, _, none⟩) (cell_lt q0)).trans k0⟩⟩
theorem SegIn.keep {w A B : World} {s : SegT} {p q : Option Addr} (h : SegIn w s p q) (hb : Below w.heap.size A B) (ha : SegIn A s p q) : SegIn B s p q := ⟨h.runs.keep hb ha.runs, h.raw.keep hb ha.raw, h.fewR, h.fewV⟩
theorem collect_points (s : SegT) (p q : Option Addr) (cap vc : Nat) (w : World) (Bs : Nat) (hs : segB s = true) (h : SegIn w s p q) (hBs : Blk w Bs (segA s p q cap vc) 78) :
    Calls Tryz.prog 62 #[.func (.func 106) #[] #[.pointer (some ⟨Bs, 0, none⟩)]] w fun e W' => ∃ v, e = .returned v ∧ W'.ownsRow w.heap.size 58 2 v (ptsL s).length (flatPts (ptsL s)) ∧ Below w.heap.size w W' := by
  have hcnt := cnt_pos (segB_runs hs)
  have hlen := length_pts hs
  have hlt := hBs.lt
  refine collectP 106 _ (ptsL s) (by omega) w w (Below.refl _ _) (fun A B => Below w.heap.size A B ∧ KeepsT 2 A B) (enters_of Tryz.func106 (by kernel_rfl) rfl)
    (fun hb hk => ⟨hb, hk _ (by decide) (by decide)⟩) (fun h k => ⟨h.1.trans k.1, h.2.trans k.2⟩) (fun W k o o' hk ho h1 h2 => ⟨belowK_b (Nat.le_refl _) W k o o' hk ho h1 h2, keepsT_putObj o' ho h1⟩) ?_
  intro lr J Jx W hW hJ _ hY h0
  exact points1_in 2 (by omega) lr Bs W.heap.size s p q cap vc hs (fun A B => Below w.heap.size A B ∧ KeepsT 2 A B) (fun hk => ⟨hk.1.size, fun ha => h.keep hk.1 ha, fun ha => (hk.1.block Bs hlt).trans ha, fun b cs _ ha => hk.2 b cs _ ha⟩) J Jx _ hJ hY W (hBs.below hW) (h.below hW) (Nat.le_refl _) h0
/-- All points, in an array of its own. -/
def PtsIs (s : SegT) (B : Nat) (v : Value) (w : World) : Prop := w.ownsRow B 58 2 v (ptsL s).length (flatPts (ptsL s))
set_option maxRecDepth 100000 in
set_option maxHeartbeats 2000000 in
theorem c_Points1 (s : SegT) (p q : Option Addr) (cap vc : Nat) (w : World) (hs : segB s = true) (h : SegIn w s p q) :
    Calls Tryz.prog 61 #[.agg (segA s p q cap vc)] w fun e w' => ∃ v, e = .returned (.tuple #[v, .int .i64 0]) ∧ PtsIs s w.heap.size v w' ∧ Below w.heap.size w w' := by
  have c2 := Lib.hid (fun W Bs (hW : Below w.heap.size w W) (hb : Blk W Bs (segA s p q cap vc) 78) => collect_points s p q cap vc W Bs hs (h.below hW) hb)
  unfold segA at c2 ⊢
  go_enter Tryz.func61, Tryz.ntmps61
  go_wp2_with fail
  refine (points_w _ _ _ _ _ _ _ _ _ _ _ _ _).mono ?_
  rintro e w2 ⟨rfl, rfl⟩
  go_wp2_with fail
  refine (c2.out _ _ (belowAny) (Blk.new' (by simp))).mono ?_
  rintro e w3 ⟨v, rfl, hv, hB⟩
  replace hv := Lib.hid hv
  have hBB : Hid (Below w.heap.size w w3) := Lib.hid (belowAny)
  clear hB
  go_wp2
  refine bodyPost_ret (v := .tuple #[v, .int .i64 0]) (by simp [results, Tryz.results61, go_sem]) rfl ⟨v, rfl, ownsRow_le hv.out (by simp <;> omega), hBB.out⟩
end Go.Proofs.YtgblmlefmohgnaaGreat
namespace Go.Proofs.YtgblmlefmohgnaaGreat
open Go.RowKit
set_option maxRecDepth 100000 in
set_option maxHeartbeats 2000000 in
theorem ofp_no (K A R n d E : Int) (p q : Option Addr) (len cap m vc : Nat) (w : World)
    (c1 : ∀ W, Below w.heap.size w W → Calls Tryz.prog 55 #[.agg #[.int .i64 K, .slice p len cap, .int .i64 A, .int .i64 R, .int .i64 n, .int .i64 d, .slice q m vc, .int .i64 E]] W fun e w' => e = .returned (.bool false) ∧ Below W.heap.size W w') :
    Calls Tryz.prog 60 #[.agg #[.int .i64 K, .slice p len cap, .int .i64 A, .int .i64 R, .int .i64 n, .int .i64 d, .slice q m vc, .int .i64 E], .func (.func 61) #[] #[]] w fun e w' => e = .returned (.tuple #[.slice none 0 0, .int .i64 210]) ∧ Below w.heap.size w w' := by
  have H_c1 := Lib.hid c1
  clear c1
  go_enter Tryz.func60, Tryz.ntmps60
  go_upto_region 1 with (fail)
  refine wp_facts (fun W' => Below w.heap.size w W' ∧ Blk W' w.heap.size #[.int .i64 K, .slice p len cap, .int .i64 A, .int .i64 R, .int .i64 n, .int .i64 d, .slice q m vc, .int .i64 E] 27) ⟨by exact belowAny, by exact blkAny⟩ ?_
  rintro W1 ⟨hW, b1⟩
  have z2 := hW.size
  have z3 := b1.lt
  have k1 := b1.cell
  have f1 := b1.frozen
  have c1 := H_c1.out
  go_wp2_with fail
  refine (c1 _ (belowAny)).mono ?_
  rintro e w4 ⟨rfl, hb4⟩
  clear c1
  have z5 := hb4.size
  try simp at z5
  clear k1 f1
  have b1 : Blk w4 w.heap.size #[.int .i64 K, .slice p len cap, .int .i64 A, .int .i64 R, .int .i64 n, .int .i64 d, .slice q m vc, .int .i64 E] 27 := by exact blkAny
  have hW : Below w.heap.size w w4 := by exact belowAny
  have z6 := b1.lt
  clear hb4
  have k1 := b1.cell
  have f1 := b1.frozen
  go_wp2
  have y_1 := b1.lt
  refine bodyPost_ret (v := .tuple #[.slice none 0 0, .int .i64 210]) (by simp [results, Tryz.results60, go_sem, k1, f1, y_1]) rfl ⟨rfl, by exact belowAny⟩
set_option maxRecDepth 100000 in
set_option maxHeartbeats 2000000 in
theorem ofp_yes (K A R n d E : Int) (p q : Option Addr) (len cap m vc : Nat) (w : World) (s : SegT)
    (c1 : ∀ W, Below w.heap.size w W → Calls Tryz.prog 55 #[.agg #[.int .i64 K, .slice p len cap, .int .i64 A, .int .i64 R, .int .i64 n, .int .i64 d, .slice q m vc, .int .i64 E]] W fun e w' => e = .returned (.bool true) ∧ Below W.heap.size W w')
    (c3 : ∀ W, Below w.heap.size w W → Calls Tryz.prog 61 #[.agg #[.int .i64 K, .slice p len cap, .int .i64 A, .int .i64 R, .int .i64 n, .int .i64 d, .slice q m vc, .int .i64 E]] W fun e w' => ∃ v, e = .returned (.tuple #[v, .int .i64 0]) ∧ PtsIs s W.heap.size v w' ∧ Below W.heap.size W w') :
    Calls Tryz.prog 60 #[.agg #[.int .i64 K, .slice p len cap, .int .i64 A, .int .i64 R, .int .i64 n, .int .i64 d, .slice q m vc, .int .i64 E], .func (.func 61) #[] #[]] w fun e w' => ∃ v, e = .returned (.tuple #[v, .int .i64 0]) ∧ PtsIs s w.heap.size v w' ∧ Below w.heap.size w w' := by
  have H_c1 := Lib.hid c1
  clear c1
  have H_c3 := Lib.hid c3
  clear c3
  go_enter Tryz.func60, Tryz.ntmps60
  go_upto_region 1 with (fail)
  refine wp_facts (fun W' => Below w.heap.size w W' ∧ Blk W' w.heap.size #[.int .i64 K, .slice p len cap, .int .i64 A, .int .i64 R, .int .i64 n, .int .i64 d, .slice q m vc, .int .i64 E] 27) ⟨by exact belowAny, by exact blkAny⟩ ?_
  rintro W1 ⟨hW, b1⟩
  have z2 := hW.size
  have z3 := b1.lt
  have k1 := b1.cell
  have f1 := b1.frozen
  have c1 := H_c1.out
  go_wp2_with fail
  refine (c1 _ (belowAny)).mono ?_
  rintro e w4 ⟨rfl, hb4⟩
  clear c1
  have z5 := hb4.size
  try simp at z5
  clear k1 f1
  have b1 : Blk w4 w.heap.size #[.int .i64 K, .slice p len cap, .int .i64 A, .int .i64 R, .int .i64 n, .int .i64 d, .slice q m vc, .int .i64 E] 27 := by exact blkAny
  have hW : Below w.heap.size w w4 := by exact belowAny
  have z6 := b1.lt
  clear hb4
  have k1 := b1.cell
  have f1 := b1.frozen
  have c3 := H_c3.out
  go_wp2_with fail
  refine (c3 _ (belowAny)).mono ?_
  rintro e w7 ⟨v, rfl, hv, hb7⟩
  clear c3
  have z8 := hb7.size
  try simp at z8
  clear k1 f1
  have b1 : Blk w7 w.heap.size #[.int .i64 K, .slice p len cap, .int .i64 A, .int .i64 R, .int .i64 n, .int .i64 d, .slice q m vc, .int .i64 E] 27 := by exact blkAny
  have hW : Below w.heap.size w w7 := by exact belowAny
  have z9 := b1.lt
  have k1 := b1.cell
  have f1 := b1.frozen
  replace hv := Lib.hid hv
  go_wp2
  refine bodyPost_ret (v := .tuple #[v, .int .i64 0]) (by simp [results, Tryz.results60, go_sem]) rfl ⟨v, rfl, ownsRow_le hv.out (by omega), belowAny⟩
set_option maxRecDepth 100000 in
set_option maxHeartbeats 2000000 in
theorem points_no (K A R n d E : Int) (p q : Option Addr) (len cap m vc : Nat) (w : World)
    (c1 : ∀ W, Below w.heap.size w W → Calls Tryz.prog 60 #[.agg #[.int .i64 K, .slice p len cap, .int .i64 A, .int .i64 R, .int .i64 n, .int .i64 d, .slice q m vc, .int .i64 E], .func (.func 61) #[] #[]] W fun e w' => e = .returned (.tuple #[.slice none 0 0, .int .i64 210]) ∧ Below W.heap.size W w') :
    Calls Tryz.prog 25 #[.agg #[.int .i64 K, .slice p len cap, .int .i64 A, .int .i64 R, .int .i64 n, .int .i64 d, .slice q m vc, .int .i64 E]] w fun e w' => e = .returned (.tuple #[.slice none 0 0, .int .i64 210]) ∧ Below w.heap.size w w' := by
  have H_c1 := Lib.hid c1
  clear c1
  go_enter Tryz.func25, Tryz.ntmps25
  go_upto_region 1 with (fail)
  refine wp_facts (fun W' => Below w.heap.size w W' ∧ Blk W' w.heap.size #[.int .i64 K, .slice p len cap, .int .i64 A, .int .i64 R, .int .i64 n, .int .i64 d, .slice q m vc, .int .i64 E] 27) ⟨by exact belowAny, by exact blkAny⟩ ?_
  rintro W1 ⟨hW, b1⟩
  have z2 := hW.size
  have z3 := b1.lt
  have k1 := b1.cell
  have f1 := b1.frozen
  have c1 := H_c1.out
  go_wp2_with fail
  refine (c1 _ (belowAny)).mono ?_
  rintro e w4 ⟨rfl, hb4⟩
  clear c1
  have z5 := hb4.size
  try simp at z5
  clear k1 f1
  have b1 : Blk w4 w.heap.size #[.int .i64 K, .slice p len cap, .int .i64 A, .int .i64 R, .int .i64 n, .int .i64 d, .slice q m vc, .int .i64 E] 27 := by exact blkAny
  have hW : Below w.heap.size w w4 := by exact belowAny
  have z6 := b1.lt
  clear hb4
  have k1 := b1.cell
  have f1 := b1.frozen
  go_wp2
  have y_1 := b1.lt
  refine bodyPost_ret (v := .tuple #[.slice none 0 0, .int .i64 210]) (by simp [results, Tryz.results25, go_sem, k1, f1, y_1]) rfl ⟨rfl, by exact belowAny⟩
set_option maxRecDepth 100000 in
set_option maxHeartbeats 2000000 in
theorem points_yes (K A R n d E : Int) (p q : Option Addr) (len cap m vc : Nat) (w : World) (s : SegT)
    (c1 : ∀ W, Below w.heap.size w W → Calls Tryz.prog 60 #[.agg #[.int .i64 K, .slice p len cap, .int .i64 A, .int .i64 R, .int .i64 n, .int .i64 d, .slice q m vc, .int .i64 E], .func (.func 61) #[] #[]] W fun e w' => ∃ v, e = .returned (.tuple #[v, .int .i64 0]) ∧ PtsIs s W.heap.size v w' ∧ Below W.heap.size W w') :
    Calls Tryz.prog 25 #[.agg #[.int .i64 K, .slice p len cap, .int .i64 A, .int .i64 R, .int .i64 n, .int .i64 d, .slice q m vc, .int .i64 E]] w fun e w' => ∃ v, e = .returned (.tuple #[v, .int .i64 0]) ∧ PtsIs s w.heap.size v w' ∧ Below w.heap.size w w' := by
  have H_c1 := Lib.hid c1
  clear c1
  go_enter Tryz.func25, Tryz.ntmps25
  go_upto_region 1 with (fail)
  refine wp_facts (fun W' => Below w.heap.size w W' ∧ Blk W' w.heap.size #[.int .i64 K, .slice p len cap, .int .i64 A, .int .i64 R, .int .i64 n, .int .i64 d, .slice q m vc, .int .i64 E] 27) ⟨by exact belowAny, by exact blkAny⟩ ?_
  rintro W1 ⟨hW, b1⟩
  have z2 := hW.size
  have z3 := b1.lt
  have k1 := b1.cell
  have f1 := b1.frozen
  have c1 := H_c1.out
  go_wp2_with fail
  refine (c1 _ (belowAny)).mono ?_
  rintro e w4 ⟨v, rfl, hv, hb4⟩
  clear c1
  have z5 := hb4.size
  try simp at z5
  clear k1 f1
  have b1 : Blk w4 w.heap.size #[.int .i64 K, .slice p len cap, .int .i64 A, .int .i64 R, .int .i64 n, .int .i64 d, .slice q m vc, .int .i64 E] 27 := by exact blkAny
  have hW : Below w.heap.size w w4 := by exact belowAny
  have z6 := b1.lt
  have k1 := b1.cell
  have f1 := b1.frozen
  replace hv := Lib.hid hv
  go_wp2
  refine bodyPost_ret (v := .tuple #[v, .int .i64 0]) (by simp [results, Tryz.results25, go_sem]) rfl ⟨v, rfl, ownsRow_le hv.out (by omega), belowAny⟩
theorem c_Points_no (s : SegT) (p q : Option Addr) (cap vc : Nat) (w : World) (h : SegIn w s p q) (hs : segB s = false) :
    Calls Tryz.prog 25 #[.agg (segA s p q cap vc)] w fun e w' => e = .returned (.tuple #[.slice none 0 0, .int .i64 210]) ∧ Below w.heap.size w w' := by
  refine points_no _ _ _ _ _ _ p q _ cap _ vc w fun W hW => ofp_no _ _ _ _ _ _ p q _ cap _ vc W fun W' hW' => ?_
  have := c_segIs s p q cap vc W' ((h.below hW).below hW')
  rw [hs] at this
  exact this
theorem c_Points (s : SegT) (p q : Option Addr) (cap vc : Nat) (w : World) (h : SegIn w s p q) (hs : segB s = true) :
    Calls Tryz.prog 25 #[.agg (segA s p q cap vc)] w fun e w' => ∃ v, e = .returned (.tuple #[v, .int .i64 0]) ∧ PtsIs s w.heap.size v w' ∧ Below w.heap.size w w' := by
  refine points_yes _ _ _ _ _ _ p q _ cap _ vc w s fun W hW => ofp_yes _ _ _ _ _ _ p q _ cap _ vc W s (fun W' hW' => ?_) (fun W' hW' => c_Points1 s p q cap vc W' hs ((h.below hW).below hW'))
  have := c_segIs s p q cap vc W' ((h.below hW).below hW')
  rw [hs] at this
  exact this
end Go.Proofs.YtgblmlefmohgnaaGreat
namespace Go.Proofs.YtgblmlefmohgnaaGreat
open Go.RowKit

/-- As blkAny, but quick where a great world has been written into. -/
theorem blkAny2 {w : World} {b : Nat} {cs : Array Value} {t : TypeId} (h : Blk w b cs t := by repeat (first | with_reducible assumption | with_reducible (apply Blk.set2) | with_reducible (apply Blk.setO) | ((with_reducible (show _ ≠ _)); omega) | with_reducible (refine Blk.new2 (by first | rfl | (simp; done) | (simp; omega) | omega) ?_) | with_reducible (refine Blk.alloc ?_ _) | with_reducible (refine Blk.calls ?_ (by assumption)) | with_reducible (refine Blk.rex ?_ (by assumption) (by first | (simp; done) | (simp; omega))) | ((with_reducible (show @Eq (Array Value) _ _)); rfl) | ((with_reducible (show @Eq Obj _ _)); rfl))) : Blk w b cs t := h
structure PtsIn (w : World) (p : Option Addr) (l : List (Int × Int)) : Prop where
  at' : ∀ (i : Nat) (x : Int × Int), l[i]? = some x → ∃ b o, p = some ⟨b, o, none⟩ ∧ w.cell? ⟨b, o + i * 2, none⟩ = some (.int .i64 x.1) ∧ w.cell? ⟨b, o + i * 2 + 1, none⟩ = some (.int .i64 x.2)
theorem PtsIn.below {w w' : World} {p : Option Addr} {l : List (Int × Int)} (h : PtsIn w p l) (hb : Below w.heap.size w w') : PtsIn w' p l := ⟨fun i r hr => by
  obtain ⟨b, o, e, h1, h2⟩ := h.at' i r hr
  exact ⟨b, o, e, (hb.cell (p := ⟨b, _, none⟩) (cell_lt h1)).trans h1, (hb.cell (p := ⟨b, _, none⟩) (cell_lt h1)).trans h2⟩⟩
theorem PtsIn.alloc {w : World} {p : Option Addr} {l : List (Int × Int)} (h : PtsIn w p l) (o : Obj) : PtsIn (w.alloc o) p l := h.below ((Below.refl _ _).alloc (Nat.le_refl _) o)
theorem PtsIn.calls {w w' : World} {p : Option Addr} {l : List (Int × Int)} (h : PtsIn w p l) (hb : Below w.heap.size w w') : PtsIn w' p l := h.below hb
theorem PtsIn.set' {w : World} {p : Option Addr} {o i : Nat} {v : Value} {l : List (Int × Int)} (h : PtsIn w p l) (hne : ∀ a, p = some a → a.block ≠ o) : PtsIn (w.setCell ⟨o, i, none⟩ v) p l := ⟨fun k r hr => by
  obtain ⟨b, y, e, h1, h2⟩ := h.at' k r hr
  have hc : ∀ z, (w.setCell ⟨o, i, none⟩ v).cell? ⟨b, z, none⟩ = w.cell? ⟨b, z, none⟩ := by
    intro z
    have := heap_setCell_other w ⟨o, i, none⟩ b v (hne _ e)
    simp only [World.cell?, this]
  exact ⟨b, y, e, (hc _).trans h1, (hc _).trans h2⟩⟩
theorem PtsIn.set {w : World} {g x o i : Nat} {v : Value} {l : List (Int × Int)} (h : PtsIn w (some ⟨g, x, none⟩) l) (hne : g ≠ o) : PtsIn (w.setCell ⟨o, i, none⟩ v) (some ⟨g, x, none⟩) l := h.set' fun a e => by cases e; exact hne
theorem PtsIn.drew {w : World} {p : Option Addr} {l : List (Int × Int)} (h : PtsIn w p l) : PtsIn w.drew p l := ⟨h.at'⟩
theorem PtsIn.rex {L : List Nat} {w w' : World} {p : Option Addr} {l : List (Int × Int)} (h : PtsIn w p l) (hr : Rex L w w') (hL : L = []) : PtsIn w' p l := by subst hL; exact h.below hr.below
theorem ptsAny {w : World} {p : Option Addr} {l : List (Int × Int)} (h : PtsIn w p l := by repeat (first | with_reducible assumption | with_reducible (refine PtsIn.alloc ?_ _) | with_reducible (refine PtsIn.set ?_ (by first | omega | (simp; done) | (simp; omega))) | with_reducible (refine PtsIn.calls ?_ (by assumption)))) : PtsIn w p l := h
theorem flatPts_at : ∀ (l : List (Int × Int)) (i : Nat) (x : Int × Int), l[i]? = some x → (flatPts l)[i * 2]? = some (.int .i64 x.1) ∧ (flatPts l)[i * 2 + 1]? = some (.int .i64 x.2)
  | [], i, x, h => by simp at h
  | y :: l, 0, x, h => by
    simp at h
    subst h
    exact ⟨rfl, rfl⟩
  | y :: l, i + 1, x, h => by
    obtain ⟨a, b⟩ := flatPts_at l i x (by simpa using h)
    have e : flatPts (y :: l) = .int .i64 y.1 :: .int .i64 y.2 :: flatPts l := rfl
    rw [e, show (i + 1) * 2 = i * 2 + 1 + 1 by omega]
    exact ⟨by simpa using a, by simpa using b⟩
theorem length_flatPts (l : List (Int × Int)) : (flatPts l).length = l.length * 2 := by
  induction l with
  | nil => rfl
  | cons x l ih => show (_ :: _ :: flatPts l).length = _; simp [ih]; omega
/-- What is collected lies in an array of its own. -/
theorem pts_is {s : SegT} {B : Nat} {v : Value} {w : World} (h : PtsIs s B v w) (hn : 0 < (ptsL s).length) : ∃ g cap cur, v = .slice (some ⟨g, 0, none⟩) (ptsL s).length cap ∧ B ≤ g ∧ (ptsL s).length ≤ cap ∧ cap ≤ maxLen ∧ Blk w g cur 58 ∧ cur.size = cap * 2 ∧ cur.toList.take ((ptsL s).length * 2) = flatPts (ptsL s) := by
  obtain ⟨_, h2 | ⟨g, cap, cur, e, hg, hb, hnc, hm, hc, htk⟩⟩ := h
  · omega
  · exact ⟨g, cap, cur, e, hg, hnc, hm, hb, hc, htk⟩
theorem pts_in {w : World} {g n : Nat} {t : TypeId} {cur : Array Value} {l : List (Int × Int)} (hb : Blk w g cur t) (ht : cur.toList.take n = flatPts l) : PtsIn w (some ⟨g, 0, none⟩) l := ⟨fun i x hx => by
  obtain ⟨a, b⟩ := flatPts_at l i x hx
  refine ⟨g, 0, rfl, ?_, ?_⟩
  · rw [hb.cell, Nat.zero_add]; exact row_take ht a
  · rw [hb.cell, Nat.zero_add]; exact row_take ht b⟩

/-- The values of the points from a to b. -/
def selB (a b : Int) (x : Int × Int) : Bool := decide (a ≤ x.1) && decide (x.1 ≤ b)
def selL (a b : Int) (l : List (Int × Int)) : List Int := (l.filter (selB a b)).map (·.2)
theorem selL_in {a b : Int} (l : List (Int × Int)) {x : Int × Int} (h1 : a ≤ x.1) (h2 : x.1 ≤ b) : selL a b (l ++ [x]) = selL a b l ++ [x.2] := by
  have : selB a b x = true := by simp [selB, h1, h2]
  simp [selL, this]
theorem selL_out {a b : Int} (l : List (Int × Int)) {x : Int × Int} (h : x.1 < a ∨ b < x.1) : selL a b (l ++ [x]) = selL a b l := by
  have : selB a b x = false := by simp [selB]; omega
  simp [selL, this]
theorem filter_range {α : Type} (pr : α → Bool) : ∀ (l : List α) (i j : Nat), (∀ k x, l[k]? = some x → (pr x = true ↔ i ≤ k ∧ k < j)) → l.filter pr = (l.take j).drop i
  | [], i, j, _ => by simp
  | y :: l, i, j, h => by
    have h0 := h 0 y rfl
    cases j with
    | zero =>
      have ih := filter_range pr l 0 0 (fun k x hx => (h (k + 1) x (by simpa using hx)).trans (by omega))
      have hp : pr y = false := by
        cases hy : pr y with
        | false => rfl
        | true => have := h0.1 hy; omega
      simp [List.filter_cons, hp]
      simpa using ih
    | succ j =>
      cases i with
      | zero =>
        have ih := filter_range pr l 0 j (fun k x hx => (h (k + 1) x (by simpa using hx)).trans (by omega))
        have hp : pr y = true := h0.2 ⟨Nat.le_refl _, by omega⟩
        simp [List.filter_cons, hp, ih]
      | succ i =>
        have ih := filter_range pr l i j (fun k x hx => (h (k + 1) x (by simpa using hx)).trans (by omega))
        have hp : pr y = false := by
          cases hy : pr y with
          | false => rfl
          | true => have := h0.1 hy; omega
        simp [List.filter_cons, hp, ih]
theorem map_pts {s : SegT} (hs : segB s = true) : (ptsL s).map (·.2) = vals s := by
  have h1 := length_times (segB_runs hs)
  have h2 := length_vals hs
  unfold ptsL
  rw [List.map_snd_zip]
  omega
theorem pts_times {s : SegT} (hs : segB s = true) {k : Nat} {x : Int × Int} (h : (ptsL s)[k]? = some x) : (timesL s.runs)[k]? = some x.1 ∧ (vals s)[k]? = some x.2 := by
  unfold ptsL at h
  rw [List.getElem?_zip_eq_some] at h
  exact h
/-- What some times have is what their places have. -/
theorem sel_slice {s : SegT} (hs : segB s = true) (a b : Int) : selL a b (ptsL s) = if clipI s.runs a < clipJ s.runs a b then slice (vals s) (clipI s.runs a).toNat (clipJ s.runs a b).toNat else [] := by
  have hl := segB_runs hs
  obtain ⟨i0, i1, i2⟩ := below_is s.runs a hl.each hl.chain
  obtain ⟨j0, j1, j2⟩ := below_is s.runs (b + 1) hl.each hl.chain
  have hcb := clip_bd hl a b
  have key : ∀ k x, (ptsL s)[k]? = some x → (selB a b x = true ↔ (clipI s.runs a).toNat ≤ k ∧ k < (clipJ s.runs a b).toNat) := by
    intro k x hx
    obtain ⟨t1, _⟩ := pts_times hs hx
    have e1 := i2 k x.1 t1
    have e2 := j2 k x.1 t1
    have hk : (k : Int) < cnt s.runs := by
      have := length_times hl
      have := (List.getElem?_eq_some_iff.1 t1).1
      omega
    have hm := times_in s.runs hl x.1 (List.mem_of_getElem? t1)
    simp only [selB, Bool.and_eq_true, decide_eq_true_eq]
    unfold clipI clipJ
    split
    · omega
    · split <;> omega
  have := filter_range (selB a b) (ptsL s) _ _ key
  unfold selL
  rw [this]
  split
  · rw [List.map_drop, List.map_take, map_pts hs]
    rfl
  · rw [List.drop_eq_nil_of_le (by simp; omega)]
    rfl
theorem partOut_sel {s : SegT} (hs : segB s = true) (a b : Int) : partOut s a b = if selL a b (ptsL s) = [] then (#[.int .i64 0, .int .i64 0, .int .i64 0, .int .i64 0, .int .u64 0], 9) else (partA (selL a b (ptsL s)), 0) := by
  have hl := segB_runs hs
  have hcb := clip_bd hl a b
  have hlv := length_vals hs
  rw [sel_slice hs a b]
  unfold partOut
  rw [if_pos hs]
  by_cases h : clipI s.runs a < clipJ s.runs a b
  · rw [if_pos h, if_pos h, if_neg (slice_ne (by omega) (by omega))]
  · rw [if_neg h, if_neg h, if_pos rfl]
end Go.Proofs.YtgblmlefmohgnaaGreat
namespace Go.Proofs.YtgblmlefmohgnaaGreat
open Go.RowKit

theorem pow_lt2 (j k : Nat) (h : j < k) : (2 : Nat) ^ j < 2 ^ k := Nat.pow_lt_pow_right (by omega) h
theorem lt_pow2 {a : Nat} (j k : Nat) (h : a < 2 ^ j) (hjk : j ≤ k) : a < 2 ^ k := Nat.lt_of_lt_of_le h (Nat.pow_le_pow_right (by omega) hjk)
theorem twice_pow {a : Nat} (j k : Nat) (h : a < 2 ^ j) (hjk : j + 1 ≤ k) : 2 * a < 2 ^ k :=
  Nat.lt_of_lt_of_le (Nat.mul_lt_mul_of_pos_left h (by omega)) (by rw [← Nat.pow_succ']; exact Nat.pow_le_pow_right (by omega) hjk)
def valD : List Int → Nat
  | [] => 0
  | d :: l => d.toNat + 2 * valD l
def Dig (l : List Int) : Prop := ∀ d, d ∈ l → d = 0 ∨ d = 1
/-- No noughts at the end. -/
def Canon (l : List Int) : Prop := l = [] ∨ 2 ^ (l.length - 1) ≤ valD l
theorem Dig.nil : Dig [] := fun d h => by simp at h
theorem Dig.snoc {l : List Int} {d : Int} (h : Dig l) (hd : d = 0 ∨ d = 1) : Dig (l ++ [d]) := fun x hx => by
  rcases List.mem_append.1 hx with h1 | h1
  · exact h x h1
  · simp at h1; subst h1; exact hd
theorem Dig.cons {l : List Int} {d : Int} (h : Dig l) (hd : d = 0 ∨ d = 1) : Dig (d :: l) := fun x hx => by
  rcases List.mem_cons.1 hx with h1 | h1
  · subst h1; exact hd
  · exact h x h1
theorem Dig.take {l : List Int} (h : Dig l) (k : Nat) : Dig (l.take k) := fun x hx => h x (List.mem_of_mem_take hx)
theorem Dig.drop {l : List Int} (h : Dig l) (k : Nat) : Dig (l.drop k) := fun x hx => h x (List.mem_of_mem_drop hx)
theorem Dig.at {l : List Int} (h : Dig l) {k : Nat} {d : Int} (hk : l[k]? = some d) : d = 0 ∨ d = 1 := h d (List.mem_of_getElem? hk)
theorem valD_append : ∀ (a b : List Int), valD (a ++ b) = valD a + 2 ^ a.length * valD b
  | [], b => by simp [valD]
  | d :: a, b => by
    simp only [List.cons_append, valD, List.length_cons, valD_append a b]
    rw [Nat.pow_succ, Nat.mul_add, Nat.mul_comm (2 ^ a.length) 2, Nat.mul_assoc]
    omega
theorem valD_snoc (a : List Int) (d : Int) : valD (a ++ [d]) = valD a + 2 ^ a.length * d.toNat := by rw [valD_append]; simp [valD]
theorem valD_take {l : List Int} {k : Nat} {d : Int} (hk : l[k]? = some d) : valD (l.take (k + 1)) = valD (l.take k) + 2 ^ k * d.toNat := by
  have hlt := (List.getElem?_eq_some_iff.1 hk).1
  rw [List.take_add_one, hk]
  show valD (l.take k ++ [d]) = _
  rw [valD_snoc, List.length_take, Nat.min_eq_left (by omega)]
theorem valD_lt : ∀ (l : List Int), Dig l → valD l < 2 ^ l.length
  | [], _ => by simp [valD]
  | d :: l, h => by
    have ih := valD_lt l fun x hx => h x (by simp [hx])
    have hd := h d (by simp)
    simp only [valD, List.length_cons, Nat.pow_succ]
    rcases hd with rfl | rfl <;> simp <;> omega
theorem valD_all (l : List Int) {k : Nat} (h : l.length ≤ k) : valD (l.take k) = valD l := by rw [List.take_of_length_le h]
theorem Canon.nil : Canon [] := .inl rfl
/-- A digit list that ends in 1 has no noughts at the end. -/
theorem canon_snoc_one (l : List Int) : Canon (l ++ [1]) := .inr (by rw [valD_snoc]; simp)
theorem canon_pos {l : List Int} (h : Canon l) (hl : l ≠ []) : 2 ^ (l.length - 1) ≤ valD l := by
  rcases h with h | h
  · exact absurd h hl
  · exact h
/-- Which is less, told by the lengths. -/
theorem less_len {a b : List Int} (ha : Dig a) (hb : Canon b) (h : a.length < b.length) : valD a < valD b := by
  have h1 := valD_lt a ha
  have h2 := canon_pos hb (by rintro rfl; simp at h)
  have h3 : 2 ^ a.length ≤ 2 ^ (b.length - 1) := Nat.pow_le_pow_right (by omega) (by omega)
  omega
theorem valD_split {l : List Int} {k : Nat} (hk : k ≤ l.length) : valD l = valD (l.take k) + 2 ^ k * valD (l.drop k) := by
  conv => lhs; rw [← List.take_append_drop k l]
  rw [valD_append, List.length_take, Nat.min_eq_left hk]
/-- Which is less, told by the highest place at which they part. -/
theorem less_at {a b : List Int} (ha : Dig a) (hb : Dig b) (hl : a.length = b.length) {k : Nat} {x y : Int} (hx : a[k]? = some x) (hy : b[k]? = some y) (hd : a.drop (k + 1) = b.drop (k + 1)) (h : x < y) : valD a < valD b := by
  have hk := (List.getElem?_eq_some_iff.1 hx).1
  have e1 := valD_split (l := a) (k := k + 1) (by omega)
  have e2 := valD_split (l := b) (k := k + 1) (by omega)
  rw [hd] at e1
  have t1 := valD_take hx
  have t2 := valD_take hy
  have b1 := valD_lt (a.take k) (ha.take k)
  rw [List.length_take, Nat.min_eq_left (by omega)] at b1
  have dx := ha.at hx
  have dy := hb.at hy
  have x0 : x = 0 := by omega
  have y1 : y = 1 := by omega
  subst x0; subst y1
  simp at t1 t2
  omega
/-- What numbers a slice of int has; its block is one of int. -/
structure DigsIn (w : World) (p : Option Addr) (l : List Int) : Prop where
  at' : ∀ (i : Nat) (x : Int), l[i]? = some x → ∃ b o, p = some ⟨b, o, none⟩ ∧ w.cell? ⟨b, o + i, none⟩ = some (.int .i64 x)
  typ : ∀ a, p = some a → ∃ cur fz, w.heap[a.block]? = some (.cells cur 3 fz)
theorem DigsIn.below {w w' : World} {p : Option Addr} {l : List Int} (h : DigsIn w p l) (hb : Below w.heap.size w w') : DigsIn w' p l :=
  ⟨((⟨h.at'⟩ : IntsIn w p l).below hb).at', fun a e => by
    obtain ⟨cur, fz, hh⟩ := h.typ a e
    exact ⟨cur, fz, (hb.block a.block (Array.getElem?_eq_some_iff.1 hh).1).trans hh⟩⟩
theorem DigsIn.take {w : World} {p : Option Addr} {l : List Int} (h : DigsIn w p l) (k : Nat) : DigsIn w p (l.take k) := ⟨fun i r hr => h.at' i r (by
  rw [List.getElem?_take] at hr
  split at hr
  · exact hr
  · cases hr), h.typ⟩
theorem clone_digs {w : World} {g k : Nat} {cur : Array Value} {l : List Int} (hb : w.heap[g]? = some (.cells cur 3 (0, 0))) (ht : cur.toList.take k = l.map (Value.int .i64)) : DigsIn w (some ⟨g, 0, none⟩) l :=
  ⟨(cloneInt_in hb ht).at', fun a e => by cases e; exact ⟨cur, (0, 0), hb⟩⟩
/-- A slice of digits: a number, without noughts at the end. -/
def Bits (w : World) (v : Value) (n : Nat) : Prop := ∃ p l cap, v = .slice p l.length cap ∧ l.length ≤ cap ∧ l.length ≤ 1000 ∧ (p = none → l = [] ∧ cap = 0) ∧ DigsIn w p l ∧ Dig l ∧ Canon l ∧ valD l = n
theorem Bits.below {w w' : World} {v : Value} {n : Nat} (h : Bits w v n) (hb : Below w.heap.size w w') : Bits w' v n := by
  obtain ⟨p, l, cap, h1, h2, h3, h4, h5, h6⟩ := h
  exact ⟨p, l, cap, h1, h2, h3, h4, h5.below hb, h6⟩
theorem Bits.rex {L : List Nat} {w w' : World} {v : Value} {n : Nat} (h : Bits w v n) (hr : Rex L w w') (hL : L = []) : Bits w' v n := by subst hL; exact h.below hr.below
theorem Bits.drew {w : World} {v : Value} {n : Nat} (h : Bits w v n) : Bits w.drew v n := by
  obtain ⟨p, l, cap, h1, h2, h3, h4, h5, h6⟩ := h
  exact ⟨p, l, cap, h1, h2, h3, h4, ⟨h5.at', h5.typ⟩, h6⟩
theorem Bits.zero (w : World) : Bits w (.slice none 0 0) 0 := ⟨none, [], 0, rfl, by simp, by simp, fun _ => ⟨rfl, rfl⟩, ⟨fun i x h => by simp at h, fun a e => by cases e⟩, Dig.nil, Canon.nil, rfl⟩
theorem bits_own {w : World} {base n : Nat} {v : Value} {l : List Int} (h : w.ownsRow base 3 1 v n (l.map (Value.int .i64))) (hn : n = l.length) (hl : l.length ≤ 1000) (h1 : Dig l) (h2 : Canon l) : Bits w v (valD l) := by
  subst hn
  obtain ⟨_, h2' | ⟨g, cap', cur, rfl, hg, hb, hn, _, hc, ht⟩⟩ := h
  · obtain ⟨rfl, h0⟩ := h2'
    have : l = [] := List.length_eq_zero_iff.1 h0
    subst this
    exact Bits.zero w
  · exact ⟨some ⟨g, 0, none⟩, l, cap', rfl, by simpa using hn, hl, (fun e => by cases e), clone_digs hb (by simpa using ht), h1, h2, rfl⟩
end Go.Proofs.YtgblmlefmohgnaaGreat
namespace Go.Proofs.YtgblmlefmohgnaaGreat
open Go.RowKit
theorem Tryz.infoI : (Tryz.prog.info? 3).map (fun i => (i.zero, i.size, i.bytes)) = some (some (.int .i64 0), 1, 8) := by kernel_rfl
theorem below_append {w0 W w1 : World} {B : Nat} {e : TypeId} {s k : Nat} {v : Value} {xs : List Value} {tmp : Obj} (hW : Below B w0 W) (hB : B ≤ W.heap.size) (hrow : W.ownsRow B e s v k xs) (hgr : (W.alloc tmp).grownBy w1 v.ownBlock) : Below B w0 w1 := by
  refine (hW.alloc hB tmp).grown hgr (by simp; omega) fun j ej => ?_
  rcases hrow.2 with ⟨rfl, _⟩ | ⟨g, cap, cur, rfl, hb, _, _⟩
  · simp [Value.ownBlock] at ej
  · obtain rfl : g = j := by simpa [Value.ownBlock] using ej
    exact hb
def sizeRel (u0 : Nat) (w : World) (a' : Act) (W : World) : Prop :=
  Below w.heap.size w W ∧ ∃ (l : List Int) (u : Nat) (v : Value), (∃ x : Nat → Value, a' = { tmps := #[.int .u64 (u : Int), x 1, x 2, v, x 4, x 5, x 6, x 7, x 8, x 9, x 10, x 11, x 12, x 13, x 14], defers := [] }) ∧
    W.ownsRow w.heap.size 3 1 v l.length (l.map (Value.int .i64)) ∧ Dig l ∧ valD l + 2 ^ l.length * u = u0 ∧ l.length ≤ 64 ∧ u < 2 ^ (64 - l.length) ∧ (u = 0 → Canon l)
set_option maxRecDepth 100000 in
set_option maxHeartbeats 4000000 in
theorem c_Size (u0 : Nat) (w : World) (h0 : u0 < 18446744073709551616) :
    Calls Tryz.prog 90 #[.int .u64 (u0 : Int)] w fun e w' => ∃ v, e = .returned v ∧ Bits w' v u0 ∧ Below w.heap.size w w' := by
  obtain ⟨i0, hi, hz0, hz1, hz2⟩ := info_parts Tryz.infoI
  go_enter Tryz.func90, Tryz.ntmps90
  go_wp2
  refine wp_loop (sizeRel u0 w) (fun a' _ => (intAt (a'.tmps.getD 0 undef)).toNat) ?_ ?_
  · unfold sizeRel
    exact ⟨Below.refl _ _, [], u0, _, frame_ex rfl, World.ownsRow_nil _ _ _ _, Dig.nil, by simp [valD], by simp, by simpa using h0, fun _ => Canon.nil⟩
  · rintro a' W ⟨hW, l, u, v, ⟨x, rfl⟩, hown, hd, hv, hl, hu, hcn⟩
    have hz := hW.size
    replace hv := Lib.hid hv
    replace hu := Lib.hid hu
    replace hcn := Lib.hid hcn
    by_cases h : u = 0
    · subst h
      have hC := Lib.hid (hcn.out rfl)
      have hn := Lib.hid (show valD l = u0 by have := hv.out; omega)
      clear hcn hv hu
      go_wp2
      go_ret
      exact ⟨v, rfl, hn.out ▸ bits_own hown rfl (by omega) hd hC.out, hW⟩
    · have hpos : 0 < u := by omega
      have hp : 0 < (u : Int) := by omega
      have hlt : l.length < 64 := by
        have := hu.out
        rcases Nat.lt_or_ge l.length 64 with h1 | h1
        · exact h1
        · have : 64 - l.length = 0 := by omega
          rw [this] at hu
          have := hu.out
          simp at this
          omega
      have hu64 : u < 18446744073709551616 := by have := hu.out; have := Nat.pow_le_pow_right (n := 2) (by omega) (show 64 - l.length ≤ 64 by omega); omega
      go_wp2_with (at_builtin; refine wpList_append_own _ rfl (.tmp 6) (.tmp 10) 92 rfl w.heap.size 3 i0 (.int .i64 0) 1 8 (by kernel_rfl) hi hz0 hz1 hz2 rfl (by decide) _ _ _ rfl (hown.alloc _) ⟨W.heap.size, 0, none⟩ 1 1 [.int .i64 (u % 2 : Int)] rfl rfl (cell_one_new _ _ _) (by simp [Value.oneCell']) (by simp [maxLen]; omega) (by omega) (by simp; omega) ?_)
      intro v' w1 hown' hgr _
      have hB := Lib.hid (below_append hW hz hown hgr)
      replace hown' := Lib.hid hown'
      clear hgr hown
      go_wp2
      rw [show (u : Int) / 2 = ((u / 2 : Nat) : Int) by omega]
      refine ⟨?_, by simp [intAt]; omega⟩
      unfold sizeRel
      have e2 : ((u : Int) % 2).toNat = u % 2 := by omega
      refine ⟨hB.out, l ++ [(u : Int) % 2], u / 2, v', frame_ex rfl, by simpa using hown'.out, hd.snoc (by omega), ?_, by simp; omega, ?_, fun h2 => ?_⟩
      · have := hv.out
        rw [valD_snoc, e2, List.length_append, List.length_singleton, Nat.pow_succ, Nat.mul_assoc, Nat.add_assoc, ← Nat.mul_add, show u % 2 + 2 * (u / 2) = u by omega]
        exact this
      · have := hu.out
        rw [List.length_append, List.length_singleton]
        have e : 2 ^ (64 - l.length) = 2 * 2 ^ (64 - (l.length + 1)) := by rw [show 64 - l.length = (64 - (l.length + 1)) + 1 by omega, Nat.pow_succ]; omega
        omega
      · have : u = 1 := by omega
        subst this
        exact canon_snoc_one l
theorem valD_noughts : ∀ n : Nat, valD (List.replicate n 0) = 0
  | 0 => rfl
  | n + 1 => by simp [List.replicate_succ, valD, valD_noughts n]
theorem dig_noughts (n : Nat) : Dig (List.replicate n 0) := fun d h => .inl (List.eq_of_mem_replicate h)
def powRel (n : Nat) (w : World) (a' : Act) (W : World) : Prop :=
  Below w.heap.size w W ∧ ∃ (k : Nat) (v : Value), (∃ x : Nat → Value, a' = { tmps := #[.int .i64 (n : Int), x 1, x 2, v, .int .i64 (k : Int), x 5, x 6, x 7, x 8, x 9, x 10, x 11, x 12, x 13, x 14, x 15], defers := [] }) ∧
    W.ownsRow w.heap.size 3 1 v k ((List.replicate k (0 : Int)).map (Value.int .i64)) ∧ k ≤ n
set_option maxRecDepth 100000 in
set_option maxHeartbeats 4000000 in
theorem c_power (n : Nat) (w : World) (hn : n ≤ 900) :
    Calls Tryz.prog 93 #[.int .i64 (n : Int)] w fun e w' => ∃ v, e = .returned v ∧ Bits w' v (2 ^ n) ∧ Below w.heap.size w w' := by
  obtain ⟨i0, hi, hz0, hz1, hz2⟩ := info_parts Tryz.infoI
  go_enter Tryz.func93, Tryz.ntmps93
  go_wp2
  refine wp_loop (powRel n w) (fun a' _ => n - (intAt (a'.tmps.getD 4 undef)).toNat) ?_ ?_
  · unfold powRel
    exact ⟨Below.refl _ _, 0, _, frame_ex rfl, World.ownsRow_nil _ _ _ _, Nat.zero_le _⟩
  · rintro a' W ⟨hW, k, v, ⟨x, rfl⟩, hown, hk⟩
    have hz := hW.size
    rcases Nat.lt_or_ge k n with hlt | hge
    · go_wp2_with (at_builtin; refine wpList_append_own _ rfl (.tmp 10) (.tmp 11) 92 rfl w.heap.size 3 i0 (.int .i64 0) 1 8 (by kernel_rfl) hi hz0 hz1 hz2 rfl (by decide) _ _ _ rfl (hown.alloc _) ⟨W.heap.size, 0, none⟩ 1 1 [.int .i64 0] rfl rfl (cell_one_new _ _ _) (by simp [Value.oneCell']) (by simp [maxLen]; omega) (by omega) (by simp; omega) ?_)
      intro v' w1 hown' hgr _
      have hB := Lib.hid (below_append hW hz hown hgr)
      replace hown' := Lib.hid hown'
      clear hgr hown
      go_wp2
      rw [show (k : Int) + 1 = ((k + 1 : Nat) : Int) by omega]
      refine ⟨?_, by simp [intAt]; omega⟩
      unfold powRel
      exact ⟨hB.out, k + 1, v', frame_ex rfl, by rw [List.replicate_succ', List.map_append, List.map_replicate]; exact hown'.out, hlt⟩
    · obtain rfl : k = n := by omega
      go_wp2_with (at_builtin; refine wpList_append_own _ rfl (.tmp 13) (.tmp 14) 92 rfl w.heap.size 3 i0 (.int .i64 0) 1 8 (by kernel_rfl) hi hz0 hz1 hz2 rfl (by decide) _ _ _ rfl (hown.alloc _) ⟨W.heap.size, 0, none⟩ 1 1 [.int .i64 1] rfl rfl (cell_one_new _ _ _) (by simp [Value.oneCell']) (by simp [maxLen]; omega) (by omega) (by simp; omega) ?_)
      intro v' w1 hown' hgr _
      have hB := Lib.hid (below_append hW hz hown hgr)
      have hv : valD (List.replicate k (0 : Int) ++ [1]) = 2 ^ k := by rw [valD_snoc, valD_noughts]; simp
      have hb : Bits w1 v' (valD (List.replicate k (0 : Int) ++ [1])) := bits_own (n := k + 1) (by rw [List.map_append, List.map_replicate]; exact hown') (by simp) (by simp; omega) ((dig_noughts k).snoc (.inr rfl)) (canon_snoc_one _)
      rw [hv] at hb
      replace hb := Lib.hid hb
      clear hgr hown hown' hv
      go_wp2
      go_ret
      exact ⟨v', rfl, hb.out, hB.out⟩
end Go.Proofs.YtgblmlefmohgnaaGreat
namespace Go.Proofs.YtgblmlefmohgnaaGreat
open Go.RowKit
theorem DigsIn.taken {w : World} {p : Option Addr} {l : List Int} (h : DigsIn w p l) (k : Nat) : DigsIn w p (l.take k) := h.take k
def trimRel (w : World) (b o cap : Nat) (l : List Int) (a' : Act) (W : World) : Prop :=
  Below w.heap.size w W ∧ ∃ k : Nat, (∃ u : Nat → Value, a' = { tmps := #[.slice (some ⟨b, o, none⟩) l.length cap, u 1, u 2, .int .i64 (k : Int), u 4, u 5, u 6, u 7, u 8, u 9, u 10, u 11, u 12, u 13, u 14, u 15, u 16, u 17, u 18, u 19, u 20], defers := [] }) ∧ k ≤ l.length ∧ valD (l.take k) = valD l
set_option maxRecDepth 100000 in
set_option maxHeartbeats 4000000 in
theorem trim_some (b o cap : Nat) (l : List Int) (w : World) (h : DigsIn w (some ⟨b, o, none⟩) l) (hc : l.length ≤ cap) (hcm : cap ≤ 9223372036854775807) (hl : l.length ≤ 1000) (hd : Dig l) :
    Calls Tryz.prog 125 #[.slice (some ⟨b, o, none⟩) l.length cap] w fun e w' => ∃ v, e = .returned v ∧ Bits w' v (valD l) ∧ Below w.heap.size w w' := by
  go_enter Tryz.func125, Tryz.ntmps125
  go_wp2
  refine wp_loop (trimRel w b o cap l) (fun a' _ => (intAt (a'.tmps.getD 3 undef)).toNat) ?_ ?_
  · unfold trimRel
    exact ⟨Below.refl _ _, l.length, frame_ex rfl, Nat.le_refl _, by rw [List.take_length]⟩
  · rintro a' W ⟨hW, k, ⟨u, rfl⟩, hk, hv⟩
    replace hv := Lib.hid hv
    rcases Nat.eq_zero_or_pos k with rfl | hpos
    · go_wp2
      go_ret
      refine ⟨_, rfl, ⟨some ⟨b, o, none⟩, l.take 0, cap, by simp, by simp, by simp, (fun e => by cases e), (h.below hW).taken 0, by simpa using Dig.nil, by simpa using Canon.nil, hv.out⟩, hW⟩
    · obtain ⟨j, rfl⟩ : ∃ j, k = j + 1 := ⟨k - 1, by omega⟩
      obtain ⟨d, hdj⟩ : ∃ d, l[j]? = some d := ⟨l[j], List.getElem?_eq_getElem (by omega)⟩
      obtain ⟨b', o', e, q0⟩ := (h.below hW).at' j d hdj
      cases e
      have e1 : ((j + 1 : Nat) : Int) - 1 = (j : Int) := by omega
      have ht := Lib.hid (valD_take hdj)
      have hdd := hd.at hdj
      have hcan := Lib.hid (show d = 1 → Canon (l.take (j + 1)) from fun e => by rw [List.take_add_one, hdj, e]; exact canon_snoc_one _)
      clear hdj
      replace e1 := Lib.hid e1
      rcases hdd with rfl | rfl
      · go_wp2
        refine ⟨?_, by simp [intAt]⟩
        unfold trimRel
        exact ⟨hW, j, frame_ex rfl, by omega, by have := ht.out; have := hv.out; simp at *; omega⟩
      · go_wp2
        go_ret
        exact ⟨_, rfl, ⟨some ⟨b, o, none⟩, l.take (j + 1), cap, by rw [List.length_take, Nat.min_eq_left hk]; rfl, by rw [List.length_take]; omega, by rw [List.length_take]; omega, (fun e => by cases e), (h.below hW).taken _, hd.take _, hcan.out trivial, hv.out⟩, hW⟩
set_option maxRecDepth 100000 in
set_option maxHeartbeats 4000000 in
theorem trim_nil (p : Option Addr) (cap : Nat) (w : World) (hd : DigsIn w p []) (hn : p = none → cap = 0) (hcm : cap ≤ 9223372036854775807) :
    Calls Tryz.prog 125 #[.slice p 0 cap] w fun e w' => ∃ v, e = .returned v ∧ Bits w' v 0 ∧ Below w.heap.size w w' := by
  cases p with
  | none =>
    obtain rfl := hn rfl
    go_enter Tryz.func125, Tryz.ntmps125
    go_wp2
    refine wp_loop (fun a' W => W = w ∧ ∃ u : Nat → Value, a' = { tmps := #[.slice none 0 0, u 1, u 2, .int .i64 0, u 4, u 5, u 6, u 7, u 8, u 9, u 10, u 11, u 12, u 13, u 14, u 15, u 16, u 17, u 18, u 19, u 20], defers := [] }) (fun _ _ => 0) ⟨rfl, frame_ex rfl⟩ ?_
    rintro a' W ⟨rfl, u, rfl⟩
    go_wp2
    go_ret
    exact ⟨_, rfl, Bits.zero _, Below.refl _ _⟩
  | some a =>
    go_enter Tryz.func125, Tryz.ntmps125
    go_wp2
    refine wp_loop (fun a' W => W = w ∧ ∃ u : Nat → Value, a' = { tmps := #[.slice (some a) 0 cap, u 1, u 2, .int .i64 0, u 4, u 5, u 6, u 7, u 8, u 9, u 10, u 11, u 12, u 13, u 14, u 15, u 16, u 17, u 18, u 19, u 20], defers := [] }) (fun _ _ => 0) ⟨rfl, frame_ex rfl⟩ ?_
    rintro a' W ⟨rfl, u, rfl⟩
    go_wp2
    go_ret
    exact ⟨_, rfl, ⟨_, [], cap, rfl, by simp, by simp, (fun e => by cases e), hd, Dig.nil, Canon.nil, rfl⟩, Below.refl _ _⟩
theorem c_trim (p : Option Addr) (cap : Nat) (l : List Int) (w : World) (h : DigsIn w p l) (hn : p = none → l = [] ∧ cap = 0) (hc : l.length ≤ cap) (hcm : cap ≤ 9223372036854775807) (hl : l.length ≤ 1000) (hd : Dig l) :
    Calls Tryz.prog 125 #[.slice p l.length cap] w fun e w' => ∃ v, e = .returned v ∧ Bits w' v (valD l) ∧ Below w.heap.size w w' := by
  cases l with
  | nil => exact trim_nil p cap w h (fun e => (hn e).2) hcm
  | cons d l =>
    obtain ⟨b, o, rfl, _⟩ := h.at' 0 d rfl
    exact trim_some b o cap (d :: l) w h hc hcm hl hd
end Go.Proofs.YtgblmlefmohgnaaGreat
namespace Go.Proofs.YtgblmlefmohgnaaGreat
open Go.RowKit
def plusRel (w : World) (p q : Option Addr) (a b : List Int) (ca cb : Nat) (a' : Act) (W : World) : Prop :=
  Below w.heap.size w W ∧ ∃ (l : List Int) (c : Int) (v : Value), (∃ u : Nat → Value, a' = { tmps := #[.slice p a.length ca, .slice q b.length cb, u 2, u 3, u 4, v, .int .i64 c, .int .i64 (l.length : Int), u 8, u 9, u 10, u 11, u 12, u 13, u 14, u 15, u 16, u 17, u 18, u 19, u 20, u 21, u 22, u 23, u 24, u 25, u 26, u 27, u 28, u 29, u 30, u 31, u 32, u 33, u 34, u 35, u 36, u 37, u 38, u 39, u 40, u 41, u 42, u 43, u 44, u 45, u 46, u 47, u 48, u 49, u 50, u 51, u 52, u 53], defers := [] }) ∧
    W.ownsRow w.heap.size 3 1 v l.length (l.map (Value.int .i64)) ∧ Dig l ∧ (0 ≤ c ∧ c ≤ 1) ∧ valD l + 2 ^ l.length * c.toNat = valD (a.take l.length) + valD (b.take l.length) ∧
    ((l.length : Int) + c ≤ a.length + 1 ∨ (l.length : Int) + c ≤ b.length + 1) ∧ (l.length = 0 ∨ l.length ≤ a.length ∨ l.length ≤ b.length ∨ 2 ^ (l.length - 1) ≤ valD l)
set_option maxRecDepth 100000 in
set_option maxHeartbeats 20000000 in
theorem plus_w (p q : Option Addr) (a b : List Int) (ca cb : Nat) (w : World) (ha : DigsIn w p a) (hb : DigsIn w q b) (hda : Dig a) (hdb : Dig b) (hca : Canon a) (hcb : Canon b) (hla : a.length ≤ 950) (hlb : b.length ≤ 950) :
    Calls Tryz.prog 94 #[.slice p a.length ca, .slice q b.length cb] w fun e w' => ∃ v, e = .returned v ∧ Bits w' v (valD a + valD b) ∧ Below w.heap.size w w' := by
  obtain ⟨i0, hi, hz0, hz1, hz2⟩ := info_parts Tryz.infoI
  go_enter Tryz.func94, Tryz.ntmps94
  go_wp2
  refine wp_loop (plusRel w p q a b ca cb) (fun a' _ => 2000 - (intAt (a'.tmps.getD 7 undef)).toNat) ?_ ?_
  · unfold plusRel
    exact ⟨Below.refl _ _, [], 0, _, frame_ex rfl, World.ownsRow_nil _ _ _ _, Dig.nil, by omega, by simp [valD], by simp; omega, .inl rfl⟩
  · rintro a' W ⟨hW, l, c, v, ⟨u, rfl⟩, hown, hd, hc, hv, hM, hcn⟩
    have hz := hW.size
    replace hv := Lib.hid hv
    replace hcn := Lib.hid hcn
    have hl9 : l.length ≤ 951 := by omega
    by_cases hia : l.length < a.length
    · by_cases hib : l.length < b.length
      ·
        obtain ⟨x, hx⟩ : ∃ x, a[l.length]? = some x := ⟨a[l.length], List.getElem?_eq_getElem hia⟩
        obtain ⟨ga, oa, rfl, qa⟩ := (ha.below hW).at' _ x hx
        have bx : 0 ≤ x ∧ x ≤ 1 := by have := hda.at hx; omega
        have ta := valD_take hx
        obtain ⟨y, hy⟩ : ∃ y, b[l.length]? = some y := ⟨b[l.length], List.getElem?_eq_getElem hib⟩
        obtain ⟨gb, ob, rfl, qb⟩ := (hb.below hW).at' _ y hy
        have by' : 0 ≤ y ∧ y ≤ 1 := by have := hdb.at hy; omega
        have tb := valD_take hy
        replace ta := Lib.hid ta
        replace tb := Lib.hid tb
        clear hx
        clear hy
        go_wp2_with (at_builtin; refine wpList_append_own _ rfl (.tmp 46) (.tmp 49) 92 rfl w.heap.size 3 i0 (.int .i64 0) 1 8 (by kernel_rfl) hi hz0 hz1 hz2 rfl (by decide) _ _ _ rfl (hown.alloc _) ⟨W.heap.size, 0, none⟩ 1 1 [.int .i64 ((c + x + y) % 2)] rfl rfl (cell_one_new _ _ _) (by simp [Value.oneCell']) (by simp [maxLen]; omega) (by omega) (by simp; omega) ?_)
        intro v' w1 hown' hgr _
        have hB := Lib.hid (below_append hW hz hown hgr)
        replace hown' := Lib.hid hown'
        clear hgr hown
        go_wp2
        refine ⟨?_, by simp [intAt]; omega⟩
        have ee : ((l.length : Int) + 1) = (((l ++ [(c + x + y) % 2]).length : Nat) : Int) := by simp
        rw [ee]
        unfold plusRel
        refine ⟨hB.out, l ++ [(c + x + y) % 2], (c + x + y) / 2, v', frame_ex rfl, by simpa using hown'.out, hd.snoc (by omega), by omega, ?_, by simp; omega, ?_⟩
        · have := hv.out
          have e1 : ((c + x + y) % 2).toNat + 2 * ((c + x + y) / 2).toNat = c.toNat + x.toNat + y.toNat := by omega
          rw [valD_snoc, List.length_append, List.length_singleton, Nat.pow_succ, Nat.mul_assoc, Nat.add_assoc, ← Nat.mul_add, e1, ta.out, tb.out]
          try simp only [Nat.mul_add]
          omega
        · exact .inr (.inl (by simp; omega))
      ·
        obtain ⟨x, hx⟩ : ∃ x, a[l.length]? = some x := ⟨a[l.length], List.getElem?_eq_getElem hia⟩
        obtain ⟨ga, oa, rfl, qa⟩ := (ha.below hW).at' _ x hx
        have bx : 0 ≤ x ∧ x ≤ 1 := by have := hda.at hx; omega
        have ta := valD_take hx
        have tb : valD (b.take (l.length + 1)) = valD (b.take l.length) := by rw [valD_all b (by omega), valD_all b (by omega)]
        replace ta := Lib.hid ta
        replace tb := Lib.hid tb
        clear hx
        go_wp2_with (at_builtin; refine wpList_append_own _ rfl (.tmp 46) (.tmp 49) 92 rfl w.heap.size 3 i0 (.int .i64 0) 1 8 (by kernel_rfl) hi hz0 hz1 hz2 rfl (by decide) _ _ _ rfl (hown.alloc _) ⟨W.heap.size, 0, none⟩ 1 1 [.int .i64 ((c + x) % 2)] rfl rfl (cell_one_new _ _ _) (by simp [Value.oneCell']) (by simp [maxLen]; omega) (by omega) (by simp; omega) ?_)
        intro v' w1 hown' hgr _
        have hB := Lib.hid (below_append hW hz hown hgr)
        replace hown' := Lib.hid hown'
        clear hgr hown
        go_wp2
        refine ⟨?_, by simp [intAt]; omega⟩
        have ee : ((l.length : Int) + 1) = (((l ++ [(c + x) % 2]).length : Nat) : Int) := by simp
        rw [ee]
        unfold plusRel
        refine ⟨hB.out, l ++ [(c + x) % 2], (c + x) / 2, v', frame_ex rfl, by simpa using hown'.out, hd.snoc (by omega), by omega, ?_, by simp; omega, ?_⟩
        · have := hv.out
          have e1 : ((c + x) % 2).toNat + 2 * ((c + x) / 2).toNat = c.toNat + x.toNat := by omega
          rw [valD_snoc, List.length_append, List.length_singleton, Nat.pow_succ, Nat.mul_assoc, Nat.add_assoc, ← Nat.mul_add, e1, ta.out, tb.out]
          try simp only [Nat.mul_add]
          omega
        · exact .inr (.inl (by simp; omega))
    · by_cases hib : l.length < b.length
      ·
        have ta : valD (a.take (l.length + 1)) = valD (a.take l.length) := by rw [valD_all a (by omega), valD_all a (by omega)]
        obtain ⟨y, hy⟩ : ∃ y, b[l.length]? = some y := ⟨b[l.length], List.getElem?_eq_getElem hib⟩
        obtain ⟨gb, ob, rfl, qb⟩ := (hb.below hW).at' _ y hy
        have by' : 0 ≤ y ∧ y ≤ 1 := by have := hdb.at hy; omega
        have tb := valD_take hy
        replace ta := Lib.hid ta
        replace tb := Lib.hid tb
        clear hy
        go_wp2_with (at_builtin; refine wpList_append_own _ rfl (.tmp 46) (.tmp 49) 92 rfl w.heap.size 3 i0 (.int .i64 0) 1 8 (by kernel_rfl) hi hz0 hz1 hz2 rfl (by decide) _ _ _ rfl (hown.alloc _) ⟨W.heap.size, 0, none⟩ 1 1 [.int .i64 ((c + y) % 2)] rfl rfl (cell_one_new _ _ _) (by simp [Value.oneCell']) (by simp [maxLen]; omega) (by omega) (by simp; omega) ?_)
        intro v' w1 hown' hgr _
        have hB := Lib.hid (below_append hW hz hown hgr)
        replace hown' := Lib.hid hown'
        clear hgr hown
        go_wp2
        refine ⟨?_, by simp [intAt]; omega⟩
        have ee : ((l.length : Int) + 1) = (((l ++ [(c + y) % 2]).length : Nat) : Int) := by simp
        rw [ee]
        unfold plusRel
        refine ⟨hB.out, l ++ [(c + y) % 2], (c + y) / 2, v', frame_ex rfl, by simpa using hown'.out, hd.snoc (by omega), by omega, ?_, by simp; omega, ?_⟩
        · have := hv.out
          have e1 : ((c + y) % 2).toNat + 2 * ((c + y) / 2).toNat = c.toNat + y.toNat := by omega
          rw [valD_snoc, List.length_append, List.length_singleton, Nat.pow_succ, Nat.mul_assoc, Nat.add_assoc, ← Nat.mul_add, e1, ta.out, tb.out]
          try simp only [Nat.mul_add]
          omega
        · exact .inr (.inr (.inl (by simp; omega)))
      · by_cases hc0 : 0 < c
        ·
          have ta : valD (a.take (l.length + 1)) = valD (a.take l.length) := by rw [valD_all a (by omega), valD_all a (by omega)]
          have tb : valD (b.take (l.length + 1)) = valD (b.take l.length) := by rw [valD_all b (by omega), valD_all b (by omega)]
          replace ta := Lib.hid ta
          replace tb := Lib.hid tb
          go_wp2_with (at_builtin; refine wpList_append_own _ rfl (.tmp 46) (.tmp 49) 92 rfl w.heap.size 3 i0 (.int .i64 0) 1 8 (by kernel_rfl) hi hz0 hz1 hz2 rfl (by decide) _ _ _ rfl (hown.alloc _) ⟨W.heap.size, 0, none⟩ 1 1 [.int .i64 ((c) % 2)] rfl rfl (cell_one_new _ _ _) (by simp [Value.oneCell']) (by simp [maxLen]; omega) (by omega) (by simp; omega) ?_)
          intro v' w1 hown' hgr _
          have hB := Lib.hid (below_append hW hz hown hgr)
          replace hown' := Lib.hid hown'
          clear hgr hown
          go_wp2
          refine ⟨?_, by simp [intAt]; omega⟩
          have ee : ((l.length : Int) + 1) = (((l ++ [(c) % 2]).length : Nat) : Int) := by simp
          rw [ee]
          unfold plusRel
          refine ⟨hB.out, l ++ [(c) % 2], (c) / 2, v', frame_ex rfl, by simpa using hown'.out, hd.snoc (by omega), by omega, ?_, by simp; omega, ?_⟩
          · have := hv.out
            have e1 : ((c) % 2).toNat + 2 * ((c) / 2).toNat = c.toNat := by omega
            rw [valD_snoc, List.length_append, List.length_singleton, Nat.pow_succ, Nat.mul_assoc, Nat.add_assoc, ← Nat.mul_add, e1, ta.out, tb.out]
            try simp only [Nat.mul_add]
            omega
          · have hc1 : c = 1 := by omega
            subst hc1
            exact .inr (.inr (.inr (by rw [valD_snoc]; simp)))
        · have hc1 : c = 0 := by omega
          subst hc1
          have hsum := Lib.hid (show valD l = valD a + valD b by
            have := hv.out
            rw [valD_all a (by omega), valD_all b (by omega)] at this
            simpa using this)
          have hcan : Canon l := by
            by_cases h0 : l = []
            · exact .inl h0
            · refine .inr ?_
              have hne : l.length ≠ 0 := fun e => h0 (List.length_eq_zero_iff.1 e)
              have hs := hsum.out
              rcases hcn.out with h1 | h1 | h1 | h1
              · omega
              · have e : l.length = a.length := by omega
                have := canon_pos hca (by rintro rfl; simp at e; exact h0 e)
                rw [← e] at this
                omega
              · have e : l.length = b.length := by omega
                have := canon_pos hcb (by rintro rfl; simp at e; exact h0 e)
                rw [← e] at this
                omega
              · exact h1
          have hbits := Lib.hid (bits_own hown rfl (by omega) hd hcan)
          clear hcn hv hcan hown
          go_wp2
          go_ret
          exact ⟨v, rfl, hsum.out ▸ hbits.out, hW⟩
end Go.Proofs.YtgblmlefmohgnaaGreat
namespace Go.Proofs.YtgblmlefmohgnaaGreat
open Go.RowKit
def mnsRel (w : World) (p q : Option Addr) (a b : List Int) (ca cb : Nat) (a' : Act) (W : World) : Prop :=
  Below w.heap.size w W ∧ ∃ (l : List Int) (c : Int) (v : Value), (∃ u : Nat → Value, a' = { tmps := #[.slice p a.length ca, .slice q b.length cb, u 2, u 3, u 4, v, .int .i64 c, .int .i64 (l.length : Int), u 8, u 9, u 10, u 11, u 12, u 13, u 14, u 15, u 16, u 17, u 18, u 19, u 20, u 21, u 22, u 23, u 24, u 25, u 26, u 27, u 28, u 29, u 30, u 31, u 32, u 33, u 34, u 35, u 36, u 37, u 38, u 39, u 40], defers := [] }) ∧
    W.ownsRow w.heap.size 3 1 v l.length (l.map (Value.int .i64)) ∧ Dig l ∧ (0 ≤ c ∧ c ≤ 1) ∧ valD l + valD (b.take l.length) = valD (a.take l.length) + 2 ^ l.length * c.toNat ∧ l.length ≤ a.length
set_option maxRecDepth 100000 in
set_option maxHeartbeats 20000000 in
theorem minus_w (p q : Option Addr) (a b : List Int) (ca cb : Nat) (w : World) (ha : DigsIn w p a) (hb : DigsIn w q b) (hda : Dig a) (hdb : Dig b) (hla : a.length ≤ 950) (hlb : b.length ≤ a.length) (hge : valD b ≤ valD a) :
    Calls Tryz.prog 92 #[.slice p a.length ca, .slice q b.length cb] w fun e w' => ∃ v, e = .returned v ∧ Bits w' v (valD a - valD b) ∧ Below w.heap.size w w' := by
  obtain ⟨i0, hi, hz0, hz1, hz2⟩ := info_parts Tryz.infoI
  go_enter Tryz.func92, Tryz.ntmps92
  go_wp2
  refine wp_loop (mnsRel w p q a b ca cb) (fun a' _ => 2000 - (intAt (a'.tmps.getD 7 undef)).toNat) ?_ ?_
  · unfold mnsRel
    exact ⟨Below.refl _ _, [], 0, _, frame_ex rfl, World.ownsRow_nil _ _ _ _, Dig.nil, by omega, by simp [valD], by simp⟩
  · rintro a' W ⟨hW, l, c, v, ⟨u, rfl⟩, hown, hd, hc, hv, hM⟩
    have hz := hW.size
    replace hv := Lib.hid hv
    have hl9 : l.length ≤ 950 := by omega
    by_cases hia : l.length < a.length
    · obtain ⟨x, hx⟩ : ∃ x, a[l.length]? = some x := ⟨a[l.length], List.getElem?_eq_getElem hia⟩
      obtain ⟨ga, oa, rfl, qa⟩ := (ha.below hW).at' _ x hx
      have bx : 0 ≤ x ∧ x ≤ 1 := by have := hda.at hx; omega
      have ta := Lib.hid (valD_take hx)
      clear hx
      by_cases hib : l.length < b.length
      · obtain ⟨y, hy⟩ : ∃ y, b[l.length]? = some y := ⟨b[l.length], List.getElem?_eq_getElem hib⟩
        obtain ⟨gb, ob, rfl, qb⟩ := (hb.below hW).at' _ y hy
        have bq : 0 ≤ y ∧ y ≤ 1 := by have := hdb.at hy; omega
        have tb := Lib.hid (valD_take hy)
        clear hy
        by_cases hlow : x - c - y < 0
        ·
          go_wp2_with (at_builtin; refine wpList_append_own _ rfl (.tmp 35) (.tmp 37) 92 rfl w.heap.size 3 i0 (.int .i64 0) 1 8 (by kernel_rfl) hi hz0 hz1 hz2 rfl (by decide) _ _ _ rfl (hown.alloc _) ⟨W.heap.size, 0, none⟩ 1 1 [.int .i64 (x - c - y + 2)] rfl rfl (cell_one_new _ _ _) (by simp [Value.oneCell']) (by simp [maxLen]; omega) (by omega) (by simp; omega) ?_)
          intro v' w1 hown' hgr _
          have hB := Lib.hid (below_append hW hz hown hgr)
          replace hown' := Lib.hid hown'
          clear hgr hown
          go_wp2
          refine ⟨?_, by simp [intAt]; omega⟩
          have ee : ((l.length : Int) + 1) = (((l ++ [x - c - y + 2]).length : Nat) : Int) := by simp
          rw [ee]
          unfold mnsRel
          refine ⟨hB.out, l ++ [x - c - y + 2], 1, v', frame_ex rfl, by simpa using hown'.out, hd.snoc (by omega), by omega, ?_, by simp; omega⟩
          have := hv.out
          have e1 : (x - c - y + 2).toNat + c.toNat + y.toNat = x.toNat + 2 * (1 : Int).toNat := by omega
          obtain ⟨Pw, hPw⟩ : ∃ Pw, Pw = 2 ^ l.length := ⟨_, rfl⟩
          rw [valD_snoc, List.length_append, List.length_singleton, Nat.pow_succ, ta.out, tb.out]
          rw [← hPw] at this ⊢
          have e2 : Pw * (x - c - y + 2).toNat + Pw * c.toNat + Pw * y.toNat = Pw * x.toNat + Pw * (2 * (1 : Int).toNat) := by rw [← Nat.mul_add, ← Nat.mul_add, e1, Nat.mul_add]
          have e3 : Pw * 2 * (1 : Int).toNat = Pw * (2 * (1 : Int).toNat) := Nat.mul_assoc _ _ _
          omega
        ·
          go_wp2_with (at_builtin; refine wpList_append_own _ rfl (.tmp 35) (.tmp 37) 92 rfl w.heap.size 3 i0 (.int .i64 0) 1 8 (by kernel_rfl) hi hz0 hz1 hz2 rfl (by decide) _ _ _ rfl (hown.alloc _) ⟨W.heap.size, 0, none⟩ 1 1 [.int .i64 (x - c - y)] rfl rfl (cell_one_new _ _ _) (by simp [Value.oneCell']) (by simp [maxLen]; omega) (by omega) (by simp; omega) ?_)
          intro v' w1 hown' hgr _
          have hB := Lib.hid (below_append hW hz hown hgr)
          replace hown' := Lib.hid hown'
          clear hgr hown
          go_wp2
          refine ⟨?_, by simp [intAt]; omega⟩
          have ee : ((l.length : Int) + 1) = (((l ++ [x - c - y]).length : Nat) : Int) := by simp
          rw [ee]
          unfold mnsRel
          refine ⟨hB.out, l ++ [x - c - y], 0, v', frame_ex rfl, by simpa using hown'.out, hd.snoc (by omega), by omega, ?_, by simp; omega⟩
          have := hv.out
          have e1 : (x - c - y).toNat + c.toNat + y.toNat = x.toNat + 2 * (0 : Int).toNat := by omega
          obtain ⟨Pw, hPw⟩ : ∃ Pw, Pw = 2 ^ l.length := ⟨_, rfl⟩
          rw [valD_snoc, List.length_append, List.length_singleton, Nat.pow_succ, ta.out, tb.out]
          rw [← hPw] at this ⊢
          have e2 : Pw * (x - c - y).toNat + Pw * c.toNat + Pw * y.toNat = Pw * x.toNat + Pw * (2 * (0 : Int).toNat) := by rw [← Nat.mul_add, ← Nat.mul_add, e1, Nat.mul_add]
          have e3 : Pw * 2 * (0 : Int).toNat = Pw * (2 * (0 : Int).toNat) := Nat.mul_assoc _ _ _
          omega
      · have tb := Lib.hid (show valD (b.take (l.length + 1)) = valD (b.take l.length) by rw [valD_all b (by omega), valD_all b (by omega)])
        by_cases hlow : x - c < 0
        ·
          go_wp2_with (at_builtin; refine wpList_append_own _ rfl (.tmp 35) (.tmp 37) 92 rfl w.heap.size 3 i0 (.int .i64 0) 1 8 (by kernel_rfl) hi hz0 hz1 hz2 rfl (by decide) _ _ _ rfl (hown.alloc _) ⟨W.heap.size, 0, none⟩ 1 1 [.int .i64 (x - c + 2)] rfl rfl (cell_one_new _ _ _) (by simp [Value.oneCell']) (by simp [maxLen]; omega) (by omega) (by simp; omega) ?_)
          intro v' w1 hown' hgr _
          have hB := Lib.hid (below_append hW hz hown hgr)
          replace hown' := Lib.hid hown'
          clear hgr hown
          go_wp2
          refine ⟨?_, by simp [intAt]; omega⟩
          have ee : ((l.length : Int) + 1) = (((l ++ [x - c + 2]).length : Nat) : Int) := by simp
          rw [ee]
          unfold mnsRel
          refine ⟨hB.out, l ++ [x - c + 2], 1, v', frame_ex rfl, by simpa using hown'.out, hd.snoc (by omega), by omega, ?_, by simp; omega⟩
          have := hv.out
          have e1 : (x - c + 2).toNat + c.toNat = x.toNat + 2 * (1 : Int).toNat := by omega
          obtain ⟨Pw, hPw⟩ : ∃ Pw, Pw = 2 ^ l.length := ⟨_, rfl⟩
          rw [valD_snoc, List.length_append, List.length_singleton, Nat.pow_succ, ta.out, tb.out]
          rw [← hPw] at this ⊢
          have e2 : Pw * (x - c + 2).toNat + Pw * c.toNat = Pw * x.toNat + Pw * (2 * (1 : Int).toNat) := by rw [← Nat.mul_add, e1, Nat.mul_add]
          have e3 : Pw * 2 * (1 : Int).toNat = Pw * (2 * (1 : Int).toNat) := Nat.mul_assoc _ _ _
          omega
        ·
          go_wp2_with (at_builtin; refine wpList_append_own _ rfl (.tmp 35) (.tmp 37) 92 rfl w.heap.size 3 i0 (.int .i64 0) 1 8 (by kernel_rfl) hi hz0 hz1 hz2 rfl (by decide) _ _ _ rfl (hown.alloc _) ⟨W.heap.size, 0, none⟩ 1 1 [.int .i64 (x - c)] rfl rfl (cell_one_new _ _ _) (by simp [Value.oneCell']) (by simp [maxLen]; omega) (by omega) (by simp; omega) ?_)
          intro v' w1 hown' hgr _
          have hB := Lib.hid (below_append hW hz hown hgr)
          replace hown' := Lib.hid hown'
          clear hgr hown
          go_wp2
          refine ⟨?_, by simp [intAt]; omega⟩
          have ee : ((l.length : Int) + 1) = (((l ++ [x - c]).length : Nat) : Int) := by simp
          rw [ee]
          unfold mnsRel
          refine ⟨hB.out, l ++ [x - c], 0, v', frame_ex rfl, by simpa using hown'.out, hd.snoc (by omega), by omega, ?_, by simp; omega⟩
          have := hv.out
          have e1 : (x - c).toNat + c.toNat = x.toNat + 2 * (0 : Int).toNat := by omega
          obtain ⟨Pw, hPw⟩ : ∃ Pw, Pw = 2 ^ l.length := ⟨_, rfl⟩
          rw [valD_snoc, List.length_append, List.length_singleton, Nat.pow_succ, ta.out, tb.out]
          rw [← hPw] at this ⊢
          have e2 : Pw * (x - c).toNat + Pw * c.toNat = Pw * x.toNat + Pw * (2 * (0 : Int).toNat) := by rw [← Nat.mul_add, e1, Nat.mul_add]
          have e3 : Pw * 2 * (0 : Int).toNat = Pw * (2 * (0 : Int).toNat) := Nat.mul_assoc _ _ _
          omega
    · have hl0 : l.length = a.length := by omega
      have hsum := Lib.hid (show valD l = valD a - valD b by
        have h1 := hv.out
        have h2 := valD_lt l hd
        rw [valD_all a (by omega), valD_all b (by omega)] at h1
        rcases (show c = 0 ∨ c = 1 by omega) with rfl | rfl
        · simp at h1; omega
        · simp at h1; omega)
      obtain ⟨p', cap', hv', hcap, hcm, hn', hI⟩ : ∃ p' cap', v = .slice p' l.length cap' ∧ l.length ≤ cap' ∧ cap' ≤ 9223372036854775807 ∧ (p' = none → l = [] ∧ cap' = 0) ∧ DigsIn W p' l := by
        obtain ⟨_, h2' | ⟨g, cap', cur, rfl, hg, hb', hn, hmx, hcc, ht⟩⟩ := hown
        · obtain ⟨rfl, h0⟩ := h2'
          have : l = [] := List.length_eq_zero_iff.1 h0
          subst this
          exact ⟨none, 0, rfl, by simp, by omega, fun _ => ⟨rfl, rfl⟩, ⟨fun i x h => by simp at h, fun a e => by cases e⟩⟩
        · exact ⟨some ⟨g, 0, none⟩, cap', rfl, hn, by unfold maxLen at hmx; omega, (fun e => by cases e), clone_digs hb' (by simpa using ht)⟩
      subst hv'
      have ct := fun W' (hW' : Below W.heap.size W W') => c_trim p' cap' l W' (hI.below hW') hn' hcap hcm (by omega) hd
      rw [hsum.out] at ct
      replace ct := Lib.hid ct
      clear hv hI hl0
      go_wp2_with fail
      refine (ct.out _ (Below.refl _ _)).mono ?_
      rintro e w2 ⟨v2, rfl, hb2, hB2⟩
      replace hb2 := Lib.hid hb2
      have hBB := Lib.hid (hW.trans (hB2.mono hz))
      clear hB2
      go_wp2
      go_ret
      exact ⟨v2, rfl, hb2.out, hBB.out⟩
end Go.Proofs.YtgblmlefmohgnaaGreat
namespace Go.Proofs.YtgblmlefmohgnaaGreat
open Go.RowKit
theorem canon_len {l : List Int} {k : Nat} (h : Canon l) (hv : valD l < 2 ^ k) : l.length ≤ k := by
  rcases h with rfl | h
  · simp
  · rcases Nat.lt_or_ge k l.length with h1 | h1
    · have := Nat.pow_le_pow_right (n := 2) (by omega) (show k ≤ l.length - 1 by omega)
      omega
    · exact h1
theorem c_plus (va vb : Value) (m n : Nat) (w : World) (ha : Bits w va m) (hb : Bits w vb n) (hm : m < 2 ^ 900) (hn : n < 2 ^ 900) :
    Calls Tryz.prog 94 #[va, vb] w fun e w' => ∃ v, e = .returned v ∧ Bits w' v (m + n) ∧ Below w.heap.size w w' := by
  obtain ⟨p, a, ca, rfl, _, _, _, hia, hda, hca, rfl⟩ := ha
  obtain ⟨q, b, cb, rfl, _, _, _, hib, hdb, hcb, rfl⟩ := hb
  have h1 := canon_len hca hm
  have h2 := canon_len hcb hn
  exact plus_w p q a b ca cb w hia hib hda hdb hca hcb (by omega) (by omega)
theorem c_minus (va vb : Value) (m n : Nat) (w : World) (ha : Bits w va m) (hb : Bits w vb n) (hm : m < 2 ^ 900) (hn : n ≤ m) :
    Calls Tryz.prog 92 #[va, vb] w fun e w' => ∃ v, e = .returned v ∧ Bits w' v (m - n) ∧ Below w.heap.size w w' := by
  obtain ⟨p, a, ca, rfl, _, _, _, hia, hda, hca, rfl⟩ := ha
  obtain ⟨q, b, cb, rfl, _, _, _, hib, hdb, hcb, rfl⟩ := hb
  have h1 := canon_len hca hm
  refine minus_w p q a b ca cb w hia hib hda hdb (by omega) ?_ hn
  rcases Nat.lt_or_ge a.length b.length with h | h
  · have := less_len hda hcb h
    omega
  · exact h
structure CellAt (w : World) (g o : Nat) (v : Value) : Prop where
  cell : w.cell? ⟨g, o, none⟩ = some v
theorem CellAt.rex {L : List Nat} {w w' : World} {g o : Nat} {v : Value} (h : CellAt w g o v) (hr : Rex L w w') (hL : L = []) : CellAt w' g o v := by
  subst hL
  exact ⟨(hr.below.cell (p := ⟨g, o, none⟩) (cell_lt h.cell)).trans h.cell⟩
theorem CellAt.drew {w : World} {g o : Nat} {v : Value} (h : CellAt w g o v) : CellAt w.drew g o v := ⟨h.cell⟩
set_option maxRecDepth 100000 in
set_option maxHeartbeats 4000000 in
theorem less_ne (p q : Option Addr) (a b : List Int) (ca cb : Nat) (w : World) (hla : a.length ≤ 1000) (hlb : b.length ≤ 1000) (hne : ((a.length : Int) != b.length) = true) :
    Calls Tryz.prog 95 #[.slice p a.length ca, .slice q b.length cb] w fun e w' => e = .returned (.bool (decide (a.length < b.length))) ∧ Below w.heap.size w w' := by
  go_enter Tryz.func95, Tryz.ntmps95
  go_wp2
  go_ret
  exact ⟨rfl, Below.refl _ _⟩
def lessRel (w : World) (p q : Option Addr) (a b : List Int) (ca cb : Nat) (a' : Act) (W : World) : Prop :=
  Below w.heap.size w W ∧ ∃ k : Nat, (∃ u : Nat → Value, a' = { tmps := #[.slice p a.length ca, .slice q b.length cb, u 2, u 3, u 4, .int .i64 ((k : Int) - 1), u 6, u 7, u 8, u 9, u 10, u 11, u 12, u 13, u 14, u 15, u 16, u 17, u 18, u 19, u 20, u 21, u 22, u 23, u 24, u 25, u 26, u 27, u 28, u 29, u 30, u 31, u 32, u 33, u 34, u 35, u 36, u 37, u 38, u 39, u 40], defers := [] }) ∧ k ≤ a.length ∧ a.drop k = b.drop k
set_option maxRecDepth 100000 in
set_option maxHeartbeats 8000000 in
theorem less_eq (p q : Option Addr) (a b : List Int) (ca cb : Nat) (w : World) (ha : DigsIn w p a) (hb : DigsIn w q b) (hda : Dig a) (hdb : Dig b) (hla : a.length ≤ 1000) (heq : a.length = b.length) :
    Calls Tryz.prog 95 #[.slice p a.length ca, .slice q b.length cb] w fun e w' => e = .returned (.bool (decide (valD a < valD b))) ∧ Below w.heap.size w w' := by
  have hne : ((a.length : Int) != b.length) = false := by rw [heq]; simp
  have Heq := Lib.hid heq
  clear heq
  go_enter Tryz.func95, Tryz.ntmps95
  go_wp2
  refine wp_loop (lessRel w p q a b ca cb) (fun a' _ => ((intAt (a'.tmps.getD 5 undef)) + 1).toNat) ?_ ?_
  · unfold lessRel
    exact ⟨Below.refl _ _, a.length, frame_ex rfl, Nat.le_refl _, by rw [List.drop_eq_nil_of_le (Nat.le_refl _), List.drop_eq_nil_of_le (by rw [Heq.out]; exact Nat.le_refl _)]⟩
  · rintro a' W ⟨hW, k, ⟨u, rfl⟩, hk, hd⟩
    have hz := hW.size
    replace hd := Lib.hid hd
    cases k with
    | zero =>
      have hab : valD a = valD b := by have := hd.out; simp at this; rw [this]
      have hf := Lib.hid (show decide (valD a < valD b) = false by simp; omega)
      clear hab hd
      go_wp2
      go_ret
      exact ⟨by rw [hf.out]; rfl, hW⟩
    | succ j =>
      obtain ⟨x, hx⟩ : ∃ x, a[j]? = some x := ⟨a[j], List.getElem?_eq_getElem (by omega)⟩
      obtain ⟨y, hy⟩ : ∃ y, b[j]? = some y := ⟨b[j]'(by rw [← Heq.out]; omega), List.getElem?_eq_getElem _⟩
      obtain ⟨ga, oa, rfl, qa⟩ := (ha.below hW).at' _ x hx
      obtain ⟨gb, ob, rfl, qb⟩ := (hb.below hW).at' _ y hy
      have cx : CellAt W ga (oa + j) (.int .i64 x) := ⟨qa⟩
      have cy : CellAt W gb (ob + j) (.int .i64 y) := ⟨qb⟩
      have hja : j < a.length := by omega
      have hjb : j < b.length := by rw [← Heq.out]; omega
      have hxx := Lib.hid hx
      have hyy := Lib.hid hy
      have e0 : ((j + 1 : Nat) : Int) - 1 = (j : Int) := by omega
      have e1 := Lib.hid e0
      have e2 := Lib.hid (show ((j : Int)).toNat = j by omega)
      rw [e0]
      clear hx hy qa qb e0
      have b1 := cx
      have b2 := cy
      go_upto_region 6 with (fail)
      refine wp_facts (fun W' => Below w.heap.size w W' ∧ CellAt W' ga (oa + j) (.int .i64 x) ∧ CellAt W' gb (ob + j) (.int .i64 y)) ⟨by exact belowAny, by exact b1, by exact b2⟩ ?_
      clear b1 b2 hW
      rintro W1 ⟨hW, b1, b2⟩
      have z2 := hW.size
      refine wp_region_ndQ 9 41 [] (fun W' => Rex [] W1 W' ∧ CellAt W' ga (oa + j) (.int .i64 x) ∧ CellAt W' gb (ob + j) (.int .i64 y)) mixed (by kernel_rfl) rfl ⟨(Rex.refl _ _).drew, b1.drew, b2.drew⟩ (fun w w' ⟨h0, h1, h2⟩ hr => ⟨h0.trans hr, h1.rex hr (by simp <;> omega), h2.rex hr (by simp <;> omega)⟩) rfl ?_
      iterate 9
        apply nd_det (hg := rfl) (hal := rfl)
        · intro a W' hC hE
          obtain ⟨_, k1, k2⟩ := hC
          have k1 := k1.cell
          have k2 := k2.cell
          first
            | (simp [Oper.looksAt, Op.operands, Call.operands, envOf, Det] at hE; simp [go_sem, Act.eval, IntWalk.i64_left, hE, k1, k2, hja, hjb, e1.out, e2.out]; try rfl)
            | (clear hE; simp [go_sem, Act.eval, IntWalk.i64_left, k1, k2, hja, hjb, e1.out, e2.out]; try rfl)
      rintro W3 ⟨hR, d1, d2⟩
      simp only [ndFinR, Det, forall_eq]
      intros
      repeat (rename GDet _ _ _ _ => hgd; clear hgd)
      simp only [Act.put, List.setIfInBounds_toArray, List.set_cons_zero, List.set_cons_succ]
      refine wpList_nil ?_
      replace hW := hW.trans (hR.of_priv hW.size)
      clear hR
      try clear b1 b2
      have b1 := d1
      clear d1
      have b2 := d2
      clear d2
      by_cases hxy : x = y
      · have hdj := Lib.hid (show a.drop j = b.drop j by
          rw [List.drop_eq_getElem_cons hja, List.drop_eq_getElem_cons hjb, hd.out]
          have t1 := hxx.out; have t2 := hyy.out
          rw [List.getElem?_eq_getElem hja] at t1
          rw [List.getElem?_eq_getElem hjb] at t2
          simp at t1 t2
          rw [t1, t2, hxy])
        have hb := Lib.hid (show (x != y) = false by simp [hxy])
        rw [hb.out]
        clear hd
        go_wp2
        refine ⟨?_, by simp [intAt]⟩
        unfold lessRel
        exact ⟨hW, j, frame_ex rfl, by omega, hdj.out⟩
      · have hb := Lib.hid (show (x != y) = true by simp [hxy])
        rw [hb.out]
        have hres := Lib.hid (show decide (x < y) = decide (valD a < valD b) by
          have t1 := less_at hda hdb Heq.out hxx.out hyy.out hd.out
          have t2 := less_at hdb hda Heq.out.symm hyy.out hxx.out hd.out.symm
          rcases Int.lt_trichotomy x y with h | h | h
          · simp [h, t1 h]
          · exact absurd h hxy
          · have := t2 h
            simp; omega)
        go_wp2
        go_upto_region 7 with (fail)
        refine wp_facts (fun W' => Below w.heap.size w W' ∧ CellAt W' ga (oa + j) (.int .i64 x) ∧ CellAt W' gb (ob + j) (.int .i64 y)) ⟨by exact belowAny, by exact b1, by exact b2⟩ ?_
        clear b1 b2 hW
        rintro W8 ⟨hW, b1, b2⟩
        have z9 := hW.size
        refine wp_region_ndQ 10 41 [] (fun W' => Rex [] W8 W' ∧ CellAt W' ga (oa + j) (.int .i64 x) ∧ CellAt W' gb (ob + j) (.int .i64 y)) mixed (by kernel_rfl) rfl ⟨(Rex.refl _ _).drew, b1.drew, b2.drew⟩ (fun w w' ⟨h0, h1, h2⟩ hr => ⟨h0.trans hr, h1.rex hr (by simp <;> omega), h2.rex hr (by simp <;> omega)⟩) rfl ?_
        iterate 10
          apply nd_det (hg := rfl) (hal := rfl)
          · intro a W' hC hE
            obtain ⟨_, k1, k2⟩ := hC
            have k1 := k1.cell
            have k2 := k2.cell
            first
              | (simp [Oper.looksAt, Op.operands, Call.operands, envOf, Det] at hE; simp [go_sem, Act.eval, IntWalk.i64_left, hE, k1, k2, hja, hjb, e1.out, e2.out]; try rfl)
              | (clear hE; simp [go_sem, Act.eval, IntWalk.i64_left, k1, k2, hja, hjb, e1.out, e2.out]; try rfl)
        rintro W10 ⟨hR, d1, d2⟩
        simp only [ndFinR, Det, forall_eq]
        intros
        repeat (rename GDet _ _ _ _ => hgd; clear hgd)
        simp only [Act.put, List.setIfInBounds_toArray, List.set_cons_zero, List.set_cons_succ]
        refine wpList_nil ?_
        replace hW := hW.trans (hR.of_priv hW.size)
        clear hR
        try clear b1 b2
        have b1 := d1
        clear d1
        have b2 := d2
        clear d2
        go_wp2
        rw [hres.out]
        go_ret
        exact ⟨rfl, hW⟩
theorem c_less (va vb : Value) (m n : Nat) (w : World) (ha : Bits w va m) (hb : Bits w vb n) (hm : m < 2 ^ 900) (hn : n < 2 ^ 900) :
    Calls Tryz.prog 95 #[va, vb] w fun e w' => e = .returned (.bool (decide (m < n))) ∧ Below w.heap.size w w' := by
  obtain ⟨p, a, ca, rfl, _, _, _, hia, hda, hca, rfl⟩ := ha
  obtain ⟨q, b, cb, rfl, _, _, _, hib, hdb, hcb, rfl⟩ := hb
  have h1 := canon_len hca hm
  have h2 := canon_len hcb hn
  by_cases he : a.length = b.length
  · exact less_eq p q a b ca cb w hia hib hda hdb (by omega) he
  · refine (less_ne p q a b ca cb w (by omega) (by omega) (by simp; omega)).mono ?_
    rintro e w' ⟨rfl, h⟩
    refine ⟨?_, h⟩
    congr 2
    rcases Nat.lt_or_ge a.length b.length with h3 | h3
    · have := less_len hda hcb h3
      simp [h3, this]
    · have := less_len hdb hca (by omega)
      simp; omega
end Go.Proofs.YtgblmlefmohgnaaGreat
namespace Go.Proofs.YtgblmlefmohgnaaGreat
open Go.RowKit
theorem row_ints {w : World} {base n : Nat} {v : Value} {l : List Int} (h : w.ownsRow base 3 1 v n (l.map (Value.int .i64))) (hn : n = l.length) :
    ∃ p cap, v = .slice p l.length cap ∧ l.length ≤ cap ∧ cap ≤ 9223372036854775807 ∧ (p = none → l = [] ∧ cap = 0) ∧ DigsIn w p l := by
  subst hn
  obtain ⟨_, h2' | ⟨g, cap', cur, rfl, hg, hb', hn, hmx, hcc, ht⟩⟩ := h
  · obtain ⟨rfl, h0⟩ := h2'
    have : l = [] := List.length_eq_zero_iff.1 h0
    subst this
    exact ⟨none, 0, rfl, by simp, by omega, fun _ => ⟨rfl, rfl⟩, ⟨fun i x h => by simp at h, fun a e => by cases e⟩⟩
  · exact ⟨some ⟨g, 0, none⟩, cap', rfl, by simpa using hn, by unfold maxLen at hmx; omega, (fun e => by cases e), clone_digs hb' (by simpa using ht)⟩
theorem row_fresh {B : Nat} (W : World) (d : Int) (hB : B ≤ W.heap.size) :
    (W.alloc (.cells #[.int .i64 d] 3)).ownsRow B 3 1 (.slice (some ⟨W.heap.size, 0, none⟩) 1 1) 1 [.int .i64 d] :=
  ⟨rfl, .inr ⟨W.heap.size, 1, #[.int .i64 d], rfl, hB, Array.getElem?_push_size, Nat.le_refl _, by unfold maxLen; omega, rfl, rfl⟩⟩
theorem fresh_ints (W : World) (d : Int) : DigsIn (W.alloc (.cells #[.int .i64 d] 3)) (some ⟨W.heap.size, 0, none⟩) [d] := by
  obtain ⟨p, cap, e, _, _, _, h⟩ := row_ints (l := [d]) (row_fresh W d (Nat.le_refl _)) rfl
  cases e
  exact h
theorem ints_one (l : List Int) : ∀ u ∈ l.map (Value.int .i64), u.oneCell' = true := by
  intro u hu
  obtain ⟨x, _, rfl⟩ := List.mem_map.1 hu
  rfl
theorem ints_new {W : World} {ad : Addr} {l : List Int} {o : Obj} (h : DigsIn W (some ad) l) : ∀ j u, (l.map (Value.int .i64))[j]? = some u → (W.alloc o).cell? (ad.add j) = some u := by
  intro j u hu
  rw [List.getElem?_map] at hu
  obtain ⟨x, hx, rfl⟩ := Option.map_eq_some_iff.1 hu
  obtain ⟨b, o', e, hc⟩ := h.at' j x hx
  cases e
  have := (((Below.refl W.heap.size W).alloc (Nat.le_refl _) o).cell (p := ⟨b, o' + j, none⟩) (cell_lt hc)).trans hc
  rw [Addr.add_lit]
  exact this
theorem valD_pow {l : List Int} (h : Dig l) {k : Nat} (hl : l.length ≤ k) : valD l < 2 ^ k :=
  Nat.lt_of_lt_of_le (valD_lt l h) (Nat.pow_le_pow_right (by omega) hl)
theorem valD_drop {b : List Int} {j : Nat} {y : Int} (h : b[j]? = some y) : valD (b.drop j) = y.toNat + 2 * valD (b.drop (j + 1)) := by
  obtain ⟨h1, h2⟩ := List.getElem?_eq_some_iff.1 h
  rw [List.drop_eq_getElem_cons h1, h2]
  rfl
theorem mul_pow {m n : Nat} (j k i : Nat) (h1 : m < 2 ^ j) (h2 : n < 2 ^ k) (h : j + k = i) : m * n < 2 ^ i := by
  subst h
  rw [Nat.pow_add]
  exact Nat.mul_lt_mul'' h1 h2
def timRel (w : World) (p q : Option Addr) (a b : List Int) (ca cb : Nat) (a' : Act) (W : World) : Prop :=
  Below w.heap.size w W ∧ ∃ (k : Nat) (v : Value), (∃ u : Nat → Value, a' = { tmps := #[.slice p a.length ca, .slice q b.length cb, u 2, u 3, u 4, v, .int .i64 ((k : Int) - 1), u 7, u 8, u 9, u 10, u 11, u 12, u 13, u 14, u 15, u 16, u 17, u 18, u 19, u 20, u 21, u 22, u 23, u 24, u 25, u 26], defers := [] }) ∧ k ≤ b.length ∧ Bits W v (valD a * valD (b.drop k))
set_option maxRecDepth 100000 in
set_option maxHeartbeats 8000000 in
theorem times_w (p q : Option Addr) (a b : List Int) (ca cb : Nat) (w : World) (ha : DigsIn w p a) (hb : DigsIn w q b) (hda : Dig a) (hdb : Dig b) (hA : Bits w (.slice p a.length ca) (valD a)) (hla : a.length ≤ 400) (hlb : b.length ≤ 400) :
    Calls Tryz.prog 142 #[.slice p a.length ca, .slice q b.length cb] w fun e w' => ∃ v, e = .returned v ∧ Bits w' v (valD a * valD b) ∧ Below w.heap.size w w' := by
  obtain ⟨i0, hi, hz0, hz1, hz2⟩ := info_parts Tryz.infoI
  go_enter Tryz.func142, Tryz.ntmps142
  go_wp2
  refine wp_loop (timRel w p q a b ca cb) (fun a' _ => ((intAt (a'.tmps.getD 6 undef)) + 1).toNat) ?_ ?_
  · unfold timRel
    exact ⟨Below.refl _ _, b.length, _, frame_ex rfl, Nat.le_refl _, by rw [List.drop_eq_nil_of_le (Nat.le_refl _)]; exact Bits.zero _⟩
  · rintro a' W ⟨hW, k, v, ⟨u, rfl⟩, hk, hv⟩
    have hz := hW.size
    cases k with
    | zero =>
      replace hv := Lib.hid hv
      go_wp2
      go_ret
      exact ⟨_, rfl, by have := hv.out; rwa [List.drop_zero] at this, hW⟩
    | succ j =>
      obtain ⟨y, hy⟩ : ∃ y, b[j]? = some y := ⟨b[j], List.getElem?_eq_getElem (by omega)⟩
      have hb0 := hb
      obtain ⟨gb, ob, rfl, qb⟩ := (hb.below hW).at' _ y hy
      obtain ⟨pl, l, cl, rfl, hlc, hl1, hln, hil, hdl, hcl, hvl⟩ := hv
      replace hvl := Lib.hid hvl
      replace hln := Lib.hid hln
      have hyy := Lib.hid hy
      have by01 := hdb.at hy
      have e0 : ((j + 1 : Nat) : Int) - 1 = (j : Int) := by omega
      have e1 := Lib.hid e0
      rw [e0]
      clear hy e0
      have hprod := Lib.hid (mul_pow (m := valD a) (n := valD (b.drop (j + 1))) 400 400 800 (valD_pow (k := 400) hda hla) (valD_pow (k := 400) (hdb.drop _) (by simp; omega)) rfl)
      have hstep := Lib.hid (valD_drop hyy.out)
      have hl9 : l.length ≤ 800 := canon_len hcl (by rw [hvl.out]; exact hprod.out)
      cases pl with
      | none =>
        obtain ⟨rfl, rfl⟩ := hln.out rfl
        have ct := Lib.hid (fun W' (hW' : Below (W.alloc (.cells #[.int .i64 0] 3)).heap.size (W.alloc (.cells #[.int .i64 0] 3)) W') => c_trim (some ⟨W.heap.size, 0, none⟩) 1 [0] W' ((fresh_ints W 0).below hW') (fun e => by cases e) (by simp) (by omega) (by simp) (Dig.nil.cons (.inl rfl)))
        have hB := hW.alloc hz (.cells #[.int .i64 0] 3)
        replace hB := Lib.hid hB
        have hz1 := hB.out.size
        go_wp2_with fail
        refine (ct.out _ (Below.refl _ _)).mono ?_
        rintro e w2 ⟨v2, rfl, hb2, hB2⟩
        rw [show valD (0 :: []) = 2 * (valD a * valD (b.drop (j + 1))) by rw [← hvl.out]; simp [valD]] at hb2
        replace hb2 := Lib.hid hb2
        have hBB := Lib.hid (hB.out.trans (hB2.mono hz1))
        have hz2 := hBB.out.size
        obtain ⟨_, _, e, qb2⟩ := (hb0.below hBB.out).at' _ y hyy.out
        cases e
        clear hB2 hB ct hz1 qb
        rcases by01 with rfl | rfl
        · have hval := Lib.hid (show valD a * valD (b.drop j) = 2 * (valD a * valD (b.drop (j + 1))) by rw [hstep.out, Nat.mul_add, Nat.mul_left_comm]; simp)
          go_wp2
          refine ⟨?_, by simp [intAt]⟩
          unfold timRel
          exact ⟨hBB.out, j, v2, frame_ex rfl, by omega, by rw [hval.out]; exact hb2.out⟩
        · have hval := Lib.hid (show valD a * valD (b.drop j) = 2 * (valD a * valD (b.drop (j + 1))) + valD a by rw [hstep.out, Nat.mul_add, Nat.mul_left_comm]; simp; omega)
          have cp := Lib.hid (c_plus v2 (.slice p a.length ca) _ _ w2 hb2.out (hA.below hBB.out) (twice_pow 800 900 hprod.out (by omega)) (valD_pow (k := 900) hda (by omega)))
          go_wp2_with fail
          refine cp.out.mono ?_
          rintro e w3 ⟨v3, rfl, hb3, hB3⟩
          replace hb3 := Lib.hid hb3
          have hB4 := Lib.hid (hBB.out.trans (hB3.mono hz2))
          clear hB3 cp
          go_wp2
          refine ⟨?_, by simp [intAt]⟩
          unfold timRel
          exact ⟨hB4.out, j, v3, frame_ex rfl, by omega, by rw [hval.out]; exact hb3.out⟩
      | some ad =>
        go_wp2_with (at_builtin; refine wpList_append_own _ rfl (.tmp 14) (.tmp 15) 92 rfl w.heap.size 3 i0 (.int .i64 0) 1 8 (by kernel_rfl) hi hz0 hz1 hz2 rfl (by decide) _ 1 [.int .i64 0] rfl (row_fresh W 0 hz) ad l.length cl (l.map (Value.int .i64)) rfl (by simp) (ints_new hil) (ints_one l) (by simp [maxLen]; omega) (by omega) (by simp; omega) ?_)
        intro v' w1 hown hgr _
        obtain ⟨p', cap', rfl, hcap, hcm, hn', hI⟩ := row_ints (l := 0 :: l) hown (by simp; omega)
        have hB := (hW.alloc hz (.cells #[.int .i64 0] 3)).grown hgr (by simp; omega) fun j ej => by
          obtain rfl : W.heap.size = j := by simpa [Value.ownBlock] using ej
          exact hz
        have ct := Lib.hid (fun W' (hW' : Below w1.heap.size w1 W') => c_trim p' cap' (0 :: l) W' (hI.below hW') hn' hcap hcm (by simp; omega) (hdl.cons (.inl rfl)))
        clear hown hgr hI
        replace hB := Lib.hid hB
        have hz1 := hB.out.size
        go_wp2_with fail
        refine (ct.out _ (Below.refl _ _)).mono ?_
        rintro e w2 ⟨v2, rfl, hb2, hB2⟩
        rw [show valD (0 :: l) = 2 * (valD a * valD (b.drop (j + 1))) by rw [← hvl.out]; simp [valD]] at hb2
        replace hb2 := Lib.hid hb2
        have hBB := Lib.hid (hB.out.trans (hB2.mono hz1))
        have hz2 := hBB.out.size
        obtain ⟨_, _, e, qb2⟩ := (hb0.below hBB.out).at' _ y hyy.out
        cases e
        clear hB2 hB ct hz1 qb
        rcases by01 with rfl | rfl
        · have hval := Lib.hid (show valD a * valD (b.drop j) = 2 * (valD a * valD (b.drop (j + 1))) by rw [hstep.out, Nat.mul_add, Nat.mul_left_comm]; simp)
          go_wp2
          refine ⟨?_, by simp [intAt]⟩
          unfold timRel
          exact ⟨hBB.out, j, v2, frame_ex rfl, by omega, by rw [hval.out]; exact hb2.out⟩
        · have hval := Lib.hid (show valD a * valD (b.drop j) = 2 * (valD a * valD (b.drop (j + 1))) + valD a by rw [hstep.out, Nat.mul_add, Nat.mul_left_comm]; simp; omega)
          have cp := Lib.hid (c_plus v2 (.slice p a.length ca) _ _ w2 hb2.out (hA.below hBB.out) (twice_pow 800 900 hprod.out (by omega)) (valD_pow (k := 900) hda (by omega)))
          go_wp2_with fail
          refine cp.out.mono ?_
          rintro e w3 ⟨v3, rfl, hb3, hB3⟩
          replace hb3 := Lib.hid hb3
          have hB4 := Lib.hid (hBB.out.trans (hB3.mono hz2))
          clear hB3 cp
          go_wp2
          refine ⟨?_, by simp [intAt]⟩
          unfold timRel
          exact ⟨hB4.out, j, v3, frame_ex rfl, by omega, by rw [hval.out]; exact hb3.out⟩
theorem c_times (va vb : Value) (m n : Nat) (w : World) (ha : Bits w va m) (hb : Bits w vb n) (hm : m < 2 ^ 400) (hn : n < 2 ^ 400) :
    Calls Tryz.prog 142 #[va, vb] w fun e w' => ∃ v, e = .returned v ∧ Bits w' v (m * n) ∧ Below w.heap.size w w' := by
  have hA := ha
  obtain ⟨p, a, ca, rfl, _, _, _, hia, hda, hca, rfl⟩ := ha
  obtain ⟨q, b, cb, rfl, _, _, _, hib, hdb, hcb, rfl⟩ := hb
  exact times_w p q a b ca cb w hia hib hda hdb hA (canon_len hca hm) (canon_len hcb hn)
end Go.Proofs.YtgblmlefmohgnaaGreat
