/- Parts of the proof that follows: All points of a segment, collected. No condition. | seg.Points, told. No condition. | Points in memory; which of them lie within a span, plainly. No condition. -/
import Derived.Test.YtgblmlefmohgnaaGreatBk9
set_option linter.unusedSimpArgs false
set_option linter.unusedVariables false
namespace Go.Proofs.YtgblmlefmohgnaaGreat
open Go.RowKit Go.Shelf
attribute [local go_sem] Oper.semAt_some
def flatPts (l : List (Int × Int)) : List Value := l.flatMap fun x => [.int .i64 x.1, .int .i64 x.2]
theorem flatPts_snoc (l : List (Int × Int)) (x : Int × Int) : flatPts (l ++ [x]) = flatPts l ++ [.int .i64 x.1, .int .i64 x.2] := by simp [flatPts]
theorem Tryz.infoPoint : (Tryz.prog.info? 58).map (fun i => (i.zero, i.size, i.bytes)) = some (some (.agg #[.int .i64 0, .int .i64 0]), 2, 16) := by kernel_rfl
theorem cell_two_new (W : World) (a b : Value) (t : TypeId) (j : Nat) (u : Value) (h : [a, b][j]? = some u) : (W.alloc (.cells #[a, b] t)).cell? ((⟨W.heap.size, 0, none⟩ : Addr).add j) = some u := by
  have hb : Blk (W.alloc (.cells #[a, b] t)) W.heap.size #[a, b] t := Blk.new' rfl
  have hadd : (⟨W.heap.size, 0, none⟩ : Addr).add j = ⟨W.heap.size, j, none⟩ := by unfold Addr.add; split <;> simp_all
  rw [hadd, hb.cell]
  simpa using h
theorem blk_own {β : Type} (B : Nat) (t : TypeId) (f : β → Array Value) : Own (fun s W => Blk W B (f s) t) := fun s X Y row hs hg hrow => by
  refine (hg.block B hs.lt fun e => ?_).trans hs
  obtain ⟨o, ho, hc⟩ := hrow B e.symm
  rw [show X.heap[B]? = _ from hs] at ho; cases ho; cases hc
set_option maxRecDepth 100000 in
set_option maxHeartbeats 4000000 in
theorem appendSeqP (gf : Nat) (lb : Array Value) (xs : List (Int × Int)) (hlen : xs.length ≤ 1000000) (w w0 : World) (hw0 : Below w0.heap.size w0 w) (Kp : World → World → Prop) (enters : ∀ args w, (callFunc gf args).run Tryz.prog w = .ok (.enter gf args) w)
    (hKp : ∀ {A B}, Below w.heap.size A B → (∀ T, T ≠ 39 → T ≠ 58 → KeepsT T A B) → Kp A B) (hKt : ∀ {A B C}, Kp A B → Kp B C → Kp A C) (hKb : ∀ (W : World) (l : Nat) (o o' : Obj), w.heap.size ≤ l → W.heap[l]? = some o → o.isCells = false → o.isWalk = false → Kp W (W.putObj l o'))
    (hseq : SeqStopsK Fence.wide 2 Tryz.prog gf lb (fun x : Int × Int => #[Value.agg #[.int .i64 x.1, .int .i64 x.2]]) Kp (fun ys => ys = xs) (fun pre => pre <+: xs) xs.length w0) :
    CallsIn Fence.wide 3 Tryz.prog 105 #[.slice none 0 0, .func (.func gf) #[] lb] w fun e W' => ∃ v, e = .returned v ∧ W'.ownsRow w.heap.size 58 2 v xs.length (flatPts xs) ∧ Below w.heap.size w W' := by
  obtain ⟨i0, hi, hz0, hz1, hz2⟩ := info_parts Tryz.infoPoint
  refine callsIn_of_wp_marks Tryz.func105 rfl trivial ?_ rfl
  simp only [Tryz.ntmps105, List.size_toArray, List.length_cons, List.length_nil, Nat.reduceAdd, Nat.reduceSub, Array.replicate_succ, Array.replicate_zero, List.push_toArray, List.append_toArray, List.nil_append, List.cons_append]
  gi_wp2
  have bO := Boxed.new w 39 (.slice none 0 0)
  have hB0 : Below w.heap.size w (w.alloc (.cells #[.slice none 0 0] 39)) := (Below.refl _ w).alloc (Nat.le_refl _) _
  refine wpIn_rangeFunc_ownH rfl (by omega) (gf := gf) (lb := lb) rfl trivial enters hseq hKt (fun W l o o' hl => hKb W l o o' (by simp at hl; omega)) (hw0.trans (hB0.mono hw0.size)) (fun _ => rfl)
    (fun pre W => (∃ v, Boxed W w.heap.size 39 v ∧ W.ownsRow w.heap.size 58 2 v pre.length (flatPts pre) ∧ True) ∧ Below w.heap.size w W)
    (fun _ _ _ => False)
    (OwnFrom.and (Own.from (holdsRow_own w.heap.size w.heap.size 39 58 2 (fun pre : List (Int × Int) => pre.length) (fun pre => flatPts pre) (fun _ _ => True)) _) (ownFrom_below (Nat.le_refl _) (by simp)))
    (fun _ _ _ _ _ hs _ _ => hs)
    ⟨⟨_, bO, World.ownsRow_nil _ _ _ _, trivial⟩, hB0⟩
    (fun x a' W => ∃ Bx, w.heap.size < Bx ∧ Blk W Bx #[.int .i64 x.1, .int .i64 x.2] 58 ∧ a' = { tmps := #[.slice none 0 0, .func (.func gf) #[] lb, .pointer (some ⟨w.heap.size, 0, none⟩), undef, .slice none 0 0, .pointer (some ⟨Bx, 0, none⟩), .func (.func gf) #[] lb, .agg #[.int .i64 x.1, .int .i64 x.2], undef, undef, undef, undef, undef], defers := [] })
    (fun x a' _ X Y row hs hg hr => by obtain ⟨Bx, h1, h2, h3⟩ := hs; exact ⟨Bx, h1, blk_own Bx 58 (fun (_ : Unit) => #[Value.int .i64 x.1, .int .i64 x.2]) () X Y row h2 hg (fun r e => (hr r e).2), h3⟩) ?assign ?body ?done ?stop
  case assign =>
    rintro l pre x W K ⟨⟨v, hv, hrow, _⟩, hB⟩ hK
    gi_wp2
    exact hK _ _ ((KeepsOthers.alloc _ _).from _) (hKp ((Below.refl _ W).alloc hB.size _) (fun T _ _ => keepsT_of_below ((Below.refl _ _).alloc (Nat.le_refl _) _))) ⟨⟨v, hv.alloc _, hrow.alloc _, trivial⟩, hB.alloc hB.size _⟩ ⟨W.heap.size, hv.lt, Blk.new' rfl, rfl⟩
  case body =>
    rintro l pre x a' W hl ⟨r, hr⟩ ⟨⟨v, hv, hrow, _⟩, hB⟩ ⟨Bx, hBx, bX, rfl⟩ hlt
    have hc := hv.cell
    have kx := bX.cell
    gi_wp2_with (gi_at_builtin; refine wpListIn_append_own _ rfl _ _ 39 rfl w.heap.size 58 i0 (.agg #[.int .i64 0, .int .i64 0]) 2 16 (by kernel_rfl) hi hz0 hz1 hz2 rfl (by decide) _ _ _ rfl (hrow.alloc _) ⟨W.heap.size, 0, none⟩ 1 1 [.int .i64 x.1, .int .i64 x.2] rfl rfl (cell_two_new _ _ _ _) (by simp [Value.oneCell']) (by simp [maxLen]; omega) (by omega) (by have := hB.size; simp; omega) ?_; intro v' w1 hown' hgrow _; obtain ⟨g', cap', rfl⟩ := ownsRow_succ hown'; obtain ⟨hv1, hv2, hr2, hk2, hb2⟩ := hv.appended (by decide) hrow hB.size (Nat.le_refl _) hown' hgrow; have hkt := fun T h1 h2 => keepsT_appended (v' := .slice (some ⟨g', 0, none⟩) (pre.length + 1) cap') (T := T) hv hrow hgrow h1 h2; have hc1 := hv1.cell; have hf1 := hv1.frozen)
    exact ⟨hk2.from _, hKp hb2 hkt, ⟨_, hv2, by rw [flatPts_snoc]; simpa using hr2, trivial⟩, hB.trans hb2⟩
  case done =>
    rintro D ys W hD rfl ⟨⟨v, hv, hrow, _⟩, hB⟩ hK
    have hc := hv.cell
    gi_wp2
    refine ⟨by simp, .inl ⟨_, _, rfl, run_takeDeferred hK, ?_⟩⟩
    exact ⟨_, results_tmp rfl _ _ _, v, rfl, ownsRow_putObj hrow _ hK rfl, hB.trans (belowK_b (w := w) (Nat.le_refl _) W D _ _ (by simp at hD; omega) hK rfl rfl)⟩
  case stop =>
    rintro D c pre W _ _ h _
    exact h.elim

set_option maxRecDepth 100000 in
set_option maxHeartbeats 2000000 in
theorem collectP (gf : Nat) (lb : Array Value) (xs : List (Int × Int)) (hlen : xs.length ≤ 1000000) (w w0 : World) (hw0 : Below w0.heap.size w0 w) (Kp : World → World → Prop) (enters : ∀ args w, (callFunc gf args).run Tryz.prog w = .ok (.enter gf args) w)
    (hKp : ∀ {A B}, Below w.heap.size A B → (∀ T, T ≠ 39 → T ≠ 58 → KeepsT T A B) → Kp A B) (hKt : ∀ {A B C}, Kp A B → Kp B C → Kp A C) (hKb : ∀ (W : World) (l : Nat) (o o' : Obj), w.heap.size ≤ l → W.heap[l]? = some o → o.isCells = false → o.isWalk = false → Kp W (W.putObj l o'))
    (hseq : SeqStopsK Fence.wide 2 Tryz.prog gf lb (fun x : (Int × Int) => #[Value.agg #[.int .i64 x.1, .int .i64 x.2]]) Kp (fun ys => ys = xs) (fun pre => pre <+: xs) xs.length w0) :
    Calls Tryz.prog 62 #[.func (.func gf) #[] lb] w fun e W' => ∃ v, e = .returned v ∧ W'.ownsRow w.heap.size 58 2 v xs.length (flatPts xs) ∧ Below w.heap.size w W' := by
  have c1 := Lib.hid (callsIn_wide.1 (appendSeqP gf lb xs hlen w w0 hw0 Kp enters hKp hKt hKb hseq))
  clear hKp hKt hKb hseq enters hw0
  go_enter Tryz.func62, Tryz.ntmps62
  go_wp2_with fail
  refine c1.out.mono ?_
  rintro e w1 ⟨v, rfl, hv, hB⟩
  replace hv := Lib.hid hv
  replace hB := Lib.hid hB
  go_wp2
  go_ret
  exact ⟨v, rfl, hv.out, hB.out⟩

set_option maxRecDepth 100000 in
set_option maxHeartbeats 2000000 in
theorem points_w (K A R n d E : Int) (p q : Option Addr) (len cap m vc : Nat) (w : World) : Calls Tryz.prog 63 #[.agg #[.int .i64 K, .slice p len cap, .int .i64 A, .int .i64 R, .int .i64 n, .int .i64 d, .slice q m vc, .int .i64 E]] w fun e w' => e = .returned (.func (.func 106) #[] #[.pointer (some ⟨w.heap.size, 0, none⟩)]) ∧ w' = w.alloc (.cells #[.int .i64 K, .slice p len cap, .int .i64 A, .int .i64 R, .int .i64 n, .int .i64 d, .slice q m vc, .int .i64 E] 78) := by
  have hmf : ∀ (fn : Fn) (first cap : Array Value) (w : World), (Instr.makeFunc fn first cap).run Tryz.prog w = .ok (.func fn first cap) w := fun _ _ _ _ => rfl
  go_enter Tryz.func63, Tryz.ntmps63
  go_wp2
  go_ret
  exact ⟨rfl, rfl⟩
theorem RunsIn.keep {w A B : World} {p : Option Addr} {l : List RunT} (h : RunsIn w p l) (hb : Below w.heap.size A B) (ha : RunsIn A p l) : RunsIn B p l := ⟨fun i r hr => by
  obtain ⟨b, o, e, k0, k1, k2⟩ := ha.at' i r hr
  obtain ⟨b', o', e', q0, _⟩ := h.at' i r hr
  rw [e] at e'
  injection e' with e'
  injection e' with e1 e2
  subst e1
  have hlt := cell_lt q0
  exact ⟨b, o, e, (hb.cell (p := ⟨b, _, none⟩) hlt).trans k0, (hb.cell (p := ⟨b, _, none⟩) hlt).trans k1, (hb.cell (p := ⟨b, _, none⟩) hlt).trans k2⟩⟩
theorem IntsIn.keep {w A B : World} {p : Option Addr} {l : List Int} (h : IntsIn w p l) (hb : Below w.heap.size A B) (ha : IntsIn A p l) : IntsIn B p l := ⟨fun i r hr => by
  obtain ⟨b, o, e, k0⟩ := ha.at' i r hr
  obtain ⟨b', o', e', q0⟩ := h.at' i r hr
  rw [e] at e'
  injection e' with e'
  injection e' with e1 e2
  subst e1
  exact ⟨b, o, e, (hb.cell (p := ⟨b, _, none⟩) (cell_lt q0)).trans k0⟩⟩
theorem SegIn.keep {w A B : World} {s : SegT} {p q : Option Addr} (h : SegIn w s p q) (hb : Below w.heap.size A B) (ha : SegIn A s p q) : SegIn B s p q := ⟨h.runs.keep hb ha.runs, h.raw.keep hb ha.raw, h.fewR, h.fewV⟩
theorem collect_points (s : SegT) (p q : Option Addr) (cap vc : Nat) (w : World) (Bs : Nat) (hs : segB s = true) (h : SegIn w s p q) (hBs : Blk w Bs (segA s p q cap vc) 78) :
    Calls Tryz.prog 62 #[.func (.func 106) #[] #[.pointer (some ⟨Bs, 0, none⟩)]] w fun e W' => ∃ v, e = .returned v ∧ W'.ownsRow w.heap.size 58 2 v (ptsL s).length (flatPts (ptsL s)) ∧ Below w.heap.size w W' := by
  have hcnt := cnt_pos (segB_runs hs)
  have hlen := length_pts hs
  have hlt := hBs.lt
  refine collectP 106 _ (ptsL s) (by omega) w w (Below.refl _ _) (fun A B => Below w.heap.size A B ∧ KeepsT 2 A B) (enters_of Tryz.func106 (by kernel_rfl) rfl)
    (fun hb hk => ⟨hb, hk _ (by decide) (by decide)⟩) (fun h k => ⟨h.1.trans k.1, h.2.trans k.2⟩) (fun W k o o' hk ho h1 h2 => ⟨belowK_b (Nat.le_refl _) W k o o' hk ho h1 h2, keepsT_putObj o' ho h1⟩) ?_
  intro lr J Jx W hW hJ _ hY h0
  exact points1_in 2 (by omega) lr Bs W.heap.size s p q cap vc hs (fun A B => Below w.heap.size A B ∧ KeepsT 2 A B) (fun hk => ⟨hk.1.size, fun ha => h.keep hk.1 ha, fun ha => (hk.1.block Bs hlt).trans ha, fun b cs _ ha => hk.2 b cs _ ha⟩) J Jx _ hJ hY W (hBs.below hW) (h.below hW) (Nat.le_refl _) h0
/-- All points, in an array of its own. -/
def PtsIs (s : SegT) (B : Nat) (v : Value) (w : World) : Prop := w.ownsRow B 58 2 v (ptsL s).length (flatPts (ptsL s))
set_option maxRecDepth 100000 in
set_option maxHeartbeats 2000000 in
theorem c_Points1 (s : SegT) (p q : Option Addr) (cap vc : Nat) (w : World) (hs : segB s = true) (h : SegIn w s p q) :
    Calls Tryz.prog 61 #[.agg (segA s p q cap vc)] w fun e w' => ∃ v, e = .returned (.tuple #[v, .int .i64 0]) ∧ PtsIs s w.heap.size v w' ∧ Below w.heap.size w w' := by
  have c2 := Lib.hid (fun W Bs (hW : Below w.heap.size w W) (hb : Blk W Bs (segA s p q cap vc) 78) => collect_points s p q cap vc W Bs hs (h.below hW) hb)
  unfold segA at c2 ⊢
  go_enter Tryz.func61, Tryz.ntmps61
  go_wp2_with fail
  refine (points_w _ _ _ _ _ _ _ _ _ _ _ _ _).mono ?_
  rintro e w2 ⟨rfl, rfl⟩
  go_wp2_with fail
  refine (c2.out _ _ (belowAny) (Blk.new' (by simp))).mono ?_
  rintro e w3 ⟨v, rfl, hv, hB⟩
  replace hv := Lib.hid hv
  have hBB : Hid (Below w.heap.size w w3) := Lib.hid (belowAny)
  clear hB
  go_wp2
  refine bodyPost_ret (v := .tuple #[v, .int .i64 0]) (by simp [results, Tryz.results61, go_sem]) rfl ⟨v, rfl, ownsRow_le hv.out (by simp <;> omega), hBB.out⟩
end Go.Proofs.YtgblmlefmohgnaaGreat
namespace Go.Proofs.YtgblmlefmohgnaaGreat
open Go.RowKit
set_option maxRecDepth 100000 in
set_option maxHeartbeats 2000000 in
theorem ofp_no (K A R n d E : Int) (p q : Option Addr) (len cap m vc : Nat) (w : World)
    (c1 : ∀ W, Below w.heap.size w W → Calls Tryz.prog 55 #[.agg #[.int .i64 K, .slice p len cap, .int .i64 A, .int .i64 R, .int .i64 n, .int .i64 d, .slice q m vc, .int .i64 E]] W fun e w' => e = .returned (.bool false) ∧ Below W.heap.size W w') :
    Calls Tryz.prog 60 #[.agg #[.int .i64 K, .slice p len cap, .int .i64 A, .int .i64 R, .int .i64 n, .int .i64 d, .slice q m vc, .int .i64 E], .func (.func 61) #[] #[]] w fun e w' => e = .returned (.tuple #[.slice none 0 0, .int .i64 210]) ∧ Below w.heap.size w w' := by
  have H_c1 := Lib.hid c1
  clear c1
  go_enter Tryz.func60, Tryz.ntmps60
  go_upto_region 1 with (fail)
  refine wp_facts (fun W' => Below w.heap.size w W' ∧ Blk W' w.heap.size #[.int .i64 K, .slice p len cap, .int .i64 A, .int .i64 R, .int .i64 n, .int .i64 d, .slice q m vc, .int .i64 E] 27) ⟨by exact belowAny, by exact blkAny⟩ ?_
  rintro W1 ⟨hW, b1⟩
  have z2 := hW.size
  have z3 := b1.lt
  have k1 := b1.cell
  have f1 := b1.frozen
  have c1 := H_c1.out
  go_wp2_with fail
  refine (c1 _ (belowAny)).mono ?_
  rintro e w4 ⟨rfl, hb4⟩
  clear c1
  have z5 := hb4.size
  try simp at z5
  clear k1 f1
  have b1 : Blk w4 w.heap.size #[.int .i64 K, .slice p len cap, .int .i64 A, .int .i64 R, .int .i64 n, .int .i64 d, .slice q m vc, .int .i64 E] 27 := by exact blkAny
  have hW : Below w.heap.size w w4 := by exact belowAny
  have z6 := b1.lt
  clear hb4
  have k1 := b1.cell
  have f1 := b1.frozen
  go_wp2
  have y_1 := b1.lt
  refine bodyPost_ret (v := .tuple #[.slice none 0 0, .int .i64 210]) (by simp [results, Tryz.results60, go_sem, k1, f1, y_1]) rfl ⟨rfl, by exact belowAny⟩
set_option maxRecDepth 100000 in
set_option maxHeartbeats 2000000 in
theorem ofp_yes (K A R n d E : Int) (p q : Option Addr) (len cap m vc : Nat) (w : World) (s : SegT)
    (c1 : ∀ W, Below w.heap.size w W → Calls Tryz.prog 55 #[.agg #[.int .i64 K, .slice p len cap, .int .i64 A, .int .i64 R, .int .i64 n, .int .i64 d, .slice q m vc, .int .i64 E]] W fun e w' => e = .returned (.bool true) ∧ Below W.heap.size W w')
    (c3 : ∀ W, Below w.heap.size w W → Calls Tryz.prog 61 #[.agg #[.int .i64 K, .slice p len cap, .int .i64 A, .int .i64 R, .int .i64 n, .int .i64 d, .slice q m vc, .int .i64 E]] W fun e w' => ∃ v, e = .returned (.tuple #[v, .int .i64 0]) ∧ PtsIs s W.heap.size v w' ∧ Below W.heap.size W w') :
    Calls Tryz.prog 60 #[.agg #[.int .i64 K, .slice p len cap, .int .i64 A, .int .i64 R, .int .i64 n, .int .i64 d, .slice q m vc, .int .i64 E], .func (.func 61) #[] #[]] w fun e w' => ∃ v, e = .returned (.tuple #[v, .int .i64 0]) ∧ PtsIs s w.heap.size v w' ∧ Below w.heap.size w w' := by
  have H_c1 := Lib.hid c1
  clear c1
  have H_c3 := Lib.hid c3
  clear c3
  go_enter Tryz.func60, Tryz.ntmps60
  go_upto_region 1 with (fail)
  refine wp_facts (fun W' => Below w.heap.size w W' ∧ Blk W' w.heap.size #[.int .i64 K, .slice p len cap, .int .i64 A, .int .i64 R, .int .i64 n, .int .i64 d, .slice q m vc, .int .i64 E] 27) ⟨by exact belowAny, by exact blkAny⟩ ?_
  rintro W1 ⟨hW, b1⟩
  have z2 := hW.size
  have z3 := b1.lt
  have k1 := b1.cell
  have f1 := b1.frozen
  have c1 := H_c1.out
  go_wp2_with fail
  refine (c1 _ (belowAny)).mono ?_
  rintro e w4 ⟨rfl, hb4⟩
  clear c1
  have z5 := hb4.size
  try simp at z5
  clear k1 f1
  have b1 : Blk w4 w.heap.size #[.int .i64 K, .slice p len cap, .int .i64 A, .int .i64 R, .int .i64 n, .int .i64 d, .slice q m vc, .int .i64 E] 27 := by exact blkAny
  have hW : Below w.heap.size w w4 := by exact belowAny
  have z6 := b1.lt
  clear hb4
  have k1 := b1.cell
  have f1 := b1.frozen
  have c3 := H_c3.out
  go_wp2_with fail
  refine (c3 _ (belowAny)).mono ?_
  rintro e w7 ⟨v, rfl, hv, hb7⟩
  clear c3
  have z8 := hb7.size
  try simp at z8
  clear k1 f1
  have b1 : Blk w7 w.heap.size #[.int .i64 K, .slice p len cap, .int .i64 A, .int .i64 R, .int .i64 n, .int .i64 d, .slice q m vc, .int .i64 E] 27 := by exact blkAny
  have hW : Below w.heap.size w w7 := by exact belowAny
  have z9 := b1.lt
  have k1 := b1.cell
  have f1 := b1.frozen
  replace hv := Lib.hid hv
  go_wp2
  refine bodyPost_ret (v := .tuple #[v, .int .i64 0]) (by simp [results, Tryz.results60, go_sem]) rfl ⟨v, rfl, ownsRow_le hv.out (by omega), belowAny⟩
set_option maxRecDepth 100000 in
set_option maxHeartbeats 2000000 in
theorem points_no (K A R n d E : Int) (p q : Option Addr) (len cap m vc : Nat) (w : World)
    (c1 : ∀ W, Below w.heap.size w W → Calls Tryz.prog 60 #[.agg #[.int .i64 K, .slice p len cap, .int .i64 A, .int .i64 R, .int .i64 n, .int .i64 d, .slice q m vc, .int .i64 E], .func (.func 61) #[] #[]] W fun e w' => e = .returned (.tuple #[.slice none 0 0, .int .i64 210]) ∧ Below W.heap.size W w') :
    Calls Tryz.prog 25 #[.agg #[.int .i64 K, .slice p len cap, .int .i64 A, .int .i64 R, .int .i64 n, .int .i64 d, .slice q m vc, .int .i64 E]] w fun e w' => e = .returned (.tuple #[.slice none 0 0, .int .i64 210]) ∧ Below w.heap.size w w' := by
  have H_c1 := Lib.hid c1
  clear c1
  go_enter Tryz.func25, Tryz.ntmps25
  go_upto_region 1 with (fail)
  refine wp_facts (fun W' => Below w.heap.size w W' ∧ Blk W' w.heap.size #[.int .i64 K, .slice p len cap, .int .i64 A, .int .i64 R, .int .i64 n, .int .i64 d, .slice q m vc, .int .i64 E] 27) ⟨by exact belowAny, by exact blkAny⟩ ?_
  rintro W1 ⟨hW, b1⟩
  have z2 := hW.size
  have z3 := b1.lt
  have k1 := b1.cell
  have f1 := b1.frozen
  have c1 := H_c1.out
  go_wp2_with fail
  refine (c1 _ (belowAny)).mono ?_
  rintro e w4 ⟨rfl, hb4⟩
  clear c1
  have z5 := hb4.size
  try simp at z5
  clear k1 f1
  have b1 : Blk w4 w.heap.size #[.int .i64 K, .slice p len cap, .int .i64 A, .int .i64 R, .int .i64 n, .int .i64 d, .slice q m vc, .int .i64 E] 27 := by exact blkAny
  have hW : Below w.heap.size w w4 := by exact belowAny
  have z6 := b1.lt
  clear hb4
  have k1 := b1.cell
  have f1 := b1.frozen
  go_wp2
  have y_1 := b1.lt
  refine bodyPost_ret (v := .tuple #[.slice none 0 0, .int .i64 210]) (by simp [results, Tryz.results25, go_sem, k1, f1, y_1]) rfl ⟨rfl, by exact belowAny⟩
set_option maxRecDepth 100000 in
set_option maxHeartbeats 2000000 in
theorem points_yes (K A R n d E : Int) (p q : Option Addr) (len cap m vc : Nat) (w : World) (s : SegT)
    (c1 : ∀ W, Below w.heap.size w W → Calls Tryz.prog 60 #[.agg #[.int .i64 K, .slice p len cap, .int .i64 A, .int .i64 R, .int .i64 n, .int .i64 d, .slice q m vc, .int .i64 E], .func (.func 61) #[] #[]] W fun e w' => ∃ v, e = .returned (.tuple #[v, .int .i64 0]) ∧ PtsIs s W.heap.size v w' ∧ Below W.heap.size W w') :
    Calls Tryz.prog 25 #[.agg #[.int .i64 K, .slice p len cap, .int .i64 A, .int .i64 R, .int .i64 n, .int .i64 d, .slice q m vc, .int .i64 E]] w fun e w' => ∃ v, e = .returned (.tuple #[v, .int .i64 0]) ∧ PtsIs s w.heap.size v w' ∧ Below w.heap.size w w' := by
  have H_c1 := Lib.hid c1
  clear c1
  go_enter Tryz.func25, Tryz.ntmps25
  go_upto_region 1 with (fail)
  refine wp_facts (fun W' => Below w.heap.size w W' ∧ Blk W' w.heap.size #[.int .i64 K, .slice p len cap, .int .i64 A, .int .i64 R, .int .i64 n, .int .i64 d, .slice q m vc, .int .i64 E] 27) ⟨by exact belowAny, by exact blkAny⟩ ?_
  rintro W1 ⟨hW, b1⟩
  have z2 := hW.size
  have z3 := b1.lt
  have k1 := b1.cell
  have f1 := b1.frozen
  have c1 := H_c1.out
  go_wp2_with fail
  refine (c1 _ (belowAny)).mono ?_
  rintro e w4 ⟨v, rfl, hv, hb4⟩
  clear c1
  have z5 := hb4.size
  try simp at z5
  clear k1 f1
  have b1 : Blk w4 w.heap.size #[.int .i64 K, .slice p len cap, .int .i64 A, .int .i64 R, .int .i64 n, .int .i64 d, .slice q m vc, .int .i64 E] 27 := by exact blkAny
  have hW : Below w.heap.size w w4 := by exact belowAny
  have z6 := b1.lt
  have k1 := b1.cell
  have f1 := b1.frozen
  replace hv := Lib.hid hv
  go_wp2
  refine bodyPost_ret (v := .tuple #[v, .int .i64 0]) (by simp [results, Tryz.results25, go_sem]) rfl ⟨v, rfl, ownsRow_le hv.out (by omega), belowAny⟩
theorem c_Points_no (s : SegT) (p q : Option Addr) (cap vc : Nat) (w : World) (h : SegIn w s p q) (hs : segB s = false) :
    Calls Tryz.prog 25 #[.agg (segA s p q cap vc)] w fun e w' => e = .returned (.tuple #[.slice none 0 0, .int .i64 210]) ∧ Below w.heap.size w w' := by
  refine points_no _ _ _ _ _ _ p q _ cap _ vc w fun W hW => ofp_no _ _ _ _ _ _ p q _ cap _ vc W fun W' hW' => ?_
  have := c_segIs s p q cap vc W' ((h.below hW).below hW')
  rw [hs] at this
  exact this
theorem c_Points (s : SegT) (p q : Option Addr) (cap vc : Nat) (w : World) (h : SegIn w s p q) (hs : segB s = true) :
    Calls Tryz.prog 25 #[.agg (segA s p q cap vc)] w fun e w' => ∃ v, e = .returned (.tuple #[v, .int .i64 0]) ∧ PtsIs s w.heap.size v w' ∧ Below w.heap.size w w' := by
  refine points_yes _ _ _ _ _ _ p q _ cap _ vc w s fun W hW => ofp_yes _ _ _ _ _ _ p q _ cap _ vc W s (fun W' hW' => ?_) (fun W' hW' => c_Points1 s p q cap vc W' hs ((h.below hW).below hW'))
  have := c_segIs s p q cap vc W' ((h.below hW).below hW')
  rw [hs] at this
  exact this
end Go.Proofs.YtgblmlefmohgnaaGreat
namespace Go.Proofs.YtgblmlefmohgnaaGreat
open Go.RowKit

/-- As blkAny, but quick where a great world has been written into. -/
theorem blkAny2 {w : World} {b : Nat} {cs : Array Value} {t : TypeId} (h : Blk w b cs t := by repeat (first | with_reducible assumption | with_reducible (apply Blk.set2) | with_reducible (apply Blk.setO) | ((with_reducible (show _ ≠ _)); omega) | with_reducible (refine Blk.new2 (by first | rfl | (simp; done) | (simp; omega) | omega) ?_) | with_reducible (refine Blk.alloc ?_ _) | with_reducible (refine Blk.calls ?_ (by assumption)) | with_reducible (refine Blk.rex ?_ (by assumption) (by first | (simp; done) | (simp; omega))) | ((with_reducible (show @Eq (Array Value) _ _)); rfl) | ((with_reducible (show @Eq Obj _ _)); rfl))) : Blk w b cs t := h
structure PtsIn (w : World) (p : Option Addr) (l : List (Int × Int)) : Prop where
  at' : ∀ (i : Nat) (x : Int × Int), l[i]? = some x → ∃ b o, p = some ⟨b, o, none⟩ ∧ w.cell? ⟨b, o + i * 2, none⟩ = some (.int .i64 x.1) ∧ w.cell? ⟨b, o + i * 2 + 1, none⟩ = some (.int .i64 x.2)
theorem PtsIn.below {w w' : World} {p : Option Addr} {l : List (Int × Int)} (h : PtsIn w p l) (hb : Below w.heap.size w w') : PtsIn w' p l := ⟨fun i r hr => by
  obtain ⟨b, o, e, h1, h2⟩ := h.at' i r hr
  exact ⟨b, o, e, (hb.cell (p := ⟨b, _, none⟩) (cell_lt h1)).trans h1, (hb.cell (p := ⟨b, _, none⟩) (cell_lt h1)).trans h2⟩⟩
theorem PtsIn.alloc {w : World} {p : Option Addr} {l : List (Int × Int)} (h : PtsIn w p l) (o : Obj) : PtsIn (w.alloc o) p l := h.below ((Below.refl _ _).alloc (Nat.le_refl _) o)
theorem PtsIn.calls {w w' : World} {p : Option Addr} {l : List (Int × Int)} (h : PtsIn w p l) (hb : Below w.heap.size w w') : PtsIn w' p l := h.below hb
theorem PtsIn.set' {w : World} {p : Option Addr} {o i : Nat} {v : Value} {l : List (Int × Int)} (h : PtsIn w p l) (hne : ∀ a, p = some a → a.block ≠ o) : PtsIn (w.setCell ⟨o, i, none⟩ v) p l := ⟨fun k r hr => by
  obtain ⟨b, y, e, h1, h2⟩ := h.at' k r hr
  have hc : ∀ z, (w.setCell ⟨o, i, none⟩ v).cell? ⟨b, z, none⟩ = w.cell? ⟨b, z, none⟩ := by
    intro z
    have := heap_setCell_other w ⟨o, i, none⟩ b v (hne _ e)
    simp only [World.cell?, this]
  exact ⟨b, y, e, (hc _).trans h1, (hc _).trans h2⟩⟩
theorem PtsIn.set {w : World} {g x o i : Nat} {v : Value} {l : List (Int × Int)} (h : PtsIn w (some ⟨g, x, none⟩) l) (hne : g ≠ o) : PtsIn (w.setCell ⟨o, i, none⟩ v) (some ⟨g, x, none⟩) l := h.set' fun a e => by cases e; exact hne
theorem PtsIn.drew {w : World} {p : Option Addr} {l : List (Int × Int)} (h : PtsIn w p l) : PtsIn w.drew p l := ⟨h.at'⟩
theorem PtsIn.rex {L : List Nat} {w w' : World} {p : Option Addr} {l : List (Int × Int)} (h : PtsIn w p l) (hr : Rex L w w') (hL : L = []) : PtsIn w' p l := by subst hL; exact h.below hr.below
theorem ptsAny {w : World} {p : Option Addr} {l : List (Int × Int)} (h : PtsIn w p l := by repeat (first | with_reducible assumption | with_reducible (refine PtsIn.alloc ?_ _) | with_reducible (refine PtsIn.set ?_ (by first | omega | (simp; done) | (simp; omega))) | with_reducible (refine PtsIn.calls ?_ (by assumption)))) : PtsIn w p l := h
theorem flatPts_at : ∀ (l : List (Int × Int)) (i : Nat) (x : Int × Int), l[i]? = some x → (flatPts l)[i * 2]? = some (.int .i64 x.1) ∧ (flatPts l)[i * 2 + 1]? = some (.int .i64 x.2)
  | [], i, x, h => by simp at h
  | y :: l, 0, x, h => by
    simp at h
    subst h
    exact ⟨rfl, rfl⟩
  | y :: l, i + 1, x, h => by
    obtain ⟨a, b⟩ := flatPts_at l i x (by simpa using h)
    have e : flatPts (y :: l) = .int .i64 y.1 :: .int .i64 y.2 :: flatPts l := rfl
    rw [e, show (i + 1) * 2 = i * 2 + 1 + 1 by omega]
    exact ⟨by simpa using a, by simpa using b⟩
theorem length_flatPts (l : List (Int × Int)) : (flatPts l).length = l.length * 2 := by
  induction l with
  | nil => rfl
  | cons x l ih => show (_ :: _ :: flatPts l).length = _; simp [ih]; omega
/-- What is collected lies in an array of its own. -/
theorem pts_is {s : SegT} {B : Nat} {v : Value} {w : World} (h : PtsIs s B v w) (hn : 0 < (ptsL s).length) : ∃ g cap cur, v = .slice (some ⟨g, 0, none⟩) (ptsL s).length cap ∧ B ≤ g ∧ (ptsL s).length ≤ cap ∧ cap ≤ maxLen ∧ Blk w g cur 58 ∧ cur.size = cap * 2 ∧ cur.toList.take ((ptsL s).length * 2) = flatPts (ptsL s) := by
  obtain ⟨_, h2 | ⟨g, cap, cur, e, hg, hb, hnc, hm, hc, htk⟩⟩ := h
  · omega
  · exact ⟨g, cap, cur, e, hg, hnc, hm, hb, hc, htk⟩
theorem pts_in {w : World} {g n : Nat} {t : TypeId} {cur : Array Value} {l : List (Int × Int)} (hb : Blk w g cur t) (ht : cur.toList.take n = flatPts l) : PtsIn w (some ⟨g, 0, none⟩) l := ⟨fun i x hx => by
  obtain ⟨a, b⟩ := flatPts_at l i x hx
  refine ⟨g, 0, rfl, ?_, ?_⟩
  · rw [hb.cell, Nat.zero_add]; exact row_take ht a
  · rw [hb.cell, Nat.zero_add]; exact row_take ht b⟩

/-- The values of the points from a to b. -/
def selB (a b : Int) (x : Int × Int) : Bool := decide (a ≤ x.1) && decide (x.1 ≤ b)
def selL (a b : Int) (l : List (Int × Int)) : List Int := (l.filter (selB a b)).map (·.2)
theorem selL_in {a b : Int} (l : List (Int × Int)) {x : Int × Int} (h1 : a ≤ x.1) (h2 : x.1 ≤ b) : selL a b (l ++ [x]) = selL a b l ++ [x.2] := by
  have : selB a b x = true := by simp [selB, h1, h2]
  simp [selL, this]
theorem selL_out {a b : Int} (l : List (Int × Int)) {x : Int × Int} (h : x.1 < a ∨ b < x.1) : selL a b (l ++ [x]) = selL a b l := by
  have : selB a b x = false := by simp [selB]; omega
  simp [selL, this]
theorem filter_range {α : Type} (pr : α → Bool) : ∀ (l : List α) (i j : Nat), (∀ k x, l[k]? = some x → (pr x = true ↔ i ≤ k ∧ k < j)) → l.filter pr = (l.take j).drop i
  | [], i, j, _ => by simp
  | y :: l, i, j, h => by
    have h0 := h 0 y rfl
    cases j with
    | zero =>
      have ih := filter_range pr l 0 0 (fun k x hx => (h (k + 1) x (by simpa using hx)).trans (by omega))
      have hp : pr y = false := by
        cases hy : pr y with
        | false => rfl
        | true => have := h0.1 hy; omega
      simp [List.filter_cons, hp]
      simpa using ih
    | succ j =>
      cases i with
      | zero =>
        have ih := filter_range pr l 0 j (fun k x hx => (h (k + 1) x (by simpa using hx)).trans (by omega))
        have hp : pr y = true := h0.2 ⟨Nat.le_refl _, by omega⟩
        simp [List.filter_cons, hp, ih]
      | succ i =>
        have ih := filter_range pr l i j (fun k x hx => (h (k + 1) x (by simpa using hx)).trans (by omega))
        have hp : pr y = false := by
          cases hy : pr y with
          | false => rfl
          | true => have := h0.1 hy; omega
        simp [List.filter_cons, hp, ih]
theorem map_pts {s : SegT} (hs : segB s = true) : (ptsL s).map (·.2) = vals s := by
  have h1 := length_times (segB_runs hs)
  have h2 := length_vals hs
  unfold ptsL
  rw [List.map_snd_zip]
  omega
theorem pts_times {s : SegT} (hs : segB s = true) {k : Nat} {x : Int × Int} (h : (ptsL s)[k]? = some x) : (timesL s.runs)[k]? = some x.1 ∧ (vals s)[k]? = some x.2 := by
  unfold ptsL at h
  rw [List.getElem?_zip_eq_some] at h
  exact h
/-- What some times have is what their places have. -/
theorem sel_slice {s : SegT} (hs : segB s = true) (a b : Int) : selL a b (ptsL s) = if clipI s.runs a < clipJ s.runs a b then slice (vals s) (clipI s.runs a).toNat (clipJ s.runs a b).toNat else [] := by
  have hl := segB_runs hs
  obtain ⟨i0, i1, i2⟩ := below_is s.runs a hl.each hl.chain
  obtain ⟨j0, j1, j2⟩ := below_is s.runs (b + 1) hl.each hl.chain
  have hcb := clip_bd hl a b
  have key : ∀ k x, (ptsL s)[k]? = some x → (selB a b x = true ↔ (clipI s.runs a).toNat ≤ k ∧ k < (clipJ s.runs a b).toNat) := by
    intro k x hx
    obtain ⟨t1, _⟩ := pts_times hs hx
    have e1 := i2 k x.1 t1
    have e2 := j2 k x.1 t1
    have hk : (k : Int) < cnt s.runs := by
      have := length_times hl
      have := (List.getElem?_eq_some_iff.1 t1).1
      omega
    have hm := times_in s.runs hl x.1 (List.mem_of_getElem? t1)
    simp only [selB, Bool.and_eq_true, decide_eq_true_eq]
    unfold clipI clipJ
    split
    · omega
    · split <;> omega
  have := filter_range (selB a b) (ptsL s) _ _ key
  unfold selL
  rw [this]
  split
  · rw [List.map_drop, List.map_take, map_pts hs]
    rfl
  · rw [List.drop_eq_nil_of_le (by simp; omega)]
    rfl
theorem partOut_sel {s : SegT} (hs : segB s = true) (a b : Int) : partOut s a b = if selL a b (ptsL s) = [] then (#[.int .i64 0, .int .i64 0, .int .i64 0, .int .i64 0, .int .u64 0], 9) else (partA (selL a b (ptsL s)), 0) := by
  have hl := segB_runs hs
  have hcb := clip_bd hl a b
  have hlv := length_vals hs
  rw [sel_slice hs a b]
  unfold partOut
  rw [if_pos hs]
  by_cases h : clipI s.runs a < clipJ s.runs a b
  · rw [if_pos h, if_pos h, if_neg (slice_ne (by omega) (by omega))]
  · rw [if_neg h, if_neg h, if_pos rfl]
end Go.Proofs.YtgblmlefmohgnaaGreat
