/- Parts of the proof that follows: All points of a segment, collected. No condition. | seg.Points, told. No condition. | Points in memory; which of them lie within a span, plainly. No condition. | A series, plainly: which may be; what is told of its times; their sheet. No condition. | The laws of chapter 11: wakes. | The laws of chapter 11: wakes told; together. | The laws of chapter 11: own. | A segment as it came in. No condition. | The laws of chapter 11: own, told. | A segment that lies, kept by steps that make memory. No condition. | Layer span: Check, checked, both, total. No condition but that the ends are numbers of 64 bits. -/
import Derived.Laws.AppendOwnNone
import Derived.Test.YtbanjolokkghdaaGreatDoorMz12
set_option maxRecDepth 100000
set_option maxHeartbeats 8000000
set_option linter.unusedSimpArgs false
set_option linter.unusedVariables false
namespace Go.Proofs.YtbanjolokkghdaaGreatDoor
open Go.RowKit Go.Shelf
attribute [local go_sem] Oper.semAt_some
def flatPts (l : List (Int × Int)) : List Value := l.flatMap fun x => [.int .i64 x.1, .int .i64 x.2]
theorem flatPts_snoc (l : List (Int × Int)) (x : Int × Int) : flatPts (l ++ [x]) = flatPts l ++ [.int .i64 x.1, .int .i64 x.2] := by simp [flatPts]
theorem Tryz.infoPoint : (Tryz.prog.info? 56).map (fun i => (i.zero, i.size, i.bytes)) = some (some (.agg #[.int .i64 0, .int .i64 0]), 2, 16) := by kernel_rfl
theorem cell_two_new (W : World) (a b : Value) (t : TypeId) (j : Nat) (u : Value) (h : [a, b][j]? = some u) : (W.alloc (.cells #[a, b] t)).cell? ((⟨W.heap.size, 0, none⟩ : Addr).add j) = some u := by
 have hb : Blk (W.alloc (.cells #[a, b] t)) W.heap.size #[a, b] t := Blk.new' rfl
 have hadd : (⟨W.heap.size, 0, none⟩ : Addr).add j = ⟨W.heap.size, j, none⟩ := by unfold Addr.add; split <;> simp_all
 rw [hadd, hb.cell]
 simpa using h
theorem blk_own {β : Type} (B : Nat) (t : TypeId) (f : β -> Array Value) : Own (fun s W => Blk W B (f s) t) := fun s X Y row hs hg hrow => by
 refine (hg.block B hs.lt fun e => ?_).trans hs
 obtain ⟨o, ho, hc⟩ := hrow B e.symm
 rw [show X.heap[B]? = _ from hs] at ho; cases ho; cases hc
theorem appendSeqP (gf : Nat) (lb : Array Value) (xs : List (Int × Int)) (hlen : xs.length <= 1000000) (w w0 : World) (hw0 : Below w0.heap.size w0 w) (Kp : World -> World -> Prop) (enters : ∀ args w, (callFunc gf args).run Tryz.prog w = .ok (.enter gf args) w)
  (hKp : ∀ {A B}, Below w.heap.size A B -> (∀ T, T ≠ 47 -> T ≠ 56 -> KeepsT T A B) -> Kp A B) (hKt : ∀ {A B C}, Kp A B -> Kp B C -> Kp A C) (hKb : ∀ (W : World) (l : Nat) (o o' : Obj), w.heap.size <= l -> W.heap[l]? = some o -> o.isCells = false -> o.isWalk = false -> Kp W (W.putObj l o'))
  (hseq : SeqStopsK Fence.wide 2 Tryz.prog gf lb (fun x : Int × Int => #[Value.agg #[.int .i64 x.1, .int .i64 x.2]]) Kp (fun ys => ys = xs) (fun pre => pre <+: xs) xs.length w0) :
  CallsIn Fence.wide 3 Tryz.prog 144 #[.slice none 0 0, .func (.func gf) #[] lb] w fun e W' => ∃ v, e = .returned v /\ W'.ownsRow w.heap.size 56 2 v xs.length (flatPts xs) /\ Below w.heap.size w W' := by
 obtain ⟨i0, hi, hz0, hz1, hz2⟩ := info_parts Tryz.infoPoint
 refine callsIn_of_wp_marks Tryz.func144 rfl trivial ?_ rfl
 simp only [Tryz.ntmps144, List.size_toArray, List.length_cons, List.length_nil, Nat.reduceAdd, Nat.reduceSub, Array.replicate_succ, Array.replicate_zero, List.push_toArray, List.append_toArray, List.nil_append, List.cons_append]
 gi_wp2
 have bO := Boxed.new w 47 (.slice none 0 0)
 have hB0 : Below w.heap.size w (w.alloc (.cells #[.slice none 0 0] 47)) := (Below.refl _ w).alloc (Nat.le_refl _) _
 refine wpIn_rangeFunc_ownH rfl (by omega) (gf := gf) (lb := lb) rfl trivial enters hseq hKt (fun W l o o' hl => hKb W l o o' (by simp at hl; omega)) (hw0.trans (hB0.mono hw0.size)) (fun _ => rfl)
  (fun pre W => (∃ v, Boxed W w.heap.size 47 v /\ W.ownsRow w.heap.size 56 2 v pre.length (flatPts pre) /\ True) /\ Below w.heap.size w W)
  (fun _ _ _ => False)
  (OwnFrom.and (Own.from (holdsRow_own w.heap.size w.heap.size 47 56 2 (fun pre : List (Int × Int) => pre.length) (fun pre => flatPts pre) (fun _ _ => True)) _) (ownFrom_below (Nat.le_refl _) (by simp)))
  (fun _ _ _ _ _ hs _ _ => hs)
  ⟨⟨_, bO, World.ownsRow_nil _ _ _ _, trivial⟩, hB0⟩
  (fun x a' W => ∃ Bx, w.heap.size < Bx /\ Blk W Bx #[.int .i64 x.1, .int .i64 x.2] 56 /\ a' = { tmps := #[.slice none 0 0, .func (.func gf) #[] lb, .pointer (some ⟨w.heap.size, 0, none⟩), undef, .slice none 0 0, .pointer (some ⟨Bx, 0, none⟩), .func (.func gf) #[] lb, .agg #[.int .i64 x.1, .int .i64 x.2], undef, undef, undef, undef, undef], defers := [] })
  (fun x a' _ X Y row hs hg hr => by obtain ⟨Bx, h1, h2, h3⟩ := hs; exact ⟨Bx, h1, blk_own Bx 56 (fun (_ : Unit) => #[Value.int .i64 x.1, .int .i64 x.2]) () X Y row h2 hg (fun r e => (hr r e).2), h3⟩) ?assign ?body ?done ?stop
 case assign =>
  rintro l pre x W K ⟨⟨v, hv, hrow, _⟩, hB⟩ hK
  gi_wp2
  exact hK _ _ ((KeepsOthers.alloc _ _).from _) (hKp ((Below.refl _ W).alloc hB.size _) (fun T _ _ => keepsT_of_below ((Below.refl _ _).alloc (Nat.le_refl _) _))) ⟨⟨v, hv.alloc _, hrow.alloc _, trivial⟩, hB.alloc hB.size _⟩ ⟨W.heap.size, hv.lt, Blk.new' rfl, rfl⟩
 case body =>
  rintro l pre x a' W hl ⟨r, hr⟩ ⟨⟨v, hv, hrow, _⟩, hB⟩ ⟨Bx, hBx, bX, rfl⟩ hlt
  have hc := hv.cell
  have kx := bX.cell
  gi_wp2_with (gi_at_builtin; refine wpListIn_append_own _ rfl _ _ 47 rfl w.heap.size 56 i0 (.agg #[.int .i64 0, .int .i64 0]) 2 16 (by kernel_rfl) hi hz0 hz1 hz2 rfl (by decide) _ _ _ rfl (hrow.alloc _) ⟨W.heap.size, 0, none⟩ 1 1 [.int .i64 x.1, .int .i64 x.2] rfl rfl (cell_two_new _ _ _ _) (by simp [Value.oneCell']) (by simp [maxLen]; omega) (by omega) (by have := hB.size; simp; omega) ?_; intro v' w1 hown' hgrow _; obtain ⟨g', cap', rfl⟩ := ownsRow_succ hown'; obtain ⟨hv1, hv2, hr2, hk2, hb2⟩ := hv.appended (by decide) hrow hB.size (Nat.le_refl _) hown' hgrow; have hkt := fun T h1 h2 => keepsT_appended (v' := .slice (some ⟨g', 0, none⟩) (pre.length + 1) cap') (T := T) hv hrow hgrow h1 h2; have hc1 := hv1.cell; have hf1 := hv1.frozen)
  exact ⟨hk2.from _, hKp hb2 hkt, ⟨_, hv2, by rw [flatPts_snoc]; simpa using hr2, trivial⟩, hB.trans hb2⟩
 case done =>
  rintro D ys W hD rfl ⟨⟨v, hv, hrow, _⟩, hB⟩ hK
  have hc := hv.cell
  gi_wp2
  refine ⟨by simp, .inl ⟨_, _, rfl, run_takeDeferred hK, ?_⟩⟩
  exact ⟨_, results_tmp rfl _ _ _, v, rfl, ownsRow_putObj hrow _ hK rfl, hB.trans (belowK_b (w := w) (Nat.le_refl _) W D _ _ (by simp at hD; omega) hK rfl rfl)⟩
 case stop =>
  rintro D c pre W _ _ h _
  exact h.elim
theorem collectP (gf : Nat) (lb : Array Value) (xs : List (Int × Int)) (hlen : xs.length <= 1000000) (w w0 : World) (hw0 : Below w0.heap.size w0 w) (Kp : World -> World -> Prop) (enters : ∀ args w, (callFunc gf args).run Tryz.prog w = .ok (.enter gf args) w)
  (hKp : ∀ {A B}, Below w.heap.size A B -> (∀ T, T ≠ 47 -> T ≠ 56 -> KeepsT T A B) -> Kp A B) (hKt : ∀ {A B C}, Kp A B -> Kp B C -> Kp A C) (hKb : ∀ (W : World) (l : Nat) (o o' : Obj), w.heap.size <= l -> W.heap[l]? = some o -> o.isCells = false -> o.isWalk = false -> Kp W (W.putObj l o'))
  (hseq : SeqStopsK Fence.wide 2 Tryz.prog gf lb (fun x : (Int × Int) => #[Value.agg #[.int .i64 x.1, .int .i64 x.2]]) Kp (fun ys => ys = xs) (fun pre => pre <+: xs) xs.length w0) :
  Calls Tryz.prog 98 #[.func (.func gf) #[] lb] w fun e W' => ∃ v, e = .returned v /\ W'.ownsRow w.heap.size 56 2 v xs.length (flatPts xs) /\ Below w.heap.size w W' := by
 have c1 := Lib.hid (callsIn_wide.1 (appendSeqP gf lb xs hlen w w0 hw0 Kp enters hKp hKt hKb hseq))
 clear hKp hKt hKb hseq enters hw0
 go_enter Tryz.func98, Tryz.ntmps98
 go_wp2_with fail
 refine c1.out.mono ?_
 rintro e w1 ⟨v, rfl, hv, hB⟩
 replace hv := Lib.hid hv
 replace hB := Lib.hid hB
 go_wp2
 go_ret
 exact ⟨v, rfl, hv.out, hB.out⟩
theorem points_w (K A R n d E : Int) (p q : Option Addr) (len cap m vc : Nat) (w : World) : Calls Tryz.prog 99 #[.agg #[.int .i64 K, .slice p len cap, .int .i64 A, .int .i64 R, .int .i64 n, .int .i64 d, .slice q m vc, .int .i64 E]] w fun e w' => e = .returned (.func (.func 145) #[] #[.pointer (some ⟨w.heap.size, 0, none⟩)]) /\ w' = w.alloc (.cells #[.int .i64 K, .slice p len cap, .int .i64 A, .int .i64 R, .int .i64 n, .int .i64 d, .slice q m vc, .int .i64 E] 113) := by
 have hmf : ∀ (fn : Fn) (first cap : Array Value) (w : World), (Instr.makeFunc fn first cap).run Tryz.prog w = .ok (.func fn first cap) w := fun _ _ _ _ => rfl
 go_enter Tryz.func99, Tryz.ntmps99
 go_wp2
 go_ret
 exact ⟨rfl, rfl⟩
theorem RunsIn.keep {w A B : World} {p : Option Addr} {l : List RunT} (h : RunsIn w p l) (hb : Below w.heap.size A B) (ha : RunsIn A p l) : RunsIn B p l := ⟨fun i r hr => by
 obtain ⟨b, o, e, k0, k1, k2⟩ := ha.at' i r hr
 obtain ⟨b', o', e', q0, _⟩ := h.at' i r hr
 rw [e] at e'
 injection e' with e'
 injection e' with e1 e2
 subst e1
 have hlt := cell_lt q0
 exact ⟨b, o, e, (hb.cell (p := ⟨b, _, none⟩) hlt).trans k0, (hb.cell (p := ⟨b, _, none⟩) hlt).trans k1, (hb.cell (p := ⟨b, _, none⟩) hlt).trans k2⟩⟩
theorem IntsIn.keep {w A B : World} {p : Option Addr} {l : List Int} (h : IntsIn w p l) (hb : Below w.heap.size A B) (ha : IntsIn A p l) : IntsIn B p l := ⟨fun i r hr => by
 obtain ⟨b, o, e, k0⟩ := ha.at' i r hr
 obtain ⟨b', o', e', q0⟩ := h.at' i r hr
 rw [e] at e'
 injection e' with e'
 injection e' with e1 e2
 subst e1
 exact ⟨b, o, e, (hb.cell (p := ⟨b, _, none⟩) (cell_lt q0)).trans k0⟩⟩
theorem SegIn.keep {w A B : World} {s : SegT} {p q : Option Addr} (h : SegIn w s p q) (hb : Below w.heap.size A B) (ha : SegIn A s p q) : SegIn B s p q := ⟨h.runs.keep hb ha.runs, h.raw.keep hb ha.raw, h.fewR, h.fewV⟩
theorem collect_points (s : SegT) (p q : Option Addr) (cap vc : Nat) (w : World) (Bs : Nat) (hs : segB s = true) (h : SegIn w s p q) (hBs : Blk w Bs (segA s p q cap vc) 113) :
  Calls Tryz.prog 98 #[.func (.func 145) #[] #[.pointer (some ⟨Bs, 0, none⟩)]] w fun e W' => ∃ v, e = .returned v /\ W'.ownsRow w.heap.size 56 2 v (ptsL s).length (flatPts (ptsL s)) /\ Below w.heap.size w W' := by
 have hcnt := cnt_pos (segB_runs hs)
 have hlen := length_pts hs
 have hlt := hBs.lt
 refine collectP 145 _ (ptsL s) (by omega) w w (Below.refl _ _) (fun A B => Below w.heap.size A B /\ KeepsT 2 A B) (enters_of Tryz.func145 (by kernel_rfl) rfl)
  (fun hb hk => ⟨hb, hk _ (by decide) (by decide)⟩) (fun h k => ⟨h.1.trans k.1, h.2.trans k.2⟩) (fun W k o o' hk ho h1 h2 => ⟨belowK_b (Nat.le_refl _) W k o o' hk ho h1 h2, keepsT_putObj o' ho h1⟩) ?_
 intro lr J Jx W hW hJ _ hY h0
 exact points1_in 2 (by omega) lr Bs W.heap.size s p q cap vc hs (fun A B => Below w.heap.size A B /\ KeepsT 2 A B) (fun hk => ⟨hk.1.size, fun ha => h.keep hk.1 ha, fun ha => (hk.1.block Bs hlt).trans ha, fun b cs _ ha => hk.2 b cs _ ha⟩) J Jx _ hJ hY W (hBs.below hW) (h.below hW) (Nat.le_refl _) h0
def PtsIs (s : SegT) (B : Nat) (v : Value) (w : World) : Prop := w.ownsRow B 56 2 v (ptsL s).length (flatPts (ptsL s))
theorem c_Points1 (s : SegT) (p q : Option Addr) (cap vc : Nat) (w : World) (hs : segB s = true) (h : SegIn w s p q) :
  Calls Tryz.prog 97 #[.agg (segA s p q cap vc)] w fun e w' => ∃ v, e = .returned (.tuple #[v, .int .i64 0]) /\ PtsIs s w.heap.size v w' /\ Below w.heap.size w w' := by
 have c2 := Lib.hid (fun W Bs (hW : Below w.heap.size w W) (hb : Blk W Bs (segA s p q cap vc) 113) => collect_points s p q cap vc W Bs hs (h.below hW) hb)
 unfold segA at c2 ⊢
 go_enter Tryz.func97, Tryz.ntmps97
 go_wp2_with fail
 refine (points_w _ _ _ _ _ _ _ _ _ _ _ _ _).mono ?_
 rintro e w2 ⟨rfl, rfl⟩
 go_wp2_with fail
 refine (c2.out _ _ (belowAny) (Blk.new' (by simp))).mono ?_
 rintro e w3 ⟨v, rfl, hv, hB⟩
 replace hv := Lib.hid hv
 have hBB : Hid (Below w.heap.size w w3) := Lib.hid (belowAny)
 clear hB
 go_wp2
 refine bodyPost_ret (v := .tuple #[v, .int .i64 0]) (by simp [results, Tryz.results97, go_sem]) rfl ⟨v, rfl, ownsRow_le hv.out (by simp <;> omega), hBB.out⟩
end Go.Proofs.YtbanjolokkghdaaGreatDoor
namespace Go.Proofs.YtbanjolokkghdaaGreatDoor
open Go.RowKit
theorem ofp_yes (K A R n d E : Int) (p q : Option Addr) (len cap m vc : Nat) (w : World) (s : SegT)
  (c1 : ∀ W, Below w.heap.size w W -> Calls Tryz.prog 70 #[.agg #[.int .i64 K, .slice p len cap, .int .i64 A, .int .i64 R, .int .i64 n, .int .i64 d, .slice q m vc, .int .i64 E]] W fun e w' => e = .returned (.bool true) /\ Below W.heap.size W w')
  (c3 : ∀ W, Below w.heap.size w W -> Calls Tryz.prog 97 #[.agg #[.int .i64 K, .slice p len cap, .int .i64 A, .int .i64 R, .int .i64 n, .int .i64 d, .slice q m vc, .int .i64 E]] W fun e w' => ∃ v, e = .returned (.tuple #[v, .int .i64 0]) /\ PtsIs s W.heap.size v w' /\ Below W.heap.size W w') :
  Calls Tryz.prog 96 #[.agg #[.int .i64 K, .slice p len cap, .int .i64 A, .int .i64 R, .int .i64 n, .int .i64 d, .slice q m vc, .int .i64 E], .func (.func 97) #[] #[]] w fun e w' => ∃ v, e = .returned (.tuple #[v, .int .i64 0]) /\ PtsIs s w.heap.size v w' /\ Below w.heap.size w w' := by
 have H_c1 := Lib.hid c1
 clear c1
 have H_c3 := Lib.hid c3
 clear c3
 go_enter Tryz.func96, Tryz.ntmps96
 go_upto_region 1 with (fail)
 refine wp_cutB w (Bc w.heap.size #[.int .i64 K, .slice p len cap, .int .i64 A, .int .i64 R, .int .i64 n, .int .i64 d, .slice q m vc, .int .i64 E] 29 <| Bz) ?_
 rintro W1 hW z2 ⟨⟨b1, yb1, k1, f1⟩, -⟩
 go_wp2_with fail
 refine (H_c1.out _ (belowAny)).mono ?_
 rintro e w3 ⟨rfl, hb3⟩
 have z4 := hb3.size
 try simp at z4
 clear k1 f1
 refine haveB w w3 (Bc w.heap.size #[.int .i64 K, .slice p len cap, .int .i64 A, .int .i64 R, .int .i64 n, .int .i64 d, .slice q m vc, .int .i64 E] 29 <| Bz) ?_
 clear b1 hW
 rintro hW z5 ⟨⟨b1, yb1, k1, f1⟩, -⟩
 clear hb3
 go_wp2_with fail
 refine (H_c3.out _ (belowAny)).mono ?_
 rintro e w6 ⟨v, rfl, hv, hb6⟩
 have z7 := hb6.size
 try simp at z7
 clear k1 f1
 refine haveB w w6 (Bc w.heap.size #[.int .i64 K, .slice p len cap, .int .i64 A, .int .i64 R, .int .i64 n, .int .i64 d, .slice q m vc, .int .i64 E] 29 <| Bz) ?_
 clear b1 hW
 rintro hW z8 ⟨⟨b1, yb1, k1, f1⟩, -⟩
 replace hv := Lib.hid hv
 go_wp2
 refine bodyPost_ret (v := .tuple #[v, .int .i64 0]) (by simp [results, Tryz.results96, go_sem]) rfl ⟨v, rfl, ownsRow_le hv.out (by omega), belowAny⟩
theorem points_yes (K A R n d E : Int) (p q : Option Addr) (len cap m vc : Nat) (w : World) (s : SegT)
  (c1 : ∀ W, Below w.heap.size w W -> Calls Tryz.prog 96 #[.agg #[.int .i64 K, .slice p len cap, .int .i64 A, .int .i64 R, .int .i64 n, .int .i64 d, .slice q m vc, .int .i64 E], .func (.func 97) #[] #[]] W fun e w' => ∃ v, e = .returned (.tuple #[v, .int .i64 0]) /\ PtsIs s W.heap.size v w' /\ Below W.heap.size W w') :
  Calls Tryz.prog 74 #[.agg #[.int .i64 K, .slice p len cap, .int .i64 A, .int .i64 R, .int .i64 n, .int .i64 d, .slice q m vc, .int .i64 E]] w fun e w' => ∃ v, e = .returned (.tuple #[v, .int .i64 0]) /\ PtsIs s w.heap.size v w' /\ Below w.heap.size w w' := by
 have H_c1 := Lib.hid c1
 clear c1
 go_enter Tryz.func74, Tryz.ntmps74
 go_upto_region 1 with (fail)
 refine wp_cutB w (Bc w.heap.size #[.int .i64 K, .slice p len cap, .int .i64 A, .int .i64 R, .int .i64 n, .int .i64 d, .slice q m vc, .int .i64 E] 29 <| Bz) ?_
 rintro W1 hW z2 ⟨⟨b1, yb1, k1, f1⟩, -⟩
 go_wp2_with fail
 refine (H_c1.out _ (belowAny)).mono ?_
 rintro e w3 ⟨v, rfl, hv, hb3⟩
 have z4 := hb3.size
 try simp at z4
 clear k1 f1
 refine haveB w w3 (Bc w.heap.size #[.int .i64 K, .slice p len cap, .int .i64 A, .int .i64 R, .int .i64 n, .int .i64 d, .slice q m vc, .int .i64 E] 29 <| Bz) ?_
 clear b1 hW
 rintro hW z5 ⟨⟨b1, yb1, k1, f1⟩, -⟩
 replace hv := Lib.hid hv
 go_wp2
 refine bodyPost_ret (v := .tuple #[v, .int .i64 0]) (by simp [results, Tryz.results74, go_sem]) rfl ⟨v, rfl, ownsRow_le hv.out (by omega), belowAny⟩
theorem c_Points (s : SegT) (p q : Option Addr) (cap vc : Nat) (w : World) (h : SegIn w s p q) (hs : segB s = true) :
  Calls Tryz.prog 74 #[.agg (segA s p q cap vc)] w fun e w' => ∃ v, e = .returned (.tuple #[v, .int .i64 0]) /\ PtsIs s w.heap.size v w' /\ Below w.heap.size w w' := by
 refine points_yes _ _ _ _ _ _ p q _ cap _ vc w s fun W hW => ofp_yes _ _ _ _ _ _ p q _ cap _ vc W s (fun W' hW' => ?_) (fun W' hW' => c_Points1 s p q cap vc W' hs ((h.below hW).below hW'))
 have := c_segIs s p q cap vc W' ((h.below hW).below hW')
 rw [hs] at this
 exact this
structure PtsIn (w : World) (p : Option Addr) (l : List (Int × Int)) : Prop where
 at' : ∀ (i : Nat) (x : Int × Int), l[i]? = some x -> ∃ b o, p = some ⟨b, o, none⟩ /\ w.cell? ⟨b, o + i * 2, none⟩ = some (.int .i64 x.1) /\ w.cell? ⟨b, o + i * 2 + 1, none⟩ = some (.int .i64 x.2)
theorem PtsIn.below {w w' : World} {p : Option Addr} {l : List (Int × Int)} (h : PtsIn w p l) (hb : Below w.heap.size w w') : PtsIn w' p l := ⟨fun i r hr => by
 obtain ⟨b, o, e, h1, h2⟩ := h.at' i r hr
 exact ⟨b, o, e, (hb.cell (p := ⟨b, _, none⟩) (cell_lt h1)).trans h1, (hb.cell (p := ⟨b, _, none⟩) (cell_lt h1)).trans h2⟩⟩
theorem PtsIn.alloc {w : World} {p : Option Addr} {l : List (Int × Int)} (h : PtsIn w p l) (o : Obj) : PtsIn (w.alloc o) p l := h.below ((Below.refl _ _).alloc (Nat.le_refl _) o)
theorem PtsIn.calls {w w' : World} {p : Option Addr} {l : List (Int × Int)} (h : PtsIn w p l) (hb : Below w.heap.size w w') : PtsIn w' p l := h.below hb
theorem PtsIn.set' {w : World} {p : Option Addr} {o i : Nat} {v : Value} {l : List (Int × Int)} (h : PtsIn w p l) (hne : ∀ a, p = some a -> a.block ≠ o) : PtsIn (w.setCell ⟨o, i, none⟩ v) p l := ⟨fun k r hr => by
 obtain ⟨b, y, e, h1, h2⟩ := h.at' k r hr
 have hc : ∀ z, (w.setCell ⟨o, i, none⟩ v).cell? ⟨b, z, none⟩ = w.cell? ⟨b, z, none⟩ := by
  intro z
  have := heap_setCell_other w ⟨o, i, none⟩ b v (hne _ e)
  simp only [World.cell?, this]
 exact ⟨b, y, e, (hc _).trans h1, (hc _).trans h2⟩⟩
theorem PtsIn.set {w : World} {g x o i : Nat} {v : Value} {l : List (Int × Int)} (h : PtsIn w (some ⟨g, x, none⟩) l) (hne : g ≠ o) : PtsIn (w.setCell ⟨o, i, none⟩ v) (some ⟨g, x, none⟩) l := h.set' fun a e => by cases e; exact hne
theorem PtsIn.drew {w : World} {p : Option Addr} {l : List (Int × Int)} (h : PtsIn w p l) : PtsIn w.drew p l := ⟨h.at'⟩
theorem PtsIn.rex {L : List Nat} {w w' : World} {p : Option Addr} {l : List (Int × Int)} (h : PtsIn w p l) (hr : Rex L w w') (hL : L = []) : PtsIn w' p l := by subst hL; exact h.below hr.below
theorem flatPts_at : ∀ (l : List (Int × Int)) (i : Nat) (x : Int × Int), l[i]? = some x -> (flatPts l)[i * 2]? = some (.int .i64 x.1) /\ (flatPts l)[i * 2 + 1]? = some (.int .i64 x.2)
 | [], i, x, h => by simp at h
 | y :: l, 0, x, h => by
  simp at h
  subst h
  exact ⟨rfl, rfl⟩
 | y :: l, i + 1, x, h => by
  obtain ⟨a, b⟩ := flatPts_at l i x (by simpa using h)
  have e : flatPts (y :: l) = .int .i64 y.1 :: .int .i64 y.2 :: flatPts l := rfl
  rw [e, show (i + 1) * 2 = i * 2 + 1 + 1 by omega]
  exact ⟨by simpa using a, by simpa using b⟩
theorem pts_is {s : SegT} {B : Nat} {v : Value} {w : World} (h : PtsIs s B v w) (hn : 0 < (ptsL s).length) : ∃ g cap cur, v = .slice (some ⟨g, 0, none⟩) (ptsL s).length cap /\ B <= g /\ (ptsL s).length <= cap /\ cap <= maxLen /\ Blk w g cur 56 /\ cur.size = cap * 2 /\ cur.toList.take ((ptsL s).length * 2) = flatPts (ptsL s) := by
 obtain ⟨_, h2 | ⟨g, cap, cur, e, hg, hb, hnc, hm, hc, htk⟩⟩ := h
 ·omega
 ·exact ⟨g, cap, cur, e, hg, hnc, hm, hb, hc, htk⟩
theorem pts_in {w : World} {g n : Nat} {t : TypeId} {cur : Array Value} {l : List (Int × Int)} (hb : Blk w g cur t) (ht : cur.toList.take n = flatPts l) : PtsIn w (some ⟨g, 0, none⟩) l := ⟨fun i x hx => by
 obtain ⟨a, b⟩ := flatPts_at l i x hx
 refine ⟨g, 0, rfl, ?_, ?_⟩
 ·rw [hb.cell, Nat.zero_add]; exact row_take ht a
 ·rw [hb.cell, Nat.zero_add]; exact row_take ht b⟩
def selB (a b : Int) (x : Int × Int) : Bool := decide (a <= x.1) && decide (x.1 <= b)
def selL (a b : Int) (l : List (Int × Int)) : List Int := (l.filter (selB a b)).map (·.2)
theorem map_pts {s : SegT} (hs : segB s = true) : (ptsL s).map (·.2) = vals s := by
 have h1 := length_times (segB_runs hs)
 have h2 := length_vals hs
 unfold ptsL
 rw [List.map_snd_zip]
 omega
structure SerT where
 name : ByteArray
 eps : Int
 floor : Int
 last : Int
 scale : Int
 segs : List SegT
 opn : List (Int × Int)
def letterB (r : Nat) : Bool := decide (97 <= r /\ r <= 122) || decide (48 <= r /\ r <= 57)
def lettersB (s : ByteArray) : Nat -> Nat -> Bool
 | 0, _ => true
 | f + 1, pos => if pos < s.size then letterB (Utf8.decode s pos).1 && lettersB s f (pos + (Utf8.decode s pos).2) else true
def nameB (s : ByteArray) : Bool := decide (1 <= s.size /\ s.size <= 12) && lettersB s s.size 0
def timesS (s : SerT) : List Int := s.segs.flatMap (fun x => timesL x.runs) ++ s.opn.map (·.1)
def btw (n lo hi : Int) : Bool := decide (lo <= n) && decide (n <= hi)
def numsB (s : SerT) : Bool := nameB s.name && (btw s.eps 0 1099511627776 && (btw s.scale (-40) 40 && (btw s.floor 0 281474976710656 && btw s.last (-1) 281474976710656)))
def rowB : Int -> List SegT -> Bool
 | _, [] => true
 | b, x :: l => segB x && (decide (b < firstT x.runs) && rowB (lastT x.runs) l)
def inSegB (eps floor : Int) (x : SegT) : Bool := decide (x.E <= eps) && decide (floor <= lastT x.runs)
def inOpnB (floor : Int) (p : Int × Int) : Bool := btw p.1 floor 281474976710656 && btw p.2 (-2305843009213693952) 2305843009213693952
def riseB : Int -> List Int -> Bool
 | _, [] => true
 | b, t :: l => decide (b < t) && riseB t l
def lastOr : Int -> List Int -> Int
 | b, [] => b
 | _, t :: l => lastOr t l
def keptN (s : SerT) : Nat := ((timesS s).filter fun t => decide (s.floor <= t)).length
def lastB (s : SerT) : Bool := decide (lastOr (-1) (timesS s) < 0) || (s.last == lastOr (-1) (timesS s))
def checkB (s : SerT) : Bool := numsB s && (rowB (-1) s.segs && (decide (s.opn.length < 32) && (s.segs.all (inSegB s.eps s.floor) && (s.opn.all (inOpnB s.floor) && (riseB (-1) (timesS s) && (lastB s && decide (keptN s <= 1024)))))))
def checkE (s : SerT) : Int := if checkB s = true then 0 else 340
theorem rowB_snoc : ∀ (l : List SegT) (b : Int) (x : SegT), rowB b (l ++ [x]) = (rowB b l && (segB x && decide ((l.getLast?.map fun y => lastT y.runs).getD b < firstT x.runs)))
 | [], b, x => by simp [rowB] <;> rfl
 | y :: l, b, x => by
  simp only [List.cons_append, rowB]
  rw [rowB_snoc l]
  cases l with
  | nil => simp [Bool.and_assoc] <;> rfl
  | cons z l => simp [Bool.and_assoc, List.getLast?_cons] <;> rfl
theorem rowB_seg : ∀ {l : List SegT} {b : Int}, rowB b l = true -> ∀ x, x ∈ l -> segB x = true
 | [], _, _, x, h => by simp at h
 | y :: l, b, hr, x, h => by
  simp only [rowB, Bool.and_eq_true] at hr
  simp only [List.mem_cons] at h
  rcases h with rfl | h
  ·exact hr.1
  ·exact rowB_seg hr.2.2 x h
def segBk (a b : Int) (x : SegT) : List (Int × Int × Int) := ((ptsL x).filter (selB a b)).map fun p => (p.1, p.2, x.E)
def opnBk (a b : Int) (l : List (Int × Int)) : List (Int × Int × Int) := (l.filter (selB a b)).map fun p => (p.1, p.2, 0)
def toldL (s : SerT) (a b : Int) : List (Int × Int × Int) := s.segs.flatMap (segBk (mx a s.floor) b) ++ opnBk (mx a s.floor) b s.opn
def segPc (a b : Int) (x : SegT) : List (List Int × Int) := if selL a b (ptsL x) = [] then [] else [(selL a b (ptsL x), x.E)]
def opnPc (a b : Int) (l : List (Int × Int)) : List (List Int × Int) := (l.filter (selB a b)).map fun p => ([p.2], 0)
def pcsL (s : SerT) (a b : Int) : List (List Int × Int) := s.segs.flatMap (segPc (mx a s.floor) b) ++ opnPc (mx a s.floor) b s.opn
def pairs (g : List Int × Int) : List (Int × Int) := g.1.map fun v => (v, g.2)
def loL (l : List (Int × Int)) : List Int := l.map fun x => x.1 - x.2
def hiL (l : List (Int × Int)) : List Int := l.map fun x => x.1 + x.2
def shA (l : List (Int × Int)) : Array Value := #[.int .i64 l.length, .int .i64 (minL (loL l)), .int .i64 (minL (hiL l)), .int .i64 (maxL (loL l)), .int .i64 (maxL (hiL l)), .int .i64 (hiW (lsum (loL l))), .int .u64 (loW (lsum (loL l))), .int .i64 (hiW (lsum (hiL l))), .int .u64 (loW (lsum (hiL l)))]
def wholeL (s : SerT) (a b : Int) : List (Int × Int) := (toldL s a b).map (·.2)
def wholeE (s : SerT) (a b : Int) : Int := if checkB s = true then (if toldL s a b = [] then 9 else 0) else 340
def wholeV (s : SerT) (a b : Int) : List (Int × Int) := if checkB s = true then wholeL s a b else []
def l0 : List RunT := [⟨10, 2, 4⟩]
def s0 : SegT := ⟨2, l0, 5, 0, 1, 2, [], 3⟩

def TyP (w : World) (p : Option Addr) (T : TypeId) : Prop := ∀ a, p = some a -> ∃ cur fz, w.heap[a.block]? = some (.cells cur T fz)
theorem TyP.below {w w' : World} {p : Option Addr} {T : TypeId} (h : TyP w p T) (hb : Below w.heap.size w w') : TyP w' p T := fun a e => by
 obtain ⟨cur, fz, hh⟩ := h a e
 exact ⟨cur, fz, (hb.block a.block (Array.getElem?_eq_some_iff.1 hh).1).trans hh⟩
theorem TyP.alloc {w : World} {p : Option Addr} {T : TypeId} (h : TyP w p T) (o : Obj) : TyP (w.alloc o) p T := h.below ((Below.refl _ _).alloc (Nat.le_refl _) o)
theorem TyP.setCell {w : World} {p : Option Addr} {T : TypeId} (h : TyP w p T) (a : Addr) (v : Value) : TyP (w.setCell a v) p T := fun b e => by
 obtain ⟨cur, fz, hh⟩ := h b e
 by_cases hb : b.block = a.block
 ·refine ⟨if a.spot.isSome then cur else cur.setIfInBounds a.off v, fz, ?_⟩
  simp only [World.setCell, Array.getElem?_modify]
  rw [if_pos hb.symm, hh]; rfl
 ·exact ⟨cur, fz, (heap_setCell_other w a b.block v hb).trans hh⟩
theorem TyP.new {w : World} {cs : Array Value} {T : TypeId} {g : Nat} (h : w.heap.size = g) : TyP (w.alloc (.cells cs T)) (some ⟨g, 0, none⟩) T := fun a e => by
 subst h
 cases e
 exact ⟨cs, (0, 0), heap_alloc_new w _⟩
theorem RunsIn.take {w : World} {p : Option Addr} {l : List RunT} (h : RunsIn w p l) (k : Nat) : RunsIn w p (l.take k) := ⟨fun i r hr => h.at' i r (by
 rw [List.getElem?_take] at hr
 split at hr
 ·exact hr
 ·cases hr)⟩
theorem IntsIn.take {w : World} {p : Option Addr} {l : List Int} (h : IntsIn w p l) (k : Nat) : IntsIn w p (l.take k) := ⟨fun i r hr => h.at' i r (by
 rw [List.getElem?_take] at hr
 split at hr
 ·exact hr
 ·cases hr)⟩
structure Came (w : World) (s : SegT) (p q : Option Addr) (cap vc : Nat) : Prop where
 runs : RunsIn w p s.runs
 raw : IntsIn w q s.raw
 nilR : p = none -> s.runs = [] /\ cap = 0
 nilV : q = none -> s.raw = [] /\ vc = 0
 capR : s.runs.length <= cap
 capV : s.raw.length <= vc
 maxR : s.runs.length <= 9223372036854775807
 maxV : s.raw.length <= 9223372036854775807
def ownS (s : SegT) : SegT := ⟨s.K, s.runs.take 300, s.A, s.R, s.n, s.d, s.raw.take 300, s.E⟩
def OwnOut (s : SegT) (w : World) (e : Ending) (w' : World) : Prop := ∃ p' cap' q' vc', e = .returned (.agg (segA (ownS s) p' q' cap' vc')) /\ Below w.heap.size w w' /\ SegIn w' (ownS s) p' q' /\ (ownS s).raw.length <= vc'
def OwnOutT (s : SegT) (w : World) (e : Ending) (w' : World) : Prop := ∃ p' cap' q' vc', e = .returned (.agg (segA (ownS s) p' q' cap' vc')) /\ Below w.heap.size w w' /\ SegIn w' (ownS s) p' q' /\ (ownS s).raw.length <= vc' /\ TyP w' p' 94 /\ TyP w' q' 2
structure SegP (w : World) (s : SegT) (p q : Option Addr) : Prop where
 seg : SegIn w s p q
theorem SegP.below {w w' : World} {s : SegT} {p q : Option Addr} (h : SegP w s p q) (hb : Below w.heap.size w w') : SegP w' s p q := ⟨h.seg.below hb⟩
theorem SegP.alloc {w : World} {s : SegT} {p q : Option Addr} (h : SegP w s p q) (o : Obj) : SegP (w.alloc o) s p q := h.below ((Below.refl _ _).alloc (Nat.le_refl _) o)
theorem SegP.rex {L : List Nat} {w w' : World} {s : SegT} {p q : Option Addr} (h : SegP w s p q) (hr : Rex L w w') (hL : L = []) : SegP w' s p q := by subst hL; exact h.below hr.below
theorem SegP.drew {w : World} {s : SegT} {p q : Option Addr} (h : SegP w s p q) : SegP w.drew s p q := ⟨⟨⟨h.seg.runs.at'⟩, ⟨h.seg.raw.at'⟩, h.seg.fewR, h.seg.fewV⟩⟩
structure PtsP (w : World) (b o : Nat) (l : List (Int × Int)) : Prop where
 pts : PtsIn w (some ⟨b, o, none⟩) l
theorem PtsP.below {w w' : World} {b o : Nat} {l : List (Int × Int)} (h : PtsP w b o l) (hb : Below w.heap.size w w') : PtsP w' b o l := ⟨h.pts.below hb⟩
theorem PtsP.rex {L : List Nat} {w w' : World} {b o : Nat} {l : List (Int × Int)} (h : PtsP w b o l) (hr : Rex L w w') (hL : L = []) : PtsP w' b o l := by subst hL; exact h.below hr.below
theorem PtsP.drew {w : World} {b o : Nat} {l : List (Int × Int)} (h : PtsP w b o l) : PtsP w.drew b o l := ⟨⟨h.pts.at'⟩⟩
theorem PtsP.cellAt {w : World} {b o : Nat} {l : List (Int × Int)} (h : PtsP w b o l) {i : Nat} {x : Int × Int} (hx : l[i]? = some x) : w.cell? ⟨b, o + i * 2, none⟩ = some (.int .i64 x.1) /\ w.cell? ⟨b, o + i * 2 + 1, none⟩ = some (.int .i64 x.2) := by
 obtain ⟨b', o', e, h1, h2⟩ := h.pts.at' i x hx
 cases e
 exact ⟨h1, h2⟩
def spE (a b : Int) : Int := if a <= b then 0 else 140
def spsE (l : List (Int × Int)) : Int := if l.all (fun x => decide (x.1 <= x.2)) = true then 0 else 140
def spcRel (w : World) (p : Option Addr) (cap : Nat) (l : List (Int × Int)) (a' : Act) (W : World) : Prop :=
 Below w.heap.size w W /\ ∃ i : Nat, (∃ u : Nat -> Value, a' = { tmps := #[.slice p l.length cap, u 1, u 2, u 3, u 4, u 5, .slice p l.length cap, .int .i64 (l.length : Int), .int .i64 (i : Int), u 9, u 10, u 11, u 12, u 13, u 14, u 15, u 16, u 17], defers := [] }) /\ i <= l.length /\ ∀ k x, k < i -> l[k]? = some x -> x.1 <= x.2
end Go.Proofs.YtbanjolokkghdaaGreatDoor
