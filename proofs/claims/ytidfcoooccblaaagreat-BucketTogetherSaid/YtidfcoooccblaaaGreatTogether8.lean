/- Parts of the proof that follows: Ranges over functions: what comes is collected; the times of runs. No condition. | All times of runs, told. | All points of a segment, one behind the other. No condition. | All points of a segment, collected. No condition. | seg.Points, told. No condition. | Points in memory; which of them lie within a span, plainly. No condition. | A series, plainly: which may be; what is told of its times; their sheet. No condition. | The laws of chapter 11: wakes. | The laws of chapter 11: wakes told; together. | The laws of chapter 11: own. | A segment as it came in. No condition. | The laws of chapter 11: own, told. | A segment that lies, kept by steps that make memory. No condition. | Layer span: Check, checked, both, total. No condition but that the ends are numbers of 64 bits. | Binary digits, plainly, from the lowest on. No condition. | The references' numbers: Size, power. | The references' numbers: trim. -/
import Derived.Laws.AppendOwnNone
import Derived.Test.YtidfcoooccblaaaGreatTogether7
set_option maxRecDepth 100000
set_option maxHeartbeats 8000000
set_option linter.unusedSimpArgs false
set_option linter.unusedVariables false
namespace Go.Proofs.YtidfcoooccblaaaGreat
open Go.RowKit Go.Shelf
attribute [local go_sem] Oper.semAt_some
theorem keepsT_appended {W w1 : World} {n₀ B : Nat} {t e T : TypeId} {size : Nat} {v v' : Value} {k : Nat} {xs : List Value} {tmp : Obj} (hv : Boxed W B t v) (hrow : W.ownsRow n₀ e size v k xs) (hgrow : (W.alloc tmp).grownBy w1 v.ownBlock) (h1 : T ≠ t) (h2 : T ≠ e) : KeepsT T W (w1.setCell ⟨B, 0, none⟩ v') := by
 intro b cs f hb
 have hlt := lt_of_heap hb
 have e1 : b ≠ B := by
  rintro rfl
  rw [show W.heap[b]? = _ from hv] at hb
  injection hb with hb
  injection hb with _ h _
  exact h1 h.symm
 rw [Below.heap_setCell w1 ⟨B, 0, none⟩ v' b e1]
 rw [hgrow.block b (by simp; omega) ?_, Below.heap_alloc W tmp b hlt]
 ·exact hb
 ·rcases hrow.2 with ⟨rfl, _⟩ | ⟨g, cap, cur, rfl, _, hgb, _⟩
  ·simp [Value.ownBlock]
  ·intro e'
   obtain rfl : b = g := by simpa [Value.ownBlock] using e'
   rw [hgb] at hb
   injection hb with hb
   injection hb with _ h _
   exact h2 h.symm
theorem appendSeqI (gf : Nat) (lb : Array Value) (xs : List Int) (hlen : xs.length <= 1000000) (w w0 : World) (hw0 : Below w0.heap.size w0 w) (Kp : World -> World -> Prop) (enters : ∀ args w, (callFunc gf args).run Tryz.prog w = .ok (.enter gf args) w)
  (hKp : ∀ {A B}, Below w.heap.size A B -> (∀ T, T ≠ 96 -> T ≠ 2 -> KeepsT T A B) -> Kp A B) (hKt : ∀ {A B C}, Kp A B -> Kp B C -> Kp A C) (hKb : ∀ (W : World) (l : Nat) (o o' : Obj), w.heap.size <= l -> W.heap[l]? = some o -> o.isCells = false -> o.isWalk = false -> Kp W (W.putObj l o'))
  (hseq : SeqStopsK Fence.wide 2 Tryz.prog gf lb (fun x : Int => #[Value.int .i64 x]) Kp (fun ys => ys = xs) (fun pre => pre <+: xs) xs.length w0) :
  CallsIn Fence.wide 3 Tryz.prog 190 #[.slice none 0 0, .func (.func gf) #[] lb] w fun e W' => ∃ v, e = .returned v /\ W'.ownsRow w.heap.size 2 1 v xs.length (xs.map (Value.int .i64)) /\ Below w.heap.size w W' := by
 obtain ⟨i0, hi, hz0, hz1, hz2⟩ := info_parts Tryz.infoInt
 refine callsIn_of_wp_marks Tryz.func190 rfl trivial ?_ rfl
 simp only [Tryz.ntmps190, List.size_toArray, List.length_cons, List.length_nil, Nat.reduceAdd, Nat.reduceSub, Array.replicate_succ, Array.replicate_zero, List.push_toArray, List.append_toArray, List.nil_append, List.cons_append]
 gi_wp2
 have bO := Boxed.new w 96 (.slice none 0 0)
 have hB0 : Below w.heap.size w (w.alloc (.cells #[.slice none 0 0] 96)) := (Below.refl _ w).alloc (Nat.le_refl _) _
 refine wpIn_rangeFunc_ownG rfl (by omega) (gf := gf) (lb := lb) rfl trivial enters hseq hKt (fun W l o o' hl => hKb W l o o' (by simp at hl; omega)) (hw0.trans (hB0.mono hw0.size)) (fun _ => rfl)
  (fun pre W => (∃ v, Boxed W w.heap.size 96 v /\ W.ownsRow w.heap.size 2 1 v pre.length (pre.map (Value.int .i64)) /\ True) /\ Below w.heap.size w W)
  (fun _ _ _ => False)
  (OwnFrom.and (Own.from (holdsRow_own w.heap.size w.heap.size 96 2 1 (fun pre : List Int => pre.length) (fun pre => pre.map (Value.int .i64)) (fun _ _ => True)) _) (ownFrom_below (Nat.le_refl _) (by simp)))
  (fun _ _ _ _ _ hs _ _ => hs)
  ⟨⟨_, bO, World.ownsRow_nil _ _ _ _, trivial⟩, hB0⟩
  (fun x => { tmps := #[.slice none 0 0, .func (.func gf) #[] lb, .pointer (some ⟨w.heap.size, 0, none⟩), undef, .slice none 0 0, x, .func (.func gf) #[] lb, x, undef, undef, undef, undef, undef], defers := [] }) ?assign ?body ?done ?stop
 case assign =>
  intro l x W K hK
  gi_wp2
  exact hK
 case body =>
  rintro l pre x W ⟨⟨v, hv, hrow, _⟩, hB⟩ hlt
  have hc := hv.cell
  gi_wp2_with (gi_at_builtin; refine wpListIn_append_own _ rfl _ _ 96 rfl w.heap.size 2 i0 (.int .i64 0) 1 8 (by kernel_rfl) hi hz0 hz1 hz2 rfl (by decide) _ _ _ rfl (hrow.alloc _) ⟨W.heap.size, 0, none⟩ 1 1 [x] rfl rfl (cell_one_new _ _ _) (by simp [Value.oneCell']) (by simp [maxLen]; omega) (by omega) (by have := hB.size; simp; omega) ?_; intro v' w1 hown' hgrow _; obtain ⟨g', cap', rfl⟩ := ownsRow_succ hown'; obtain ⟨hv1, hv2, hr2, hk2, hb2⟩ := hv.appended (by decide) hrow hB.size (Nat.le_refl _) hown' hgrow; have hkt := fun T h1 h2 => keepsT_appended (v' := .slice (some ⟨g', 0, none⟩) (pre.length + 1) cap') (T := T) hv hrow hgrow h1 h2; have hc1 := hv1.cell; have hf1 := hv1.frozen)
  exact ⟨hk2.from _, hKp hb2 hkt, ⟨_, hv2, by simpa using hr2, trivial⟩, hB.trans hb2⟩
 case done =>
  rintro D ys W hD rfl ⟨⟨v, hv, hrow, _⟩, hB⟩ hK
  have hc := hv.cell
  gi_wp2
  refine ⟨by simp, .inl ⟨_, _, rfl, run_takeDeferred hK, ?_⟩⟩
  exact ⟨_, results_tmp rfl _ _ _, v, rfl, ownsRow_putObj hrow _ hK rfl, hB.trans (belowK_b (w := w) (Nat.le_refl _) W D _ _ (by simp at hD; omega) hK rfl rfl)⟩
 case stop =>
  rintro D c pre W _ _ h _
  exact h.elim
end Go.Proofs.YtidfcoooccblaaaGreat
namespace Go.Proofs.YtidfcoooccblaaaGreat
open Go.RowKit Go.Shelf
theorem ownsRow_le {W : World} {b b' : Nat} {e : TypeId} {s : Nat} {v : Value} {k : Nat} {xs : List Value} (h : W.ownsRow b e s v k xs) (hb : b' <= b) : W.ownsRow b' e s v k xs := by
 obtain ⟨h1, h2 | ⟨g, cap, cur, e1, hg, r⟩⟩ := h
 ·exact ⟨h1, .inl h2⟩
 ·exact ⟨h1, .inr ⟨g, cap, cur, e1, Nat.le_trans hb hg, r⟩⟩
theorem keepsT_putObj {T : TypeId} {W : World} {l : Nat} {o : Obj} (o' : Obj) (hl : W.heap[l]? = some o) (ho : o.isCells = false) : KeepsT T W (W.putObj l o') := by
 intro b cs f hb
 rw [World.putObj_heap_other]
 ·exact hb
 ·rintro rfl
  rw [hb] at hl
  cases hl
  cases ho
theorem keepsT_of_below {T : TypeId} {A B : World} (h : Below A.heap.size A B) : KeepsT T A B := fun b cs f hb => (h.block b (lt_of_heap hb)).trans hb
theorem collectI (gf : Nat) (lb : Array Value) (xs : List Int) (hlen : xs.length <= 1000000) (w w0 : World) (hw0 : Below w0.heap.size w0 w) (Kp : World -> World -> Prop) (enters : ∀ args w, (callFunc gf args).run Tryz.prog w = .ok (.enter gf args) w)
  (hKp : ∀ {A B}, Below w.heap.size A B -> (∀ T, T ≠ 96 -> T ≠ 2 -> KeepsT T A B) -> Kp A B) (hKt : ∀ {A B C}, Kp A B -> Kp B C -> Kp A C) (hKb : ∀ (W : World) (l : Nat) (o o' : Obj), w.heap.size <= l -> W.heap[l]? = some o -> o.isCells = false -> o.isWalk = false -> Kp W (W.putObj l o'))
  (hseq : SeqStopsK Fence.wide 2 Tryz.prog gf lb (fun x : Int => #[Value.int .i64 x]) Kp (fun ys => ys = xs) (fun pre => pre <+: xs) xs.length w0) :
  Calls Tryz.prog 162 #[.func (.func gf) #[] lb] w fun e W' => ∃ v, e = .returned v /\ W'.ownsRow w.heap.size 2 1 v xs.length (xs.map (Value.int .i64)) /\ Below w.heap.size w W' := by
 have c1 := Lib.hid (callsIn_wide.1 (appendSeqI gf lb xs hlen w w0 hw0 Kp enters hKp hKt hKb hseq))
 clear hKp hKt hKb hseq enters hw0
 go_enter Tryz.func162, Tryz.ntmps162
 go_wp2_with fail
 refine c1.out.mono ?_
 rintro e w1 ⟨v, rfl, hv, hB⟩
 replace hv := Lib.hid hv
 replace hB := Lib.hid hB
 go_wp2
 go_ret
 exact ⟨v, rfl, hv.out, hB.out⟩
theorem all_w (p : Option Addr) (len cap : Nat) (w : World) : Calls Tryz.prog 163 #[.slice p len cap] w fun e w' => e = .returned (.func (.func 191) #[] #[.pointer (some ⟨w.heap.size, 0, none⟩)]) /\ w' = w.alloc (.cells #[.slice p len cap] 93) := by
 have hmf : ∀ (fn : Fn) (first cap : Array Value) (w : World), (Instr.makeFunc fn first cap).run Tryz.prog w = .ok (.func fn first cap) w := fun _ _ _ _ => rfl
 go_enter Tryz.func163, Tryz.ntmps163
 go_wp2
 go_ret
 exact ⟨rfl, rfl⟩
def TimesOut (w : World) (l : List RunT) (e : Ending) (w' : World) : Prop := ∃ v, e = .returned (.tuple #[v, .int .i64 0]) /\ w'.ownsRow w.heap.size 2 1 v (timesL l).length ((timesL l).map (Value.int .i64)) /\ Below w.heap.size w w'
theorem collect_times (p : Option Addr) (cap : Nat) (l : List RunT) (w : World) (Bs : Nat) (hl : RunsOk l) (h : RunsIn w p l) (hBs : Blk w Bs #[.slice p l.length cap] 93) :
  Calls Tryz.prog 162 #[.func (.func 191) #[] #[.pointer (some ⟨Bs, 0, none⟩)]] w fun e W' => ∃ v, e = .returned v /\ W'.ownsRow w.heap.size 2 1 v (timesL l).length ((timesL l).map (Value.int .i64)) /\ Below w.heap.size w W' := by
 have hlt : ∀ a, p = some a -> a.block < w.heap.size := by
  rintro a rfl
  have := hl.some'
  obtain ⟨b, o, e, k0, _⟩ := h.at' 0 (l[0]'(by omega)) (List.getElem?_eq_getElem (by omega))
  cases e
  exact cell_lt k0
 have hcnt := hl.count
 have hlen := length_times hl
 refine collectI 191 _ (timesL l) (by omega) w w (Below.refl _ _) (fun A B => Below w.heap.size A B /\ KeepsT 144 A B) (enters_of Tryz.func191 (by kernel_rfl) rfl)
  (fun hb hk => ⟨hb, hk _ (by decide) (by decide)⟩) (fun h k => ⟨h.1.trans k.1, h.2.trans k.2⟩) (fun W k o o' hk ho h1 h2 => ⟨belowK_b (Nat.le_refl _) W k o o' hk ho h1 h2, keepsT_putObj o' ho h1⟩) ?_
 intro lr J Jx W hW hJ _ hY h0
 exact all1_in 2 (by omega) lr Bs w.heap.size p cap l hl.each (by have := hl.few; omega) _ (fun h => h) J Jx _ hJ hY W ((hBs.below hW).cell 0) (h.below hW) hlt hW.size h0
theorem c_Times (p : Option Addr) (cap : Nat) (l : List RunT) (w : World) (hl : RunsOk l) (h : RunsIn w p l) : Calls Tryz.prog 114 #[.slice p l.length cap] w (TimesOut w l) := by
 have hlen := hl.few
 have c1 := fun W (hW : Below w.heap.size w W) => rises_w p cap l W (by omega) (h.below hW)
 rw [(risesB_iff l).2 hl] at c1
 have c2 := Lib.hid (fun W Bs (hW : Below w.heap.size w W) (hb : Blk W Bs #[.slice p l.length cap] 93) => collect_times p cap l W Bs hl (h.below hW) hb)
 have H_c1 := Lib.hid c1
 clear c1
 go_enter Tryz.func114, Tryz.ntmps114
 have c1 := H_c1.out
 go_wp2_with fail
 refine (c1 _ (belowAny)).mono ?_
 rintro e w1 ⟨rfl, hb1⟩
 clear c1
 have z1 := hb1.size
 go_wp2_with fail
 refine (all_w _ _ _ _).mono ?_
 rintro e w2 ⟨rfl, rfl⟩
 go_wp2_with fail
 refine (c2.out _ _ (belowAny) (Blk.new' rfl)).mono ?_
 rintro e w3 ⟨v, rfl, hv, hB⟩
 replace hv := Lib.hid hv
 have hBB : Hid (Below w.heap.size w w3) := Lib.hid (belowAny)
 clear hB
 go_wp2
 refine bodyPost_ret (v := .tuple #[v, .int .i64 0]) (by simp [results, Tryz.results114, go_sem]) rfl ⟨v, rfl, ownsRow_le hv.out (by simp; omega), hBB.out⟩
attribute [local go_sem] Oper.semAt_some
def ptsL (s : SegT) : List (Int × Int) := (timesL s.runs).zip (vals s)
theorem length_pts {s : SegT} (hs : segB s = true) : ((ptsL s).length : Int) = cnt s.runs := by
 have h1 := length_times (segB_runs hs)
 have h2 := length_vals hs
 unfold ptsL
 simp
 omega
theorem abides_below {β : Type} {B : Nat} {J : β -> World -> Prop} (hJ : AbidesFrom B J) {s : β} {A C : World} (h : J s A) (hb : Below A.heap.size A C) : J s C :=
 hJ s A C none h ⟨hb.os, hb.tape, hb.output, hb.size, fun i hi _ => hb.block i hi⟩ (fun r e => by cases e)
structure KeepsPts (s : SegT) (p q : Option Addr) (cap vc Bs n₀ : Nat) (A B : World) : Prop where
 size : A.heap.size <= B.heap.size
 seg : SegIn A s p q -> SegIn B s p q
 box : Blk A Bs (segA s p q cap vc) 179 -> Blk B Bs (segA s p q cap vc) 179
 nums : ∀ (b : Nat) (cs : Array Value), n₀ <= b -> Blk A b cs 2 -> Blk B b cs 2
def flatPts (l : List (Int × Int)) : List Value := l.flatMap fun x => [.int .i64 x.1, .int .i64 x.2]
theorem flatPts_snoc (l : List (Int × Int)) (x : Int × Int) : flatPts (l ++ [x]) = flatPts l ++ [.int .i64 x.1, .int .i64 x.2] := by simp [flatPts]
theorem cell_two_new (W : World) (a b : Value) (t : TypeId) (j : Nat) (u : Value) (h : [a, b][j]? = some u) : (W.alloc (.cells #[a, b] t)).cell? ((⟨W.heap.size, 0, none⟩ : Addr).add j) = some u := by
 have hb : Blk (W.alloc (.cells #[a, b] t)) W.heap.size #[a, b] t := Blk.new' rfl
 have hadd : (⟨W.heap.size, 0, none⟩ : Addr).add j = ⟨W.heap.size, j, none⟩ := by unfold Addr.add; split <;> simp_all
 rw [hadd, hb.cell]
 simpa using h
theorem blk_own {β : Type} (B : Nat) (t : TypeId) (f : β -> Array Value) : Own (fun s W => Blk W B (f s) t) := fun s X Y row hs hg hrow => by
 refine (hg.block B hs.lt fun e => ?_).trans hs
 obtain ⟨o, ho, hc⟩ := hrow B e.symm
 rw [show X.heap[B]? = _ from hs] at ho; cases ho; cases hc
theorem RunsIn.keep {w A B : World} {p : Option Addr} {l : List RunT} (h : RunsIn w p l) (hb : Below w.heap.size A B) (ha : RunsIn A p l) : RunsIn B p l := ⟨fun i r hr => by
 obtain ⟨b, o, e, k0, k1, k2⟩ := ha.at' i r hr
 obtain ⟨b', o', e', q0, _⟩ := h.at' i r hr
 rw [e] at e'
 injection e' with e'
 injection e' with e1 e2
 subst e1
 have hlt := cell_lt q0
 exact ⟨b, o, e, (hb.cell (p := ⟨b, _, none⟩) hlt).trans k0, (hb.cell (p := ⟨b, _, none⟩) hlt).trans k1, (hb.cell (p := ⟨b, _, none⟩) hlt).trans k2⟩⟩
theorem IntsIn.keep {w A B : World} {p : Option Addr} {l : List Int} (h : IntsIn w p l) (hb : Below w.heap.size A B) (ha : IntsIn A p l) : IntsIn B p l := ⟨fun i r hr => by
 obtain ⟨b, o, e, k0⟩ := ha.at' i r hr
 obtain ⟨b', o', e', q0⟩ := h.at' i r hr
 rw [e] at e'
 injection e' with e'
 injection e' with e1 e2
 subst e1
 exact ⟨b, o, e, (hb.cell (p := ⟨b, _, none⟩) (cell_lt q0)).trans k0⟩⟩
theorem SegIn.keep {w A B : World} {s : SegT} {p q : Option Addr} (h : SegIn w s p q) (hb : Below w.heap.size A B) (ha : SegIn A s p q) : SegIn B s p q := ⟨h.runs.keep hb ha.runs, h.raw.keep hb ha.raw, h.fewR, h.fewV⟩
def PtsIs (s : SegT) (B : Nat) (v : Value) (w : World) : Prop := w.ownsRow B 91 2 v (ptsL s).length (flatPts (ptsL s))
end Go.Proofs.YtidfcoooccblaaaGreat
namespace Go.Proofs.YtidfcoooccblaaaGreat
open Go.RowKit

theorem blkAny2 {w : World} {b : Nat} {cs : Array Value} {t : TypeId} (h : Blk w b cs t := by repeat (first | with_reducible assumption | with_reducible (apply Blk.set2) | with_reducible (apply Blk.setO) | ((with_reducible (show _ ≠ _)); omega) | with_reducible (refine Blk.new2 (by first | rfl | (simp; done) | (simp; omega) | omega) ?_) | with_reducible (refine Blk.alloc ?_ _) | with_reducible (refine Blk.calls ?_ (by assumption)) | with_reducible (refine Blk.rex ?_ (by assumption) (by first | (simp; done) | (simp; omega))) | ((with_reducible (show @Eq (Array Value) _ _)); rfl) | ((with_reducible (show @Eq Obj _ _)); rfl))) : Blk w b cs t := h
structure PtsIn (w : World) (p : Option Addr) (l : List (Int × Int)) : Prop where
 at' : ∀ (i : Nat) (x : Int × Int), l[i]? = some x -> ∃ b o, p = some ⟨b, o, none⟩ /\ w.cell? ⟨b, o + i * 2, none⟩ = some (x.1) /\ w.cell? ⟨b, o + i * 2 + 1, none⟩ = some (x.2)
theorem PtsIn.below {w w' : World} {p : Option Addr} {l : List (Int × Int)} (h : PtsIn w p l) (hb : Below w.heap.size w w') : PtsIn w' p l := ⟨fun i r hr => by
 obtain ⟨b, o, e, h1, h2⟩ := h.at' i r hr
 exact ⟨b, o, e, (hb.cell (p := ⟨b, _, none⟩) (cell_lt h1)).trans h1, (hb.cell (p := ⟨b, _, none⟩) (cell_lt h1)).trans h2⟩⟩
theorem PtsIn.alloc {w : World} {p : Option Addr} {l : List (Int × Int)} (h : PtsIn w p l) (o : Obj) : PtsIn (w.alloc o) p l := h.below ((Below.refl _ _).alloc (Nat.le_refl _) o)
theorem PtsIn.calls {w w' : World} {p : Option Addr} {l : List (Int × Int)} (h : PtsIn w p l) (hb : Below w.heap.size w w') : PtsIn w' p l := h.below hb
theorem PtsIn.set' {w : World} {p : Option Addr} {o i : Nat} {v : Value} {l : List (Int × Int)} (h : PtsIn w p l) (hne : ∀ a, p = some a -> a.block ≠ o) : PtsIn (w.setCell ⟨o, i, none⟩ v) p l := ⟨fun k r hr => by
 obtain ⟨b, y, e, h1, h2⟩ := h.at' k r hr
 have hc : ∀ z, (w.setCell ⟨o, i, none⟩ v).cell? ⟨b, z, none⟩ = w.cell? ⟨b, z, none⟩ := by
  intro z
  have := heap_setCell_other w ⟨o, i, none⟩ b v (hne _ e)
  simp only [World.cell?, this]
 exact ⟨b, y, e, (hc _).trans h1, (hc _).trans h2⟩⟩
theorem PtsIn.set {w : World} {g x o i : Nat} {v : Value} {l : List (Int × Int)} (h : PtsIn w (some ⟨g, x, none⟩) l) (hne : g ≠ o) : PtsIn (w.setCell ⟨o, i, none⟩ v) (some ⟨g, x, none⟩) l := h.set' fun a e => by cases e; exact hne
theorem PtsIn.drew {w : World} {p : Option Addr} {l : List (Int × Int)} (h : PtsIn w p l) : PtsIn w.drew p l := ⟨h.at'⟩
theorem PtsIn.rex {L : List Nat} {w w' : World} {p : Option Addr} {l : List (Int × Int)} (h : PtsIn w p l) (hr : Rex L w w') (hL : L = []) : PtsIn w' p l := by subst hL; exact h.below hr.below
theorem flatPts_at : ∀ (l : List (Int × Int)) (i : Nat) (x : Int × Int), l[i]? = some x -> (flatPts l)[i * 2]? = some (x.1) /\ (flatPts l)[i * 2 + 1]? = some (x.2)
 | [], i, x, h => by simp at h
 | y :: l, 0, x, h => by
  simp at h
  subst h
  exact ⟨rfl, rfl⟩
 | y :: l, i + 1, x, h => by
  obtain ⟨a, b⟩ := flatPts_at l i x (by simpa using h)
  have e : flatPts (y :: l) = .int .i64 y.1 :: .int .i64 y.2 :: flatPts l := rfl
  rw [e, show (i + 1) * 2 = i * 2 + 1 + 1 by omega]
  exact ⟨by simpa using a, by simpa using b⟩
theorem pts_in {w : World} {g n : Nat} {t : TypeId} {cur : Array Value} {l : List (Int × Int)} (hb : Blk w g cur t) (ht : cur.toList.take n = flatPts l) : PtsIn w (some ⟨g, 0, none⟩) l := ⟨fun i x hx => by
 obtain ⟨a, b⟩ := flatPts_at l i x hx
 refine ⟨g, 0, rfl, ?_, ?_⟩
 ·rw [hb.cell, Nat.zero_add]; exact row_take ht a
 ·rw [hb.cell, Nat.zero_add]; exact row_take ht b⟩
def selB (a b : Int) (x : Int × Int) : Bool := decide (a <= x.1) && decide (x.1 <= b)
def selL (a b : Int) (l : List (Int × Int)) : List Int := (l.filter (selB a b)).map (·.2)
theorem filter_range {α : Type} (pr : α -> Bool) : ∀ (l : List α) (i j : Nat), (∀ k x, l[k]? = some x -> (pr x = true ↔ i <= k /\ k < j)) -> l.filter pr = (l.take j).drop i
 | [], i, j, _ => by simp
 | y :: l, i, j, h => by
  have h0 := h 0 y rfl
  cases j with
  | zero =>
   have ih := filter_range pr l 0 0 (fun k x hx => (h (k + 1) x (by simpa using hx)).trans (by omega))
   have hp : pr y = false := by
    cases hy : pr y with
    | false => rfl
    | true => have := h0.1 hy; omega
   simp [List.filter_cons, hp]
   simpa using ih
  | succ j =>
   cases i with
   | zero =>
    have ih := filter_range pr l 0 j (fun k x hx => (h (k + 1) x (by simpa using hx)).trans (by omega))
    have hp : pr y = true := h0.2 ⟨Nat.le_refl _, by omega⟩
    simp [List.filter_cons, hp, ih]
   | succ i =>
    have ih := filter_range pr l i j (fun k x hx => (h (k + 1) x (by simpa using hx)).trans (by omega))
    have hp : pr y = false := by
     cases hy : pr y with
     | false => rfl
     | true => have := h0.1 hy; omega
    simp [List.filter_cons, hp, ih]
theorem map_pts {s : SegT} (hs : segB s = true) : (ptsL s).map (·.2) = vals s := by
 have h1 := length_times (segB_runs hs)
 have h2 := length_vals hs
 unfold ptsL
 rw [List.map_snd_zip]
 omega
theorem pts_times {s : SegT} (hs : segB s = true) {k : Nat} {x : Int × Int} (h : (ptsL s)[k]? = some x) : (timesL s.runs)[k]? = some x.1 /\ (vals s)[k]? = some x.2 := by
 unfold ptsL at h
 rw [List.getElem?_zip_eq_some] at h
 exact h
theorem sel_slice {s : SegT} (hs : segB s = true) (a b : Int) : selL a b (ptsL s) = if clipI s.runs a < clipJ s.runs a b then slice (vals s) (clipI s.runs a).toNat (clipJ s.runs a b).toNat else [] := by
 have hl := segB_runs hs
 obtain ⟨i0, i1, i2⟩ := below_is s.runs a hl.each hl.chain
 obtain ⟨j0, j1, j2⟩ := below_is s.runs (b + 1) hl.each hl.chain
 have hcb := clip_bd hl a b
 have key : ∀ k x, (ptsL s)[k]? = some x -> (selB a b x = true ↔ (clipI s.runs a).toNat <= k /\ k < (clipJ s.runs a b).toNat) := by
  intro k x hx
  obtain ⟨t1, _⟩ := pts_times hs hx
  have e1 := i2 k x.1 t1
  have e2 := j2 k x.1 t1
  have hk : (k : Int) < cnt s.runs := by
   have := length_times hl
   have := (List.getElem?_eq_some_iff.1 t1).1
   omega
  have hm := times_in s.runs hl x.1 (List.mem_of_getElem? t1)
  simp only [selB, Bool.and_eq_true, decide_eq_true_eq]
  unfold clipI clipJ
  split
  ·omega
  ·split <;> omega
 have := filter_range (selB a b) (ptsL s) _ _ key
 unfold selL
 rw [this]
 split
 ·rw [List.map_drop, List.map_take, map_pts hs]
  rfl
 ·rw [List.drop_eq_nil_of_le (by simp; omega)]
  rfl
theorem partOut_sel {s : SegT} (hs : segB s = true) (a b : Int) : partOut s a b = if selL a b (ptsL s) = [] then (#[.int .i64 0, .int .i64 0, .int .i64 0, .int .i64 0, .int .u64 0], 9) else (partA (selL a b (ptsL s)), 0) := by
 have hl := segB_runs hs
 have hcb := clip_bd hl a b
 have hlv := length_vals hs
 rw [sel_slice hs a b]
 unfold partOut
 rw [if_pos hs]
 by_cases h : clipI s.runs a < clipJ s.runs a b
 ·rw [if_pos h, if_pos h, if_neg (slice_ne (by omega) (by omega))]
 ·rw [if_neg h, if_neg h, if_pos rfl]
structure SerT where
 name : ByteArray
 eps : Int
 floor : Int
 last : Int
 scale : Int
 segs : List SegT
 opn : List (Int × Int)
def letterB (r : Nat) : Bool := decide (97 <= r /\ r <= 122) || decide (48 <= r /\ r <= 57)
def lettersB (s : ByteArray) : Nat -> Nat -> Bool
 | 0, _ => true
 | f + 1, pos => if pos < s.size then letterB (Utf8.decode s pos).1 && lettersB s f (pos + (Utf8.decode s pos).2) else true
def nameB (s : ByteArray) : Bool := decide (1 <= s.size /\ s.size <= 12) && lettersB s s.size 0
def timesS (s : SerT) : List Int := s.segs.flatMap (fun x => timesL x.runs) ++ s.opn.map (·.1)
def btw (n lo hi : Int) : Bool := decide (lo <= n) && decide (n <= hi)
def numsB (s : SerT) : Bool := nameB s.name && (btw s.eps 0 1099511627776 && (btw s.scale (-40) 40 && (btw s.floor 0 281474976710656 && btw s.last (-1) 281474976710656)))
def rowB : Int -> List SegT -> Bool
 | _, [] => true
 | b, x :: l => segB x && (decide (b < firstT x.runs) && rowB (lastT x.runs) l)
def inSegB (eps floor : Int) (x : SegT) : Bool := decide (x.E <= eps) && decide (floor <= lastT x.runs)
def inOpnB (floor : Int) (p : Int × Int) : Bool := btw p.1 floor 281474976710656 && btw p.2 (-2305843009213693952) 2305843009213693952
def riseB : Int -> List Int -> Bool
 | _, [] => true
 | b, t :: l => decide (b < t) && riseB t l
def lastOr : Int -> List Int -> Int
 | b, [] => b
 | _, t :: l => lastOr t l
def keptN (s : SerT) : Nat := ((timesS s).filter fun t => decide (s.floor <= t)).length
def lastB (s : SerT) : Bool := decide (lastOr (-1) (timesS s) < 0) || (s.last == lastOr (-1) (timesS s))
def checkB (s : SerT) : Bool := numsB s && (rowB (-1) s.segs && (decide (s.opn.length < 32) && (s.segs.all (inSegB s.eps s.floor) && (s.opn.all (inOpnB s.floor) && (riseB (-1) (timesS s) && (lastB s && decide (keptN s <= 1024)))))))
def checkE (s : SerT) : Int := if checkB s = true then 0 else 340
theorem rowB_seg : ∀ {l : List SegT} {b : Int}, rowB b l = true -> ∀ x, x ∈ l -> segB x = true
 | [], _, _, x, h => by simp at h
 | y :: l, b, hr, x, h => by
  simp only [rowB, Bool.and_eq_true] at hr
  simp only [List.mem_cons] at h
  rcases h with rfl | h
  ·exact hr.1
  ·exact rowB_seg hr.2.2 x h
theorem riseB_snoc : ∀ (l : List Int) (b t : Int), riseB b (l ++ [t]) = (riseB b l && decide (lastOr b l < t))
 | [], b, t => by simp [riseB, lastOr] <;> rfl
 | y :: l, b, t => by simp only [List.cons_append, riseB, lastOr]; rw [riseB_snoc l, Bool.and_assoc] <;> rfl
theorem lastOr_snoc : ∀ (l : List Int) (b t : Int), lastOr b (l ++ [t]) = t
 | [], _, _ => rfl
 | _ :: l, _, _ => by simp only [List.cons_append, lastOr]; exact lastOr_snoc l _ _
theorem riseB_prefix {pre l : List Int} (h : pre <+: l) (b : Int) (hf : riseB b pre = false) : riseB b l = false := by
 obtain ⟨t, rfl⟩ := h
 induction pre generalizing b with
 | nil => simp [riseB] at hf
 | cons y l ih =>
  simp only [List.cons_append, riseB] at hf ⊢
  cases hd : decide (b < y) with
  | false => rfl
  | true => rw [hd] at hf; simp only [Bool.true_and] at hf ⊢; exact ih _ hf
def segBk (a b : Int) (x : SegT) : List (Int × Int × Int) := ((ptsL x).filter (selB a b)).map fun p => (p.1, p.2, x.E)
def opnBk (a b : Int) (l : List (Int × Int)) : List (Int × Int × Int) := (l.filter (selB a b)).map fun p => (p.1, p.2, 0)
def toldL (s : SerT) (a b : Int) : List (Int × Int × Int) := s.segs.flatMap (segBk (mx a s.floor) b) ++ opnBk (mx a s.floor) b s.opn
def segPc (a b : Int) (x : SegT) : List (List Int × Int) := if selL a b (ptsL x) = [] then [] else [(selL a b (ptsL x), x.E)]
def opnPc (a b : Int) (l : List (Int × Int)) : List (List Int × Int) := (l.filter (selB a b)).map fun p => ([p.2], 0)
def pcsL (s : SerT) (a b : Int) : List (List Int × Int) := s.segs.flatMap (segPc (mx a s.floor) b) ++ opnPc (mx a s.floor) b s.opn
def pairs (g : List Int × Int) : List (Int × Int) := g.1.map fun v => (v, g.2)
theorem segPc_told (a b : Int) (x : SegT) : (segPc a b x).flatMap pairs = (segBk a b x).map (·.2) := by
 unfold segPc segBk
 have e : (selL a b (ptsL x)).map (fun v => (v, x.E)) = (((ptsL x).filter (selB a b)).map fun p => (p.1, p.2, x.E)).map (·.2) := by
  unfold selL
  simp [List.map_map, Function.comp_def]
 split
 ·rename_i h
  rw [<- e, h]; rfl
 ·simp [pairs, <- e]
theorem opnPc_told (a b : Int) (l : List (Int × Int)) : (opnPc a b l).flatMap pairs = (opnBk a b l).map (·.2) := by
 unfold opnPc opnBk
 induction l.filter (selB a b) with
 | nil => rfl
 | cons x l ih => simp only [List.map_cons, List.flatMap_cons, ih]; rfl
theorem pcs_told (s : SerT) (a b : Int) : (pcsL s a b).flatMap pairs = (toldL s a b).map (·.2) := by
 unfold pcsL toldL
 rw [List.flatMap_append, List.map_append, opnPc_told]
 congr 1
 induction s.segs with
 | nil => rfl
 | cons x l ih => simp only [List.flatMap_cons, List.flatMap_append, List.map_append, ih, segPc_told]
def loL (l : List (Int × Int)) : List Int := l.map fun x => x.1 - x.2
def hiL (l : List (Int × Int)) : List Int := l.map fun x => x.1 + x.2
def shA (l : List (Int × Int)) : Array Value := #[.int .i64 l.length, .int .i64 (minL (loL l)), .int .i64 (minL (hiL l)), .int .i64 (maxL (loL l)), .int .i64 (maxL (hiL l)), .int .i64 (hiW (lsum (loL l))), .int .u64 (loW (lsum (loL l))), .int .i64 (hiW (lsum (hiL l))), .int .u64 (loW (lsum (hiL l)))]
def wholeL (s : SerT) (a b : Int) : List (Int × Int) := (toldL s a b).map (·.2)
def wholeE (s : SerT) (a b : Int) : Int := if checkB s = true then (if toldL s a b = [] then 9 else 0) else 340
def wholeV (s : SerT) (a b : Int) : List (Int × Int) := if checkB s = true then wholeL s a b else []
theorem minL_shift (l : List Int) (d : Int) (h : l ≠ []) : minL (l.map fun v => v + d) = minL l + d := by
 obtain ⟨a, b⟩ := minL_is h
 refine minL_eq (List.mem_map.2 ⟨_, a, rfl⟩) fun v hv => ?_
 obtain ⟨u, hu, rfl⟩ := List.mem_map.1 hv
 have := b u hu
 omega
theorem maxL_shift (l : List Int) (d : Int) (h : l ≠ []) : maxL (l.map fun v => v + d) = maxL l + d := by
 obtain ⟨a, b⟩ := maxL_is h
 refine maxL_eq (List.mem_map.2 ⟨_, a, rfl⟩) fun v hv => ?_
 obtain ⟨u, hu, rfl⟩ := List.mem_map.1 hv
 have := b u hu
 omega
theorem lsum_shift (l : List Int) (d : Int) : lsum (l.map fun v => v + d) = lsum l + d * l.length := by
 induction l with
 | nil => simp [lsum]
 | cons x l ih => simp only [List.map_cons, lsum, ih, List.length_cons, Int.natCast_add, Int.mul_add]; omega
theorem loL_pairs (g : List Int) (d : Int) : loL (pairs (g, d)) = g.map fun v => v + -d := by unfold loL pairs; rw [List.map_map]; congr 1
theorem hiL_pairs (g : List Int) (d : Int) : hiL (pairs (g, d)) = g.map fun v => v + d := by unfold hiL pairs; rw [List.map_map]; congr 1
theorem loL_append (a b : List (Int × Int)) : loL (a ++ b) = loL a ++ loL b := by unfold loL; simp
theorem hiL_append (a b : List (Int × Int)) : hiL (a ++ b) = hiL a ++ hiL b := by unfold hiL; simp
theorem length_pairs (g : List Int) (d : Int) : (pairs (g, d)).length = g.length := by simp [pairs]
theorem loL_ne {l : List (Int × Int)} (h : l ≠ []) : loL l ≠ [] := by unfold loL; simpa using h
theorem hiL_ne {l : List (Int × Int)} (h : l ≠ []) : hiL l ≠ [] := by unfold hiL; simpa using h
theorem shA_first {g : List Int} (d : Int) (hg : g ≠ []) : shA ([] ++ pairs (g, d)) = #[.int .i64 (0 + g.length), .int .i64 (minL g - d), .int .i64 (minL g + d), .int .i64 (maxL g - d), .int .i64 (maxL g + d), .int .i64 (hiW (0 + (lsum g - d * g.length))), .int .u64 (loW (0 + (lsum g - d * g.length))), .int .i64 (hiW (0 + (lsum g + d * g.length))), .int .u64 (loW (0 + (lsum g + d * g.length)))] := by
 unfold shA
 rw [List.nil_append, loL_pairs, hiL_pairs, minL_shift _ _ hg, minL_shift _ _ hg, maxL_shift _ _ hg, maxL_shift _ _ hg, lsum_shift, lsum_shift, length_pairs, Int.neg_mul]
 simp only [Int.zero_add, Int.sub_eq_add_neg]
theorem shA_more {l : List (Int × Int)} {g : List Int} (d : Int) (hl : l ≠ []) (hg : g ≠ []) : shA (l ++ pairs (g, d)) = #[.int .i64 (l.length + g.length), .int .i64 (min (minL (loL l)) (minL g - d)), .int .i64 (min (minL (hiL l)) (minL g + d)), .int .i64 (max (maxL (loL l)) (maxL g - d)), .int .i64 (max (maxL (hiL l)) (maxL g + d)), .int .i64 (hiW (lsum (loL l) + (lsum g - d * g.length))), .int .u64 (loW (lsum (loL l) + (lsum g - d * g.length))), .int .i64 (hiW (lsum (hiL l) + (lsum g + d * g.length))), .int .u64 (loW (lsum (hiL l) + (lsum g + d * g.length)))] := by
 have h1 : ∀ d, (g.map fun v => v + d) ≠ [] := fun d => by simpa using hg
 unfold shA
 rw [loL_append, hiL_append, loL_pairs, hiL_pairs, minL_append (loL_ne hl) (h1 _), minL_append (hiL_ne hl) (h1 _), maxL_append (loL_ne hl) (h1 _), maxL_append (hiL_ne hl) (h1 _), lsum_append, lsum_append, minL_shift _ _ hg, minL_shift _ _ hg, maxL_shift _ _ hg, maxL_shift _ _ hg, lsum_shift, lsum_shift, List.length_append, length_pairs, Int.neg_mul, Int.natCast_add]
 simp only [Int.sub_eq_add_neg]
theorem filter_or {α : Type} (p q r : α -> Bool) (h : ∀ x, r x = (p x || q x)) (hd : ∀ x, p x = true -> q x = false) : ∀ l : List α, (l.filter r).Perm (l.filter p ++ l.filter q)
 | [] => by simp
 | x :: l => by
  have ih := filter_or p q r h hd l
  have hx := h x
  cases hp : p x with
  | true =>
   have hq := hd x hp
   rw [hp, Bool.true_or] at hx
   simp only [List.filter_cons, hp, hq, hx, if_true, List.cons_append]
   exact ih.cons x
  | false =>
   rw [hp, Bool.false_or] at hx
   cases hq : q x with
   | true =>
    rw [hq] at hx
    simp only [List.filter_cons, hp, hq, hx, if_true]
    exact (ih.cons x).trans (List.perm_middle.symm)
   | false =>
    rw [hq] at hx
    simp only [List.filter_cons, hp, hq, hx]
    exact ih
theorem told_split (s : SerT) {a mid b : Int} (h1 : a <= mid) (h2 : mid < b) : (toldL s a b).Perm (toldL s a mid ++ toldL s (mid + 1) b) := by
 have m1 := mx_spec a s.floor
 have m2 := mx_spec (mid + 1) s.floor
 have hor : ∀ x, selB (mx a s.floor) b x = (selB (mx a s.floor) mid x || selB (mx (mid + 1) s.floor) b x) := by
  intro x
  rw [Bool.eq_iff_iff]
  simp only [selB, Bool.or_eq_true, Bool.and_eq_true, decide_eq_true_eq]
  omega
 have hdis : ∀ x, selB (mx a s.floor) mid x = true -> selB (mx (mid + 1) s.floor) b x = false := by
  intro x hx
  rw [<- Bool.not_eq_true]
  simp only [selB, Bool.and_eq_true, decide_eq_true_eq] at hx ⊢
  omega
 have hf := fun l => filter_or (selB (mx a s.floor) mid) (selB (mx (mid + 1) s.floor) b) (selB (mx a s.floor) b) hor hdis l
 unfold toldL opnBk
 have e1 : (s.segs.flatMap (segBk (mx a s.floor) b)).Perm (s.segs.flatMap (segBk (mx a s.floor) mid) ++ s.segs.flatMap (segBk (mx (mid + 1) s.floor) b)) := by
  induction s.segs with
  | nil => simp
  | cons x l ih =>
   simp only [List.flatMap_cons]
   have e : (segBk (mx a s.floor) b x).Perm (segBk (mx a s.floor) mid x ++ segBk (mx (mid + 1) s.floor) b x) := by
    unfold segBk
    rw [<- List.map_append]
    exact (hf _).map _
   refine (e.append ih).trans ?_
   rw [List.append_assoc, List.append_assoc]
   refine List.Perm.append_left _ ?_
   rw [<- List.append_assoc, <- List.append_assoc]
   exact List.Perm.append_right _ List.perm_append_comm
 have e2 := (hf s.opn).map fun p => (p.1, p.2, (0 : Int))
 rw [List.map_append] at e2
 refine (e1.append e2).trans ?_
 rw [List.append_assoc, List.append_assoc]
 refine List.Perm.append_left _ ?_
 rw [<- List.append_assoc, <- List.append_assoc]
 exact List.Perm.append_right _ List.perm_append_comm
theorem lsum_perm {a b : List Int} (h : a.Perm b) : lsum a = lsum b := by
 induction h with
 | nil => rfl
 | cons x _ ih => simp [lsum, ih]
 | swap x y l => simp [lsum]; omega
 | trans _ _ ih1 ih2 => exact ih1.trans ih2
theorem minL_perm {a b : List Int} (h : a.Perm b) : minL a = minL b := by
 by_cases hb : b = []
 ·subst hb; rw [h.eq_nil]
 ·obtain ⟨x, y⟩ := minL_is hb
  exact minL_eq (h.mem_iff.2 x) fun v hv => y v (h.mem_iff.1 hv)
theorem maxL_perm {a b : List Int} (h : a.Perm b) : maxL a = maxL b := by
 by_cases hb : b = []
 ·subst hb; rw [h.eq_nil]
 ·obtain ⟨x, y⟩ := maxL_is hb
  exact maxL_eq (h.mem_iff.2 x) fun v hv => y v (h.mem_iff.1 hv)
theorem told_floor (s : SerT) (a b : Int) (h : b < a) : toldL s a b = [] := by
 have m1 := mx_spec a s.floor
 have hf : ∀ x, selB (mx a s.floor) b x = false := by
  intro x
  rw [<- Bool.not_eq_true]
  simp only [selB, Bool.and_eq_true, decide_eq_true_eq]
  omega
 have hl : ∀ l : List (Int × Int), l.filter (selB (mx a s.floor) b) = [] := fun l => List.filter_eq_nil_iff.2 fun x _ => by rw [hf x]; simp
 unfold toldL segBk opnBk
 simp [hl]
def l0 : List RunT := [⟨10, 2, 4⟩]
def s0 : SegT := ⟨2, l0, 5, 0, 1, 2, [], 3⟩
theorem ints_nil (w : World) (q : Option Addr) : IntsIn w q [] := ⟨fun i x h => by simp at h⟩

def TyP (w : World) (p : Option Addr) (T : TypeId) : Prop := ∀ a, p = some a -> ∃ cur fz, w.heap[a.block]? = some (.cells cur T fz)
theorem TyP.below {w w' : World} {p : Option Addr} {T : TypeId} (h : TyP w p T) (hb : Below w.heap.size w w') : TyP w' p T := fun a e => by
 obtain ⟨cur, fz, hh⟩ := h a e
 exact ⟨cur, fz, (hb.block a.block (Array.getElem?_eq_some_iff.1 hh).1).trans hh⟩
theorem TyP.alloc {w : World} {p : Option Addr} {T : TypeId} (h : TyP w p T) (o : Obj) : TyP (w.alloc o) p T := h.below ((Below.refl _ _).alloc (Nat.le_refl _) o)
theorem TyP.setCell {w : World} {p : Option Addr} {T : TypeId} (h : TyP w p T) (a : Addr) (v : Value) : TyP (w.setCell a v) p T := fun b e => by
 obtain ⟨cur, fz, hh⟩ := h b e
 by_cases hb : b.block = a.block
 ·refine ⟨if a.spot.isSome then cur else cur.setIfInBounds a.off v, fz, ?_⟩
  simp only [World.setCell, Array.getElem?_modify]
  rw [if_pos hb.symm, hh]; rfl
 ·exact ⟨cur, fz, (heap_setCell_other w a b.block v hb).trans hh⟩
theorem TyP.new {w : World} {cs : Array Value} {T : TypeId} {g : Nat} (h : w.heap.size = g) : TyP (w.alloc (.cells cs T)) (some ⟨g, 0, none⟩) T := fun a e => by
 subst h
 cases e
 exact ⟨cs, (0, 0), heap_alloc_new w _⟩
theorem RunsIn.take {w : World} {p : Option Addr} {l : List RunT} (h : RunsIn w p l) (k : Nat) : RunsIn w p (l.take k) := ⟨fun i r hr => h.at' i r (by
 rw [List.getElem?_take] at hr
 split at hr
 ·exact hr
 ·cases hr)⟩
theorem IntsIn.take {w : World} {p : Option Addr} {l : List Int} (h : IntsIn w p l) (k : Nat) : IntsIn w p (l.take k) := ⟨fun i r hr => h.at' i r (by
 rw [List.getElem?_take] at hr
 split at hr
 ·exact hr
 ·cases hr)⟩
structure Came (w : World) (s : SegT) (p q : Option Addr) (cap vc : Nat) : Prop where
 runs : RunsIn w p s.runs
 raw : IntsIn w q s.raw
 nilR : p = none -> s.runs = [] /\ cap = 0
 nilV : q = none -> s.raw = [] /\ vc = 0
 capR : s.runs.length <= cap
 capV : s.raw.length <= vc
 maxR : s.runs.length <= 9223372036854775807
 maxV : s.raw.length <= 9223372036854775807
def ownS (s : SegT) : SegT := ⟨s.K, s.runs.take 300, s.A, s.R, s.n, s.d, s.raw.take 300, s.E⟩
def OwnOut (s : SegT) (w : World) (e : Ending) (w' : World) : Prop := ∃ p' cap' q' vc', e = .returned (.agg (segA (ownS s) p' q' cap' vc')) /\ Below w.heap.size w w' /\ SegIn w' (ownS s) p' q' /\ (ownS s).raw.length <= vc'
def OwnOutT (s : SegT) (w : World) (e : Ending) (w' : World) : Prop := ∃ p' cap' q' vc', e = .returned (.agg (segA (ownS s) p' q' cap' vc')) /\ Below w.heap.size w w' /\ SegIn w' (ownS s) p' q' /\ (ownS s).raw.length <= vc' /\ TyP w' p' 144 /\ TyP w' q' 2
structure SegP (w : World) (s : SegT) (p q : Option Addr) : Prop where
 seg : SegIn w s p q
theorem SegP.below {w w' : World} {s : SegT} {p q : Option Addr} (h : SegP w s p q) (hb : Below w.heap.size w w') : SegP w' s p q := ⟨h.seg.below hb⟩
theorem SegP.alloc {w : World} {s : SegT} {p q : Option Addr} (h : SegP w s p q) (o : Obj) : SegP (w.alloc o) s p q := h.below ((Below.refl _ _).alloc (Nat.le_refl _) o)
theorem SegP.rex {L : List Nat} {w w' : World} {s : SegT} {p q : Option Addr} (h : SegP w s p q) (hr : Rex L w w') (hL : L = []) : SegP w' s p q := by subst hL; exact h.below hr.below
theorem SegP.drew {w : World} {s : SegT} {p q : Option Addr} (h : SegP w s p q) : SegP w.drew s p q := ⟨⟨⟨h.seg.runs.at'⟩, ⟨h.seg.raw.at'⟩, h.seg.fewR, h.seg.fewV⟩⟩
structure PtsP (w : World) (b o : Nat) (l : List (Int × Int)) : Prop where
 pts : PtsIn w (some ⟨b, o, none⟩) l
theorem PtsP.below {w w' : World} {b o : Nat} {l : List (Int × Int)} (h : PtsP w b o l) (hb : Below w.heap.size w w') : PtsP w' b o l := ⟨h.pts.below hb⟩
theorem PtsP.rex {L : List Nat} {w w' : World} {b o : Nat} {l : List (Int × Int)} (h : PtsP w b o l) (hr : Rex L w w') (hL : L = []) : PtsP w' b o l := by subst hL; exact h.below hr.below
theorem PtsP.drew {w : World} {b o : Nat} {l : List (Int × Int)} (h : PtsP w b o l) : PtsP w.drew b o l := ⟨⟨h.pts.at'⟩⟩
theorem PtsP.cellAt {w : World} {b o : Nat} {l : List (Int × Int)} (h : PtsP w b o l) {i : Nat} {x : Int × Int} (hx : l[i]? = some x) : w.cell? ⟨b, o + i * 2, none⟩ = some (x.1) /\ w.cell? ⟨b, o + i * 2 + 1, none⟩ = some (x.2) := by
 obtain ⟨b', o', e, h1, h2⟩ := h.pts.at' i x hx
 cases e
 exact ⟨h1, h2⟩
def spE (a b : Int) : Int := if a <= b then 0 else 140
def spsE (l : List (Int × Int)) : Int := if l.all (fun x => decide (x.1 <= x.2)) = true then 0 else 140
theorem c_spCheck (a b : Int) (w : World) : Calls Tryz.prog 96 #[.agg #[a, b]] w fun e w' => e = .returned (.int .i64 (spE a b)) /\ Below w.heap.size w w' := by
 unfold spE
 by_cases h : a <= b
 ·rw [if_pos h]
  go_enter Tryz.func96, Tryz.ntmps96
  go_wp2
  go_ret
  exact ⟨rfl, belowAny⟩
 ·rw [if_neg h]
  have h' : b < a := by omega
  go_enter Tryz.func96, Tryz.ntmps96
  go_wp2
  go_ret
  exact ⟨rfl, belowAny⟩
def spcRel (w : World) (p : Option Addr) (cap : Nat) (l : List (Int × Int)) (a' : Act) (W : World) : Prop :=
 Below w.heap.size w W /\ ∃ i : Nat, (∃ u : Nat -> Value, a' = { tmps := #[.slice p l.length cap, u 1, u 2, u 3, u 4, u 5, .slice p l.length cap, .int .i64 (l.length : Int), .int .i64 (i : Int), u 9, u 10, u 11, u 12, u 13, u 14, u 15, u 16, u 17], defers := [] }) /\ i <= l.length /\ ∀ k x, k < i -> l[k]? = some x -> x.1 <= x.2
theorem c_spChecked (p : Option Addr) (cap : Nat) (l : List (Int × Int)) (w : World) (hlen : l.length <= 1000000) (h : PtsIn w p l) :
  Calls Tryz.prog 92 #[.slice p l.length cap] w fun e w' => e = .returned (.int .i64 (spsE l)) /\ Below w.heap.size w w' := by
 go_enter Tryz.func92, Tryz.ntmps92
 go_wp2
 refine wp_loop (spcRel w p cap l) (fun a' _ => l.length - (intAt (a'.tmps.getD 8 undef)).toNat) ?_ ?_
 ·unfold spcRel
  exact ⟨Below.refl _ _, 0, frame_ex rfl, Nat.zero_le _, fun k x hk => by omega⟩
 ·rintro a' W ⟨hW0, i, ⟨u, rfl⟩, hi', hall⟩
  have hz := hW0.size
  replace hall := Lib.hid hall
  rcases Nat.lt_or_ge i l.length with hlt | hge
  ·obtain ⟨⟨x, y⟩, tr⟩ : ∃ r, l[i]? = some r := ⟨l[i]'(by omega), List.getElem?_eq_getElem (by omega)⟩
   obtain ⟨b, o, rfl, q0, q1⟩ := (h.below hW0).at' i _ tr
   replace tr := Lib.hid tr
   simp only at q0 q1
   have cb := c_spCheck x y
   unfold spE at cb
   by_cases hxy : x <= y
   ·rw [if_pos hxy] at cb
    replace cb := Lib.hid cb
    replace hxy := Lib.hid hxy
    go_wp2_with fail
    refine (cb.out _).mono ?_
    rintro e w21 ⟨rfl, hb21⟩
    have z22 := hb21.size
    try simp at z22
    have b1 : Blk w21 W.heap.size #[x, y] 33 := blkAny2
    have hW : Below W.heap.size W w21 := belowAny
    have z23 := b1.lt
    clear hb21
    have k1 := b1.cell
    have f1 := b1.frozen
    go_wp2
    rw [show (i : Int) + 1 = ((i + 1 : Nat) : Int) by omega]
    refine ⟨?_, by simp [intAt]; omega⟩
    unfold spcRel
    exact ⟨hW0.trans (hW.mono hz), i + 1, frame_ex rfl, by omega, fun k z hk hz => by
     rcases Nat.lt_or_ge k i with h | h
     ·exact hall.out k z h hz
     ·obtain rfl : k = i := by omega
      rw [tr.out] at hz
      injection hz with hz
      rw [<- hz]; exact hxy.out⟩
   ·rw [if_neg hxy] at cb
    replace cb := Lib.hid cb
    have hno := Lib.hid (show spsE l = 140 by
     unfold spsE
     rw [if_neg]
     intro hh
     have := List.all_eq_true.1 hh _ (List.mem_of_getElem? tr.out)
     simp at this
     exact hxy this)
    clear hxy
    go_wp2_with fail
    refine (cb.out _).mono ?_
    rintro e w21 ⟨rfl, hb21⟩
    have z22 := hb21.size
    try simp at z22
    have b1 : Blk w21 W.heap.size #[x, y] 33 := blkAny2
    have hW : Below W.heap.size W w21 := belowAny
    have z23 := b1.lt
    clear hb21
    have k1 := b1.cell
    have f1 := b1.frozen
    go_wp2
    go_ret
    exact ⟨by rw [hno.out]; rfl, hW0.trans (hW.mono hz)⟩
  ·obtain rfl : i = l.length := by omega
   have hyes := Lib.hid (show spsE l = 0 by
    unfold spsE
    rw [if_pos]
    rw [List.all_eq_true]
    intro x hx
    obtain ⟨k, hk⟩ := List.getElem?_of_mem hx
    simpa using hall.out k x (List.getElem?_eq_some_iff.1 hk).1 hk)
   go_wp2
   go_ret
   exact ⟨by rw [hyes.out]; rfl, hW0⟩
theorem c_spEnd1 (a b : Int) (w : World) : Calls Tryz.prog 148 #[.agg #[a, b]] w fun e w' => e = .returned (a) /\ Below w.heap.size w w' := by
 go_enter Tryz.func148, Tryz.ntmps148
 go_wp2
 go_ret
 exact ⟨rfl, belowAny⟩
theorem c_spEnd2 (a b : Int) (w : World) : Calls Tryz.prog 149 #[.agg #[a, b]] w fun e w' => e = .returned (b) /\ Below w.heap.size w w' := by
 go_enter Tryz.func149, Tryz.ntmps149
 go_wp2
 go_ret
 exact ⟨rfl, belowAny⟩
theorem lsum_step {α : Type} {l : List α} {i : Nat} {x : α} (g : α -> Int) (h : l[i]? = some x) : lsum ((l.take (i + 1)).map g) = lsum ((l.take i).map g) + g x := by
 rw [List.take_add_one, h, List.map_append, lsum_append]
 simp [lsum]
theorem ends_bd {α : Type} (g : α -> Int) (l : List α) (h : ∀ x, x ∈ l -> I64 (g x)) : -(9223372036854775808 * l.length) <= lsum (l.map g) /\ lsum (l.map g) <= 9223372036854775808 * l.length := by
 have := lsum_bd (l := l.map g) (B := 9223372036854775808) (fun v hv => by
  obtain ⟨x, hx, rfl⟩ := List.mem_map.1 hv
  have := h x hx
  unfold I64 at this
  omega)
 simpa using this
theorem tot_step (S x : Int) (hS : -18446744073709551616000000 <= S /\ S <= 18446744073709551616000000) (hx : I64 x) :
  wrap64 (hiW S + wrap64 (x / 9223372036854775808 + wrap64 (sumC (loW S) (IntKind.u64.wrap x) 0))) = hiW (S + x) /\ sumLo (loW S) (IntKind.u64.wrap x) 0 = loW (S + x) := by
 obtain ⟨h1, h2⟩ := hx
 rw [u64_eq x, show x % 18446744073709551616 = loW x from rfl]
 have w1 : ∀ z : Int, -1000000000000000000 <= z -> z <= 1000000000000000000 -> wrap64 z = z := fun z h1 h2 => by rw [wrap64_eq]; omega
 have e1 : x / 9223372036854775808 = hiW x := by unfold hiW; omega
 have e2 : sumC (loW S) (loW x) 0 = hiW (S + x) - hiW S - hiW x := by unfold sumC loW hiW; omega
 have b1 : 0 <= sumC (loW S) (loW x) 0 /\ sumC (loW S) (loW x) 0 <= 1 := by unfold sumC loW; omega
 have b2 : -1 <= hiW x /\ hiW x <= 0 := by unfold hiW; omega
 have b3 : -1000001 <= hiW S /\ hiW S <= 1000001 := by unfold hiW; omega
 refine ⟨?_, ?_⟩
 ·rw [e1, w1 (sumC (loW S) (loW x) 0) (by omega) (by omega), w1 (hiW x + _) (by omega) (by omega), w1 (hiW S + _) (by omega) (by omega), e2]; omega
 ·unfold sumLo loW; omega
theorem tot_fin (S : Int) (hS : -18446744073709551616000000 <= S /\ S <= 18446744073709551616000000) : wrap64 (loW S) = wrap64 S /\ (hiW S == wrap64 (loW S) / 9223372036854775808) = inI S := by
 refine ⟨by rw [wrap64_eq, wrap64_eq]; unfold loW; omega, ?_⟩
 rw [Bool.eq_iff_iff, wrap64_eq]
 unfold inI
 simp only [beq_iff_eq, decide_eq_true_eq]
 unfold I64 hiW loW
 omega
def spt1Rel (w : World) (p : Option Addr) (cap : Nat) (l : List (Int × Int)) (a' : Act) (W : World) : Prop :=
 Below w.heap.size w W /\ ∃ i : Nat, (∃ u : Nat -> Value, a' = { tmps := #[.slice p l.length cap, .func (.func 148) #[] #[], u 2, u 3, u 4, u 5, .int .u64 (loW (lsum ((l.take i).map (·.1)))), .int .i64 (hiW (lsum ((l.take i).map (·.1)))), u 8, u 9, u 10, u 11, .slice p l.length cap, .int .i64 (l.length : Int), .int .i64 (i : Int), u 15, u 16, u 17, u 18, u 19, u 20, u 21, u 22, u 23, u 24, u 25, u 26, u 27, u 28, u 29, u 30, u 31, u 32, u 33, u 34, u 35, u 36, u 37, u 38, u 39, u 40, u 41, u 42], defers := [] }) /\ i <= l.length
theorem c_spTot1 (p : Option Addr) (cap : Nat) (l : List (Int × Int)) (w : World) (hlen : l.length <= 1000000) (h : PtsIn w p l) (hv : ∀ x, x ∈ l -> I64 x.1 /\ I64 x.2) :
  Calls Tryz.prog 94 #[.slice p l.length cap, .func (.func 148) #[] #[]] w fun e w' => e = .returned (.tuple #[.int .i64 (wrap64 (lsum (l.map (·.1)))), .bool (inI (lsum (l.map (·.1))))]) /\ Below w.heap.size w w' := by
 have hv0 := hv
 replace hv := Lib.hid hv
 go_enter Tryz.func94, Tryz.ntmps94
 go_wp2
 refine wp_loop (spt1Rel w p cap l) (fun a' _ => l.length - (intAt (a'.tmps.getD 14 undef)).toNat) ?_ ?_
 ·unfold spt1Rel
  exact ⟨Below.refl _ _, 0, frame_ex rfl, Nat.zero_le _⟩
 ·rintro a' W ⟨hW0, i, ⟨u, rfl⟩, hi'⟩
  have hz := hW0.size
  rcases Nat.lt_or_ge i l.length with hlt | hge
  ·obtain ⟨⟨x, y⟩, tr⟩ : ∃ r, l[i]? = some r := ⟨l[i]'(by omega), List.getElem?_eq_getElem (by omega)⟩
   obtain ⟨b, o, rfl, q0, q1⟩ := (h.below hW0).at' i _ tr
   have hx := hv.out _ (List.mem_of_getElem? tr)
   have hstep := Lib.hid (lsum_step (fun z : Int × Int => z.1) tr)
   have hbd := ends_bd (fun z : Int × Int => z.1) (l.take i) (fun z hz => (hv.out z (List.mem_of_mem_take hz)).1)
   have hbl : (l.take i).length <= 1000000 := by rw [List.length_take]; omega
   have hxv : I64 x := hx.1
   clear hx tr
   simp only at q0 q1
   obtain ⟨S, hS⟩ : ∃ S, lsum ((l.take i).map (·.1)) = S := ⟨_, rfl⟩
   rw [hS] at hstep hbd ⊢
   clear hS
   obtain ⟨e1, e2⟩ := tot_step S x (by omega) hxv
   have hL := loW_bd S
   have hL2 := u64_bd x
   obtain ⟨e4, e5⟩ := hxv
   clear hbd hbl
   have a1 := add64 (loW S) (IntKind.u64.wrap x) 0 hL.1 hL2.1 (by decide) (by decide)
   obtain ⟨HI, hHI⟩ : ∃ z, hiW S = z := ⟨_, rfl⟩
   obtain ⟨LO, hLO⟩ : ∃ z, loW S = z := ⟨_, rfl⟩
   rw [hHI] at e1 ⊢
   rw [hLO] at e1 e2 a1 ⊢
   replace e1 := Lib.hid e1
   replace e2 := Lib.hid e2
   clear hHI hLO hL hL2
   go_wp2_with fail
   refine (c_spEnd1 _ _ _).mono ?_
   rintro e w21 ⟨rfl, hb21⟩
   have z22 := hb21.size
   try simp at z22
   have b1 : Blk w21 W.heap.size #[x, y] 33 := blkAny2
   have hW : Below W.heap.size W w21 := belowAny
   have z23 := b1.lt
   clear hb21
   have k1 := b1.cell
   have f1 := b1.frozen
   go_wp2
   rw [show (i : Int) + 1 = ((i + 1 : Nat) : Int) by omega]
   refine ⟨?_, by simp [intAt]; omega⟩
   unfold spt1Rel
   exact ⟨hW0.trans (hW.mono hz), i + 1, by rw [hstep.out, <- e1.out, <- e2.out]; exact frame_ex rfl, by omega⟩
  ·obtain rfl : i = l.length := by omega
   rw [List.take_length]
   have hbd := ends_bd (fun z : Int × Int => z.1) l (fun z hz => (hv.out z hz).1)
   obtain ⟨S, hS⟩ : ∃ S, lsum (l.map (·.1)) = S := ⟨_, rfl⟩
   rw [hS] at hbd ⊢
   have e1 := Lib.hid (tot_fin S (by omega))
   replace hS := Lib.hid hS
   clear hbd
   go_wp2
   go_ret2
   refine ⟨?_, hW0⟩
   rw [hS.out, <- e1.out.1, <- e1.out.2]
   rfl
def spt2Rel (w : World) (p : Option Addr) (cap : Nat) (l : List (Int × Int)) (a' : Act) (W : World) : Prop :=
 Below w.heap.size w W /\ ∃ i : Nat, (∃ u : Nat -> Value, a' = { tmps := #[.slice p l.length cap, .func (.func 149) #[] #[], u 2, u 3, u 4, u 5, .int .u64 (loW (lsum ((l.take i).map (·.2)))), .int .i64 (hiW (lsum ((l.take i).map (·.2)))), u 8, u 9, u 10, u 11, .slice p l.length cap, .int .i64 (l.length : Int), .int .i64 (i : Int), u 15, u 16, u 17, u 18, u 19, u 20, u 21, u 22, u 23, u 24, u 25, u 26, u 27, u 28, u 29, u 30, u 31, u 32, u 33, u 34, u 35, u 36, u 37, u 38, u 39, u 40, u 41, u 42], defers := [] }) /\ i <= l.length
theorem c_spTot2 (p : Option Addr) (cap : Nat) (l : List (Int × Int)) (w : World) (hlen : l.length <= 1000000) (h : PtsIn w p l) (hv : ∀ x, x ∈ l -> I64 x.1 /\ I64 x.2) :
  Calls Tryz.prog 94 #[.slice p l.length cap, .func (.func 149) #[] #[]] w fun e w' => e = .returned (.tuple #[.int .i64 (wrap64 (lsum (l.map (·.2)))), .bool (inI (lsum (l.map (·.2))))]) /\ Below w.heap.size w w' := by
 have hv0 := hv
 replace hv := Lib.hid hv
 go_enter Tryz.func94, Tryz.ntmps94
 go_wp2
 refine wp_loop (spt2Rel w p cap l) (fun a' _ => l.length - (intAt (a'.tmps.getD 14 undef)).toNat) ?_ ?_
 ·unfold spt2Rel
  exact ⟨Below.refl _ _, 0, frame_ex rfl, Nat.zero_le _⟩
 ·rintro a' W ⟨hW0, i, ⟨u, rfl⟩, hi'⟩
  have hz := hW0.size
  rcases Nat.lt_or_ge i l.length with hlt | hge
  ·obtain ⟨⟨x, y⟩, tr⟩ : ∃ r, l[i]? = some r := ⟨l[i]'(by omega), List.getElem?_eq_getElem (by omega)⟩
   obtain ⟨b, o, rfl, q0, q1⟩ := (h.below hW0).at' i _ tr
   have hx := hv.out _ (List.mem_of_getElem? tr)
   have hstep := Lib.hid (lsum_step (fun z : Int × Int => z.2) tr)
   have hbd := ends_bd (fun z : Int × Int => z.2) (l.take i) (fun z hz => (hv.out z (List.mem_of_mem_take hz)).2)
   have hbl : (l.take i).length <= 1000000 := by rw [List.length_take]; omega
   have hxv : I64 y := hx.2
   clear hx tr
   simp only at q0 q1
   obtain ⟨S, hS⟩ : ∃ S, lsum ((l.take i).map (·.2)) = S := ⟨_, rfl⟩
   rw [hS] at hstep hbd ⊢
   clear hS
   obtain ⟨e1, e2⟩ := tot_step S y (by omega) hxv
   have hL := loW_bd S
   have hL2 := u64_bd y
   obtain ⟨e4, e5⟩ := hxv
   clear hbd hbl
   have a1 := add64 (loW S) (IntKind.u64.wrap y) 0 hL.1 hL2.1 (by decide) (by decide)
   obtain ⟨HI, hHI⟩ : ∃ z, hiW S = z := ⟨_, rfl⟩
   obtain ⟨LO, hLO⟩ : ∃ z, loW S = z := ⟨_, rfl⟩
   rw [hHI] at e1 ⊢
   rw [hLO] at e1 e2 a1 ⊢
   replace e1 := Lib.hid e1
   replace e2 := Lib.hid e2
   clear hHI hLO hL hL2
   go_wp2_with fail
   refine (c_spEnd2 _ _ _).mono ?_
   rintro e w21 ⟨rfl, hb21⟩
   have z22 := hb21.size
   try simp at z22
   have b1 : Blk w21 W.heap.size #[x, y] 33 := blkAny2
   have hW : Below W.heap.size W w21 := belowAny
   have z23 := b1.lt
   clear hb21
   have k1 := b1.cell
   have f1 := b1.frozen
   go_wp2
   rw [show (i : Int) + 1 = ((i + 1 : Nat) : Int) by omega]
   refine ⟨?_, by simp [intAt]; omega⟩
   unfold spt2Rel
   exact ⟨hW0.trans (hW.mono hz), i + 1, by rw [hstep.out, <- e1.out, <- e2.out]; exact frame_ex rfl, by omega⟩
  ·obtain rfl : i = l.length := by omega
   rw [List.take_length]
   have hbd := ends_bd (fun z : Int × Int => z.2) l (fun z hz => (hv.out z hz).2)
   obtain ⟨S, hS⟩ : ∃ S, lsum (l.map (·.2)) = S := ⟨_, rfl⟩
   rw [hS] at hbd ⊢
   have e1 := Lib.hid (tot_fin S (by omega))
   replace hS := Lib.hid hS
   clear hbd
   go_wp2
   go_ret2
   refine ⟨?_, hW0⟩
   rw [hS.out, <- e1.out.1, <- e1.out.2]
   rfl
def valD : List Int -> Nat
 | [] => 0
 | d :: l => d.toNat + 2 * valD l
def Dig (l : List Int) : Prop := ∀ d, d ∈ l -> d = 0 ∨ d = 1
def Canon (l : List Int) : Prop := l = [] ∨ 2 ^ (l.length - 1) <= valD l
theorem Dig.nil : Dig [] := fun d h => by simp at h
theorem Dig.cons {l : List Int} {d : Int} (h : Dig l) (hd : d = 0 ∨ d = 1) : Dig (d :: l) := fun x hx => by
 rcases List.mem_cons.1 hx with h1 | h1
 ·subst h1; exact hd
 ·exact h x h1
theorem Dig.take {l : List Int} (h : Dig l) (k : Nat) : Dig (l.take k) := fun x hx => h x (List.mem_of_mem_take hx)
theorem Dig.drop {l : List Int} (h : Dig l) (k : Nat) : Dig (l.drop k) := fun x hx => h x (List.mem_of_mem_drop hx)
theorem Dig.at {l : List Int} (h : Dig l) {k : Nat} {d : Int} (hk : l[k]? = some d) : d = 0 ∨ d = 1 := h d (List.mem_of_getElem? hk)
theorem Canon.nil : Canon [] := .inl rfl
structure DigsIn (w : World) (p : Option Addr) (l : List Int) : Prop where
 at' : ∀ (i : Nat) (x : Int), l[i]? = some x -> ∃ b o, p = some ⟨b, o, none⟩ /\ w.cell? ⟨b, o + i, none⟩ = some (x)
 typ : ∀ a, p = some a -> ∃ cur fz, w.heap[a.block]? = some (.cells cur 3 fz)
theorem DigsIn.below {w w' : World} {p : Option Addr} {l : List Int} (h : DigsIn w p l) (hb : Below w.heap.size w w') : DigsIn w' p l :=
 ⟨((⟨h.at'⟩ : IntsIn w p l).below hb).at', fun a e => by
  obtain ⟨cur, fz, hh⟩ := h.typ a e
  exact ⟨cur, fz, (hb.block a.block (Array.getElem?_eq_some_iff.1 hh).1).trans hh⟩⟩
theorem DigsIn.take {w : World} {p : Option Addr} {l : List Int} (h : DigsIn w p l) (k : Nat) : DigsIn w p (l.take k) := ⟨fun i r hr => h.at' i r (by
 rw [List.getElem?_take] at hr
 split at hr
 ·exact hr
 ·cases hr), h.typ⟩
def Bits (w : World) (v : Value) (n : Nat) : Prop := ∃ p l cap, v = .slice p l.length cap /\ l.length <= cap /\ l.length <= 1000 /\ (p = none -> l = [] /\ cap = 0) /\ DigsIn w p l /\ Dig l /\ Canon l /\ valD l = n
theorem Bits.below {w w' : World} {v : Value} {n : Nat} (h : Bits w v n) (hb : Below w.heap.size w w') : Bits w' v n := by
 obtain ⟨p, l, cap, h1, h2, h3, h4, h5, h6⟩ := h
 exact ⟨p, l, cap, h1, h2, h3, h4, h5.below hb, h6⟩
theorem Bits.rex {L : List Nat} {w w' : World} {v : Value} {n : Nat} (h : Bits w v n) (hr : Rex L w w') (hL : L = []) : Bits w' v n := by subst hL; exact h.below hr.below
theorem Bits.drew {w : World} {v : Value} {n : Nat} (h : Bits w v n) : Bits w.drew v n := by
 obtain ⟨p, l, cap, h1, h2, h3, h4, h5, h6⟩ := h
 exact ⟨p, l, cap, h1, h2, h3, h4, ⟨h5.at', h5.typ⟩, h6⟩
theorem Bits.zero (w : World) : Bits w (.slice none 0 0) 0 := ⟨none, [], 0, rfl, by simp, by simp, fun _ => ⟨rfl, rfl⟩, ⟨fun i x h => by simp at h, fun a e => by cases e⟩, Dig.nil, Canon.nil, rfl⟩
theorem below_append {w0 W w1 : World} {B : Nat} {e : TypeId} {s k : Nat} {v : Value} {xs : List Value} {tmp : Obj} (hW : Below B w0 W) (hB : B <= W.heap.size) (hrow : W.ownsRow B e s v k xs) (hgr : (W.alloc tmp).grownBy w1 v.ownBlock) : Below B w0 w1 := by
 refine (hW.alloc hB tmp).grown hgr (by simp; omega) fun j ej => ?_
 rcases hrow.2 with ⟨rfl, _⟩ | ⟨g, cap, cur, rfl, hb, _, _⟩
 ·simp [Value.ownBlock] at ej
 ·obtain rfl : g = j := by simpa [Value.ownBlock] using ej
  exact hb
def sizeRel (u0 : Nat) (w : World) (a' : Act) (W : World) : Prop :=
 Below w.heap.size w W /\ ∃ (l : List Int) (u : Nat) (v : Value), (∃ x : Nat -> Value, a' = { tmps := #[.int .u64 (u : Int), x 1, x 2, v, x 4, x 5, x 6, x 7, x 8, x 9, x 10, x 11, x 12, x 13, x 14], defers := [] }) /\
  W.ownsRow w.heap.size 3 1 v l.length (l.map (Value.int .i64)) /\ Dig l /\ valD l + 2 ^ l.length * u = u0 /\ l.length <= 64 /\ u < 2 ^ (64 - l.length) /\ (u = 0 -> Canon l)
def powRel (n : Nat) (w : World) (a' : Act) (W : World) : Prop :=
 Below w.heap.size w W /\ ∃ (k : Nat) (v : Value), (∃ x : Nat -> Value, a' = { tmps := #[.int .i64 (n : Int), x 1, x 2, v, .int .i64 (k : Int), x 5, x 6, x 7, x 8, x 9, x 10, x 11, x 12, x 13, x 14, x 15], defers := [] }) /\
  W.ownsRow w.heap.size 3 1 v k ((List.replicate k (0 : Int)).map (Value.int .i64)) /\ k <= n
theorem DigsIn.taken {w : World} {p : Option Addr} {l : List Int} (h : DigsIn w p l) (k : Nat) : DigsIn w p (l.take k) := h.take k
def trimRel (w : World) (b o cap : Nat) (l : List Int) (a' : Act) (W : World) : Prop :=
 Below w.heap.size w W /\ ∃ k : Nat, (∃ u : Nat -> Value, a' = { tmps := #[.slice (some ⟨b, o, none⟩) l.length cap, u 1, u 2, .int .i64 (k : Int), u 4, u 5, u 6, u 7, u 8, u 9, u 10, u 11, u 12, u 13, u 14, u 15, u 16, u 17, u 18, u 19, u 20], defers := [] }) /\ k <= l.length /\ valD (l.take k) = valD l
end Go.Proofs.YtidfcoooccblaaaGreat
