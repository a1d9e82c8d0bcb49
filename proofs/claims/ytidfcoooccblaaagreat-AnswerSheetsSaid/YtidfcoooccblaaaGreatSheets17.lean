/- Parts of the proof that follows: The document's segments: Kind, Right walked. | The document's segments: Right, Points told. | Reference 25: Total. No condition but that they are few. | Append to a row of one's own: the row stays in its block or is in a new one. No condition. | Reference 25: Bounds. No condition but that they are few. | Reference 25: Back: what is told at each kept time. No condition but that the segments may be. -/
import Derived.Test.YtidfcoooccblaaaGreatSheets16
set_option maxRecDepth 100000
set_option maxHeartbeats 8000000
set_option linter.unusedSimpArgs false
set_option linter.unusedVariables false
namespace Go.Proofs.YtidfcoooccblaaaGreat
open Go.RowKit
def OV (B : Nat) (T : List Int) : Spec := fun v w => OwnR w B 2 1 v T.length (T.map (Value.int .i64))
theorem OV.closed (B : Nat) (T : List Int) : Closed [] (OV B T) := fun _ _ _ hr h => OwnR.rex h hr rfl
def kindR (R n : Int) : Int := if n = 0 then 1 else if R = 0 then 2 else 3
theorem line_first {A R n d : Int} (h : isLine A R n d = true) (hn : n = 0) : R = 0 := by
 unfold isLine at h
 simp only [Bool.and_eq_true, decide_eq_true_eq] at h
 obtain ⟨⟨⟨⟨_, hs⟩, hg⟩, h0⟩, h1⟩ := h
 have := isSlope_bd hs
 subst hn
 unfold gcdI at hg
 simp at hg
 omega
theorem ends_iff {s : SegT} (hl : RunsOk s.runs) (hi : isLine s.A s.R s.n s.d = true) : endsOk s.A s.R s.n s.d 0 (lastT s.runs - firstT s.runs) = ((timesL s.runs).map (valAt s)).all isBack := by
 rw [Bool.eq_iff_iff]
 constructor
 ·intro h
  have hL : LineSeg s := ⟨hl, isLine_ok.1 hi, h⟩
  rw [List.all_eq_true]
  intro y hy
  obtain ⟨t, ht, rfl⟩ := List.mem_map.1 hy
  have := mem_times hl ht
  exact hL.back this.1 this.2.1
 ·intro h
  rw [List.all_eq_true] at h
  have hc := cnt_pos hl
  have key : ∀ i : Int, 0 <= i -> i < cnt s.runs -> isBack (valAt s (atV s.runs i)) = true := by
   intro i h0 h1
   obtain ⟨v, _, hm, e, _⟩ := atL_some hl h0 h1
   rw [e]
   exact h _ (List.mem_map_of_mem hm)
  have a := key 0 (by omega) (by omega)
  have b := key (cnt s.runs - 1) (by omega) (by omega)
  unfold endsOk
  unfold valAt firstT at a b
  rw [show atV s.runs 0 - atV s.runs 0 = 0 by omega] at a
  rw [Bool.and_eq_true]
  exact ⟨a, b⟩
theorem vals_line {s : SegT} (hK : s.K ≠ 4) : vals s = (timesL s.runs).map (valAt s) := by unfold vals; rw [if_neg hK]
theorem vals_raw {s : SegT} (hK : s.K = 4) : vals s = s.raw := by unfold vals; rw [if_pos hK]
theorem kindB_line {s : SegT} (hl : RunsOk s.runs) (hK : s.K ≠ 4) : kindB s = (!(decide (0 < s.raw.length) || !isLine s.A s.R s.n s.d || s.K != kindR s.R s.n) && (vals s).all isBack) := by
 rw [vals_line hK]
 unfold kindB lineIsB
 cases hi : isLine s.A s.R s.n s.d with
 | false => simp [hK]
 | true =>
  rw [<- ends_iff hl hi]
  generalize endsOk s.A s.R s.n s.d 0 (lastT s.runs - firstT s.runs) = e
  have hr : s.raw.isEmpty = !decide (0 < s.raw.length) := by cases s.raw <;> simp
  rw [hr]
  unfold kindR
  by_cases h1 : s.n = 0
  ·have h2 := line_first hi h1
   by_cases k1 : s.K = 1
   ·simp [h1, k1, Bool.and_comm]
   ·by_cases k2 : s.K = 2
    ·simp [h1, k2]
    ·by_cases k3 : s.K = 3
     ·simp [h1, h2, k3]
     ·simp [h1, k1, k2, k3, hK]
  ·by_cases h2 : s.R = 0
   ·by_cases k1 : s.K = 1
    ·simp [h1, h2, k1]
    ·by_cases k2 : s.K = 2
     ·simp [h1, h2, k2, Bool.and_comm]
     ·by_cases k3 : s.K = 3
      ·simp [h1, h2, k3]
      ·simp [h1, h2, k1, k2, k3, hK]
   ·by_cases k1 : s.K = 1
    ·simp [h1, h2, k1]
    ·by_cases k2 : s.K = 2
     ·simp [h1, h2, k2]
     ·by_cases k3 : s.K = 3
      ·simp [h1, h2, k3, Bool.and_comm]
      ·simp [h1, h2, k1, k2, k3, hK]
theorem kindB_raw {s : SegT} (hK : s.K = 4) : kindB s = (lineZ s.A s.R s.n s.d && (s.raw.length : Int) == cnt s.runs && (vals s).all isBack) := by
 rw [vals_raw hK]
 unfold kindB
 simp [hK]
theorem c_refTimes {p : Option Addr} {cap : Nat} {l : List RunT} {w : World} (hl : RunsOk l) (h : RunsIn w p l) (hlen : l.length <= 300) : ∀ W, Below w.heap.size w W -> Calls Tryz.prog 85 #[.slice p l.length cap] W fun e w' => ∃ v, e = .returned v /\ OwnR w' W.heap.size 2 1 v (timesL l).length ((timesL l).map (Value.int .i64)) /\ Below W.heap.size W w' := by
 intro W hW
 have := reftimes_w p cap l W (h.below hW) (by omega)
 rw [times_ok hl] at this
 exact this
def PtsDom (s : SegT) : Prop := (s.K = 4 /\ (s.raw.length : Int) = cnt s.runs) ∨ (s.K ≠ 4 /\ isLine s.A s.R s.n s.d = true)
theorem length_tl {l : List RunT} (hl : RunsOk l) : 1 <= (timesL l).length /\ (timesL l).length <= 256 := by
 have h1 := length_times hl
 have h2 := cnt_pos hl
 omega
theorem c_refPts (s : SegT) (p q : Option Addr) (cap vc : Nat) (w : World) (h : SegIn w s p q) (hl : RunsOk s.runs) (hd : PtsDom s) :
  Calls Tryz.prog 62 #[.agg (segA s p q cap vc)] w (PtsPost w (timesL s.runs) (vals s)) := by
 have ht := length_times hl
 have h256 := length_tl hl
 have c1 := fun (W : World) (hW : Below w.heap.size w W) => c_refTimes (cap := cap) hl h.runs h.fewR W hW
 rcases hd with ⟨hK, hr⟩ | ⟨hK, hi⟩
 ·rw [vals_raw hK]
  obtain ⟨b, o, e, _⟩ := h.raw.at' 0 _ (List.getElem?_eq_getElem (show 0 < s.raw.length by omega))
  have hraw := h.raw
  rw [e] at hraw
  have := pts_raw s.A s.R s.n s.d s.E p s.runs.length cap b o vc (timesL s.runs) s.raw w ⟨hraw⟩ (by omega) h256.1 h256.2 c1
  unfold segA
  rw [hK, e]
  exact this
 ·rw [vals_line hK]
  have hx0 : (timesL s.runs)[0]? = some (firstT s.runs) := at_times hl (k := 0) (by omega)
  have hv : ∀ (i : Nat) (x y : Int), (timesL s.runs)[i]? = some x -> ((timesL s.runs).map (valAt s))[i]? = some y -> 0 <= x - firstT s.runs /\ x - firstT s.runs <= 281474976710656 /\ y = lineVal s.A s.R s.n s.d (x - firstT s.runs) := by
   intro i x y hx hy
   rw [List.getElem?_map, hx] at hy
   have hm := mem_times hl (List.mem_of_getElem? hx)
   have hf := first_in hl
   simp at hy
   exact ⟨by omega, by omega, by rw [<- hy]; rfl⟩
  refine pts_line s.K s.A s.R s.n s.d s.E (firstT s.runs) p q s.runs.length cap s.raw.length vc (timesL s.runs) _ w (by simp [hK]) (by simp) h256.1 h256.2 hx0 (fun x hx => by have := mem_times hl hx; omega) c1 ?_ ?_
  ·intro W i x y hx hy hb
   obtain ⟨a1, a2, rfl⟩ := hv i x y hx hy
   exact c_rat_yes hi a1 a2 hb W
  ·intro W i x y hx hy hb
   obtain ⟨a1, a2, rfl⟩ := hv i x y hx hy
   exact c_rat_no hi a1 a2 hb W
theorem ptsDom_of {s : SegT} (hs : segB s = true) : PtsDom s := by
 have hl := segB_runs hs
 have hk := segB_kind hs
 by_cases hK : s.K = 4
 ·rw [kindB_raw hK] at hk
  simp only [Bool.and_eq_true, beq_iff_eq] at hk
  exact .inl ⟨hK, hk.1.2⟩
 ·rw [kindB_line hl hK] at hk
  refine .inr ⟨hK, ?_⟩
  cases hi : isLine s.A s.R s.n s.d with
  | true => rfl
  | false => rw [hi] at hk; simp at hk
theorem vals_all {s : SegT} (hs : segB s = true) : (vals s).all isBack = true := by
 have hl := segB_runs hs
 have hk := segB_kind hs
 by_cases hK : s.K = 4
 ·rw [kindB_raw hK] at hk
  simp only [Bool.and_eq_true] at hk
  exact hk.2
 ·rw [kindB_line hl hK] at hk
  simp only [Bool.and_eq_true] at hk
  exact hk.2
theorem c_refPoints (s : SegT) (p q : Option Addr) (cap vc : Nat) (w : World) (h : SegIn w s p q) (hs : segB s = true) :
  Calls Tryz.prog 62 #[.agg (segA s p q cap vc)] w fun e w' => ∃ v, e = .returned (.tuple #[v, .bool true]) /\ OwnR w' w.heap.size 91 2 v (ptsL s).length (flatPts (ptsL s)) /\ Below w.heap.size w w' := by
 have hl := segB_runs hs
 refine (c_refPts s p q cap vc w h hl (ptsDom_of hs)).mono ?_
 rintro e w' ⟨hB, ⟨_, v, rfl, hv⟩ | ⟨h1, _⟩⟩
 ·refine ⟨v, rfl, ?_, hB⟩
  rw [show (ptsL s).length = (timesL s.runs).length by have a := length_pts hs; have b := length_times hl; omega]
  exact hv
 ·rw [vals_all hs] at h1; cases h1
attribute [local simp] Oper.looksAt Op.operands Call.operands envOf Det GDet
def toRel (w : World) (gs : Nat) (p : Option Addr) (cap : Nat) (l : List Int) (a' : Act) (W : World) : Prop :=
 Below w.heap.size w W /\ ∃ (i : Nat) (S : Int) (ps : Option Addr) (ls cs : Nat), (∃ u : Nat -> Value, a' = { tmps := #[.slice p l.length cap, u 1, .pointer (some ⟨w.heap.size, 0, none⟩), .pointer (some ⟨gs, 0, none⟩), .int .i64 (i : Int), u 5, u 6, u 7, u 8, u 9, u 10, u 11, u 12, u 13, u 14, u 15, u 16, u 17, u 18, u 19], defers := [] }) /\ S = lsum (l.take i) /\ i <= l.length /\ Blk W w.heap.size #[.bool false, .slice none 0 0] 132 /\ Blk W gs #[.bool (decide (S < 0)), .slice ps ls cs] 132 /\ Bits W (.slice ps ls cs) S.natAbs
theorem c_r25Total (p : Option Addr) (cap : Nat) (l : List Int) (w : World) (hlen : l.length <= 100000) (hv : ∀ v, v ∈ l -> -9223372036854775808 <= v /\ v <= 9223372036854775807) (hl : IntsIn w p l) :
  Calls Tryz.prog 66 #[.slice p l.length cap] w fun e w' => ∃ v, e = .returned v /\ NumIs w' v (lsum l) /\ Below w.heap.size w w' := by
 go_enter Tryz.func66, Tryz.ntmps66
 go_wp2_with fail
 refine (c_refInt 0 _ (by omega) (by omega)).mono ?_
 rintro e w1 ⟨v0, rfl, hn0, hb1⟩
 have z2 := hb1.size
 try simp at z2
 have b1 : Blk w1 w.heap.size #[.bool false, .slice none 0 0] 132 := blkAny2
 have hW : Below w.heap.size w w1 := belowAny
 have z3 := b1.lt
 have k1 := b1.cell
 have f1 := b1.frozen
 obtain ⟨ps, ls, cs, rfl, hq0⟩ := num_shape hn0
 clear hn0
 replace hq0 := Lib.hid hq0
 rw [show decide ((0 : Int) < 0) = false by rfl]
 go_wp2
 refine wp_loop (toRel w w1.heap.size p cap l) (fun a' _ => l.length - (intAt (a'.tmps.getD 4 undef)).toNat) ?_ ?_
 ·unfold toRel
  exact ⟨belowAny, 0, 0, ps, ls, cs, frame_ex rfl, rfl, by omega, by exact blkAny2, by exact blkAny2, hq0.out.below belowAny⟩
 unfold toRel
 rintro a' W ⟨hW0, i, S, ps, ls, cs, ⟨u, rfl⟩, hS0, hi', b1, b2, hq⟩
 have hz := hW0.size
 have zb1 := b1.lt
 have zb2 := b2.lt
 have hbd := lsum_bd (l := l.take i) (B := 9223372036854775808) (fun v hv' => by have := hv v (List.mem_of_mem_take hv'); omega)
 rw [<- hS0, List.length_take] at hbd
 rcases Nat.lt_or_ge i l.length with hlt | hge
 ·obtain ⟨x, hx⟩ : ∃ r, l[i]? = some r := ⟨l[i]'(by omega), List.getElem?_eq_getElem (by omega)⟩
  have bx := hv x (List.mem_of_getElem? hx)
  obtain ⟨b, o, rfl, _⟩ := hl.at' i x hx
  have hs9 : S.natAbs < 2 ^ 900 := lt_pow2 128 900 (show S.natAbs < 2 ^ 128 by simp; omega) (by omega)
  have hv9 : x.natAbs < 2 ^ 900 := lt_pow2 128 900 (show x.natAbs < 2 ^ 128 by simp; omega) (by omega)
  have hS1 := Lib.hid (show S + x = lsum (l.take (i + 1)) by rw [List.take_add_one, hx, lsum_append, <- hS0]; simp [lsum])
  replace hx := Lib.hid hx
  clear hS0 hbd hv
  have b3 : IntsF W (some ⟨b, o, none⟩) l := hl.below hW0
  have b4 := hq
  have hW := hW0
  clear hq hW0
  have k1 := b1.cell
  have f1 := b1.frozen
  have k2 := b2.cell
  have f2 := b2.frozen
  go_upto_region 5 with (fail)
  clear k1 f1 k2 f2
  refine wp_facts (fun W' => Below w.heap.size w W' /\ Blk W' w.heap.size #[.bool false, .slice none 0 0] 132 /\ Blk W' w1.heap.size #[.bool (decide (S < 0)), .slice ps ls cs] 132 /\ IntsF W' (some ⟨b, o, none⟩) l /\ Bits W' (.slice ps ls cs) S.natAbs) ⟨by exact belowAny, by exact blkAny2, by exact blkAny2, by exact IntsIn.below hl (by exact belowAny), by exact b4⟩ ?_
  clear b1 b2 b3 b4 hW
  rintro W31 ⟨hW, b1, b2, b3, b4⟩
  have z32 := hW.size
  have z33 := b1.lt
  have z34 := b2.lt
  refine wp_region_nd 7 20 [] (fun W' => Rex [] W31 W' /\ Blk W' w.heap.size #[.bool false, .slice none 0 0] 132 /\ Blk W' w1.heap.size #[.bool (decide (S < 0)), .slice ps ls cs] 132 /\ IntsF W' (some ⟨b, o, none⟩) l /\ Bits W' (.slice ps ls cs) S.natAbs) mixed (by kernel_rfl) rfl ⟨(Rex.refl _ _).drew, b1, b2, b3.drew, b4.drew⟩ (fun w w' ⟨h0, h1, h2, h3, h4⟩ hr => ⟨h0.trans hr, h1.rex hr (by simp <;> omega), h2.rex hr (by simp <;> omega), h3.rex hr (by simp <;> omega), h4.rex hr (by simp <;> omega)⟩) (fun c a d v w h => by cases d <;> exact h) ?_
  iterate 5
   apply nd_det (hg := rfl) (hal := rfl)
   ·intro a W' hC hE
    obtain ⟨_, k1, k2, k3, k4⟩ := hC
    have k2 := k2.cell
    obtain ⟨b', o', e9, q1⟩ := IntsIn.at' k3 i x hx.out; obtain ⟨rfl, rfl⟩ : b = b' /\ o = o' := (by injection e9 with e9; injection e9 with e1 e2; exact ⟨e1, e2⟩)
    first
     | (simp at hE; simp [go_sem, Act.eval, IntWalk.i64_left, hE, k1, k2, k3, k4, q1, hlt]; try rfl)
     | (clear hE; simp [go_sem, Act.eval, IntWalk.i64_left, k1, k2, k3, k4, q1, hlt]; try rfl)
  apply nd_call (NI x) (hg := rfl) (hal := rfl)
  ·exact NI.closed _
  ·intro a W' hC hE
   simp at hE
   refine ⟨_, _, ?_, (c_refInt x W' (by omega) (by omega)).mono ?_⟩
   ·simp [go_sem, Act.eval, hE]
    try rfl
   ·rintro e w' ⟨v, rfl, hB, hR⟩
    exact ⟨_, rfl, hR, hB⟩
  apply nd_call (NI (S + x)) (hg := rfl) (hal := rfl)
  ·exact NI.closed _
  ·intro a W' hC hE
   simp at hE
   refine ⟨_, _, ?_, (c_refAdd (.agg #[.bool (decide (S < 0)), .slice ps ls cs]) _ S x W' ⟨_, rfl, hC.2.2.2.2⟩ hE.2 hs9 hv9).mono ?_⟩
   ·simp [go_sem, Act.eval, hE.1]
    try rfl
   ·rintro e w' ⟨v, rfl, hB, hR⟩
    exact ⟨_, rfl, hR, hB⟩
  rintro W50 ⟨hR, d1, d2, d3, d4⟩
  simp only [ndFinR, Det, forall_eq]
  intros
  repeat (rename GDet _ _ _ _ => hgd; clear hgd)
  simp only [Act.put, List.setIfInBounds_toArray, List.set_cons_zero, List.set_cons_succ, List.drop_succ_cons, List.drop_zero]
  clear b1 b2 b3 b4
  have b1 := d1
  have b2 := d2
  clear d1 d2 d3 d4
  replace hW := hW.trans (hR.of_priv hW.size)
  clear hR
  rename NI (S + x) _ _ => hi1
  obtain ⟨p1, l2, k9, rfl, hq1⟩ := num_shape hi1
  clear hi1
  replace hq1 := Lib.hid hq1
  have k1 := b1.cell
  have f1 := b1.frozen
  have k2 := b2.cell
  have f2 := b2.frozen
  have z91 := hW.size
  have z92 := b1.lt
  have z93 := b2.lt
  obtain ⟨B, hB⟩ : ∃ B, B = (decide (S + x < 0)) := ⟨_, rfl⟩
  rw [<- hB]
  replace hB := Lib.hid hB
  have hS := Lib.hid (hq1.out.store b2 (.bool B) (.slice p1 l2 k9))
  go_wp2
  rw [show (i : Int) + 1 = ((i + 1 : Nat) : Int) by omega]
  refine ⟨?_, by simp [intAt]; omega⟩
  exact ⟨by exact belowAny, i + 1, S + x, p1, l2, k9, frame_ex rfl, hS1.out, by omega, by exact blkAny2, by rw [<- hB.out]; exact blkAny2, hS.out⟩
 ·obtain rfl : i = l.length := by omega
  rw [List.take_length] at hS0
  have hSl := Lib.hid hS0
  clear hS0 hbd
  have hW := hW0
  clear hW0
  have k1 := b1.cell
  have f1 := b1.frozen
  have k2 := b2.cell
  have f2 := b2.frozen
  have y_1 := b1.lt
  have y_2 := b2.lt
  obtain ⟨B, hB⟩ : ∃ B, B = (decide (S < 0)) := ⟨_, rfl⟩
  rw [<- hB] at b2 k2
  replace hB := Lib.hid hB
  have hS := Lib.hid (hq.store b1 (.bool B) (.slice ps ls cs))
  go_wp2
  refine bodyPost_ret (v := .agg #[.bool B, .slice ps ls cs]) (by simp [results, Tryz.results66, go_sem, k1, f1, k2, f2, y_1, y_2]) rfl ⟨_, rfl, ⟨.slice ps ls cs, by rw [hB.out, hSl.out], by rw [<- hSl.out]; exact hS.out⟩, by exact belowAny⟩
end Go.Proofs.YtidfcoooccblaaaGreat
namespace Go.Proofs.YtidfcoooccblaaaGreat
open Go.RowKit
section
variable {P : Program} {w : World}
theorem run_append_own2 (base : Nat) (t ty e : TypeId) (i : TypeInfo) (z : Value) (size bytes : Nat) (ht : P.underlying t = some (.slice e)) (hi : P.info? e = some i) (hz : i.zero = some z)
  (hsize : i.size = size) (hby : i.bytes = bytes) (hzs : z.cells.size = size) (hsz : 0 < size)
  (v : Value) (n : Nat) (xs : List Value) (hown : w.ownsRow base e size v n xs)
  (a : Addr) (m c : Nat) (news : List Value) (hl : news.length = m * size) (hnews : ∀ j u, news[j]? = some u -> w.cell? (a.add j) = some u) (h1 : ∀ u ∈ news, u.oneCell' = true)
  (h63 : n + m <= maxLen) (hbytes : (n + m) * bytes <= 140737488355328) (hbase : base <= w.heap.size) :
  ∃ v' w', (Builtin.append_ #[t, t] ty #[v, .slice (some a) m c]).run P w = .ok v' w' /\ w'.ownsRow base e size v' (n + m) (xs ++ news) /\ w.grownBy w' v.ownBlock /\
   (v' = .slice none 0 0 ↔ v = .slice none 0 0 /\ m = 0) /\ (v'.ownBlock = v.ownBlock ∨ v'.ownBlock = some w.heap.size) := by
 obtain ⟨v', w', hr, h2, h3, h4⟩ := run_append_own (P := P) w base t ty e i z size bytes ht hi hz hsize hby hzs hsz v n xs hown a m c news hl hnews h1 h63 hbytes hbase
 refine ⟨v', w', hr, h2, h3, h4, ?_⟩
 subst hsize
 subst hby
 have hsmall : n + m <= 9223372036854775807 := by simp only [maxLen] at h63; omega
 rcases hown.2 with ⟨rfl, rfl⟩ | ⟨g, cap, cur, rfl, hbg, hg, hnc, hcm, hcs, htake⟩
 ·by_cases hm : m = 0
  ·left
   rw [h4.2 ⟨rfl, hm⟩]
  ·have hr2 := run_append_nil (P := P) w t ty e i z ht hi hz a m c news hl hnews (by omega) (by omega) (by have hb := hbytes; simp only [Nat.zero_add] at hb; omega)
   rw [hr2] at hr
   injection hr with hr _
   subst hr
   right; rfl
 ·by_cases hroom : n + m <= cap
  ·have hfit : n * i.size + news.length <= cur.size := by rw [hl, hcs, <- Nat.add_mul]; exact Nat.mul_le_mul_right _ hroom
   have hr2 := run_append_room (P := P) w t ty e i ht hi g n cap cur hg a m c news hl hnews h1 hroom hfit
   rw [hr2] at hr
   injection hr with hr _
   subst hr
   left; rfl
  ·have holds : ∀ j u, xs[j]? = some u -> w.cell? ((⟨g, 0, none⟩ : Addr).add j) = some u := hown.cells (g := g) rfl
   have hr2 := run_append_grow (P := P) w t ty e i z ht hi hz ⟨g, 0, none⟩ n cap xs hown.1 holds a m c news hl hnews (by omega) (by omega) (growslice_fits (by omega) hbytes)
   rw [hr2] at hr
   injection hr with hr _
   subst hr
   right; rfl
theorem wpList_append_own2 {ops : Array Oper} {rest : List Oper} {o : Oper} {a : Act} {Q : Exit -> Act -> World -> Prop} (hgd : o.guard = none) (s x : Operand) (t : TypeId)
  (ho : o.op = .call { callee := .builtin .append, args := #[s, x], argTypes := #[t, t] })
  (base : Nat) (e : TypeId) (i : TypeInfo) (z : Value) (size bytes : Nat) (ht : P.underlying t = some (.slice e)) (hi : P.info? e = some i) (hz : i.zero = some z)
  (hsize : i.size = size) (hby : i.bytes = bytes) (hzs : z.cells.size = size) (hsz : 0 < size)
  (v : Value) (n : Nat) (xs : List Value) (hs : a.eval s = v) (hown : w.ownsRow base e size v n xs)
  (ad : Addr) (m c : Nat) (news : List Value) (hx : a.eval x = .slice (some ad) m c) (hl : news.length = m * size) (hnews : ∀ j u, news[j]? = some u -> w.cell? (ad.add j) = some u) (h1 : ∀ u ∈ news, u.oneCell' = true)
  (h63 : n + m <= maxLen) (hbytes : (n + m) * bytes <= 140737488355328) (hbase : base <= w.heap.size)
  (h : ∀ v' w', w'.ownsRow base e size v' (n + m) (xs ++ news) -> w.grownBy w' v.ownBlock -> (v'.ownBlock = v.ownBlock ∨ v'.ownBlock = some w.heap.size) -> wpList P ops Q rest (a.put o.dst v') w') : wpList P ops Q (o :: rest) a w := by
 refine wpList_plain hgd fun K hK => ?_
 obtain ⟨v', w', hr, h2, h3, _, h4⟩ := run_append_own2 (P := P) (w := w) base t o.type e i z size bytes ht hi hz hsize hby hzs hsz v n xs hown ad m c news hl hnews h1 h63 hbytes hbase
 unfold Oper.wp
 simp [execOp, ho, resolve, invoke, builtin, hs, hx, hr, Result.andThen]
 exact hK _ _ (h v' w' h2 h3 h4)
end
attribute [local simp] Oper.looksAt Op.operands Call.operands envOf Det GDet
def OneV (B : Nat) (d : Int) : Spec := fun v w => ∃ g, v = .slice (some ⟨g, 0, none⟩) 1 1 /\ B <= g /\ Blk w g #[d] 2
theorem OneV.closed (B : Nat) (d : Int) : Closed [] (OneV B d) := fun _ _ _ hr ⟨g, e1, h1, h⟩ => ⟨g, e1, h1, h.rex hr (by simp)⟩
def Apart2 (v1 v2 : Value) : Prop := ∀ g, v1.ownBlock = some g -> v2.ownBlock = some g -> False
theorem Apart2.symm {v1 v2 : Value} (h : Apart2 v1 v2) : Apart2 v2 v1 := fun g a b => h g b a
theorem apart_row {v1 v2 : Value} (h : Apart2 v1 v2) : v2.ownBlock = none ∨ v2.ownBlock ≠ v1.ownBlock := by
 cases e : v2.ownBlock with
 | none => exact Or.inl rfl
 | some g => exact Or.inr fun e2 => h g e2.symm e
theorem apart_first {v1 v1' v2 : Value} {n : Nat} (h : Apart2 v1 v2) (hst : v1'.ownBlock = v1.ownBlock ∨ v1'.ownBlock = some n) (hlt : ∀ g, v2.ownBlock = some g -> g < n) : Apart2 v1' v2 := fun g a b => by
 rcases hst with e | e
 ·rw [e] at a; exact h g a b
 ·rw [e] at a; injection a with a; have := hlt g b; omega
theorem grown_below {B : Nat} {w0 w w' : World} {r : Option Nat} (h : Below B w0 w) (hB : B <= w.heap.size) (hg : w.grownBy w' r) (hr : ∀ g, r = some g -> B <= g) : Below B w0 w' :=
 h.trans ⟨hg.os, hg.tape, hg.output, hg.size, fun k hk => hg.block k (by omega) fun e => by have := hr k e.symm; omega⟩
theorem one_news {W : World} {g : Nat} {d : Int} (h : Blk W g #[d] 2) {j : Nat} {u : Value} (hu : [Value.int .i64 d][j]? = some u) : W.cell? ((⟨g, 0, none⟩ : Addr).add j) = some u := by
 match j, hu with
 | 0, hu =>
  obtain rfl : Value.int .i64 d = u := by simpa using hu
  exact h.cell 0
 | j + 1, hu => simp at hu
def loB (x : RunT) : Int := x.s - x.c
def hiB (x : RunT) : Int := x.s + x.c
def boRel (w : World) (p : Option Addr) (cap : Nat) (l : List RunT) (a' : Act) (W : World) : Prop :=
 Below w.heap.size w W /\ ∃ (i : Nat) (v1 v2 : Value), (∃ u : Nat -> Value, a' = { tmps := #[.slice p l.length cap, u 1, .slice none 0 0, .slice none 0 0, v1, v2, .int .i64 (i : Int), u 7, u 8, u 9, u 10, u 11, u 12, u 13, u 14, u 15, u 16, u 17, u 18, u 19, u 20, u 21, u 22, u 23, u 24, u 25, u 26, u 27, u 28, u 29, u 30, u 31, u 32, u 33, u 34, u 35, u 36, u 37, u 38, u 39, u 40, u 41, u 42], defers := [] }) /\ i <= l.length /\
  OwnR W w.heap.size 2 1 v1 i (((l.take i).map loB).map (Value.int .i64)) /\ OwnR W w.heap.size 2 1 v2 i (((l.take i).map hiB).map (Value.int .i64)) /\ Apart2 v1 v2
theorem c_r25Bounds (p : Option Addr) (cap : Nat) (l : List RunT) (w : World) (hlen : l.length <= 100000) (hv : ∀ x, x ∈ l -> -4611686018427387904 <= x.s /\ x.s <= 4611686018427387903 /\ 0 <= x.c /\ x.c <= 4611686018427387903) (h : RunsIn w p l) :
  Calls Tryz.prog 63 #[.slice p l.length cap] w fun e w' => ∃ v1 v2, e = .returned (.tuple #[v1, v2]) /\ OwnR w' w.heap.size 2 1 v1 l.length ((l.map loB).map (Value.int .i64)) /\ OwnR w' w.heap.size 2 1 v2 l.length ((l.map hiB).map (Value.int .i64)) /\ Below w.heap.size w w' := by
 obtain ⟨i0, hi, hz0, hz1, hz2⟩ := info_parts Tryz.infoI64
 go_enter Tryz.func63, Tryz.ntmps63
 go_wp2
 refine wp_loop (boRel w p cap l) (fun a' _ => l.length - (intAt (a'.tmps.getD 6 undef)).toNat) ?_ ?_
 ·exact ⟨Below.refl _ _, 0, _, _, frame_ex rfl, Nat.zero_le _, OwnR.nil _ _ _ _, OwnR.nil _ _ _ _, fun g h => by simp [Value.ownBlock] at h⟩
 ·rintro a' W ⟨hW0, i, v1, v2, ⟨u, rfl⟩, hi', hown1, hown2, hap⟩
  have hz := hW0.size
  rcases Nat.lt_or_ge i l.length with hlt | hge
  ·obtain ⟨x, hx⟩ : ∃ r, l[i]? = some r := ⟨l[i]'(by omega), List.getElem?_eq_getElem (by omega)⟩
   have bx := hv x (List.mem_of_getElem? hx)
   obtain ⟨b, o, rfl, _⟩ := h.at' i x hx
   have E1 := Lib.hid (show wrap64 (x.s - x.c) = x.s - x.c by rw [wrap64_eq]; omega)
   have E2 := Lib.hid (show wrap64 (x.s + x.c) = x.s + x.c by rw [wrap64_eq]; omega)
   replace hx := Lib.hid hx
   go_upto_region 5 with (fail)
   refine wp_facts (fun W' => Below W.heap.size W W' /\ RunsIn W' (some ⟨b, o, none⟩) l) ⟨by exact belowAny, by exact (h.below hW0)⟩ ?_
   rintro W51 ⟨hW, b1⟩
   have z52 := hW.size
   refine wp_region_nd 13 43 [] (fun W' => Rex [] W51 W' /\ RunsIn W' (some ⟨b, o, none⟩) l) mixed (by kernel_rfl) rfl ⟨(Rex.refl _ _).drew, b1.drew⟩ (fun w w' ⟨h0, h1⟩ hr => ⟨h0.trans hr, h1.rex hr (by simp <;> omega)⟩) (fun c a d v w h => by cases d <;> exact h) ?_
   iterate 12
    apply nd_det (hg := rfl) (hal := rfl)
    ·intro a W' hC hE
     obtain ⟨_, k1⟩ := hC
     obtain ⟨b', o', e9, _, q1, q2⟩ := k1.at' i x hx.out; obtain ⟨rfl, rfl⟩ : b = b' /\ o = o' := (by injection e9 with e9; injection e9 with e1 e2; exact ⟨e1, e2⟩)
     first
      | (simp at hE; simp [go_sem, Act.eval, IntWalk.i64_left, hE, k1, q1, q2, hlt, E1.out, E2.out]; try rfl)
      | (clear hE; simp [go_sem, Act.eval, IntWalk.i64_left, k1, q1, q2, hlt, E1.out, E2.out]; try rfl)
   apply nd_mem (OneV W51.heap.size (x.s - x.c)) (hg := rfl) (hal := rfl)
   ·exact OneV.closed _ _
   ·intro a' W' hC hE
    simp at hE
    refine ⟨.slice (some ⟨W'.heap.size, 0, none⟩) 1 1, W'.alloc (.cells #[.int .i64 (x.s - x.c)] 2), ?_, (Below.refl _ _).alloc (Nat.le_refl _) _, W'.heap.size, rfl, hC.1.size, Blk.new' rfl⟩
    simp [go_sem, execOp, Act.eval, hE]
    try rfl
    done
   rintro W53 ⟨hR, d1⟩
   simp only [ndFinR, Det, forall_eq]
   intros
   repeat (rename GDet _ _ _ _ => hgd; clear hgd)
   simp only [Act.put, List.setIfInBounds_toArray, List.set_cons_zero, List.set_cons_succ, List.drop_succ_cons, List.drop_zero]
   replace hW := hW.trans (hR.of_priv hW.size)
   clear hR
   try clear b1
   have b1 := d1
   clear d1
   rename OneV _ _ _ _ => ho
   obtain ⟨g1, rfl, hg1, bg⟩ := ho
   have y1 := bg.lt
   have hOk := hown1.below hW
   have hOo := hown2.below hW
   clear hown1 hown2 b1
   have zz := hW.size
   have hlo := fun g e => hOk.own.lt g e
   have hloo := fun g e => hOo.own.lt g e
   go_wp2_with (at_builtin; refine wpList_append_own2 rfl (.tmp 13) (.tmp 25) 96 rfl w.heap.size 2 i0 (.int .i64 0) 1 8 (by kernel_rfl) hi hz0 hz1 hz2 rfl (by decide) _ _ _ rfl hOk.own ⟨g1, 0, none⟩ 1 1 [.int .i64 (x.s - x.c)] rfl rfl (fun j u hu => one_news bg hu) (by simp [Value.oneCell']) (by simp [maxLen]; omega) (by omega) (by omega) ?_)
   intro v1' w19 hown1 hgr hst
   have hB1 : Below w.heap.size w w19 := grown_below (hW0.trans (hW.mono (by omega))) (by omega) hgr (fun g e => (hlo g e).1)
   replace hown1 : OwnR w19 w.heap.size 2 1 v1' (i + 1) _ := ⟨hown1⟩
   have hown2 : OwnR w19 w.heap.size 2 1 v2 i _ := ⟨hOo.own.kept hgr (apart_row (by first | exact hap | exact hap.symm))⟩
   replace hap : Apart2 v1' v2 := by
    exact apart_first hap hst (fun g e => (hloo g e).2)
   clear hst hgr hOk hOo hlo hloo hW bg
   have zz1 := hB1.size
   go_upto_region 6 with (fail)
   refine wp_facts (fun W' => Below w19.heap.size w19 W' /\ RunsIn W' (some ⟨b, o, none⟩) l) ⟨by exact belowAny, by exact (h.below hB1)⟩ ?_
   rintro W71 ⟨hW, b1⟩
   have z72 := hW.size
   refine wp_region_nd 13 43 [] (fun W' => Rex [] W71 W' /\ RunsIn W' (some ⟨b, o, none⟩) l) mixed (by kernel_rfl) rfl ⟨(Rex.refl _ _).drew, b1.drew⟩ (fun w w' ⟨h0, h1⟩ hr => ⟨h0.trans hr, h1.rex hr (by simp <;> omega)⟩) (fun c a d v w h => by cases d <;> exact h) ?_
   iterate 12
    apply nd_det (hg := rfl) (hal := rfl)
    ·intro a W' hC hE
     obtain ⟨_, k1⟩ := hC
     obtain ⟨b', o', e9, _, q1, q2⟩ := k1.at' i x hx.out; obtain ⟨rfl, rfl⟩ : b = b' /\ o = o' := (by injection e9 with e9; injection e9 with e1 e2; exact ⟨e1, e2⟩)
     first
      | (simp at hE; simp [go_sem, Act.eval, IntWalk.i64_left, hE, k1, q1, q2, hlt, E1.out, E2.out]; try rfl)
      | (clear hE; simp [go_sem, Act.eval, IntWalk.i64_left, k1, q1, q2, hlt, E1.out, E2.out]; try rfl)
   apply nd_mem (OneV W71.heap.size (x.s + x.c)) (hg := rfl) (hal := rfl)
   ·exact OneV.closed _ _
   ·intro a' W' hC hE
    simp at hE
    refine ⟨.slice (some ⟨W'.heap.size, 0, none⟩) 1 1, W'.alloc (.cells #[.int .i64 (x.s + x.c)] 2), ?_, (Below.refl _ _).alloc (Nat.le_refl _) _, W'.heap.size, rfl, hC.1.size, Blk.new' rfl⟩
    simp [go_sem, execOp, Act.eval, hE]
    try rfl
    done
   rintro W73 ⟨hR, d1⟩
   simp only [ndFinR, Det, forall_eq]
   intros
   repeat (rename GDet _ _ _ _ => hgd; clear hgd)
   simp only [Act.put, List.setIfInBounds_toArray, List.set_cons_zero, List.set_cons_succ, List.drop_succ_cons, List.drop_zero]
   replace hW := hW.trans (hR.of_priv hW.size)
   clear hR
   try clear b1
   have b1 := d1
   clear d1
   rename OneV _ _ _ _ => ho
   obtain ⟨g1, rfl, hg1, bg⟩ := ho
   have y1 := bg.lt
   have hOk := hown2.below hW
   have hOo := hown1.below hW
   clear hown2 hown1 b1
   have zz := hW.size
   have hlo := fun g e => hOk.own.lt g e
   have hloo := fun g e => hOo.own.lt g e
   go_wp2_with (at_builtin; refine wpList_append_own2 rfl (.tmp 27) (.tmp 39) 96 rfl w.heap.size 2 i0 (.int .i64 0) 1 8 (by kernel_rfl) hi hz0 hz1 hz2 rfl (by decide) _ _ _ rfl hOk.own ⟨g1, 0, none⟩ 1 1 [.int .i64 (x.s + x.c)] rfl rfl (fun j u hu => one_news bg hu) (by simp [Value.oneCell']) (by simp [maxLen]; omega) (by omega) (by omega) ?_)
   intro v2' w29 hown2 hgr hst
   have hB2 : Below w.heap.size w w29 := grown_below (hB1.trans (hW.mono (by omega))) (by omega) hgr (fun g e => (hlo g e).1)
   replace hown2 : OwnR w29 w.heap.size 2 1 v2' (i + 1) _ := ⟨hown2⟩
   have hown1 : OwnR w29 w.heap.size 2 1 v1' (i + 1) _ := ⟨hOo.own.kept hgr (apart_row (by first | exact hap | exact hap.symm))⟩
   replace hap : Apart2 v1' v2' := by
    exact (apart_first hap.symm hst (fun g e => (hloo g e).2)).symm
   clear hst hgr hOk hOo hlo hloo hW bg
   have zz2 := hB2.size
   have r1 : ((l.take (i + 1)).map loB).map (Value.int .i64) = List.take i (List.map (Value.int .i64 ∘ loB) l) ++ [Value.int .i64 (x.s - x.c)] := by rw [List.take_add_one, hx.out]; simp [loB, List.map_take]
   have r2 : ((l.take (i + 1)).map hiB).map (Value.int .i64) = List.take i (List.map (Value.int .i64 ∘ hiB) l) ++ [Value.int .i64 (x.s + x.c)] := by rw [List.take_add_one, hx.out]; simp [hiB, List.map_take]
   replace r1 := Lib.hid r1
   replace r2 := Lib.hid r2
   go_wp2
   rw [show (i : Int) + 1 = ((i + 1 : Nat) : Int) by omega]
   refine ⟨?_, by simp [intAt]; omega⟩
   exact ⟨hB2, i + 1, v1', v2', frame_ex rfl, by omega, by rw [r1.out]; exact hown1, by rw [r2.out]; exact hown2, hap⟩
  ·obtain rfl : i = l.length := by omega
   rw [List.take_length] at hown1 hown2
   go_wp2
   refine bodyPost_ret (v := .tuple #[v1, v2]) (by simp [results, Tryz.results63, go_sem]) rfl ⟨_, _, rfl, hown1, hown2, hW0⟩
theorem OwnR.ptsB {w : World} {B n : Nat} {t : TypeId} {v : Value} {l : List (Int × Int)} (h : OwnR w B t 2 v n (flatPts l)) (hn : 0 < n) : ∃ g cp cur, v = .slice (some ⟨g, 0, none⟩) n cp /\ Blk w g cur t /\ cur.toList.take (n * 2) = flatPts l := by
 rcases h.own.2 with ⟨_, h0⟩ | ⟨g, cap, cur, rfl, _, hb, _, _, _, ht⟩
 ·omega
 ·exact ⟨g, cap, cur, rfl, hb, ht⟩
theorem Blk.grown0 {W w1 : World} {B g : Nat} {cs : Array Value} {t e : TypeId} {s n : Nat} {v : Value} {xs : List Value} (h : Blk W g cs t) (hown : W.ownsRow B e s v n xs) (ht : t ≠ e) (hgr : W.grownBy w1 v.ownBlock) : Blk w1 g cs t := by
 have hlt := h.lt
 have h' : W.heap[g]? = some (.cells cs t (0, 0)) := h
 refine (hgr.block g (by omega) fun e1 => ?_).trans h'
 rcases hown.2 with ⟨rfl, _⟩ | ⟨g', cap, cur, rfl, _, hb, _⟩
 ·simp [Value.ownBlock] at e1
 ·have : g = g' := by simpa [Value.ownBlock] using e1
  subst this
  unfold Blk at h
  rw [h] at hb
  injection hb with hb
  injection hb with _ h2 _
  exact ht h2
theorem SerIn.rex {L : List Nat} {w w' : World} {s : SerT} {ps po : Option Addr} (h : SerIn w s ps po) (hr : Rex L w w') (hL : L = []) : SerIn w' s ps po := by subst hL; exact h.below hr.below
theorem SerIn.drew {w : World} {s : SerT} {ps po : Option Addr} (h : SerIn w s ps po) : SerIn w.drew s ps po :=
 ⟨⟨fun i r hr => by
  obtain ⟨b, o, p', q', cap, vc, e, h1, h2, h3⟩ := h.segs.at' i r hr
  exact ⟨b, o, p', q', cap, vc, e, h1, ⟨⟨h2.runs.at'⟩, ⟨h2.raw.at'⟩, h2.fewR, h2.fewV⟩, h3⟩⟩, h.opn.drew, h.fewS, h.fewO⟩
theorem own_cast {w : World} {B : Nat} {e : TypeId} {s n n' : Nat} {v : Value} {xs xs' : List Value} (h : w.ownsRow B e s v n xs) (e1 : n = n') (e2 : xs = xs') : w.ownsRow B e s v n' xs' := by subst e1; subst e2; exact h
theorem three_news {W : World} {g : Nat} {x y z : Int} {t : TypeId} (h : Blk W g #[.int .i64 x, .int .i64 y, .int .i64 z] t) {j : Nat} {u : Value} (hu : [Value.int .i64 x, .int .i64 y, .int .i64 z][j]? = some u) : W.cell? ((⟨g, 0, none⟩ : Addr).add j) = some u := by
 have hadd : (⟨g, 0, none⟩ : Addr).add j = ⟨g, j, none⟩ := by unfold Addr.add; split <;> simp_all
 rw [hadd, h.cell]
 simpa using hu
def OneB (B : Nat) (x y z : Int) : Spec := fun v w => ∃ g, v = .slice (some ⟨g, 0, none⟩) 1 1 /\ B <= g /\ Blk w g #[.int .i64 x, .int .i64 y, .int .i64 z] 63
theorem OneB.closed (B : Nat) (x y z : Int) : Closed [] (OneB B x y z) := fun _ _ _ hr ⟨g, e1, h1, h⟩ => ⟨g, e1, h1, h.rex hr (by simp)⟩
theorem Tryz.infoBack : (Tryz.prog.info? 63).map (fun i => (i.zero, i.size, i.bytes)) = some (some (.agg #[.int .i64 0, .int .i64 0, .int .i64 0]), 3, 24) := by kernel_rfl
def bkT (x : Int × Int × Int) : RunT := ⟨x.1, x.2.1, x.2.2⟩
theorem bk_snoc (L : List (Int × Int × Int)) (r : Int × Int × Int) : flatCells ((L ++ [r]).map bkT) = flatCells (L.map bkT) ++ [.int .i64 r.1, .int .i64 r.2.1, .int .i64 r.2.2] := by
 rw [List.map_append]; exact flatCells_snoc _ _
theorem sel_step {l : List (Int × Int)} {m : Nat} {x : Int × Int} (f : Int × Int -> Bool) (g : Int × Int -> Int × Int × Int) (h : l[m]? = some x) : ((l.take (m + 1)).filter f).map g = ((l.take m).filter f).map g ++ (if f x then [g x] else []) := by
 rw [List.take_add_one, h, List.filter_append, List.map_append]
 cases hf : f x <;> simp [hf]
theorem sel_is (a b fl : Int) (x : Int × Int) : selB (mx a fl) b x = (decide (fl <= x.1) && decide (a <= x.1) && decide (x.1 <= b)) := by
 have := mx_spec a fl
 rw [Bool.eq_iff_iff]
 simp only [selB, Bool.and_eq_true, decide_eq_true_eq]
 omega
def bk1Rel (w : World) (s : SerT) (ps : Option Addr) (cs : Nat) (po : Option Addr) (co : Nat) (a b : Int) (a' : Act) (W : World) : Prop :=
 Below w.heap.size w W /\ Blk W w.heap.size #[.string s.name, .int .i64 s.eps, .int .i64 s.floor, .int .i64 s.last, .int .i64 s.scale, .slice ps s.segs.length cs, .slice po s.opn.length co] 25 /\ ∃ (k : Nat) (L : List (Int × Int × Int)) (v : Value), (∃ u : Nat -> Value, a' = { tmps := #[.agg #[.string s.name, .int .i64 s.eps, .int .i64 s.floor, .int .i64 s.last, .int .i64 s.scale, .slice ps s.segs.length cs, .slice po s.opn.length co], .int .i64 a, .int .i64 b, .pointer (some ⟨w.heap.size, 0, none⟩), u 4, u 5, u 6, v, .int .i64 (k : Int), u 9, u 10, u 11, u 12, u 13, u 14, u 15, u 16, u 17, u 18, u 19, u 20, u 21, u 22, u 23, u 24, u 25, u 26, u 27, u 28, u 29, u 30, u 31, u 32, u 33, u 34, u 35, u 36, u 37, u 38, u 39, u 40, u 41, u 42, u 43, u 44, u 45, u 46, u 47, u 48, u 49, u 50, u 51, u 52, u 53, u 54, u 55, u 56, u 57, u 58, u 59, u 60, u 61, u 62, u 63, u 64, u 65, u 66, u 67, u 68, u 69, u 70, u 71, u 72, u 73, u 74, u 75, u 76, u 77, u 78, u 79, u 80, u 81, u 82, u 83, u 84, u 85, u 86, u 87, u 88, u 89, u 90, u 91, u 92, u 93, u 94, u 95, u 96, u 97, u 98, u 99, u 100, u 101, u 102, u 103, u 104, u 105, u 106, u 107, u 108, u 109, u 110, u 111, u 112, u 113, u 114, u 115, u 116, u 117, u 118, u 119], defers := [] }) /\
  OwnR W w.heap.size 63 3 v L.length (flatCells (L.map bkT)) /\ L = (s.segs.take k).flatMap (segBk (mx a s.floor) b) /\ k <= s.segs.length /\ L.length <= 256 * k
def bk2Rel (w : World) (s : SerT) (ps : Option Addr) (cs : Nat) (po : Option Addr) (co : Nat) (a b : Int) (k g cp : Nat) (cur : Array Value) (x : SegT) (L : List (Int × Int × Int)) (a' : Act) (W : World) : Prop :=
 Below w.heap.size w W /\ Blk W w.heap.size #[.string s.name, .int .i64 s.eps, .int .i64 s.floor, .int .i64 s.last, .int .i64 s.scale, .slice ps s.segs.length cs, .slice po s.opn.length co] 25 /\ Blk W g cur 91 /\ ∃ (m : Nat) (M : List (Int × Int × Int)) (v : Value), (∃ u : Nat -> Value, a' = { tmps := #[.agg #[.string s.name, .int .i64 s.eps, .int .i64 s.floor, .int .i64 s.last, .int .i64 s.scale, .slice ps s.segs.length cs, .slice po s.opn.length co], .int .i64 a, .int .i64 b, .pointer (some ⟨w.heap.size, 0, none⟩), u 4, u 5, u 6, v, .int .i64 (k : Int), .slice (some ⟨g, 0, none⟩) (ptsL x).length cp, .bool true, .int .i64 (m : Int), u 12, u 13, u 14, u 15, u 16, u 17, u 18, u 19, u 20, u 21, u 22, u 23, u 24, u 25, u 26, u 27, u 28, u 29, u 30, u 31, u 32, u 33, u 34, u 35, u 36, u 37, u 38, u 39, u 40, u 41, u 42, u 43, u 44, u 45, u 46, u 47, u 48, u 49, u 50, u 51, u 52, u 53, u 54, u 55, u 56, u 57, u 58, u 59, u 60, u 61, u 62, u 63, u 64, u 65, u 66, u 67, u 68, u 69, u 70, u 71, u 72, u 73, u 74, u 75, u 76, u 77, u 78, u 79, u 80, u 81, u 82, u 83, u 84, u 85, u 86, u 87, u 88, u 89, u 90, u 91, u 92, u 93, u 94, u 95, u 96, u 97, u 98, u 99, u 100, u 101, u 102, u 103, u 104, u 105, u 106, u 107, u 108, u 109, u 110, u 111, u 112, u 113, u 114, u 115, u 116, u 117, u 118, u 119], defers := [] }) /\
  OwnR W w.heap.size 63 3 v (L ++ M).length (flatCells ((L ++ M).map bkT)) /\ M = (((ptsL x).take m).filter (selB (mx a s.floor) b)).map (fun p => (p.1, p.2, x.E)) /\ m <= (ptsL x).length /\ M.length <= m
def bk3Rel (w : World) (s : SerT) (ps : Option Addr) (cs : Nat) (po : Option Addr) (co : Nat) (a b : Int) (L : List (Int × Int × Int)) (a' : Act) (W : World) : Prop :=
 Below w.heap.size w W /\ Blk W w.heap.size #[.string s.name, .int .i64 s.eps, .int .i64 s.floor, .int .i64 s.last, .int .i64 s.scale, .slice ps s.segs.length cs, .slice po s.opn.length co] 25 /\ ∃ (m : Nat) (M : List (Int × Int × Int)) (v : Value), (∃ u : Nat -> Value, a' = { tmps := #[.agg #[.string s.name, .int .i64 s.eps, .int .i64 s.floor, .int .i64 s.last, .int .i64 s.scale, .slice ps s.segs.length cs, .slice po s.opn.length co], .int .i64 a, .int .i64 b, .pointer (some ⟨w.heap.size, 0, none⟩), u 4, u 5, u 6, v, u 8, u 9, u 10, u 11, .int .i64 (m : Int), u 13, u 14, u 15, u 16, u 17, u 18, u 19, u 20, u 21, u 22, u 23, u 24, u 25, u 26, u 27, u 28, u 29, u 30, u 31, u 32, u 33, u 34, u 35, u 36, u 37, u 38, u 39, u 40, u 41, u 42, u 43, u 44, u 45, u 46, u 47, u 48, u 49, u 50, u 51, u 52, u 53, u 54, u 55, u 56, u 57, u 58, u 59, u 60, u 61, u 62, u 63, u 64, u 65, u 66, u 67, u 68, u 69, u 70, u 71, u 72, u 73, u 74, u 75, u 76, u 77, u 78, u 79, u 80, u 81, u 82, u 83, u 84, u 85, u 86, u 87, u 88, u 89, u 90, u 91, u 92, u 93, u 94, u 95, u 96, u 97, u 98, u 99, u 100, u 101, u 102, u 103, u 104, u 105, u 106, u 107, u 108, u 109, u 110, u 111, u 112, u 113, u 114, u 115, u 116, u 117, u 118, u 119], defers := [] }) /\
  OwnR W w.heap.size 63 3 v (L ++ M).length (flatCells ((L ++ M).map bkT)) /\ M = ((s.opn.take m).filter (selB (mx a s.floor) b)).map (fun p => (p.1, p.2, 0)) /\ m <= s.opn.length /\ M.length <= m
theorem refBack_w (s : SerT) (ps : Option Addr) (cs : Nat) (po : Option Addr) (co : Nat) (a b : Int) (w : World) (hin : SerIn w s ps po) (hv : ∀ x, x ∈ s.segs -> segB x = true) :
  Calls Tryz.prog 21 #[.agg #[.string s.name, .int .i64 s.eps, .int .i64 s.floor, .int .i64 s.last, .int .i64 s.scale, .slice ps s.segs.length cs, .slice po s.opn.length co], .int .i64 a, .int .i64 b] w fun e w' => ∃ v, e = .returned v /\ OwnR w' w.heap.size 63 3 v (toldL s a b).length (flatCells ((toldL s a b).map bkT)) /\ Below w.heap.size w w' := by
 obtain ⟨i0, hi, hz0, hz1, hz2⟩ := info_parts Tryz.infoBack
 have hfS := hin.fewS
 have hfO := hin.fewO
 go_enter Tryz.func21, Tryz.ntmps21
 go_wp2
 refine wp_loop (bk1Rel w s ps cs po co a b) (fun a' _ => s.segs.length - (intAt (a'.tmps.getD 8 undef)).toNat) ?_ ?_
 ·unfold bk1Rel
  exact ⟨belowAny, by exact blkAny2, 0, [], _, frame_ex rfl, OwnR.nil _ _ _ _, by simp, by omega, by simp⟩
 rintro a' W ⟨hW0, b1, k, L, v, ⟨u, rfl⟩, hown, hL, hk, hL6⟩
 have hz := hW0.size
 have zb1 := b1.lt
 rcases Nat.lt_or_ge k s.segs.length with hlk | hge
 ·obtain ⟨x, tr⟩ : ∃ r, s.segs[k]? = some r := ⟨s.segs[k]'(by omega), List.getElem?_eq_getElem (by omega)⟩
  have hsx := hv x (List.mem_of_getElem? tr)
  have hin' := hin.below hW0
  obtain ⟨bs, os, p', q', cps, vc, rfl, hs, hvc, q0, q1, q2, q3, q4, q5, q6, q7⟩ := hin'.segs.one tr
  have cP := Lib.hid (fun W' (hW' : Below W.heap.size W W') => c_refPoints x p' q' cps vc W' (hs.below hW') hsx)
  unfold segA at cP
  have hln := length_pts hsx
  have hcn := cnt_pos (segB_runs hsx)
  have zc := cell_lt q0
  try simp only at zc
  replace hL := Lib.hid hL
  replace tr := Lib.hid tr
  have k1 := b1.cell
  have f1 := b1.frozen
  go_wp2_with fail
  refine (cP.out _ belowAny).mono ?_
  rintro e w21 ⟨v1, rfl, hv1, hb21⟩
  have z22 := hb21.size
  try simp at z22
  clear k1 f1
  have b1 : Blk w21 w.heap.size #[.string s.name, .int .i64 s.eps, .int .i64 s.floor, .int .i64 s.last, .int .i64 s.scale, .slice (some ⟨bs, os, none⟩) s.segs.length cs, .slice po s.opn.length co] 25 := blkAny2
  have hW : Below W.heap.size W w21 := belowAny
  have z23 := b1.lt
  have k1 := b1.cell
  have f1 := b1.frozen
  obtain ⟨g, cp, cur, rfl, b2, htk⟩ := hv1.ptsB (by omega)
  have hW1 := hW0.trans (hW.mono hz)
  have hown1 := hown.below hW
  replace htk := Lib.hid htk
  clear hv1 hown cP hW q0 q1 q2 q3 q4 q5 q6 q7 k1 f1
  go_wp2
  refine wp_loop (bk2Rel w s (some ⟨bs, os, none⟩) cs po co a b k g cp cur x L) (fun a' _ => (ptsL x).length - (intAt (a'.tmps.getD 11 undef)).toNat) ?_ ?_
  ·unfold bk2Rel
   exact ⟨hW1, b1, b2, 0, [], _, frame_ex rfl, by rw [List.append_nil]; exact hown1, by simp, by omega, by simp⟩
  rintro a' V ⟨hV0, b1, b2, m, M, v, ⟨u, rfl⟩, hown, hM, hm, hMl⟩
  have hzv := hV0.size
  have zb1 := b1.lt
  have zb2 := b2.lt
  have hin' := hin.below hV0
  rcases Nat.lt_or_ge m (ptsL x).length with hlt | hge
  ·obtain ⟨⟨t, y⟩, tm⟩ : ∃ r, (ptsL x)[m]? = some r := ⟨(ptsL x)[m]'(by omega), List.getElem?_eq_getElem (by omega)⟩
   have hst := sel_step (selB (mx a s.floor) b) (fun p => (p.1, p.2, x.E)) tm
   rw [<- hM, sel_is] at hst
   replace tm := Lib.hid tm
   simp only at hst
   cases hc : (decide (s.floor <= t) && decide (a <= t) && decide (t <= b)) with
   | false =>
    rw [hc] at hst
    replace hc := Lib.hid hc
    replace hM := Lib.hid (show M = (((ptsL x).take (m + 1)).filter (selB (mx a s.floor) b)).map (fun p => (p.1, p.2, x.E)) by rw [hst]; simp)
    clear hst
    go_upto_region 9 with (fail)
    refine wp_facts (fun W' => Below V.heap.size V W' /\ Blk W' w.heap.size #[.string s.name, .int .i64 s.eps, .int .i64 s.floor, .int .i64 s.last, .int .i64 s.scale, .slice (some ⟨bs, os, none⟩) s.segs.length cs, .slice po s.opn.length co] 25 /\ PtsIn W' (some ⟨g, 0, none⟩) (ptsL x) /\ Blk W' g cur 91) ⟨by exact belowAny, by exact blkAny2, by first | exact pts_in b2 htk.out | exact b2, by exact blkAny2⟩ ?_
    rintro W41 ⟨hW, b1, b2, b3⟩
    have z42 := hW.size
    have z43 := b1.lt
    have z44 := b3.lt
    refine wp_region_ndQ 26 120 [] (fun W' => Rex [] W41 W' /\ Blk W' w.heap.size #[.string s.name, .int .i64 s.eps, .int .i64 s.floor, .int .i64 s.last, .int .i64 s.scale, .slice (some ⟨bs, os, none⟩) s.segs.length cs, .slice po s.opn.length co] 25 /\ PtsIn W' (some ⟨g, 0, none⟩) (ptsL x) /\ Blk W' g cur 91) mixed (by kernel_rfl) rfl ⟨(Rex.refl _ _).drew, b1, b2.drew, b3⟩ (fun w w' ⟨h0, h1, h2, h3⟩ hr => ⟨h0.trans hr, h1.rex hr (by simp <;> omega), h2.rex hr (by simp <;> omega), h3.rex hr (by simp <;> omega)⟩) rfl ?_
    iterate 26
     first
     | (
      apply nd_det (hg := rfl) (hal := rfl)
      ·intro a W' hC hE
       obtain ⟨_, k1, k2, k3⟩ := hC
       have k1 := k1.cell
       obtain ⟨b', o', e9, q1, q2⟩ := k2.at' m (t, y) tm.out; obtain ⟨rfl, rfl⟩ : g = b' /\ 0 = o' := (by injection e9 with e9; injection e9 with e1 e2; exact ⟨e1, e2⟩); simp only [Nat.zero_add] at q1 q2
       first
        | (simp at hE; simp [go_sem, Act.eval, IntWalk.i64_left, hE, k1, k2, k3, q1, q2, hlt]; try rfl)
        | (clear hE; simp [go_sem, Act.eval, IntWalk.i64_left, k1, k2, k3, q1, q2, hlt]; try rfl))
     | (
      apply nd_detg (p := true) (hg := rfl) (hd := rfl) (hal := rfl)
      ·intro v W' h
       simp at h
       simp
       exact h
      ·intro hp hx a W' hC hE
       obtain ⟨_, k1, k2, k3⟩ := hC
       have k1 := k1.cell
       obtain ⟨b', o', e9, q1, q2⟩ := k2.at' m (t, y) tm.out; obtain ⟨rfl, rfl⟩ : g = b' /\ 0 = o' := (by injection e9 with e9; injection e9 with e1 e2; exact ⟨e1, e2⟩); simp only [Nat.zero_add] at q1 q2
       simp [hx] at hE
       simp [go_sem, Act.eval, IntWalk.i64_left, hE, k1, k2, k3, q1, q2, hlt]
       try rfl)
     | (
      apply nd_pick_and (ho := rfl) (hg := rfl)
      ·intro v W' h
       simp at h
       exact h
      ·intro v W' h hx
       simp [hx] at h
       exact h)
    rintro W45 ⟨hR, d1, d2, d3⟩
    simp only [ndFinR, Det, forall_eq]
    intros
    repeat (rename GDet _ _ _ _ => hgd; clear hgd)
    simp only [Act.put, List.setIfInBounds_toArray, List.set_cons_zero, List.set_cons_succ]
    refine wpList_nil ?_
    replace hW := hW.trans (hR.of_priv hW.size)
    clear hR
    try clear b1 b2 b3
    have b1 := d1
    clear d1
    have b2 := d2
    clear d2
    have b3 := d3
    clear d3
    rw [hc.out]
    have hV1 := hV0.trans (hW.mono hzv)
    go_wp2
    rw [show (m : Int) + 1 = ((m + 1 : Nat) : Int) by omega]
    refine ⟨?_, by simp [intAt]; omega⟩
    exact ⟨hV1, b1, b3, m + 1, M, v, frame_ex rfl, hown.below hW, hM.out, by omega, by omega⟩
   | true =>
    rw [hc] at hst
    replace hc := Lib.hid hc
    replace hM := Lib.hid (show M ++ [(t, y, x.E)] = (((ptsL x).take (m + 1)).filter (selB (mx a s.floor) b)).map (fun p => (p.1, p.2, x.E)) by rw [hst]; simp)
    clear hst
    go_upto_region 9 with (fail)
    refine wp_facts (fun W' => Below V.heap.size V W' /\ Blk W' w.heap.size #[.string s.name, .int .i64 s.eps, .int .i64 s.floor, .int .i64 s.last, .int .i64 s.scale, .slice (some ⟨bs, os, none⟩) s.segs.length cs, .slice po s.opn.length co] 25 /\ PtsIn W' (some ⟨g, 0, none⟩) (ptsL x) /\ Blk W' g cur 91) ⟨by exact belowAny, by exact blkAny2, by first | exact pts_in b2 htk.out | exact b2, by exact blkAny2⟩ ?_
    rintro W41 ⟨hW, b1, b2, b3⟩
    have z42 := hW.size
    have z43 := b1.lt
    have z44 := b3.lt
    refine wp_region_ndQ 26 120 [] (fun W' => Rex [] W41 W' /\ Blk W' w.heap.size #[.string s.name, .int .i64 s.eps, .int .i64 s.floor, .int .i64 s.last, .int .i64 s.scale, .slice (some ⟨bs, os, none⟩) s.segs.length cs, .slice po s.opn.length co] 25 /\ PtsIn W' (some ⟨g, 0, none⟩) (ptsL x) /\ Blk W' g cur 91) mixed (by kernel_rfl) rfl ⟨(Rex.refl _ _).drew, b1, b2.drew, b3⟩ (fun w w' ⟨h0, h1, h2, h3⟩ hr => ⟨h0.trans hr, h1.rex hr (by simp <;> omega), h2.rex hr (by simp <;> omega), h3.rex hr (by simp <;> omega)⟩) rfl ?_
    iterate 26
     first
     | (
      apply nd_det (hg := rfl) (hal := rfl)
      ·intro a W' hC hE
       obtain ⟨_, k1, k2, k3⟩ := hC
       have k1 := k1.cell
       obtain ⟨b', o', e9, q1, q2⟩ := k2.at' m (t, y) tm.out; obtain ⟨rfl, rfl⟩ : g = b' /\ 0 = o' := (by injection e9 with e9; injection e9 with e1 e2; exact ⟨e1, e2⟩); simp only [Nat.zero_add] at q1 q2
       first
        | (simp at hE; simp [go_sem, Act.eval, IntWalk.i64_left, hE, k1, k2, k3, q1, q2, hlt]; try rfl)
        | (clear hE; simp [go_sem, Act.eval, IntWalk.i64_left, k1, k2, k3, q1, q2, hlt]; try rfl))
     | (
      apply nd_detg (p := true) (hg := rfl) (hd := rfl) (hal := rfl)
      ·intro v W' h
       simp at h
       simp
       exact h
      ·intro hp hx a W' hC hE
       obtain ⟨_, k1, k2, k3⟩ := hC
       have k1 := k1.cell
       obtain ⟨b', o', e9, q1, q2⟩ := k2.at' m (t, y) tm.out; obtain ⟨rfl, rfl⟩ : g = b' /\ 0 = o' := (by injection e9 with e9; injection e9 with e1 e2; exact ⟨e1, e2⟩); simp only [Nat.zero_add] at q1 q2
       simp [hx] at hE
       simp [go_sem, Act.eval, IntWalk.i64_left, hE, k1, k2, k3, q1, q2, hlt]
       try rfl)
     | (
      apply nd_pick_and (ho := rfl) (hg := rfl)
      ·intro v W' h
       simp at h
       exact h
      ·intro v W' h hx
       simp [hx] at h
       exact h)
    rintro W45 ⟨hR, d1, d2, d3⟩
    simp only [ndFinR, Det, forall_eq]
    intros
    repeat (rename GDet _ _ _ _ => hgd; clear hgd)
    simp only [Act.put, List.setIfInBounds_toArray, List.set_cons_zero, List.set_cons_succ]
    refine wpList_nil ?_
    replace hW := hW.trans (hR.of_priv hW.size)
    clear hR
    try clear b1 b2 b3
    have b1 := d1
    clear d1
    have b2 := d2
    clear d2
    have b3 := d3
    clear d3
    rw [hc.out]
    go_upto_region 10 with (fail)
    refine wp_facts (fun W' => Below V.heap.size V W' /\ Blk W' w.heap.size #[.string s.name, .int .i64 s.eps, .int .i64 s.floor, .int .i64 s.last, .int .i64 s.scale, .slice (some ⟨bs, os, none⟩) s.segs.length cs, .slice po s.opn.length co] 25 /\ PtsIn W' (some ⟨g, 0, none⟩) (ptsL x) /\ Blk W' g cur 91 /\ SerIn W' s (some ⟨bs, os, none⟩) po) ⟨by exact belowAny, by exact blkAny2, by first | exact pts_in b2 htk.out | exact b2, by exact blkAny2, by first | exact hin'.below (by assumption) | exact hin'⟩ ?_
    clear hW
    rintro W61 ⟨hW, b1, b2, b3, b4⟩
    have z62 := hW.size
    have z63 := b1.lt
    have z64 := b3.lt
    refine wp_region_nd 19 120 [] (fun W' => Rex [] W61 W' /\ Blk W' w.heap.size #[.string s.name, .int .i64 s.eps, .int .i64 s.floor, .int .i64 s.last, .int .i64 s.scale, .slice (some ⟨bs, os, none⟩) s.segs.length cs, .slice po s.opn.length co] 25 /\ PtsIn W' (some ⟨g, 0, none⟩) (ptsL x) /\ Blk W' g cur 91 /\ SerIn W' s (some ⟨bs, os, none⟩) po) mixed (by kernel_rfl) rfl ⟨(Rex.refl _ _).drew, b1, b2.drew, b3, b4.drew⟩ (fun w w' ⟨h0, h1, h2, h3, h4⟩ hr => ⟨h0.trans hr, h1.rex hr (by simp <;> omega), h2.rex hr (by simp <;> omega), h3.rex hr (by simp <;> omega), h4.rex hr (by simp <;> omega)⟩) (fun c a d v w h => by cases d <;> exact h) ?_
    iterate 18
     apply nd_det (hg := rfl) (hal := rfl)
     ·intro a W' hC hE
      obtain ⟨_, k1, k2, k3, k4⟩ := hC
      have k1 := k1.cell
      obtain ⟨b', o', e9, q1, q2⟩ := k2.at' m (t, y) tm.out; obtain ⟨rfl, rfl⟩ : g = b' /\ 0 = o' := (by injection e9 with e9; injection e9 with e1 e2; exact ⟨e1, e2⟩); simp only [Nat.zero_add] at q1 q2; obtain ⟨b2, o2, p2, q2', cp2, vc2, e10, -, -, r0, r1, r2, r3, r4, r5, r6, r7⟩ := k4.segs.one tr.out; obtain ⟨rfl, rfl⟩ : bs = b2 /\ os = o2 := (by injection e10 with e10; injection e10 with e1 e2; exact ⟨e1, e2⟩)
      first
       | (simp at hE; simp [go_sem, Act.eval, IntWalk.i64_left, hE, k1, k2, k3, k4, q1, q2, hlt, hlk, r7]; try rfl)
       | (clear hE; simp [go_sem, Act.eval, IntWalk.i64_left, k1, k2, k3, k4, q1, q2, hlt, hlk, r7]; try rfl)
    apply nd_mem (OneB W61.heap.size t y x.E) (hg := rfl) (hal := rfl)
    ·exact OneB.closed _ _ _ _
    ·intro a' W' hC hE
     simp at hE
     refine ⟨.slice (some ⟨W'.heap.size, 0, none⟩) 1 1, W'.alloc (.cells #[.int .i64 t, .int .i64 y, .int .i64 x.E] 63), ?_, (Below.refl _ _).alloc (Nat.le_refl _) _, W'.heap.size, rfl, hC.1.size, Blk.new' rfl⟩
     simp [go_sem, execOp, Act.eval, hE]
     try rfl
     done
    rintro W65 ⟨hR, d1, d2, d3, d4⟩
    simp only [ndFinR, Det, forall_eq]
    intros
    repeat (rename GDet _ _ _ _ => hgd; clear hgd)
    simp only [Act.put, List.setIfInBounds_toArray, List.set_cons_zero, List.set_cons_succ, List.drop_succ_cons, List.drop_zero]
    replace hW := hW.trans (hR.of_priv hW.size)
    clear hR
    try clear b1 b2 b3 b4
    have b1 := d1
    clear d1
    have b2 := d2
    clear d2
    have b3 := d3
    clear d3
    have b4 := d4
    clear d4
    rename OneB _ _ _ _ _ _ => ho
    obtain ⟨g1, rfl, hg1, bg⟩ := ho
    have y1 := bg.lt
    have hV1 := hV0.trans (hW.mono hzv)
    have hO := hown.below hW
    clear hown hW
    have zz := hV1.size
    have hlo := fun g e => hO.own.lt g e
    go_wp2_with (at_builtin; refine wpList_append_own2 rfl (.tmp 62) (.tmp 80) 52 rfl w.heap.size 63 i0 (.agg #[.int .i64 0, .int .i64 0, .int .i64 0]) 3 24 (by kernel_rfl) hi hz0 hz1 hz2 rfl (by decide) _ _ _ rfl hO.own ⟨g1, 0, none⟩ 1 1 [.int .i64 t, .int .i64 y, .int .i64 x.E] rfl rfl (fun j u hu => three_news bg hu) (by simp [Value.oneCell']) (by simp [maxLen]; omega) (by simp only [List.length_append]; omega) (by omega) ?_)
    intro v' w9 hown2 hgr hst
    have hB := Lib.hid (grown_below hV1 (by omega) hgr (fun g e => (hlo g e).1))
    have d1 := b1.grown0 hO.own (by decide) hgr
    have d2 := b3.grown0 hO.own (by decide) hgr
    replace hown2 := Lib.hid hown2
    clear hgr hst hO hlo b1 b2 b3 b4 bg
    go_wp2
    rw [show (m : Int) + 1 = ((m + 1 : Nat) : Int) by omega]
    refine ⟨?_, by simp [intAt]; omega⟩
    exact ⟨hB.out, d1, d2, m + 1, M ++ [(t, y, x.E)], v', frame_ex rfl, ⟨own_cast hown2.out (by simp only [List.length_append, List.length_cons, List.length_nil]; omega) (by rw [<- List.append_assoc, bk_snoc]; simp only [List.map_append])⟩, hM.out, by omega, by simp; omega⟩
  ·obtain rfl : m = (ptsL x).length := by omega
   have hx := Lib.hid (show L ++ M = (s.segs.take (k + 1)).flatMap (segBk (mx a s.floor) b) by rw [flat_step _ tr.out, <- hL.out, hM, List.take_length]; rfl)
   clear hM
   go_wp2
   rw [show (k : Int) + 1 = ((k + 1 : Nat) : Int) by omega]
   refine ⟨?_, by simp [intAt]; omega⟩
   unfold bk1Rel
   exact ⟨hV0, b1, k + 1, L ++ M, v, frame_ex rfl, hown, hx.out, by omega, by simp only [List.length_append]; omega⟩
 ·obtain rfl : k = s.segs.length := by omega
  rw [List.take_length] at hL
  replace hL := Lib.hid hL
  have k1 := b1.cell
  have f1 := b1.frozen
  go_wp2
  refine wp_loop (bk3Rel w s ps cs po co a b L) (fun a' _ => s.opn.length - (intAt (a'.tmps.getD 12 undef)).toNat) ?_ ?_
  ·unfold bk3Rel
   exact ⟨hW0, b1, 0, [], _, frame_ex rfl, by rw [List.append_nil]; exact hown, by simp, by omega, by simp⟩
  rintro a' V ⟨hV0, b1, m, M, v, ⟨u, rfl⟩, hown, hM, hm, hMl⟩
  have hzv := hV0.size
  have zb1 := b1.lt
  rcases Nat.lt_or_ge m s.opn.length with hlt | hge
  ·obtain ⟨⟨t, y⟩, tm⟩ : ∃ r, s.opn[m]? = some r := ⟨s.opn[m]'(by omega), List.getElem?_eq_getElem (by omega)⟩
   obtain ⟨bo, oo, rfl, q0, q1⟩ := (hin.below hV0).opn.at' m _ tm
   simp only at q0 q1
   have zc := cell_lt q0
   try simp only at zc
   have hst := sel_step (selB (mx a s.floor) b) (fun p => (p.1, p.2, (0 : Int))) tm
   rw [<- hM, sel_is] at hst
   simp only at hst
   by_cases g1 : s.floor <= t
   ·by_cases g2 : a <= t
    ·by_cases g3 : t <= b
     ·rw [decide_eq_true g1, decide_eq_true g2, decide_eq_true g3] at hst
      replace hM := Lib.hid (show M ++ [(t, y, 0)] = ((s.opn.take (m + 1)).filter (selB (mx a s.floor) b)).map (fun p => (p.1, p.2, 0)) by rw [hst]; simp)
      clear hst tm
      have k1 := b1.cell
      have f1 := b1.frozen
      go_upto_region 16 with (fail)
      clear k1 f1
      refine wp_facts (fun W' => Below V.heap.size V W' /\ Blk W' w.heap.size #[.string s.name, .int .i64 s.eps, .int .i64 s.floor, .int .i64 s.last, .int .i64 s.scale, .slice ps s.segs.length cs, .slice (some ⟨bo, oo, none⟩) s.opn.length co] 25 /\ Blk W' V.heap.size #[.int .i64 t, .int .i64 y] 91) ⟨by exact belowAny, by exact blkAny2, by exact blkAny2⟩ ?_
      clear b1
      rintro W81 ⟨hW, b1, b2⟩
      have z82 := hW.size
      have z83 := b1.lt
      have z84 := b2.lt
      have k1 := b1.cell
      have f1 := b1.frozen
      have k2 := b2.cell
      have f2 := b2.frozen
      have hV1 := hV0.trans (hW.mono hzv)
      have hO := hown.below hW
      clear hown hW
      have zz := hV1.size
      have zq := b2.lt
      go_wp2_with (at_builtin; refine wpList_append_own _ rfl (.tmp 111) (.tmp 117) 52 rfl w.heap.size 63 i0 (.agg #[.int .i64 0, .int .i64 0, .int .i64 0]) 3 24 (by kernel_rfl) hi hz0 hz1 hz2 rfl (by decide) _ _ _ rfl (hO.own.alloc _) ⟨W81.heap.size, 0, none⟩ 1 1 [.int .i64 t, .int .i64 y, .int .i64 0] rfl rfl (cell_three_new _ _ _ _ _) (by simp [Value.oneCell']) (by simp [maxLen]; omega) (by simp only [List.length_append]; omega) (by simp; omega) ?_)
      intro v' w9 hown2 hgr _
      have hB := Lib.hid (below_append hV1 zz hO.own hgr)
      have d1 := b1.grown hO.own (by decide) hgr
      replace hown2 := Lib.hid hown2
      clear hgr hO b1 b2 k1 k2 f1 f2
      go_wp2
      rw [show (m : Int) + 1 = ((m + 1 : Nat) : Int) by omega]
      refine ⟨?_, by simp [intAt]; omega⟩
      exact ⟨hB.out, d1, m + 1, M ++ [(t, y, 0)], v', frame_ex rfl, ⟨own_cast hown2.out (by simp only [List.length_append, List.length_cons, List.length_nil]; omega) (by rw [<- List.append_assoc, bk_snoc]; simp only [List.map_append])⟩, hM.out, by omega, by simp; omega⟩
     ·rw [decide_eq_false g3, Bool.and_false] at hst
      replace hM := Lib.hid (show M = ((s.opn.take (m + 1)).filter (selB (mx a s.floor) b)).map (fun p => (p.1, p.2, 0)) by rw [hst]; simp)
      clear hst tm
      have k1 := b1.cell
      have f1 := b1.frozen
      go_wp2
      rw [show (m : Int) + 1 = ((m + 1 : Nat) : Int) by omega]
      refine ⟨?_, by simp [intAt]; omega⟩
      have hA : Below V.heap.size V (V.alloc (.cells #[.int .i64 t, .int .i64 y] 91)) := belowAny
      exact ⟨hV0.trans (hA.mono hzv), by exact blkAny2, m + 1, M, v, frame_ex rfl, hown.below hA, hM.out, by omega, by omega⟩
    ·rw [decide_eq_false g2, Bool.and_false, Bool.false_and] at hst
     replace hM := Lib.hid (show M = ((s.opn.take (m + 1)).filter (selB (mx a s.floor) b)).map (fun p => (p.1, p.2, 0)) by rw [hst]; simp)
     clear hst tm
     have k1 := b1.cell
     have f1 := b1.frozen
     go_wp2
     rw [show (m : Int) + 1 = ((m + 1 : Nat) : Int) by omega]
     refine ⟨?_, by simp [intAt]; omega⟩
     have hA : Below V.heap.size V (V.alloc (.cells #[.int .i64 t, .int .i64 y] 91)) := belowAny
     exact ⟨hV0.trans (hA.mono hzv), by exact blkAny2, m + 1, M, v, frame_ex rfl, hown.below hA, hM.out, by omega, by omega⟩
   ·rw [decide_eq_false g1, Bool.false_and, Bool.false_and] at hst
    replace hM := Lib.hid (show M = ((s.opn.take (m + 1)).filter (selB (mx a s.floor) b)).map (fun p => (p.1, p.2, 0)) by rw [hst]; simp)
    clear hst tm
    have k1 := b1.cell
    have f1 := b1.frozen
    go_wp2
    rw [show (m : Int) + 1 = ((m + 1 : Nat) : Int) by omega]
    refine ⟨?_, by simp [intAt]; omega⟩
    have hA : Below V.heap.size V (V.alloc (.cells #[.int .i64 t, .int .i64 y] 91)) := belowAny
    exact ⟨hV0.trans (hA.mono hzv), by exact blkAny2, m + 1, M, v, frame_ex rfl, hown.below hA, hM.out, by omega, by omega⟩
  ·obtain rfl : m = s.opn.length := by omega
   rw [List.take_length] at hM
   have hT := Lib.hid (show toldL s a b = L ++ M by rw [hL.out, hM]; rfl)
   clear hM
   have k1 := b1.cell
   have f1 := b1.frozen
   go_wp2
   refine bodyPost_ret (v := v) (by simp [results, Tryz.results21, go_sem]) rfl ⟨v, rfl, ?_, hV0⟩
   rw [hT.out]
   exact hown
end Go.Proofs.YtidfcoooccblaaaGreat
