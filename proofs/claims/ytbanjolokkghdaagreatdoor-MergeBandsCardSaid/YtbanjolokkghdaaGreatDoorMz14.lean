/- Parts of the proof that follows: Layers record and series: Name, and whether a series' numbers may be. No condition. | Layer seg: Check, Count told. | seg.Far$1, walked: how far a segment is from points. No condition. | A series in memory; a row of segments: ends, Check; a segment's last time. No condition. | A series' times, one behind the other. No condition. | series.kept: how many times a series keeps. No condition. | series.Check. No condition. | Binary digits, plainly, from the lowest on. No condition. -/
import Derived.Lib.OthersKept
import Derived.Lib.RuneBytes
import Derived.Test.YtbanjolokkghdaaGreatDoorMz13
set_option maxRecDepth 100000
set_option maxHeartbeats 8000000
set_option linter.unusedSimpArgs false
set_option linter.unusedVariables false
namespace Go.Proofs.YtbanjolokkghdaaGreatDoor
open Go.RowKit
def nmRel (w : World) (s : ByteArray) (ok : Bool) (a' : Act) (W : World) : Prop :=
 Below w.heap.size w W /\ ∃ pos f : Nat, (∃ u : Nat -> Value, a' = { tmps := #[.string s, u 1, u 2, .bool ok, u 4, u 5, u 6, u 7, u 8, u 9, u 10, u 11, u 12, u 13, u 14, .pointer (some ⟨w.heap.size, 0, none⟩), u 16, u 17, u 18, u 19, u 20, u 21, u 22], defers := [] }) /\ W.heap[w.heap.size]? = some (.stringIter s pos) /\ s.size <= pos + f /\ lettersB s f pos = lettersB s s.size 0
theorem scheck_no (K A R n d E : Int) (p q : Option Addr) (len cap m vc : Nat) (w : World)
  (c1 : ∀ W, Below w.heap.size w W -> Calls Tryz.prog 70 #[.agg #[.int .i64 K, .slice p len cap, .int .i64 A, .int .i64 R, .int .i64 n, .int .i64 d, .slice q m vc, .int .i64 E]] W fun e w' => e = .returned (.bool false) /\ Below W.heap.size W w') :
  Calls Tryz.prog 42 #[.agg #[.int .i64 K, .slice p len cap, .int .i64 A, .int .i64 R, .int .i64 n, .int .i64 d, .slice q m vc, .int .i64 E]] w fun e w' => e = .returned (.int .i64 210) /\ Below w.heap.size w w' := by
 have H_c1 := Lib.hid c1
 clear c1
 go_enter Tryz.func42, Tryz.ntmps42
 go_upto_region 1 with (fail)
 refine wp_cutB w (Bc w.heap.size #[.int .i64 K, .slice p len cap, .int .i64 A, .int .i64 R, .int .i64 n, .int .i64 d, .slice q m vc, .int .i64 E] 29 <| Bz) ?_
 rintro W1 hW z2 ⟨⟨b1, yb1, k1, f1⟩, -⟩
 go_wp2_with fail
 refine (H_c1.out _ (belowAny)).mono ?_
 rintro e w3 ⟨rfl, hb3⟩
 have z4 := hb3.size
 try simp at z4
 clear k1 f1
 refine haveB w w3 (Bc w.heap.size #[.int .i64 K, .slice p len cap, .int .i64 A, .int .i64 R, .int .i64 n, .int .i64 d, .slice q m vc, .int .i64 E] 29 <| Bz) ?_
 clear b1 hW
 rintro hW z5 ⟨⟨b1, yb1, k1, f1⟩, -⟩
 clear hb3
 go_wp2
 refine bodyPost_ret (by simp [results, Tryz.results42, go_sem, k1, f1, yb1]) rfl ⟨rfl, by exact belowAny⟩
theorem scheck_yes (K A R n d E : Int) (p q : Option Addr) (len cap m vc : Nat) (w : World)
  (c1 : ∀ W, Below w.heap.size w W -> Calls Tryz.prog 70 #[.agg #[.int .i64 K, .slice p len cap, .int .i64 A, .int .i64 R, .int .i64 n, .int .i64 d, .slice q m vc, .int .i64 E]] W fun e w' => e = .returned (.bool true) /\ Below W.heap.size W w') :
  Calls Tryz.prog 42 #[.agg #[.int .i64 K, .slice p len cap, .int .i64 A, .int .i64 R, .int .i64 n, .int .i64 d, .slice q m vc, .int .i64 E]] w fun e w' => e = .returned (.int .i64 0) /\ Below w.heap.size w w' := by
 have H_c1 := Lib.hid c1
 clear c1
 go_enter Tryz.func42, Tryz.ntmps42
 go_upto_region 1 with (fail)
 refine wp_cutB w (Bc w.heap.size #[.int .i64 K, .slice p len cap, .int .i64 A, .int .i64 R, .int .i64 n, .int .i64 d, .slice q m vc, .int .i64 E] 29 <| Bz) ?_
 rintro W1 hW z2 ⟨⟨b1, yb1, k1, f1⟩, -⟩
 go_wp2_with fail
 refine (H_c1.out _ (belowAny)).mono ?_
 rintro e w3 ⟨rfl, hb3⟩
 have z4 := hb3.size
 try simp at z4
 clear k1 f1
 refine haveB w w3 (Bc w.heap.size #[.int .i64 K, .slice p len cap, .int .i64 A, .int .i64 R, .int .i64 n, .int .i64 d, .slice q m vc, .int .i64 E] 29 <| Bz) ?_
 clear b1 hW
 rintro hW z5 ⟨⟨b1, yb1, k1, f1⟩, -⟩
 clear hb3
 go_wp2
 refine bodyPost_ret (by simp [results, Tryz.results42, go_sem, k1, f1, yb1]) rfl ⟨rfl, by exact belowAny⟩
theorem c_segCheckYes (s : SegT) (p q : Option Addr) (cap vc : Nat) (w : World) (h : SegIn w s p q) (hs : segB s = true) :
  Calls Tryz.prog 42 #[.agg (segA s p q cap vc)] w fun e w' => e = .returned (.int .i64 0) /\ Below w.heap.size w w' :=
 scheck_yes _ _ _ _ _ _ p q _ cap _ vc w (fun W hW => by have := c_segIs s p q cap vc W (h.below hW); rw [hs] at this; exact this)
theorem c_segCheckNo (s : SegT) (p q : Option Addr) (cap vc : Nat) (w : World) (h : SegIn w s p q) (hs : segB s = false) :
  Calls Tryz.prog 42 #[.agg (segA s p q cap vc)] w fun e w' => e = .returned (.int .i64 210) /\ Below w.heap.size w w' :=
 scheck_no _ _ _ _ _ _ p q _ cap _ vc w (fun W hW => by have := c_segIs s p q cap vc W (h.below hW); rw [hs] at this; exact this)
end Go.Proofs.YtbanjolokkghdaaGreatDoor
namespace Go.Proofs.YtbanjolokkghdaaGreatDoor
open Go.RowKit Go.Shelf
attribute [local go_sem] Oper.semAt_some
def okZ (z : (Int × Int) × (Int × Int)) : Bool := (z.2.1 == z.1.1) && isBack z.2.2
def farStep (f : Int) (z : (Int × Int) × (Int × Int)) : Int := mx (mx f (wrap64 (z.2.2 - z.1.2))) (wrap64 (z.1.2 - z.2.2))
def farOf (l : List ((Int × Int) × (Int × Int))) : Int := l.foldl farStep 0
structure KF (B0 n₀ : Nat) (A B : World) : Prop where
 below : Below B0 A B
 rest : ∀ (b : Nat) (cs : Array Value) (t : TypeId) (f : Nat × Nat), n₀ <= b -> A.heap[b]? = some (.cells cs t f) -> B.heap[b]? = some (.cells cs t f)
theorem KF.refl (B0 n₀ : Nat) (A : World) : KF B0 n₀ A A := ⟨Below.refl _ _, fun _ _ _ _ _ h => h⟩
theorem KF.trans {B0 n₀ : Nat} {A B C : World} (h : KF B0 n₀ A B) (k : KF B0 n₀ B C) : KF B0 n₀ A C := ⟨h.below.trans k.below, fun b cs t f hb ha => k.rest b cs t f hb (h.rest b cs t f hb ha)⟩
theorem KF.alloc {B0 n₀ : Nat} {A B : World} (h : KF B0 n₀ A B) (hB : B0 <= B.heap.size) (o : Obj) : KF B0 n₀ A (B.alloc o) := ⟨h.below.alloc hB o, fun b cs t f hb ha => (Below.heap_alloc B o b (lt_of_heap (h.rest b cs t f hb ha))).trans (h.rest b cs t f hb ha)⟩
theorem KF.set {B0 n₀ : Nat} {A B : World} (h : KF B0 n₀ A B) {g i : Nat} (h1 : B0 <= g) (h2 : g < n₀) (v : Value) : KF B0 n₀ A (B.setCell ⟨g, i, none⟩ v) := ⟨h.below.setCell (p := ⟨g, i, none⟩) h1 v, fun b cs t f hb ha => (Below.heap_setCell B ⟨g, i, none⟩ v b (by simp; omega)).trans (h.rest b cs t f hb ha)⟩
theorem KF.calls {B0 n₀ : Nat} {A B C : World} (h : KF B0 n₀ A B) (hb : Below B.heap.size B C) (hB : B0 <= B.heap.size) : KF B0 n₀ A C := ⟨h.below.trans (hb.mono hB), fun b cs t f hn ha => (hb.block b (lt_of_heap (h.rest b cs t f hn ha))).trans (h.rest b cs t f hn ha)⟩
theorem KF.putObj {B0 n₀ : Nat} {w : World} (hB : B0 <= w.heap.size) (W : World) (l : Nat) (o o' : Obj) (hl : w.heap.size <= l) (h : W.heap[l]? = some o) (h1 : o.isCells = false) (h2 : o.isWalk = false) : KF B0 n₀ W (W.putObj l o') :=
 ⟨belowK_b hB W l o o' hl h h1 h2, fun b cs t f _ ha => keepsT_putObj o' h h1 b cs f ha⟩
theorem KeepsOthers.calls {A B C : World} (h : KeepsOthers A B) (hb : Below B.heap.size B C) : KeepsOthers A C := ⟨Nat.le_trans h.size hb.size, fun k o hk ho => by
 have e := h.same k o hk ho
 exact (hb.block k (lt_of_heap (e))).trans e⟩
def farR (s : SegT) (pts : List (Int × Int)) : Int × Int := if pts.length = (ptsL s).length then (if ((ptsL s).zip pts).all okZ then (farOf ((ptsL s).zip pts), 0) else (0, 2)) else (0, 2)
def FarOut (s : SegT) (pts : List (Int × Int)) (w : World) (e : Ending) (w' : World) : Prop := e = .returned (.tuple #[.int .i64 (farR s pts).1, .int .i64 (farR s pts).2]) /\ Below w.heap.size w w'
end Go.Proofs.YtbanjolokkghdaaGreatDoor
namespace Go.Proofs.YtbanjolokkghdaaGreatDoor
open Go.RowKit
attribute [local simp] Oper.looksAt Op.operands Call.operands envOf Det GDet
structure SegsIn (w : World) (p : Option Addr) (l : List SegT) : Prop where
 at' : ∀ (i : Nat) (s : SegT), l[i]? = some s -> ∃ b o p' q' cap vc, p = some ⟨b, o, none⟩ /\ (∀ j v, (segA s p' q' cap vc)[j]? = some v -> w.cell? ⟨b, o + i * 8 + j, none⟩ = some v) /\ SegIn w s p' q' /\ s.raw.length <= vc
theorem SegsIn.below {w w' : World} {p : Option Addr} {l : List SegT} (h : SegsIn w p l) (hb : Below w.heap.size w w') : SegsIn w' p l := ⟨fun i s hs => by
 obtain ⟨b, o, p', q', cap, vc, e, h1, h2, h3⟩ := h.at' i s hs
 exact ⟨b, o, p', q', cap, vc, e, fun j v hv => (hb.cell (p := ⟨b, _, none⟩) (cell_lt (h1 j v hv))).trans (h1 j v hv), h2.below hb, h3⟩⟩
theorem SegsIn.one {w : World} {p : Option Addr} {l : List SegT} (h : SegsIn w p l) {i : Nat} {s : SegT} (hs : l[i]? = some s) : ∃ b o p' q' cap vc, p = some ⟨b, o, none⟩ /\ SegIn w s p' q' /\ s.raw.length <= vc /\
  w.cell? ⟨b, o + i * 8, none⟩ = some (.int .i64 s.K) /\ w.cell? ⟨b, o + i * 8 + 1, none⟩ = some (.slice p' s.runs.length cap) /\ w.cell? ⟨b, o + i * 8 + 2, none⟩ = some (.int .i64 s.A) /\ w.cell? ⟨b, o + i * 8 + 3, none⟩ = some (.int .i64 s.R) /\ w.cell? ⟨b, o + i * 8 + 4, none⟩ = some (.int .i64 s.n) /\ w.cell? ⟨b, o + i * 8 + 5, none⟩ = some (.int .i64 s.d) /\ w.cell? ⟨b, o + i * 8 + 6, none⟩ = some (.slice q' s.raw.length vc) /\ w.cell? ⟨b, o + i * 8 + 7, none⟩ = some (.int .i64 s.E) := by
 obtain ⟨b, o, p', q', cap, vc, e, h1, h2, h3⟩ := h.at' i s hs
 exact ⟨b, o, p', q', cap, vc, e, h2, h3, h1 0 _ rfl, h1 1 _ rfl, h1 2 _ rfl, h1 3 _ rfl, h1 4 _ rfl, h1 5 _ rfl, h1 6 _ rfl, h1 7 _ rfl⟩
structure SerIn (w : World) (s : SerT) (ps po : Option Addr) : Prop where
 segs : SegsIn w ps s.segs
 opn : PtsIn w po s.opn
 fewS : s.segs.length <= 100
 fewO : s.opn.length <= 100
theorem SerIn.below {w w' : World} {s : SerT} {ps po : Option Addr} (h : SerIn w s ps po) (hb : Below w.heap.size w w') : SerIn w' s ps po := ⟨h.segs.below hb, h.opn.below hb, h.fewS, h.fewO⟩
def serA (s : SerT) (ps : Option Addr) (cs : Nat) (po : Option Addr) (co : Nat) : Array Value := #[.string s.name, .int .i64 s.eps, .int .i64 s.floor, .int .i64 s.last, .int .i64 s.scale, .slice ps s.segs.length cs, .slice po s.opn.length co]
theorem firstT_is {r : RunT} {l : List RunT} (h : RunsOk (r :: l)) : firstT (r :: l) = r.f := by
 have h1 := (h.each r (by simp)).c0
 unfold firstT
 apply atV_some
 have := atL_eq (r :: l) 0 (fun r hr => by have := (h.each r hr).c0; omega)
 rw [show ((0 : Nat) : Int) = 0 from rfl] at this
 rw [this]
 show (timesR r ++ timesL l)[0]? = _
 have hn : (timesR r).length = r.c.toNat := length_timesR r
 rw [List.getElem?_append_left (by omega), timesR_at r 0 (by omega)]
 simp
theorem lastT_is {r : RunT} {l : List RunT} (h : RunsOk (l ++ [r])) : lastT (l ++ [r]) = r.f + (r.c - 1) * r.s := by
 have h1 := (h.each r (by simp)).c0
 have hc : ∀ q, q ∈ l ++ [r] -> 0 <= q.c := fun q hq => by have := (h.each q hq).c0; omega
 have hl := length_timesL (l ++ [r]) hc
 have hl2 := length_timesL l fun q hq => hc q (by simp [hq])
 unfold lastT
 rw [cnt_append] at hl ⊢
 simp only [cnt] at hl ⊢
 apply atV_some
 have := atL_eq (l ++ [r]) ((cnt l + (r.c + 0)) - 1).toNat hc
 rw [Int.toNat_of_nonneg (by omega)] at this
 rw [this, timesL_append]
 have e : timesL [r] = timesR r := by simp [timesL]
 rw [e, List.getElem?_append_right (by omega), timesR_at r _ (by omega), show ((((cnt l + (r.c + 0)) - 1).toNat - (timesL l).length : Nat) : Int) = r.c - 1 by omega, Int.mul_comm]
theorem mgEnds_wrap {r : RunT} (hr : RunOk r) : wrap64 (r.c - 1) = r.c - 1 /\ wrap64 ((r.c - 1) * r.s) = (r.c - 1) * r.s /\ wrap64 (r.f + (r.c - 1) * r.s) = r.f + (r.c - 1) * r.s := by
 have r1 := hr.f0; have r2 := hr.f1; have r3 := hr.s0; have r4 := hr.s1; have r5 := hr.c0; have r6 := hr.c1
 obtain ⟨M, hM⟩ : ∃ M, (r.c - 1) * r.s = M := ⟨_, rfl⟩
 have m0 : 0 <= M := hM ▸ Int.mul_nonneg (by omega) (by omega)
 have m1 : M <= 256 * 281474976710656 := hM ▸ Int.mul_le_mul (by omega) (by omega) (by omega) (by omega)
 rw [hM, wrap64_eq, wrap64_eq, wrap64_eq]
 omega
theorem mgEnds_w (K A R n d E : Int) (q : Option Addr) (b o cap m vc : Nat) (l : List RunT) (r0 r1 : RunT) (w : World) (h : RunsIn w (some ⟨b, o, none⟩) l) (H0 : Hid (l[0]? = some r0)) (H1 : l[l.length - 1]? = some r1) (hlen : l.length <= 300) (hpos : 0 < l.length) (hr : RunOk r1) :
  Calls Tryz.prog 43 #[.agg #[.int .i64 K, .slice (some ⟨b, o, none⟩) l.length cap, .int .i64 A, .int .i64 R, .int .i64 n, .int .i64 d, .slice q m vc, .int .i64 E]] w fun e w' => e = .returned (.tuple #[.int .i64 r0.f, .int .i64 (r1.f + (r1.c - 1) * r1.s)]) /\ Below w.heap.size w w' := by
 obtain ⟨b', o', e9, q0, q1, q2⟩ := h.at' _ _ H1
 obtain ⟨rfl, rfl⟩ : b = b' /\ o = o' := by (injection e9 with e9; injection e9 with e1 e2; exact ⟨e1, e2⟩)
 clear e9 H1
 have zv := cell_lt q0
 try simp only at zv
 obtain ⟨E2, E3, E4⟩ := mgEnds_wrap hr
 replace E2 := Lib.hid E2
 replace E3 := Lib.hid E3
 replace E4 := Lib.hid E4
 go_enter Tryz.func43, Tryz.ntmps43
 have E1 := Lib.hid (show wrap64 ((l.length : Int) - 1) = ((l.length - 1 : Nat) : Int) by rw [wrap64_eq]; omega)
 go_upto_region 2 with (fail)
 refine wp_cutB w (Bc w.heap.size #[.int .i64 K, .slice (some ⟨b, o, none⟩) l.length cap, .int .i64 A, .int .i64 R, .int .i64 n, .int .i64 d, .slice q m vc, .int .i64 E] 29 <| Bc (w.heap.size + 1) #[.int .i64 r1.f, .int .i64 r1.s, .int .i64 r1.c] 94 <| Rc (fun W' => RunsIn W' (some ⟨b, o, none⟩) l) <| Bz) ?_ (hI := by exact belowAny) (hR := (Bc.mk (by exact blkAny2) <| Bc.mk (by exact blkAny2) <| Rc.mk (by exact (h.below belowAny)) <| trivial))
 rintro W1 hW z2 hL
 obtain ⟨⟨b1, yb1, k1, f1⟩, ⟨b2, yb2, k2, f2⟩, b3, -⟩ := id hL
 clear k1 f1 k2 f2
 refine wp_regD 16 27 hW hL ?_
 iterate 16
  apply nd_det (hg := rfl) (hal := rfl)
  ·intro a W' hC hE
   obtain ⟨_, ⟨-, -, k1, -⟩, ⟨-, -, k2, -⟩, k3, -⟩ := hC
   obtain ⟨b', o', e9, q0, q1, q2⟩ := k3.at' 0 _ H0.out; obtain ⟨rfl, rfl⟩ : b = b' /\ o = o' := (by injection e9 with e9; injection e9 with e1 e2; exact ⟨e1, e2⟩); rw [Nat.zero_mul, Nat.add_zero] at q0
   first
    | (simp at hE; simp [go_sem, Act.eval, IntWalk.i64_left, hE, k1, k2, k3, q0, q1, q2, hpos, E2.out, E3.out, E4.out]; try rfl)
    | (clear hE; simp [go_sem, Act.eval, IntWalk.i64_left, k1, k2, k3, q0, q1, q2, hpos, E2.out, E3.out, E4.out]; try rfl)
 clear hW hL b1 b2 b3
 rintro W3 hW z4 hL
 simp only [ndR]
 intros
 simp only [ndS]
 refine wpList_nil ?_
 obtain ⟨⟨b1, yb1, k1, f1⟩, ⟨b2, yb2, k2, f2⟩, b3, -⟩ := hL
 go_wp2
 refine bodyPost_ret (by simp [results, Tryz.results43, go_sem, k1, f1, k2, f2, yb1, yb2]) rfl ⟨rfl, by exact belowAny⟩
theorem c_mgEnds (s : SegT) (p q : Option Addr) (cap vc : Nat) (w : World) (h : SegIn w s p q) (hs : segB s = true) :
  Calls Tryz.prog 43 #[.agg (segA s p q cap vc)] w fun e w' => e = .returned (.tuple #[.int .i64 (firstT s.runs), .int .i64 (lastT s.runs)]) /\ Below w.heap.size w w' := by
 have hl := segB_runs hs
 have hpos := hl.some'
 have hne : s.runs ≠ [] := List.length_pos_iff.1 hpos
 obtain ⟨r0, l0, e0⟩ : ∃ r l, s.runs = r :: l := List.exists_cons_of_ne_nil hne
 obtain ⟨l1, r1, e1⟩ : ∃ l r, s.runs = l ++ [r] := ⟨s.runs.dropLast, s.runs.getLast hne, (List.dropLast_concat_getLast hne).symm⟩
 have h0 : s.runs[0]? = some r0 := by rw [e0]; rfl
 have h1 : s.runs[s.runs.length - 1]? = some r1 := by rw [e1]; simp
 have f0 : firstT s.runs = r0.f := by rw [e0] at hl ⊢; exact firstT_is hl
 have f1 : lastT s.runs = r1.f + (r1.c - 1) * r1.s := by rw [e1] at hl ⊢; exact lastT_is hl
 obtain ⟨b, o, rfl, -⟩ := h.runs.at' 0 r0 h0
 rw [f0, f1]
 exact mgEnds_w _ _ _ _ _ _ q b o cap _ vc s.runs r0 r1 w h.runs (Lib.hid h0) h1 h.fewR hpos (hl.each r1 (List.mem_of_getElem? h1))
def mcRel (w : World) (p : Option Addr) (cap : Nat) (l : List SegT) (a' : Act) (W : World) : Prop :=
 Below w.heap.size w W /\ ∃ (i : Nat) (bh : Int), (∃ u : Nat -> Value, a' = { tmps := #[.slice p l.length cap, u 1, u 2, .int .i64 bh, u 4, u 5, u 6, u 7, .slice p l.length cap, .int .i64 (l.length : Int), .int .i64 (i : Int), u 11, u 12, u 13, u 14, u 15, u 16, u 17, u 18, u 19, u 20, u 21, u 22, u 23, u 24, u 25, u 26], defers := [] }) /\ i <= l.length /\ rowB (-1) l = rowB bh (l.drop i)
theorem c_mgCheck (p : Option Addr) (cap : Nat) (l : List SegT) (w : World) (hlen : l.length <= 1000000) (h : SegsIn w p l) :
  Calls Tryz.prog 12 #[.slice p l.length cap] w fun e w' => e = .returned (.int .i64 (if rowB (-1) l = true then 0 else 240)) /\ Below w.heap.size w w' := by
 obtain ⟨RES, hRES⟩ : ∃ z : Int, (if rowB (-1) l = true then 0 else 240) = z := ⟨_, rfl⟩
 rw [hRES]
 go_enter Tryz.func12, Tryz.ntmps12
 go_wp2
 refine wp_loop (mcRel w p cap l) (fun a' _ => l.length - (intAt (a'.tmps.getD 10 undef)).toNat) ?_ ?_
 ·unfold mcRel
  exact ⟨Below.refl _ _, 0, -1, frame_ex rfl, Nat.zero_le _, rfl⟩
 ·rintro a' W ⟨hW0, i, bh, ⟨u, rfl⟩, hi', hrow⟩
  have hz := hW0.size
  rcases Nat.lt_or_ge i l.length with hlt | hge
  ·obtain ⟨s, tr⟩ : ∃ r, l[i]? = some r := ⟨l[i]'(by omega), List.getElem?_eq_getElem (by omega)⟩
   have hin := h.below hW0
   obtain ⟨b, o, p', q', cp, vc, rfl, hs, hvc, q0, q1, q2, q3, q4, q5, q6, q7⟩ := hin.one tr
   have hd : l.drop i = s :: l.drop (i + 1) := by
    rw [List.drop_eq_getElem_cons hlt]
    rw [List.getElem?_eq_getElem hlt] at tr
    injection tr with tr
    rw [tr]
   rw [hd] at hrow
   simp only [rowB] at hrow
   clear hd tr hin
   cases hb : segB s with
   | false =>
    have c1 := fun W' (hW' : Below W.heap.size W W') => c_segCheckNo s p' q' cp vc W' (hs.below hW') hb
    unfold segA at c1
    replace c1 := Lib.hid c1
    rw [hb, Bool.false_and] at hrow
    rw [hrow] at hRES
    replace hRES := Lib.hid hRES
    clear hb hrow hs
    go_wp2_with fail
    refine (c1.out _ belowAny).mono ?_
    rintro e w21 ⟨rfl, hb21⟩
    have z22 := hb21.size
    try simp at z22
    refine haveB W w21 (Bc W.heap.size #[.int .i64 s.K, .slice p' s.runs.length cp, .int .i64 s.A, .int .i64 s.R, .int .i64 s.n, .int .i64 s.d, .slice q' s.raw.length vc, .int .i64 s.E] 29 <| Bz) ?_
    rintro hW z23 ⟨⟨b1, yb1, k1, f1⟩, -⟩
    clear hb21
    go_wp2
    go_ret
    exact ⟨by rw [<- hRES.out]; rfl, hW0.trans (hW.mono hz)⟩
   | true =>
    have c1 := fun W' (hW' : Below W.heap.size W W') => c_segCheckYes s p' q' cp vc W' (hs.below hW') hb
    have c2 := fun W' (hW' : Below W.heap.size W W') => c_mgEnds s p' q' cp vc W' (hs.below hW') hb
    unfold segA at c1 c2
    replace c1 := Lib.hid c1
    replace c2 := Lib.hid c2
    rw [hb, Bool.true_and] at hrow
    clear hb hs
    obtain ⟨F, hF⟩ : ∃ F, firstT s.runs = F := ⟨_, rfl⟩
    obtain ⟨L, hL⟩ : ∃ L, lastT s.runs = L := ⟨_, rfl⟩
    rw [hF, hL] at c2 hrow
    clear hF hL
    by_cases hlt2 : bh < F
    ·rw [decide_eq_true hlt2, Bool.true_and] at hrow
     replace hrow := Lib.hid hrow
     replace hRES := Lib.hid hRES
     go_wp2_with fail
     refine (c1.out _ belowAny).mono ?_
     rintro e w21 ⟨rfl, hb21⟩
     have z22 := hb21.size
     try simp at z22
     refine haveB W w21 (Bc W.heap.size #[.int .i64 s.K, .slice p' s.runs.length cp, .int .i64 s.A, .int .i64 s.R, .int .i64 s.n, .int .i64 s.d, .slice q' s.raw.length vc, .int .i64 s.E] 29 <| Bz) ?_
     rintro hW z23 ⟨⟨b1, yb1, k1, f1⟩, -⟩
     clear hb21
     go_wp2_with fail
     refine (c2.out _ belowAny).mono ?_
     rintro e w24 ⟨rfl, hb24⟩
     have z25 := hb24.size
     try simp at z25
     clear k1 f1
     refine haveB W w24 (Bc W.heap.size #[.int .i64 s.K, .slice p' s.runs.length cp, .int .i64 s.A, .int .i64 s.R, .int .i64 s.n, .int .i64 s.d, .slice q' s.raw.length vc, .int .i64 s.E] 29 <| Bz) ?_
     clear b1 hW
     rintro hW z26 ⟨⟨b1, yb1, k1, f1⟩, -⟩
     clear hb24
     go_wp2
     rw [show (i : Int) + 1 = ((i + 1 : Nat) : Int) by omega]
     refine ⟨?_, by simp [intAt]; omega⟩
     unfold mcRel
     exact ⟨hW0.trans (hW.mono hz), i + 1, L, frame_ex rfl, by omega, hrow.out⟩
    ·rw [decide_eq_false hlt2, Bool.false_and] at hrow
     rw [hrow] at hRES
     replace hRES := Lib.hid hRES
     clear hrow
     have hle : F <= bh := by omega
     clear hlt2
     go_wp2_with fail
     refine (c1.out _ belowAny).mono ?_
     rintro e w21 ⟨rfl, hb21⟩
     have z22 := hb21.size
     try simp at z22
     refine haveB W w21 (Bc W.heap.size #[.int .i64 s.K, .slice p' s.runs.length cp, .int .i64 s.A, .int .i64 s.R, .int .i64 s.n, .int .i64 s.d, .slice q' s.raw.length vc, .int .i64 s.E] 29 <| Bz) ?_
     rintro hW z23 ⟨⟨b1, yb1, k1, f1⟩, -⟩
     clear hb21
     go_wp2_with fail
     refine (c2.out _ belowAny).mono ?_
     rintro e w24 ⟨rfl, hb24⟩
     have z25 := hb24.size
     try simp at z25
     clear k1 f1
     refine haveB W w24 (Bc W.heap.size #[.int .i64 s.K, .slice p' s.runs.length cp, .int .i64 s.A, .int .i64 s.R, .int .i64 s.n, .int .i64 s.d, .slice q' s.raw.length vc, .int .i64 s.E] 29 <| Bz) ?_
     clear b1 hW
     rintro hW z26 ⟨⟨b1, yb1, k1, f1⟩, -⟩
     clear hb24
     go_wp2
     go_ret
     exact ⟨by rw [<- hRES.out]; rfl, hW0.trans (hW.mono hz)⟩
  ·obtain rfl : i = l.length := by omega
   rw [List.drop_length] at hrow
   simp only [rowB] at hrow
   rw [hrow] at hRES
   replace hRES := Lib.hid hRES
   go_wp2
   go_ret
   exact ⟨by rw [<- hRES.out]; rfl, hW0⟩
end Go.Proofs.YtbanjolokkghdaaGreatDoor
namespace Go.Proofs.YtbanjolokkghdaaGreatDoor
open Go.RowKit Go.Shelf
attribute [local go_sem] Oper.semAt_some

def keptL (fl : Int) (l : List Int) : Nat := (l.filter fun t => decide (fl <= t)).length

end Go.Proofs.YtbanjolokkghdaaGreatDoor
namespace Go.Proofs.YtbanjolokkghdaaGreatDoor
open Go.RowKit
theorem pow_lt2 (j k : Nat) (h : j < k) : (2 : Nat) ^ j < 2 ^ k := Nat.pow_lt_pow_right (by omega) h
theorem lt_pow2 {a : Nat} (j k : Nat) (h : a < 2 ^ j) (hjk : j <= k) : a < 2 ^ k := Nat.lt_of_lt_of_le h (Nat.pow_le_pow_right (by omega) hjk)
theorem twice_pow {a : Nat} (j k : Nat) (h : a < 2 ^ j) (hjk : j + 1 <= k) : 2 * a < 2 ^ k :=
 Nat.lt_of_lt_of_le (Nat.mul_lt_mul_of_pos_left h (by omega)) (by rw [<- Nat.pow_succ']; exact Nat.pow_le_pow_right (by omega) hjk)
def valD : List Int -> Nat
 | [] => 0
 | d :: l => d.toNat + 2 * valD l
def Dig (l : List Int) : Prop := ∀ d, d ∈ l -> d = 0 ∨ d = 1
def Canon (l : List Int) : Prop := l = [] ∨ 2 ^ (l.length - 1) <= valD l
theorem Dig.nil : Dig [] := fun d h => by simp at h
theorem Dig.snoc {l : List Int} {d : Int} (h : Dig l) (hd : d = 0 ∨ d = 1) : Dig (l ++ [d]) := fun x hx => by
 rcases List.mem_append.1 hx with h1 | h1
 ·exact h x h1
 ·simp at h1; subst h1; exact hd
theorem Dig.cons {l : List Int} {d : Int} (h : Dig l) (hd : d = 0 ∨ d = 1) : Dig (d :: l) := fun x hx => by
 rcases List.mem_cons.1 hx with h1 | h1
 ·subst h1; exact hd
 ·exact h x h1
theorem Dig.take {l : List Int} (h : Dig l) (k : Nat) : Dig (l.take k) := fun x hx => h x (List.mem_of_mem_take hx)
theorem Dig.drop {l : List Int} (h : Dig l) (k : Nat) : Dig (l.drop k) := fun x hx => h x (List.mem_of_mem_drop hx)
theorem Dig.at {l : List Int} (h : Dig l) {k : Nat} {d : Int} (hk : l[k]? = some d) : d = 0 ∨ d = 1 := h d (List.mem_of_getElem? hk)
theorem valD_append : ∀ (a b : List Int), valD (a ++ b) = valD a + 2 ^ a.length * valD b
 | [], b => by simp [valD]
 | d :: a, b => by
  simp only [List.cons_append, valD, List.length_cons, valD_append a b]
  rw [Nat.pow_succ, Nat.mul_add, Nat.mul_comm (2 ^ a.length) 2, Nat.mul_assoc]
  omega
theorem valD_snoc (a : List Int) (d : Int) : valD (a ++ [d]) = valD a + 2 ^ a.length * d.toNat := by rw [valD_append]; simp [valD]
theorem valD_take {l : List Int} {k : Nat} {d : Int} (hk : l[k]? = some d) : valD (l.take (k + 1)) = valD (l.take k) + 2 ^ k * d.toNat := by
 have hlt := (List.getElem?_eq_some_iff.1 hk).1
 rw [List.take_add_one, hk]
 show valD (l.take k ++ [d]) = _
 rw [valD_snoc, List.length_take, Nat.min_eq_left (by omega)]
theorem valD_lt : ∀ (l : List Int), Dig l -> valD l < 2 ^ l.length
 | [], _ => by simp [valD]
 | d :: l, h => by
  have ih := valD_lt l fun x hx => h x (by simp [hx])
  have hd := h d (by simp)
  simp only [valD, List.length_cons, Nat.pow_succ]
  rcases hd with rfl | rfl <;> simp <;> omega
theorem valD_all (l : List Int) {k : Nat} (h : l.length <= k) : valD (l.take k) = valD l := by rw [List.take_of_length_le h]
theorem Canon.nil : Canon [] := .inl rfl
theorem canon_snoc_one (l : List Int) : Canon (l ++ [1]) := .inr (by rw [valD_snoc]; simp)
theorem canon_pos {l : List Int} (h : Canon l) (hl : l ≠ []) : 2 ^ (l.length - 1) <= valD l := by
 rcases h with h | h
 ·exact absurd h hl
 ·exact h
theorem less_len {a b : List Int} (ha : Dig a) (hb : Canon b) (h : a.length < b.length) : valD a < valD b := by
 have h1 := valD_lt a ha
 have h2 := canon_pos hb (by rintro rfl; simp at h)
 have h3 : 2 ^ a.length <= 2 ^ (b.length - 1) := Nat.pow_le_pow_right (by omega) (by omega)
 omega
theorem valD_split {l : List Int} {k : Nat} (hk : k <= l.length) : valD l = valD (l.take k) + 2 ^ k * valD (l.drop k) := by
 conv => lhs; rw [<- List.take_append_drop k l]
 rw [valD_append, List.length_take, Nat.min_eq_left hk]
theorem less_at {a b : List Int} (ha : Dig a) (hb : Dig b) (hl : a.length = b.length) {k : Nat} {x y : Int} (hx : a[k]? = some x) (hy : b[k]? = some y) (hd : a.drop (k + 1) = b.drop (k + 1)) (h : x < y) : valD a < valD b := by
 have hk := (List.getElem?_eq_some_iff.1 hx).1
 have e1 := valD_split (l := a) (k := k + 1) (by omega)
 have e2 := valD_split (l := b) (k := k + 1) (by omega)
 rw [hd] at e1
 have t1 := valD_take hx
 have t2 := valD_take hy
 have b1 := valD_lt (a.take k) (ha.take k)
 rw [List.length_take, Nat.min_eq_left (by omega)] at b1
 have dx := ha.at hx
 have dy := hb.at hy
 have x0 : x = 0 := by omega
 have y1 : y = 1 := by omega
 subst x0; subst y1
 simp at t1 t2
 omega
structure DigsIn (w : World) (p : Option Addr) (l : List Int) : Prop where
 at' : ∀ (i : Nat) (x : Int), l[i]? = some x -> ∃ b o, p = some ⟨b, o, none⟩ /\ w.cell? ⟨b, o + i, none⟩ = some (.int .i64 x)
 typ : ∀ a, p = some a -> ∃ cur fz, w.heap[a.block]? = some (.cells cur 3 fz)
theorem DigsIn.below {w w' : World} {p : Option Addr} {l : List Int} (h : DigsIn w p l) (hb : Below w.heap.size w w') : DigsIn w' p l :=
 ⟨((⟨h.at'⟩ : IntsIn w p l).below hb).at', fun a e => by
  obtain ⟨cur, fz, hh⟩ := h.typ a e
  exact ⟨cur, fz, (hb.block a.block (Array.getElem?_eq_some_iff.1 hh).1).trans hh⟩⟩
theorem DigsIn.take {w : World} {p : Option Addr} {l : List Int} (h : DigsIn w p l) (k : Nat) : DigsIn w p (l.take k) := ⟨fun i r hr => h.at' i r (by
 rw [List.getElem?_take] at hr
 split at hr
 ·exact hr
 ·cases hr), h.typ⟩
theorem clone_digs {w : World} {g k : Nat} {cur : Array Value} {l : List Int} (hb : w.heap[g]? = some (.cells cur 3 (0, 0))) (ht : cur.toList.take k = l.map (Value.int .i64)) : DigsIn w (some ⟨g, 0, none⟩) l :=
 ⟨(cloneInt_in hb ht).at', fun a e => by cases e; exact ⟨cur, (0, 0), hb⟩⟩
def Bits (w : World) (v : Value) (n : Nat) : Prop := ∃ p l cap, v = .slice p l.length cap /\ l.length <= cap /\ l.length <= 1000 /\ (p = none -> l = [] /\ cap = 0) /\ DigsIn w p l /\ Dig l /\ Canon l /\ valD l = n
theorem Bits.below {w w' : World} {v : Value} {n : Nat} (h : Bits w v n) (hb : Below w.heap.size w w') : Bits w' v n := by
 obtain ⟨p, l, cap, h1, h2, h3, h4, h5, h6⟩ := h
 exact ⟨p, l, cap, h1, h2, h3, h4, h5.below hb, h6⟩
theorem Bits.rex {L : List Nat} {w w' : World} {v : Value} {n : Nat} (h : Bits w v n) (hr : Rex L w w') (hL : L = []) : Bits w' v n := by subst hL; exact h.below hr.below
theorem Bits.drew {w : World} {v : Value} {n : Nat} (h : Bits w v n) : Bits w.drew v n := by
 obtain ⟨p, l, cap, h1, h2, h3, h4, h5, h6⟩ := h
 exact ⟨p, l, cap, h1, h2, h3, h4, ⟨h5.at', h5.typ⟩, h6⟩
theorem Bits.zero (w : World) : Bits w (.slice none 0 0) 0 := ⟨none, [], 0, rfl, by simp, by simp, fun _ => ⟨rfl, rfl⟩, ⟨fun i x h => by simp at h, fun a e => by cases e⟩, Dig.nil, Canon.nil, rfl⟩
theorem bits_own {w : World} {base n : Nat} {v : Value} {l : List Int} (h : w.ownsRow base 3 1 v n (l.map (Value.int .i64))) (hn : n = l.length) (hl : l.length <= 1000) (h1 : Dig l) (h2 : Canon l) : Bits w v (valD l) := by
 subst hn
 obtain ⟨_, h2' | ⟨g, cap', cur, rfl, hg, hb, hn, _, hc, ht⟩⟩ := h
 ·obtain ⟨rfl, h0⟩ := h2'
  have : l = [] := List.length_eq_zero_iff.1 h0
  subst this
  exact Bits.zero w
 ·exact ⟨some ⟨g, 0, none⟩, l, cap', rfl, by simpa using hn, hl, (fun e => by cases e), clone_digs hb (by simpa using ht), h1, h2, rfl⟩
end Go.Proofs.YtbanjolokkghdaaGreatDoor
