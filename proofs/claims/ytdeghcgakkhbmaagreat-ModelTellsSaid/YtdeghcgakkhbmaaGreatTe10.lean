/- Parts of the proof that follows: The document's runs of times: Of. | The document's runs of times: Same, Right. | The document's segments: Kind, Points walked. | Layer span: Least, Most. No condition but that there is a span, and that they may be. | Layer span: Plus, Around. No condition but that the spans may be. | Layers record and series: Name, and whether a series' numbers may be. No condition. | Layer seg: Check, Count told. | seg.Far$1, walked: how far a segment is from points. No condition. | A series in memory; a row of segments: ends, Check; a segment's last time. No condition. | A series' times, one behind the other. No condition. -/
import Derived.Lib.OthersKept
import Derived.Lib.RuneBytes
import Derived.Test.YtdeghcgakkhbmaaGreatTe9
set_option linter.unusedSimpArgs false
set_option linter.unusedVariables false
namespace Go.Proofs.YtdeghcgakkhbmaaGreat
open Go.RowKit
def ofRel (w : World) (b o cap : Nat) (T : List Int) (a' : Act) (W : World) : Prop :=
  Below w.heap.size w W ∧ ∃ (i : Nat) (L : List RunT) (v : Value), (∃ u : Nat → Value, a' = { tmps := #[.slice (some ⟨b, o, none⟩) T.length cap, u 1, .slice none 0 0, v, .int .i64 (i : Int), u 5, u 6, u 7, u 8, u 9, u 10, u 11, u 12, u 13, u 14, u 15, u 16, u 17, u 18, u 19, u 20, u 21, u 22, u 23, u 24, u 25, u 26, u 27, u 28, u 29, u 30, u 31, u 32, u 33, u 34, u 35, u 36, u 37, u 38, u 39, u 40, u 41, u 42, u 43, u 44, u 45, u 46, u 47, u 48, u 49, u 50, u 51, u 52, u 53, u 54, u 55, u 56, u 57, u 58, u 59, u 60, u 61, u 62, u 63, u 64, u 65, u 66, u 67, u 68, u 69, u 70, u 71, u 72, u 73, u 74, u 75, u 76, u 77, u 78, u 79, u 80], defers := [] }) ∧
    OwnR W w.heap.size 141 3 v L.length (flatCells L) ∧ ofL T = L ++ ofL (T.drop i) ∧ i ≤ T.length ∧ L.length ≤ i
def ojRel (w : World) (b o cap : Nat) (T : List Int) (i : Nat) (v : Value) (L : List RunT) (s x1 : Int) (a' : Act) (W : World) : Prop :=
  Below w.heap.size w W ∧ ∃ (j : Nat) (x : Int), (∃ u : Nat → Value, a' = { tmps := #[.slice (some ⟨b, o, none⟩) T.length cap, u 1, .slice none 0 0, v, .int .i64 (i : Int), .int .i64 (j : Int), u 6, u 7, u 8, u 9, u 10, u 11, u 12, u 13, u 14, u 15, u 16, u 17, u 18, u 19, u 20, u 21, u 22, u 23, u 24, u 25, u 26, u 27, u 28, u 29, u 30, u 31, u 32, u 33, u 34, u 35, u 36, u 37, u 38, u 39, u 40, u 41, u 42, u 43, u 44, u 45, u 46, u 47, u 48, u 49, u 50, u 51, u 52, u 53, u 54, u 55, u 56, u 57, u 58, u 59, u 60, u 61, u 62, u 63, u 64, u 65, u 66, u 67, u 68, u 69, u 70, u 71, u 72, u 73, u 74, u 75, u 76, u 77, u 78, u 79, u 80], defers := [] }) ∧
    OwnR W w.heap.size 141 3 v L.length (flatCells L) ∧ i + 1 ≤ j ∧ j < T.length ∧ T[j]? = some x ∧ extn s x1 (T.drop (i + 2)) = (j - i - 1) + extn s x (T.drop (j + 1))
end Go.Proofs.YtdeghcgakkhbmaaGreat
namespace Go.Proofs.YtdeghcgakkhbmaaGreat
open Go.RowKit
structure RunsP (w : World) (b o : Nat) (l : List RunT) : Prop where
  runs : RunsIn w (some ⟨b, o, none⟩) l
theorem RunsP.below {w w' : World} {b o : Nat} {l : List RunT} (h : RunsP w b o l) (hb : Below w.heap.size w w') : RunsP w' b o l := ⟨h.runs.below hb⟩
theorem RunsP.rex {L : List Nat} {w w' : World} {b o : Nat} {l : List RunT} (h : RunsP w b o l) (hr : Rex L w w') (hL : L = []) : RunsP w' b o l := by subst hL; exact h.below hr.below
theorem RunsP.drew {w : World} {b o : Nat} {l : List RunT} (h : RunsP w b o l) : RunsP w.drew b o l := ⟨⟨h.runs.at'⟩⟩
theorem RunsP.cellAt {w : World} {b o : Nat} {l : List RunT} (h : RunsP w b o l) {i : Nat} {r : RunT} (hx : l[i]? = some r) :
    w.cell? ⟨b, o + i * 3, none⟩ = some (.int .i64 r.f) ∧ w.cell? ⟨b, o + i * 3 + 1, none⟩ = some (.int .i64 r.s) ∧ w.cell? ⟨b, o + i * 3 + 2, none⟩ = some (.int .i64 r.c) := h.runs.cells hx
def smRel (w : World) (p : Option Addr) (cap : Nat) (p' : Option Addr) (cap' : Nat) (A B : List RunT) (a' : Act) (W : World) : Prop :=
  Below w.heap.size w W ∧ ∃ (i : Nat), (∃ u : Nat → Value, a' = { tmps := #[.slice p A.length cap, .slice p' A.length cap', u 2, u 3, .bool false, .int .i64 (i : Int), u 6, u 7, u 8, u 9, u 10, u 11, u 12, u 13, u 14, u 15, u 16, u 17, u 18, u 19, u 20, u 21, u 22, u 23, u 24, u 25], defers := [] }) ∧ i ≤ A.length ∧ ∀ k, k < i → A[k]? = B[k]?
end Go.Proofs.YtdeghcgakkhbmaaGreat
namespace Go.Proofs.YtdeghcgakkhbmaaGreat
open Go.RowKit
def ptRel (w1 : World) (g bt ot ct : Nat) (T V : List Int) (a' : Act) (W : World) : Prop :=
  Below w1.heap.size w1 W ∧ ∃ (i : Nat) (v : Value), (∃ u : Nat → Value, a' = { tmps := #[u 0, .pointer (some ⟨g, 0, none⟩), .slice none 0 0, .bool false, .slice (some ⟨bt, ot, none⟩) T.length ct, v, .int .i64 (i : Int), u 7, u 8, u 9, u 10, u 11, u 12, u 13, u 14, u 15, u 16, u 17, u 18, u 19, u 20, u 21, u 22, u 23, u 24, u 25, u 26, u 27, u 28, u 29, u 30, u 31, u 32, u 33, u 34, u 35, u 36, u 37, u 38, u 39, u 40, u 41, u 42, u 43, u 44, u 45, u 46, u 47, u 48, u 49, u 50, u 51, u 52, u 53, u 54, u 55, u 56, u 57, u 58, u 59], defers := [] }) ∧
    OwnR W w1.heap.size 58 2 v i (flatPts ((T.zip V).take i)) ∧ i ≤ T.length ∧ ∀ (k : Nat) (y : Int), k < i → V[k]? = some y → isBack y = true
def PtsPost (w : World) (T V : List Int) (e : Ending) (w' : World) : Prop :=
  Below w.heap.size w w' ∧ ((V.all isBack = true ∧ ∃ v, e = .returned (.tuple #[v, .bool true]) ∧ OwnR w' w.heap.size 58 2 v T.length (flatPts (T.zip V))) ∨ (V.all isBack = false ∧ e = .returned (.tuple #[.slice none 0 0, .bool false])))
end Go.Proofs.YtdeghcgakkhbmaaGreat
namespace Go.Proofs.YtdeghcgakkhbmaaGreat
open Go.RowKit
end Go.Proofs.YtdeghcgakkhbmaaGreat
namespace Go.Proofs.YtdeghcgakkhbmaaGreat
open Go.RowKit
def plS1 (i : Nat) (S : Int) : Int := if 1 ≤ i then S else 0
def plS2 (i : Nat) (S : Int) : Int := if 2 ≤ i then S else 0
def plusV (f : Bool) (S1 S2 : Int) : Array Value := if f = true then #[.int .i64 S1, .int .i64 S2] else #[.int .i64 0, .int .i64 0]
def plusE (f : Bool) : Int := if f = true then 0 else 5
def spA (l : List (Int × Int)) : Int := lsum (l.map (·.1))
def spB (l : List (Int × Int)) : Int := lsum (l.map (·.2))
end Go.Proofs.YtdeghcgakkhbmaaGreat
namespace Go.Proofs.YtdeghcgakkhbmaaGreat
open Go.RowKit
set_option maxRecDepth 100000 in
set_option maxHeartbeats 2000000 in
theorem c_recLetter (r : Nat) (w : World) : Calls Tryz.prog 118 #[.int .i32 r] w fun e w' => e = .returned (.bool (letterB r)) ∧ Below w.heap.size w w' := by
  go_enter Tryz.func118, Tryz.ntmps118
  go_upto_region 1 with (fail)
  refine wp_cutB w (Bz) ?_
  rintro W1 hW z2 hL
  refine wp_regS 15 17 hW hL ?_
  iterate 3 refine dA ?_
  iterate 2 refine gA ?_
  refine pA ?_
  refine dA ?_
  iterate 3 refine gA ?_
  iterate 2 refine gB ?_
  refine pgA ?_
  refine pO ?_
  refine dA ?_
  clear hW hL
  rintro W3 hW z4 hL
  simp only [ndR]
  intros
  repeat (rename GDet _ _ _ _ => hgd; clear hgd)
  simp only [ndS]
  refine wpList_nil ?_
  obtain ⟨-⟩ := hL
  go_wp2
  refine bodyPost_ret (v := .bool ((decide (97 ≤ (r : Int)) && decide ((r : Int) ≤ 122)) || (decide (48 ≤ (r : Int)) && decide ((r : Int) ≤ 57)))) (by simp [results, Tryz.results118, go_sem]) rfl ⟨?_, by exact belowAny⟩
  congr 2
  unfold letterB
  rw [Bool.eq_iff_iff]
  simp only [Bool.or_eq_true, Bool.and_eq_true, decide_eq_true_eq]
  omega
theorem width_pos (s : ByteArray) (pos : Nat) (h : pos < s.size) : 1 ≤ (Utf8.decode s pos).2 := by
  by_cases ha : (s[pos]'h).toNat < 128
  · rw [decode_ascii s pos h ha]
    exact Nat.le_refl _
  · exact (decode_high s pos h (by omega)).2
def nmRel (w : World) (s : ByteArray) (ok : Bool) (a' : Act) (W : World) : Prop :=
  Below w.heap.size w W ∧ ∃ pos f : Nat, (∃ u : Nat → Value, a' = { tmps := #[.string s, u 1, u 2, .bool ok, u 4, u 5, u 6, u 7, u 8, u 9, u 10, u 11, u 12, u 13, u 14, .pointer (some ⟨w.heap.size, 0, none⟩), u 16, u 17, u 18, u 19, u 20, u 21, u 22], defers := [] }) ∧ W.heap[w.heap.size]? = some (.stringIter s pos) ∧ s.size ≤ pos + f ∧ lettersB s f pos = lettersB s s.size 0
set_option maxRecDepth 100000 in
set_option maxHeartbeats 2000000 in
theorem c_recName (s : ByteArray) (w : World) : Calls Tryz.prog 73 #[.string s] w fun e w' => e = .returned (.bool (nameB s)) ∧ Below w.heap.size w w' := by
  go_enter Tryz.func73, Tryz.ntmps73
  go_upto_region 1 with (fail)
  refine wp_scope_straight (wp_seq ?_)
  refine wp_cutB w (Bz) ?_
  rintro W1 hW z2 hL
  refine wp_regS 9 23 hW hL ?_
  iterate 4 refine dA ?_
  iterate 3 refine gA ?_
  refine pA ?_
  refine dA ?_
  clear hW hL
  rintro W3 hW z4 hL
  simp only [ndR]
  intros
  repeat (rename GDet _ _ _ _ => hgd; clear hgd)
  simp only [ndS]
  refine wpList_nil ?_
  obtain ⟨-⟩ := hL
  have hok : (decide (1 ≤ (s.size : Int)) && decide ((s.size : Int) ≤ 12)) = decide (1 ≤ s.size ∧ s.size ≤ 12) := by
    rw [Bool.eq_iff_iff]
    simp only [Bool.and_eq_true, decide_eq_true_eq]
    omega
  rw [hok]
  obtain ⟨ok, ho⟩ : ∃ b, decide (1 ≤ s.size ∧ s.size ≤ 12) = b := ⟨_, rfl⟩
  rw [ho]
  replace ho := Lib.hid ho
  clear hok
  simp only [Exit.then]
  refine wp_seq (wp_label ?_)
  go_wp2
  refine wp_loop (nmRel W3 s ok) (fun _ W => s.size - W.iterPos W3.heap.size) ?_ ?_
  · unfold nmRel
    have hit := World.iter_heap W3 s 0
    exact ⟨(Below.refl _ _).alloc (Nat.le_refl _) _, 0, s.size, frame_ex rfl, by simpa using hit, by omega, rfl⟩
  · rintro a' W ⟨hW0, pos, f, ⟨u, rfl⟩, hit, hf, hlet⟩
    have hz := hW0.size
    have hlt := (Array.getElem?_eq_some_iff.1 hit).1
    by_cases hp : pos < s.size
    · have hnx : ∀ ty, (Instr.next (.pointer (some ⟨W3.heap.size, 0, none⟩)) true ty).run Tryz.prog W = _ := fun ty => Lib.run_next_any_at W W3.heap.size s pos ty hit hp
      have hwd := width_pos s pos hp
      have hit2 := Lib.iterAt_heap W W3.heap.size s pos (pos + (Utf8.decode s pos).2) hit
      have hbw2 := Lib.below_iterAt hW0 (k := W3.heap.size) (Nat.le_refl _) s (pos + (Utf8.decode s pos).2)
      obtain ⟨f, rfl⟩ : ∃ g, f = g + 1 := ⟨f - 1, by omega⟩
      have hst : lettersB s (f + 1) pos = (letterB (Utf8.decode s pos).1 && lettersB s f (pos + (Utf8.decode s pos).2)) := by simp [lettersB, hp]
      rw [hst] at hlet
      obtain ⟨r, hr⟩ : ∃ r, (Utf8.decode s pos).1 = r := ⟨_, rfl⟩
      obtain ⟨d, hd⟩ : ∃ d, (Utf8.decode s pos).2 = d := ⟨_, rfl⟩
      have hm : s.size - (pos + d) < s.size - W.iterPos W3.heap.size := by
        simp only [World.iterPos, hit]; omega
      rw [hd] at hit2 hbw2 hlet hwd
      rw [hr] at hlet
      simp only [hr, hd] at hnx
      obtain ⟨W4, hW4⟩ : ∃ W4, W.iterAt W3.heap.size s (pos + d) = W4 := ⟨_, rfl⟩
      rw [hW4] at hit2 hbw2
      simp only [hW4] at hnx
      have cl := fun W => c_recLetter r W
      clear hst hr hd hW4 hit hlt
      replace hit2 := Lib.hid hit2
      replace hm := Lib.hid hm
      cases hlb : letterB r with
      | true =>
        rw [hlb] at cl hlet
        replace cl := Lib.hid cl
        replace hlet := Lib.hid hlet
        clear hlb
        go_wp2_with fail
        refine (cl.out _).mono ?_
        rintro e w5 ⟨rfl, hb5⟩
        have hit5 := Lib.hid ((hb5.block _ (Array.getElem?_eq_some_iff.1 hit2.out).1).trans hit2.out)
        go_wp2
        refine ⟨?_, by simp only [World.iterPos, hit5.out]; exact hm.out⟩
        unfold nmRel
        exact ⟨hbw2.trans (hb5.mono hbw2.size), pos + d, f, frame_ex rfl, hit5.out, by omega, by rw [← hlet.out]; rfl⟩
      | false =>
        rw [hlb] at cl hlet
        replace cl := Lib.hid cl
        have hno := Lib.hid (show nameB s = false by unfold nameB; rw [← hlet]; simp)
        clear hlb hlet
        go_wp2_with fail
        refine (cl.out _).mono ?_
        rintro e w5 ⟨rfl, hb5⟩
        go_wp2
        simp only [Exit.noGoto]
        go_ret
        exact ⟨by rw [hno.out]; rfl, hW.trans ((hbw2.trans (hb5.mono hbw2.size)).mono hW.size)⟩
    · have hnx : ∀ ty, (Instr.next (.pointer (some ⟨W3.heap.size, 0, none⟩)) true ty).run Tryz.prog W = _ := fun ty => Lib.run_next_end_at W W3.heap.size s pos ty hit hp
      have hall := Lib.hid (show nameB s = ok by
        unfold nameB
        rw [← hlet, ho.out]
        cases f with
        | zero => simp [lettersB]
        | succ f => simp [lettersB, hp])
      clear hlet
      go_wp2
      simp only [Exit.noGoto]
      go_ret
      exact ⟨by rw [hall.out]; rfl, hW.trans (hW0.mono hW.size)⟩
end Go.Proofs.YtdeghcgakkhbmaaGreat
namespace Go.Proofs.YtdeghcgakkhbmaaGreat
open Go.RowKit
end Go.Proofs.YtdeghcgakkhbmaaGreat
namespace Go.Proofs.YtdeghcgakkhbmaaGreat
open Go.RowKit Go.Shelf
attribute [local go_sem] Oper.semAt_some
/-- A point of a segment, and one that is held against it. -/
def okZ (z : (Int × Int) × (Int × Int)) : Bool := (z.2.1 == z.1.1) && isBack z.2.2
def farStep (f : Int) (z : (Int × Int) × (Int × Int)) : Int := mx (mx f (wrap64 (z.2.2 - z.1.2))) (wrap64 (z.1.2 - z.2.2))
def farOf (l : List ((Int × Int) × (Int × Int))) : Int := l.foldl farStep 0
/-- What a round of the loop keeps for the points' sake: what lay below, and all cells from a block on. -/
structure KF (B0 n₀ : Nat) (A B : World) : Prop where
  below : Below B0 A B
  rest : ∀ (b : Nat) (cs : Array Value) (t : TypeId) (f : Nat × Nat), n₀ ≤ b → A.heap[b]? = some (.cells cs t f) → B.heap[b]? = some (.cells cs t f)
theorem KF.refl (B0 n₀ : Nat) (A : World) : KF B0 n₀ A A := ⟨Below.refl _ _, fun _ _ _ _ _ h => h⟩
theorem KF.trans {B0 n₀ : Nat} {A B C : World} (h : KF B0 n₀ A B) (k : KF B0 n₀ B C) : KF B0 n₀ A C := ⟨h.below.trans k.below, fun b cs t f hb ha => k.rest b cs t f hb (h.rest b cs t f hb ha)⟩
theorem KF.alloc {B0 n₀ : Nat} {A B : World} (h : KF B0 n₀ A B) (hB : B0 ≤ B.heap.size) (o : Obj) : KF B0 n₀ A (B.alloc o) := ⟨h.below.alloc hB o, fun b cs t f hb ha => (Below.heap_alloc B o b (lt_of_heap (h.rest b cs t f hb ha))).trans (h.rest b cs t f hb ha)⟩
theorem KF.set {B0 n₀ : Nat} {A B : World} (h : KF B0 n₀ A B) {g i : Nat} (h1 : B0 ≤ g) (h2 : g < n₀) (v : Value) : KF B0 n₀ A (B.setCell ⟨g, i, none⟩ v) := ⟨h.below.setCell (p := ⟨g, i, none⟩) h1 v, fun b cs t f hb ha => (Below.heap_setCell B ⟨g, i, none⟩ v b (by simp; omega)).trans (h.rest b cs t f hb ha)⟩
theorem KF.calls {B0 n₀ : Nat} {A B C : World} (h : KF B0 n₀ A B) (hb : Below B.heap.size B C) (hB : B0 ≤ B.heap.size) : KF B0 n₀ A C := ⟨h.below.trans (hb.mono hB), fun b cs t f hn ha => (hb.block b (lt_of_heap (h.rest b cs t f hn ha))).trans (h.rest b cs t f hn ha)⟩
theorem KF.putObj {B0 n₀ : Nat} {w : World} (hB : B0 ≤ w.heap.size) (W : World) (l : Nat) (o o' : Obj) (hl : w.heap.size ≤ l) (h : W.heap[l]? = some o) (h1 : o.isCells = false) (h2 : o.isWalk = false) : KF B0 n₀ W (W.putObj l o') :=
  ⟨belowK_b hB W l o o' hl h h1 h2, fun b cs t f _ ha => keepsT_putObj o' h h1 b cs f ha⟩
theorem KeepsOthers.calls {A B C : World} (h : KeepsOthers A B) (hb : Below B.heap.size B C) : KeepsOthers A C := ⟨Nat.le_trans h.size hb.size, fun k o hk ho => by
  have e := h.same k o hk ho
  exact (hb.block k (lt_of_heap (e))).trans e⟩
def farR (s : SegT) (pts : List (Int × Int)) : Int × Int := if pts.length = (ptsL s).length then (if ((ptsL s).zip pts).all okZ then (farOf ((ptsL s).zip pts), 0) else (0, 2)) else (0, 2)
def FarOut (s : SegT) (pts : List (Int × Int)) (w : World) (e : Ending) (w' : World) : Prop := e = .returned (.tuple #[.int .i64 (farR s pts).1, .int .i64 (farR s pts).2]) ∧ Below w.heap.size w w'
end Go.Proofs.YtdeghcgakkhbmaaGreat
namespace Go.Proofs.YtdeghcgakkhbmaaGreat
open Go.RowKit
/-- Segments in memory, each with its runs and its numbers. -/
structure SegsIn (w : World) (p : Option Addr) (l : List SegT) : Prop where
  at' : ∀ (i : Nat) (s : SegT), l[i]? = some s → ∃ b o p' q' cap vc, p = some ⟨b, o, none⟩ ∧ (∀ j v, (segA s p' q' cap vc)[j]? = some v → w.cell? ⟨b, o + i * 8 + j, none⟩ = some v) ∧ SegIn w s p' q' ∧ s.raw.length ≤ vc
theorem SegsIn.below {w w' : World} {p : Option Addr} {l : List SegT} (h : SegsIn w p l) (hb : Below w.heap.size w w') : SegsIn w' p l := ⟨fun i s hs => by
  obtain ⟨b, o, p', q', cap, vc, e, h1, h2, h3⟩ := h.at' i s hs
  exact ⟨b, o, p', q', cap, vc, e, fun j v hv => (hb.cell (p := ⟨b, _, none⟩) (cell_lt (h1 j v hv))).trans (h1 j v hv), h2.below hb, h3⟩⟩
/-- The cells of one of them. -/
theorem SegsIn.one {w : World} {p : Option Addr} {l : List SegT} (h : SegsIn w p l) {i : Nat} {s : SegT} (hs : l[i]? = some s) : ∃ b o p' q' cap vc, p = some ⟨b, o, none⟩ ∧ SegIn w s p' q' ∧ s.raw.length ≤ vc ∧
    w.cell? ⟨b, o + i * 8, none⟩ = some (.int .i64 s.K) ∧ w.cell? ⟨b, o + i * 8 + 1, none⟩ = some (.slice p' s.runs.length cap) ∧ w.cell? ⟨b, o + i * 8 + 2, none⟩ = some (.int .i64 s.A) ∧ w.cell? ⟨b, o + i * 8 + 3, none⟩ = some (.int .i64 s.R) ∧ w.cell? ⟨b, o + i * 8 + 4, none⟩ = some (.int .i64 s.n) ∧ w.cell? ⟨b, o + i * 8 + 5, none⟩ = some (.int .i64 s.d) ∧ w.cell? ⟨b, o + i * 8 + 6, none⟩ = some (.slice q' s.raw.length vc) ∧ w.cell? ⟨b, o + i * 8 + 7, none⟩ = some (.int .i64 s.E) := by
  obtain ⟨b, o, p', q', cap, vc, e, h1, h2, h3⟩ := h.at' i s hs
  exact ⟨b, o, p', q', cap, vc, e, h2, h3, h1 0 _ rfl, h1 1 _ rfl, h1 2 _ rfl, h1 3 _ rfl, h1 4 _ rfl, h1 5 _ rfl, h1 6 _ rfl, h1 7 _ rfl⟩
structure SerIn (w : World) (s : SerT) (ps po : Option Addr) : Prop where
  segs : SegsIn w ps s.segs
  opn : PtsIn w po s.opn
  fewS : s.segs.length ≤ 100
  fewO : s.opn.length ≤ 100
theorem SerIn.below {w w' : World} {s : SerT} {ps po : Option Addr} (h : SerIn w s ps po) (hb : Below w.heap.size w w') : SerIn w' s ps po := ⟨h.segs.below hb, h.opn.below hb, h.fewS, h.fewO⟩
def serA (s : SerT) (ps : Option Addr) (cs : Nat) (po : Option Addr) (co : Nat) : Array Value := #[.string s.name, .int .i64 s.eps, .int .i64 s.floor, .int .i64 s.last, .int .i64 s.scale, .slice ps s.segs.length cs, .slice po s.opn.length co]
/-- A row of segments: Check. -/
def mcRel (w : World) (p : Option Addr) (cap : Nat) (l : List SegT) (a' : Act) (W : World) : Prop :=
  Below w.heap.size w W ∧ ∃ (i : Nat) (bh : Int), (∃ u : Nat → Value, a' = { tmps := #[.slice p l.length cap, u 1, u 2, .int .i64 bh, u 4, u 5, u 6, u 7, .slice p l.length cap, .int .i64 (l.length : Int), .int .i64 (i : Int), u 11, u 12, u 13, u 14, u 15, u 16, u 17, u 18, u 19, u 20, u 21, u 22, u 23, u 24, u 25, u 26], defers := [] }) ∧ i ≤ l.length ∧ rowB (-1) l = rowB bh (l.drop i)
end Go.Proofs.YtdeghcgakkhbmaaGreat
namespace Go.Proofs.YtdeghcgakkhbmaaGreat
open Go.RowKit Go.Shelf
attribute [local go_sem] Oper.semAt_some
end Go.Proofs.YtdeghcgakkhbmaaGreat
