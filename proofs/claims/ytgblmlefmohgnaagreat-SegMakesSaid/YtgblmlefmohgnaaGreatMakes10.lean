/- Parts of the proof that follows: All points of a segment, collected. No condition. | seg.Points, told. No condition. | Points in memory; which of them lie within a span, plainly. No condition. | A segment that lies, kept by steps that make memory. No condition. | seg.made, told with what it tells of the rows' blocks: they may be written. | Layer seg: Raw, told; what Of and Raw make. | Binary digits, plainly, from the lowest on. No condition. | The references' numbers: Size, power. | The references' numbers: trim. | The references' numbers: plus. | The references' numbers: minus. -/
import Derived.Test.YtgblmlefmohgnaaGreatMakes9
set_option linter.unusedSimpArgs false
set_option linter.unusedVariables false
namespace Go.Proofs.YtgblmlefmohgnaaGreat
open Go.RowKit Go.Shelf
attribute [local go_sem] Oper.semAt_some
def flatPts (l : List (Int × Int)) : List Value := l.flatMap fun x => [.int .i64 x.1, .int .i64 x.2]
theorem flatPts_snoc (l : List (Int × Int)) (x : Int × Int) : flatPts (l ++ [x]) = flatPts l ++ [.int .i64 x.1, .int .i64 x.2] := by simp [flatPts]
theorem Tryz.infoPoint : (Tryz.prog.info? 58).map (fun i => (i.zero, i.size, i.bytes)) = some (some (.agg #[.int .i64 0, .int .i64 0]), 2, 16) := by kernel_rfl
theorem cell_two_new (W : World) (a b : Value) (t : TypeId) (j : Nat) (u : Value) (h : [a, b][j]? = some u) : (W.alloc (.cells #[a, b] t)).cell? ((⟨W.heap.size, 0, none⟩ : Addr).add j) = some u := by
  have hb : Blk (W.alloc (.cells #[a, b] t)) W.heap.size #[a, b] t := Blk.new' rfl
  have hadd : (⟨W.heap.size, 0, none⟩ : Addr).add j = ⟨W.heap.size, j, none⟩ := by unfold Addr.add; split <;> simp_all
  rw [hadd, hb.cell]
  simpa using h
theorem RunsIn.keep {w A B : World} {p : Option Addr} {l : List RunT} (h : RunsIn w p l) (hb : Below w.heap.size A B) (ha : RunsIn A p l) : RunsIn B p l := ⟨fun i r hr => by
  obtain ⟨b, o, e, k0, k1, k2⟩ := ha.at' i r hr
  obtain ⟨b', o', e', q0, _⟩ := h.at' i r hr
  rw [e] at e'
  injection e' with e'
  injection e' with e1 e2
  subst e1
  have hlt := cell_lt q0
  exact ⟨b, o, e, (hb.cell (p := ⟨b, _, none⟩) hlt).trans k0, (hb.cell (p := ⟨b, _, none⟩) hlt).trans k1, (hb.cell (p := ⟨b, _, none⟩) hlt).trans k2⟩⟩
theorem IntsIn.keep {w A B : World} {p : Option Addr} {l : List Int} (h : IntsIn w p l) (hb : Below w.heap.size A B) (ha : IntsIn A p l) : IntsIn B p l := ⟨fun i r hr => by
  obtain ⟨b, o, e, k0⟩ := ha.at' i r hr
  obtain ⟨b', o', e', q0⟩ := h.at' i r hr
  rw [e] at e'
  injection e' with e'
  injection e' with e1 e2
  subst e1
  exact ⟨b, o, e, (hb.cell (p := ⟨b, _, none⟩) (cell_lt q0)).trans k0⟩⟩
theorem SegIn.keep {w A B : World} {s : SegT} {p q : Option Addr} (h : SegIn w s p q) (hb : Below w.heap.size A B) (ha : SegIn A s p q) : SegIn B s p q := ⟨h.runs.keep hb ha.runs, h.raw.keep hb ha.raw, h.fewR, h.fewV⟩
/-- All points, in an array of its own. -/
def PtsIs (s : SegT) (B : Nat) (v : Value) (w : World) : Prop := w.ownsRow B 58 2 v (ptsL s).length (flatPts (ptsL s))
end Go.Proofs.YtgblmlefmohgnaaGreat
namespace Go.Proofs.YtgblmlefmohgnaaGreat
open Go.RowKit
end Go.Proofs.YtgblmlefmohgnaaGreat
namespace Go.Proofs.YtgblmlefmohgnaaGreat
open Go.RowKit

/-- As blkAny, but quick where a great world has been written into. -/
theorem blkAny2 {w : World} {b : Nat} {cs : Array Value} {t : TypeId} (h : Blk w b cs t := by repeat (first | with_reducible assumption | with_reducible (apply Blk.set2) | with_reducible (apply Blk.setO) | ((with_reducible (show _ ≠ _)); omega) | with_reducible (refine Blk.new2 (by first | rfl | (simp; done) | (simp; omega) | omega) ?_) | with_reducible (refine Blk.alloc ?_ _) | with_reducible (refine Blk.calls ?_ (by assumption)) | with_reducible (refine Blk.rex ?_ (by assumption) (by first | (simp; done) | (simp; omega))) | ((with_reducible (show @Eq (Array Value) _ _)); rfl) | ((with_reducible (show @Eq Obj _ _)); rfl))) : Blk w b cs t := h
structure PtsIn (w : World) (p : Option Addr) (l : List (Int × Int)) : Prop where
  at' : ∀ (i : Nat) (x : Int × Int), l[i]? = some x → ∃ b o, p = some ⟨b, o, none⟩ ∧ w.cell? ⟨b, o + i * 2, none⟩ = some (.int .i64 x.1) ∧ w.cell? ⟨b, o + i * 2 + 1, none⟩ = some (.int .i64 x.2)
theorem PtsIn.below {w w' : World} {p : Option Addr} {l : List (Int × Int)} (h : PtsIn w p l) (hb : Below w.heap.size w w') : PtsIn w' p l := ⟨fun i r hr => by
  obtain ⟨b, o, e, h1, h2⟩ := h.at' i r hr
  exact ⟨b, o, e, (hb.cell (p := ⟨b, _, none⟩) (cell_lt h1)).trans h1, (hb.cell (p := ⟨b, _, none⟩) (cell_lt h1)).trans h2⟩⟩
theorem PtsIn.alloc {w : World} {p : Option Addr} {l : List (Int × Int)} (h : PtsIn w p l) (o : Obj) : PtsIn (w.alloc o) p l := h.below ((Below.refl _ _).alloc (Nat.le_refl _) o)
theorem PtsIn.calls {w w' : World} {p : Option Addr} {l : List (Int × Int)} (h : PtsIn w p l) (hb : Below w.heap.size w w') : PtsIn w' p l := h.below hb
theorem PtsIn.set' {w : World} {p : Option Addr} {o i : Nat} {v : Value} {l : List (Int × Int)} (h : PtsIn w p l) (hne : ∀ a, p = some a → a.block ≠ o) : PtsIn (w.setCell ⟨o, i, none⟩ v) p l := ⟨fun k r hr => by
  obtain ⟨b, y, e, h1, h2⟩ := h.at' k r hr
  have hc : ∀ z, (w.setCell ⟨o, i, none⟩ v).cell? ⟨b, z, none⟩ = w.cell? ⟨b, z, none⟩ := by
    intro z
    have := heap_setCell_other w ⟨o, i, none⟩ b v (hne _ e)
    simp only [World.cell?, this]
  exact ⟨b, y, e, (hc _).trans h1, (hc _).trans h2⟩⟩
theorem PtsIn.set {w : World} {g x o i : Nat} {v : Value} {l : List (Int × Int)} (h : PtsIn w (some ⟨g, x, none⟩) l) (hne : g ≠ o) : PtsIn (w.setCell ⟨o, i, none⟩ v) (some ⟨g, x, none⟩) l := h.set' fun a e => by cases e; exact hne
theorem PtsIn.drew {w : World} {p : Option Addr} {l : List (Int × Int)} (h : PtsIn w p l) : PtsIn w.drew p l := ⟨h.at'⟩
theorem PtsIn.rex {L : List Nat} {w w' : World} {p : Option Addr} {l : List (Int × Int)} (h : PtsIn w p l) (hr : Rex L w w') (hL : L = []) : PtsIn w' p l := by subst hL; exact h.below hr.below
/-- The values of the points from a to b. -/
def selB (a b : Int) (x : Int × Int) : Bool := decide (a ≤ x.1) && decide (x.1 ≤ b)
def selL (a b : Int) (l : List (Int × Int)) : List Int := (l.filter (selB a b)).map (·.2)
end Go.Proofs.YtgblmlefmohgnaaGreat
namespace Go.Proofs.YtgblmlefmohgnaaGreat
open Go.RowKit
structure SegP (w : World) (s : SegT) (p q : Option Addr) : Prop where
  seg : SegIn w s p q
theorem SegP.below {w w' : World} {s : SegT} {p q : Option Addr} (h : SegP w s p q) (hb : Below w.heap.size w w') : SegP w' s p q := ⟨h.seg.below hb⟩
theorem SegP.alloc {w : World} {s : SegT} {p q : Option Addr} (h : SegP w s p q) (o : Obj) : SegP (w.alloc o) s p q := h.below ((Below.refl _ _).alloc (Nat.le_refl _) o)
theorem SegP.rex {L : List Nat} {w w' : World} {s : SegT} {p q : Option Addr} (h : SegP w s p q) (hr : Rex L w w') (hL : L = []) : SegP w' s p q := by subst hL; exact h.below hr.below
theorem SegP.drew {w : World} {s : SegT} {p q : Option Addr} (h : SegP w s p q) : SegP w.drew s p q := ⟨⟨⟨h.seg.runs.at'⟩, ⟨h.seg.raw.at'⟩, h.seg.fewR, h.seg.fewV⟩⟩
theorem segPAny {w : World} {s : SegT} {p q : Option Addr} (h : SegP w s p q := by repeat (first | with_reducible assumption | with_reducible (refine SegP.alloc ?_ _) | with_reducible (refine SegP.below ?_ (by assumption)))) : SegP w s p q := h
theorem segNow {w : World} {s : SegT} {p q : Option Addr} (h : SegP w s p q := by repeat (first | with_reducible assumption | with_reducible (refine SegP.alloc ?_ _) | with_reducible (refine SegP.below ?_ (by assumption)))) : SegIn w s p q := h.seg
structure PtsP (w : World) (b o : Nat) (l : List (Int × Int)) : Prop where
  pts : PtsIn w (some ⟨b, o, none⟩) l
theorem PtsP.below {w w' : World} {b o : Nat} {l : List (Int × Int)} (h : PtsP w b o l) (hb : Below w.heap.size w w') : PtsP w' b o l := ⟨h.pts.below hb⟩
theorem PtsP.rex {L : List Nat} {w w' : World} {b o : Nat} {l : List (Int × Int)} (h : PtsP w b o l) (hr : Rex L w w') (hL : L = []) : PtsP w' b o l := by subst hL; exact h.below hr.below
theorem PtsP.drew {w : World} {b o : Nat} {l : List (Int × Int)} (h : PtsP w b o l) : PtsP w.drew b o l := ⟨⟨h.pts.at'⟩⟩
theorem PtsP.cellAt {w : World} {b o : Nat} {l : List (Int × Int)} (h : PtsP w b o l) {i : Nat} {x : Int × Int} (hx : l[i]? = some x) : w.cell? ⟨b, o + i * 2, none⟩ = some (.int .i64 x.1) ∧ w.cell? ⟨b, o + i * 2 + 1, none⟩ = some (.int .i64 x.2) := by
  obtain ⟨b', o', e, h1, h2⟩ := h.pts.at' i x hx
  cases e
  exact ⟨h1, h2⟩
end Go.Proofs.YtgblmlefmohgnaaGreat
namespace Go.Proofs.YtgblmlefmohgnaaGreat
open Go.RowKit
/-- A row's block may be written. -/
def Free (w : World) (p : Option Addr) (T : TypeId) : Prop := ∀ a, p = some a → ∃ cur, w.heap[a.block]? = some (.cells cur T (0, 0))
theorem Free.below {w w' : World} {p : Option Addr} {T : TypeId} (h : Free w p T) (hb : Below w.heap.size w w') : Free w' p T := fun a e => by
  obtain ⟨cur, hh⟩ := h a e
  exact ⟨cur, (hb.block a.block (Array.getElem?_eq_some_iff.1 hh).1).trans hh⟩
theorem Free.rex {L : List Nat} {w w' : World} {p : Option Addr} {T : TypeId} (h : Free w p T) (hr : Rex L w w') (hL : L = []) : Free w' p T := by subst hL; exact h.below hr.below
theorem Free.setCell {w : World} {p : Option Addr} {T : TypeId} (h : Free w p T) (a : Addr) (v : Value) : Free (w.setCell a v) p T := fun b e => by
  obtain ⟨cur, hh⟩ := h b e
  by_cases hb : b.block = a.block
  · refine ⟨if a.spot.isSome then cur else cur.setIfInBounds a.off v, ?_⟩
    simp only [World.setCell, Array.getElem?_modify]
    rw [if_pos hb.symm, hh]; rfl
  · exact ⟨cur, (heap_setCell_other w a b.block v hb).trans hh⟩
def CloneRF (w : World) (l : List RunT) (e : Ending) (w' : World) : Prop := ∃ p' cap', e = .returned (.slice p' l.length cap') ∧ Below w.heap.size w w' ∧ RunsIn w' p' l ∧ l.length ≤ cap' ∧ (∀ a, p' = some a → w.heap.size ≤ a.block) ∧ Free w' p' 51
def CloneIF (w : World) (l : List Int) (e : Ending) (w' : World) : Prop := ∃ p' cap', e = .returned (.slice p' l.length cap') ∧ Below w.heap.size w w' ∧ IntsIn w' p' l ∧ l.length ≤ cap' ∧ (∀ a, p' = some a → w.heap.size ≤ a.block) ∧ Free w' p' 2
def CRF (B : Nat) (l : List RunT) : Spec := fun v w => ∃ p' cap', v = .slice p' l.length cap' ∧ RunsIn w p' l ∧ l.length ≤ cap' ∧ (∀ a, p' = some a → B ≤ a.block) ∧ Free w p' 51
def CIF (B : Nat) (l : List Int) : Spec := fun v w => ∃ p' cap', v = .slice p' l.length cap' ∧ IntsIn w p' l ∧ l.length ≤ cap' ∧ (∀ a, p' = some a → B ≤ a.block) ∧ Free w p' 2
theorem CRF.closed (B : Nat) (l : List RunT) : Closed [] (CRF B l) := fun _ _ _ hr ⟨p', c', e, h, k, f, g⟩ => ⟨p', c', e, h.rex hr rfl, k, f, g.rex hr rfl⟩
theorem CIF.closed (B : Nat) (l : List Int) : Closed [] (CIF B l) := fun _ _ _ hr ⟨p', c', e, h, k, f, g⟩ => ⟨p', c', e, h.rex hr, k, f, g.rex hr rfl⟩
set_option maxRecDepth 100000 in
set_option maxHeartbeats 2000000 in
theorem cloneRunF (a : Addr) (cap : Nat) (l : List RunT) (w : World) (hl : l.length ≤ 300) (h : RunsIn w (some a) l) : Calls Tryz.prog 102 #[.slice (some a) l.length cap] w (CloneRF w l) := by
  have hnil : ∀ W, (binOp .eql 22 (.slice (some a) l.length cap) (.slice none 0 0)).run Tryz.prog W = .ok (.bool false) W := fun W => Lib.run_eql_slice_nil W 22 51 _ _ _ _ _ (by kernel_rfl)
  go_enter Tryz.func102, Tryz.ntmps102
  go_upto_region 3 with (fail)
  clear hnil
  have hmk : ∀ W, (Instr.buildSlice 22 0 #[]).run Tryz.prog W = .ok (.slice (some ⟨W.heap.size, 0, none⟩) 0 0) (W.alloc (.cells #[] 51)) := fun W => by kernel_rfl
  obtain ⟨i, hi, hz0, hz1, hz2⟩ := info_parts Tryz.infoRun
  have hW : Below w.heap.size w (w.alloc (.cells #[] 51)) := belowAny
  have hown0 := World.ownsRow_made (e := 51) (size := 3) (base := w.heap.size) w #[] 0 (Nat.le_refl _) (by simp [maxLen]) (by simp)
  go_wp2_with (at_builtin; refine wpList_append_own _ rfl (.tmp 5) (.tmp 6) 22 rfl w.heap.size 51 i _ 3 24 (by kernel_rfl) hi hz0 hz1 hz2 rfl (by omega) _ 0 [] rfl hown0 a l.length cap (flatCells l) rfl (by rw [length_flatCells]) ((h.below hW).flat) (fun v hv => by obtain ⟨x, rfl⟩ := flat_mem l v hv; rfl) (by simp [maxLen]; omega) (by omega) (by simp) ?_)
  intro v' w' hown hgr _
  have hB := Lib.hid (clone_below hgr)
  replace hown := Lib.hid hown
  clear hgr
  go_wp2
  go_ret
  obtain ⟨_, h2 | ⟨g, cap', cur, rfl, hg, hb, hn, _, hc, ht⟩⟩ := hown.out
  · obtain ⟨rfl, h0⟩ := h2
    have h0' : l.length = 0 := by omega
    exact ⟨none, 0, by rw [h0']; rfl, hB.out, ⟨fun i r hr => by rw [List.getElem?_eq_none_iff.2 (by omega)] at hr; cases hr⟩, by omega, (fun a h => by cases h), fun a h => by cases h⟩
  · exact ⟨some ⟨g, 0, none⟩, cap', by simp, hB.out, cloneRun_in hb (by simpa using ht), by omega, (fun a h => by cases h; exact hg), fun a h => by cases h; exact ⟨_, hb⟩⟩
set_option maxRecDepth 100000 in
set_option maxHeartbeats 2000000 in
theorem cloneIntF (a : Addr) (cap : Nat) (l : List Int) (w : World) (hl : l.length ≤ 300) (h : IntsIn w (some a) l) : Calls Tryz.prog 103 #[.slice (some a) l.length cap] w (CloneIF w l) := by
  have hnil : ∀ W, (binOp .eql 25 (.slice (some a) l.length cap) (.slice none 0 0)).run Tryz.prog W = .ok (.bool false) W := fun W => Lib.run_eql_slice_nil W 25 2 _ _ _ _ _ (by kernel_rfl)
  go_enter Tryz.func103, Tryz.ntmps103
  go_upto_region 3 with (fail)
  clear hnil
  have hmk : ∀ W, (Instr.buildSlice 25 0 #[]).run Tryz.prog W = .ok (.slice (some ⟨W.heap.size, 0, none⟩) 0 0) (W.alloc (.cells #[] 2)) := fun W => by kernel_rfl
  obtain ⟨i, hi, hz0, hz1, hz2⟩ := info_parts Tryz.infoInt
  have hW : Below w.heap.size w (w.alloc (.cells #[] 2)) := belowAny
  have hown0 := World.ownsRow_made (e := 2) (size := 1) (base := w.heap.size) w #[] 0 (Nat.le_refl _) (by simp [maxLen]) (by simp)
  go_wp2_with (at_builtin; refine wpList_append_own _ rfl (.tmp 5) (.tmp 6) 25 rfl w.heap.size 2 i _ 1 8 (by kernel_rfl) hi hz0 hz1 hz2 rfl (by omega) _ 0 [] rfl hown0 a l.length cap (l.map (Value.int .i64)) rfl (by simp) (fun j u hu => ints_flat (h.below hW) j u hu) (fun v hv => by simp only [List.mem_map] at hv; obtain ⟨x, _, rfl⟩ := hv; rfl) (by simp [maxLen]; omega) (by omega) (by simp) ?_)
  intro v' w' hown hgr _
  have hB := Lib.hid (clone_below hgr)
  replace hown := Lib.hid hown
  clear hgr
  go_wp2
  go_ret
  obtain ⟨_, h2 | ⟨g, cap', cur, rfl, hg, hb, hn, _, hc, ht⟩⟩ := hown.out
  · obtain ⟨rfl, h0⟩ := h2
    have h0' : l.length = 0 := by omega
    exact ⟨none, 0, by rw [h0']; rfl, hB.out, ⟨fun i r hr => by rw [List.getElem?_eq_none_iff.2 (by omega)] at hr; cases hr⟩, by omega, (fun a h => by cases h), fun a h => by cases h⟩
  · exact ⟨some ⟨g, 0, none⟩, cap', by simp, hB.out, cloneInt_in hb (by simpa using ht), by omega, (fun a h => by cases h; exact hg), fun a h => by cases h; exact ⟨_, hb⟩⟩
set_option maxRecDepth 100000 in
set_option maxHeartbeats 2000000 in
theorem made1F (K A R n d E : Int) (p q : Option Addr) (cap vc : Nat) (l : List RunT) (v : List Int) (w : World)
    (c1 : ∀ W, Below w.heap.size w W → Calls Tryz.prog 102 #[.slice p l.length cap] W (CloneRF W l))
    (c2 : ∀ W, Below w.heap.size w W → Calls Tryz.prog 103 #[.slice q v.length vc] W (CloneIF W v)) :
    Calls Tryz.prog 101 #[.agg #[.int .i64 K, .slice p l.length cap, .int .i64 A, .int .i64 R, .int .i64 n, .int .i64 d, .slice q v.length vc, .int .i64 E]] w fun e w' => ∃ p' cap' q' vc', e = .returned (.tuple #[.agg #[.int .i64 K, .slice p' l.length cap', .int .i64 A, .int .i64 R, .int .i64 n, .int .i64 d, .slice q' v.length vc', .int .i64 E], .int .i64 0]) ∧ Below w.heap.size w w' ∧ RunsIn w' p' l ∧ IntsIn w' q' v ∧ l.length ≤ cap' ∧ v.length ≤ vc' ∧ (∀ a, p' = some a → w.heap.size ≤ a.block) ∧ (∀ a, q' = some a → w.heap.size ≤ a.block) ∧ Free w' p' 51 ∧ Free w' q' 2 := by
  have H_c1 := Lib.hid c1
  clear c1
  have H_c2 := Lib.hid c2
  clear c2
  go_enter Tryz.func101, Tryz.ntmps101
  have c1 := H_c1.out
  have c2 := H_c2.out
  go_upto_region 1 with (fail)
  refine wp_facts (fun W' => Below w.heap.size w W' ∧ Blk W' w.heap.size #[.int .i64 K, .slice p l.length cap, .int .i64 A, .int .i64 R, .int .i64 n, .int .i64 d, .slice q v.length vc, .int .i64 E] 78 ∧ Blk W' (w.heap.size + 1) #[.int .i64 0, .slice none 0 0, .int .i64 0, .int .i64 0, .int .i64 0, .int .i64 0, .slice none 0 0, .int .i64 0] 27) ⟨by exact belowAny, by exact blkAny, by exact blkAny⟩ ?_
  rintro W1 ⟨hW, b1, b2⟩
  have z2 := hW.size
  have z3 := b1.lt
  have z4 := b2.lt
  refine wp_region_nd 10 18 [] (fun W' => Rex [] W1 W' ∧ Blk W' w.heap.size #[.int .i64 K, .slice p l.length cap, .int .i64 A, .int .i64 R, .int .i64 n, .int .i64 d, .slice q v.length vc, .int .i64 E] 78 ∧ Blk W' (w.heap.size + 1) #[.int .i64 0, .slice none 0 0, .int .i64 0, .int .i64 0, .int .i64 0, .int .i64 0, .slice none 0 0, .int .i64 0] 27) mixed (by kernel_rfl) rfl ⟨(Rex.refl _ _).drew, b1, b2⟩ (fun w w' ⟨h0, h1, h2⟩ hr => ⟨h0.trans hr, h1.rex hr (by simp <;> omega), h2.rex hr (by simp <;> omega)⟩) (fun c a d v w h => by cases d <;> exact h) ?_
  iterate 3
    apply nd_det (hg := rfl) (hal := rfl)
    · intro a W' hC hE
      obtain ⟨_, k1, k2⟩ := hC
      have k1 := k1.cell
      have k2 := k2.cell
      first
        | (simp [Oper.looksAt, Op.operands, Call.operands, envOf, Det] at hE; simp [go_sem, Act.eval, IntWalk.i64_left, hE, k1, k2]; try rfl)
        | (clear hE; simp [go_sem, Act.eval, IntWalk.i64_left, k1, k2]; try rfl)
  apply nd_call (CRF (w.heap.size + 2) l) (hg := rfl) (hal := rfl)
  · exact CRF.closed _ _
  · intro a W' hC hE
    refine ⟨_, _, ?_, (c1 W' (hW.trans (hC.1.of_priv hW.size))).mono ?_⟩
    · obtain ⟨_, k1, k2⟩ := hC
      have k1 := k1.cell
      have k2 := k2.cell
      simp [Oper.looksAt, Op.operands, Call.operands, envOf, Det] at hE
      simp [go_sem, Act.eval, IntWalk.i64_left, hE, k1, k2]
      try rfl
    · have hs := (hW.trans (hC.1.of_priv hW.size)).size
      have hs2 := hC.2.2.lt
      rintro e w' ⟨p', cap', rfl, hB, hR, hc, hf, hF⟩
      exact ⟨_, rfl, hB, p', cap', rfl, hR, hc, (fun a h => by have := hf a h; omega), hF⟩
  iterate 3
    apply nd_det (hg := rfl) (hal := rfl)
    · intro a W' hC hE
      obtain ⟨_, k1, k2⟩ := hC
      have k1 := k1.cell
      have k2 := k2.cell
      first
        | (simp [Oper.looksAt, Op.operands, Call.operands, envOf, Det] at hE; simp [go_sem, Act.eval, IntWalk.i64_left, hE, k1, k2]; try rfl)
        | (clear hE; simp [go_sem, Act.eval, IntWalk.i64_left, k1, k2]; try rfl)
  apply nd_call (CIF (w.heap.size + 2) v) (hg := rfl) (hal := rfl)
  · exact CIF.closed _ _
  · intro a W' hC hE
    refine ⟨_, _, ?_, (c2 W' (hW.trans (hC.1.of_priv hW.size))).mono ?_⟩
    · obtain ⟨_, k1, k2⟩ := hC
      have k1 := k1.cell
      have k2 := k2.cell
      simp [Oper.looksAt, Op.operands, Call.operands, envOf, Det] at hE
      simp [go_sem, Act.eval, IntWalk.i64_left, hE, k1, k2]
      try rfl
    · have hs := (hW.trans (hC.1.of_priv hW.size)).size
      have hs2 := hC.2.2.lt
      rintro e w' ⟨p', cap', rfl, hB, hR, hc, hf, hF⟩
      exact ⟨_, rfl, hB, p', cap', rfl, hR, hc, (fun a h => by have := hf a h; omega), hF⟩
  iterate 2
    apply nd_det (hg := rfl) (hal := rfl)
    · intro a W' hC hE
      obtain ⟨_, k1, k2⟩ := hC
      have k1 := k1.cell
      have k2 := k2.cell
      first
        | (simp [Oper.looksAt, Op.operands, Call.operands, envOf, Det] at hE; simp [go_sem, Act.eval, IntWalk.i64_left, hE, k1, k2]; try rfl)
        | (clear hE; simp [go_sem, Act.eval, IntWalk.i64_left, k1, k2]; try rfl)
  rintro W5 ⟨hR, d1, d2⟩
  simp only [ndFinR, Det, forall_eq]
  intros
  repeat (rename GDet _ _ _ _ => hgd; clear hgd)
  simp only [Act.put, List.setIfInBounds_toArray, List.set_cons_zero, List.set_cons_succ, List.drop_succ_cons, List.drop_zero]
  replace hW := hW.trans (hR.of_priv hW.size)
  clear hR
  try clear b1 b2
  have b1 := d1
  clear d1
  have b2 := d2
  clear d2
  obtain ⟨p', cap', rfl, hp1, hp2, hp3, hp4⟩ := ‹CRF _ _ _ _›
  obtain ⟨q', vc', rfl, hq1, hq2, hq3, hq4⟩ := ‹CIF _ _ _ _›
  have k1 := b1.cell
  have f1 := b1.frozen
  have k2 := b2.cell
  have f2 := b2.frozen
  go_wp2
  have y_1 := b1.lt
  have y_2 := b2.lt
  refine bodyPost_ret (v := .tuple #[.agg #[.int .i64 K, .slice p' l.length cap', .int .i64 A, .int .i64 R, .int .i64 n, .int .i64 d, .slice q' v.length vc', .int .i64 E], .int .i64 0]) (by simp [results, Tryz.results101, go_sem, k1, f1, k2, f2, y_1, y_2]) rfl ⟨p', cap', q', vc', rfl, belowAny, ?_, ?_, hp2, hq2, (fun a h => by have := hp3 a h; omega), (fun a h => by have := hq3 a h; omega), (by (repeat (refine Free.setCell ?_ _ _)); exact hp4), (by (repeat (refine Free.setCell ?_ _ _)); exact hq4)⟩
  · repeat (refine RunsIn.set' ?_ (fun a h => by have := hp3 a h; omega))
    exact hp1
  · repeat (refine IntsIn.set' ?_ (fun a h => by have := hq3 a h; omega))
    exact hq1
set_option maxRecDepth 100000 in
set_option maxHeartbeats 2000000 in
theorem ofsF_yes (K A R n d E : Int) (p q : Option Addr) (cap vc : Nat) (l : List RunT) (v : List Int) (w : World)
    (c1 : ∀ W, Below w.heap.size w W → Calls Tryz.prog 55 #[.agg #[.int .i64 K, .slice p l.length cap, .int .i64 A, .int .i64 R, .int .i64 n, .int .i64 d, .slice q v.length vc, .int .i64 E]] W fun e w' => e = .returned (.bool true) ∧ Below W.heap.size W w')
    (c3 : ∀ W, Below w.heap.size w W → Calls Tryz.prog 101 #[.agg #[.int .i64 K, .slice p l.length cap, .int .i64 A, .int .i64 R, .int .i64 n, .int .i64 d, .slice q v.length vc, .int .i64 E]] W fun e w' => ∃ p' cap' q' vc', e = .returned (.tuple #[.agg #[.int .i64 K, .slice p' l.length cap', .int .i64 A, .int .i64 R, .int .i64 n, .int .i64 d, .slice q' v.length vc', .int .i64 E], .int .i64 0]) ∧ Below W.heap.size W w' ∧ RunsIn w' p' l ∧ IntsIn w' q' v ∧ l.length ≤ cap' ∧ v.length ≤ vc' ∧ (∀ a, p' = some a → W.heap.size ≤ a.block) ∧ (∀ a, q' = some a → W.heap.size ≤ a.block) ∧ Free w' p' 51 ∧ Free w' q' 2) :
    Calls Tryz.prog 100 #[.agg #[.int .i64 K, .slice p l.length cap, .int .i64 A, .int .i64 R, .int .i64 n, .int .i64 d, .slice q v.length vc, .int .i64 E], .func (.func 101) #[] #[]] w fun e w' => ∃ p' cap' q' vc', e = .returned (.tuple #[.agg #[.int .i64 K, .slice p' l.length cap', .int .i64 A, .int .i64 R, .int .i64 n, .int .i64 d, .slice q' v.length vc', .int .i64 E], .int .i64 0]) ∧ Below w.heap.size w w' ∧ RunsIn w' p' l ∧ IntsIn w' q' v ∧ l.length ≤ cap' ∧ v.length ≤ vc' ∧ (∀ a, p' = some a → w.heap.size ≤ a.block) ∧ (∀ a, q' = some a → w.heap.size ≤ a.block) ∧ Free w' p' 51 ∧ Free w' q' 2 := by
  have H_c1 := Lib.hid c1
  clear c1
  have H_c3 := Lib.hid c3
  clear c3
  go_enter Tryz.func100, Tryz.ntmps100
  go_upto_region 1 with (fail)
  refine wp_facts (fun W' => Below w.heap.size w W' ∧ Blk W' w.heap.size #[.int .i64 K, .slice p l.length cap, .int .i64 A, .int .i64 R, .int .i64 n, .int .i64 d, .slice q v.length vc, .int .i64 E] 27 ∧ Blk W' (w.heap.size + 1) #[.int .i64 0, .slice none 0 0, .int .i64 0, .int .i64 0, .int .i64 0, .int .i64 0, .slice none 0 0, .int .i64 0] 27) ⟨by exact belowAny, by exact blkAny, by exact blkAny⟩ ?_
  rintro W1 ⟨hW, b1, b2⟩
  have z2 := hW.size
  have z3 := b1.lt
  have z4 := b2.lt
  have k1 := b1.cell
  have f1 := b1.frozen
  have k2 := b2.cell
  have f2 := b2.frozen
  have c1 := H_c1.out
  go_wp2_with fail
  refine (c1 _ (belowAny)).mono ?_
  rintro e w5 ⟨rfl, hb5⟩
  clear c1
  have z6 := hb5.size
  try simp at z6
  clear k1 f1 k2 f2
  have b1 : Blk w5 w.heap.size #[.int .i64 K, .slice p l.length cap, .int .i64 A, .int .i64 R, .int .i64 n, .int .i64 d, .slice q v.length vc, .int .i64 E] 27 := by exact blkAny
  have b2 : Blk w5 (w.heap.size + 1) #[.int .i64 0, .slice none 0 0, .int .i64 0, .int .i64 0, .int .i64 0, .int .i64 0, .slice none 0 0, .int .i64 0] 27 := by exact blkAny
  have b3 : Blk w5 W1.heap.size #[.int .i64 0, .slice none 0 0, .int .i64 0, .int .i64 0, .int .i64 0, .int .i64 0, .slice none 0 0, .int .i64 0] 27 := by exact blkAny
  have hW : Below w.heap.size w w5 := by exact belowAny
  have z7 := b1.lt
  have z8 := b2.lt
  have z9 := b3.lt
  clear hb5
  have k1 := b1.cell
  have f1 := b1.frozen
  have k2 := b2.cell
  have f2 := b2.frozen
  have k3 := b3.cell
  have f3 := b3.frozen
  have c3 := H_c3.out
  go_wp2_with fail
  refine (c3 _ (belowAny)).mono ?_
  rintro e w9 ⟨p', cap', q', vc', rfl, hb9, hp1, hq1, hp2, hq2, hp3, hq3, hp4, hq4⟩
  have z9 := hb9.size
  try simp at z9
  try simp at hp3
  try simp at hq3
  clear c3
  clear k1 f1 k2 f2 k3 f3
  have b1 : Blk w9 w.heap.size #[.int .i64 K, .slice p l.length cap, .int .i64 A, .int .i64 R, .int .i64 n, .int .i64 d, .slice q v.length vc, .int .i64 E] 27 := by exact blkAny
  have b2 : Blk w9 (w.heap.size + 1) #[.int .i64 0, .slice none 0 0, .int .i64 0, .int .i64 0, .int .i64 0, .int .i64 0, .slice none 0 0, .int .i64 0] 27 := by exact blkAny
  have b3 : Blk w9 W1.heap.size #[.int .i64 0, .slice none 0 0, .int .i64 0, .int .i64 0, .int .i64 0, .int .i64 0, .slice none 0 0, .int .i64 0] 27 := by exact blkAny
  have hW : Below w.heap.size w w9 := belowAny
  clear hb9
  have y_1 := b1.lt
  have y_2 := b2.lt
  have y_3 := b3.lt
  have k1 := b1.cell
  have f1 := b1.frozen
  have k2 := b2.cell
  have f2 := b2.frozen
  have k3 := b3.cell
  have f3 := b3.frozen
  replace hp1 := Lib.hid hp1
  replace hq1 := Lib.hid hq1
  replace hp3 := Lib.hid hp3
  replace hq3 := Lib.hid hq3
  replace hp4 := Lib.hid hp4
  replace hq4 := Lib.hid hq4
  go_wp2
  refine bodyPost_ret (v := .tuple #[.agg #[.int .i64 K, .slice p' l.length cap', .int .i64 A, .int .i64 R, .int .i64 n, .int .i64 d, .slice q' v.length vc', .int .i64 E], .int .i64 0]) (by simp [results, Tryz.results100, go_sem, k1, f1, k2, f2, k3, f3, y_1, y_2, y_3]) rfl ⟨p', cap', q', vc', rfl, belowAny, ?_, ?_, hp2, hq2, (fun a h => by have := hp3.out; simp_all; omega), (fun a h => by have := hq3.out; simp_all; omega), (by (repeat (refine Free.setCell ?_ _ _)); exact hp4.out), (by (repeat (refine Free.setCell ?_ _ _)); exact hq4.out)⟩
  · repeat (refine RunsIn.set' ?_ (fun a h => by have := hp3.out; simp_all; omega))
    exact hp1.out
  · repeat (refine IntsIn.set' ?_ (fun a h => by have := hq3.out; simp_all; omega))
    exact hq1.out
set_option maxRecDepth 100000 in
set_option maxHeartbeats 2000000 in
theorem madeF_yes (K A R n d E : Int) (p q : Option Addr) (cap vc : Nat) (l : List RunT) (v : List Int) (w : World)
    (c1 : ∀ W, Below w.heap.size w W → Calls Tryz.prog 100 #[.agg #[.int .i64 K, .slice p l.length cap, .int .i64 A, .int .i64 R, .int .i64 n, .int .i64 d, .slice q v.length vc, .int .i64 E], .func (.func 101) #[] #[]] W fun e w' => ∃ p' cap' q' vc', e = .returned (.tuple #[.agg #[.int .i64 K, .slice p' l.length cap', .int .i64 A, .int .i64 R, .int .i64 n, .int .i64 d, .slice q' v.length vc', .int .i64 E], .int .i64 0]) ∧ Below W.heap.size W w' ∧ RunsIn w' p' l ∧ IntsIn w' q' v ∧ l.length ≤ cap' ∧ v.length ≤ vc' ∧ (∀ a, p' = some a → W.heap.size ≤ a.block) ∧ (∀ a, q' = some a → W.heap.size ≤ a.block) ∧ Free w' p' 51 ∧ Free w' q' 2) :
    Calls Tryz.prog 52 #[.agg #[.int .i64 K, .slice p l.length cap, .int .i64 A, .int .i64 R, .int .i64 n, .int .i64 d, .slice q v.length vc, .int .i64 E]] w fun e w' => ∃ p' cap' q' vc', e = .returned (.tuple #[.agg #[.int .i64 K, .slice p' l.length cap', .int .i64 A, .int .i64 R, .int .i64 n, .int .i64 d, .slice q' v.length vc', .int .i64 E], .int .i64 0]) ∧ Below w.heap.size w w' ∧ RunsIn w' p' l ∧ IntsIn w' q' v ∧ l.length ≤ cap' ∧ v.length ≤ vc' ∧ (∀ a, p' = some a → w.heap.size ≤ a.block) ∧ (∀ a, q' = some a → w.heap.size ≤ a.block) ∧ Free w' p' 51 ∧ Free w' q' 2 := by
  have H_c1 := Lib.hid c1
  clear c1
  go_enter Tryz.func52, Tryz.ntmps52
  go_upto_region 1 with (fail)
  refine wp_facts (fun W' => Below w.heap.size w W' ∧ Blk W' w.heap.size #[.int .i64 K, .slice p l.length cap, .int .i64 A, .int .i64 R, .int .i64 n, .int .i64 d, .slice q v.length vc, .int .i64 E] 27 ∧ Blk W' (w.heap.size + 1) #[.int .i64 0, .slice none 0 0, .int .i64 0, .int .i64 0, .int .i64 0, .int .i64 0, .slice none 0 0, .int .i64 0] 27) ⟨by exact belowAny, by exact blkAny, by exact blkAny⟩ ?_
  rintro W1 ⟨hW, b1, b2⟩
  have z2 := hW.size
  have z3 := b1.lt
  have z4 := b2.lt
  have k1 := b1.cell
  have f1 := b1.frozen
  have k2 := b2.cell
  have f2 := b2.frozen
  have c1 := H_c1.out
  go_wp2_with fail
  refine (c1 _ (belowAny)).mono ?_
  rintro e w9 ⟨p', cap', q', vc', rfl, hb9, hp1, hq1, hp2, hq2, hp3, hq3, hp4, hq4⟩
  have z9 := hb9.size
  try simp at z9
  try simp at hp3
  try simp at hq3
  clear c1
  clear k1 f1 k2 f2
  have b1 : Blk w9 w.heap.size #[.int .i64 K, .slice p l.length cap, .int .i64 A, .int .i64 R, .int .i64 n, .int .i64 d, .slice q v.length vc, .int .i64 E] 27 := by exact blkAny
  have b2 : Blk w9 (w.heap.size + 1) #[.int .i64 0, .slice none 0 0, .int .i64 0, .int .i64 0, .int .i64 0, .int .i64 0, .slice none 0 0, .int .i64 0] 27 := by exact blkAny
  have hW : Below w.heap.size w w9 := belowAny
  clear hb9
  have y_1 := b1.lt
  have y_2 := b2.lt
  have k1 := b1.cell
  have f1 := b1.frozen
  have k2 := b2.cell
  have f2 := b2.frozen
  replace hp1 := Lib.hid hp1
  replace hq1 := Lib.hid hq1
  replace hp3 := Lib.hid hp3
  replace hq3 := Lib.hid hq3
  replace hp4 := Lib.hid hp4
  replace hq4 := Lib.hid hq4
  go_wp2
  refine bodyPost_ret (v := .tuple #[.agg #[.int .i64 K, .slice p' l.length cap', .int .i64 A, .int .i64 R, .int .i64 n, .int .i64 d, .slice q' v.length vc', .int .i64 E], .int .i64 0]) (by simp [results, Tryz.results52, go_sem, k1, f1, k2, f2, y_1, y_2]) rfl ⟨p', cap', q', vc', rfl, belowAny, ?_, ?_, hp2, hq2, (fun a h => by have := hp3.out; simp_all; omega), (fun a h => by have := hq3.out; simp_all; omega), (by (repeat (refine Free.setCell ?_ _ _)); exact hp4.out), (by (repeat (refine Free.setCell ?_ _ _)); exact hq4.out)⟩
  · repeat (refine RunsIn.set' ?_ (fun a h => by have := hp3.out; simp_all; omega))
    exact hp1.out
  · repeat (refine IntsIn.set' ?_ (fun a h => by have := hq3.out; simp_all; omega))
    exact hq1.out
end Go.Proofs.YtgblmlefmohgnaaGreat
namespace Go.Proofs.YtgblmlefmohgnaaGreat
open Go.RowKit
set_option maxRecDepth 100000 in
set_option maxHeartbeats 2000000 in
theorem segRaw_no (E : Int) (p q : Option Addr) (cap vc : Nat) (l : List RunT) (v : List Int) (w : World)
    (c1 : ∀ W, Below w.heap.size w W → Calls Tryz.prog 52 #[.agg #[.int .i64 4, .slice p l.length cap, .int .i64 0, .int .i64 0, .int .i64 0, .int .i64 0, .slice q v.length vc, .int .i64 E]] W fun e w' => e = .returned (.tuple #[.agg #[.int .i64 0, .slice none 0 0, .int .i64 0, .int .i64 0, .int .i64 0, .int .i64 0, .slice none 0 0, .int .i64 0], .int .i64 210]) ∧ Below W.heap.size W w') :
    Calls Tryz.prog 20 #[.slice p l.length cap, .slice q v.length vc, .int .i64 E] w fun e w' => e = .returned (.tuple #[.agg #[.int .i64 0, .slice none 0 0, .int .i64 0, .int .i64 0, .int .i64 0, .int .i64 0, .slice none 0 0, .int .i64 0], .int .i64 210]) ∧ Below w.heap.size w w' := by
  have H_c1 := Lib.hid c1
  clear c1
  go_enter Tryz.func20, Tryz.ntmps20
  go_upto_region 1 with (fail)
  refine wp_facts (fun W' => Below w.heap.size w W' ∧ Blk W' w.heap.size #[.int .i64 0, .slice none 0 0, .int .i64 0, .int .i64 0, .int .i64 0, .int .i64 0, .slice none 0 0, .int .i64 0] 27) ⟨by exact belowAny, by exact blkAny2⟩ ?_
  rintro W1 ⟨hW, b1⟩
  have z2 := hW.size
  have z3 := b1.lt
  have k1 := b1.cell
  have f1 := b1.frozen
  have c1 := H_c1.out
  go_wp2_with fail
  refine (c1 _ (belowAny)).mono ?_
  rintro e w4 ⟨rfl, hb4⟩
  clear c1
  have z5 := hb4.size
  try simp at z5
  clear k1 f1
  have b1 : Blk w4 w.heap.size #[.int .i64 0, .slice none 0 0, .int .i64 0, .int .i64 0, .int .i64 0, .int .i64 0, .slice none 0 0, .int .i64 0] 27 := by exact blkAny2
  have hW : Below w.heap.size w w4 := by exact belowAny
  have z6 := b1.lt
  clear hb4
  have k1 := b1.cell
  have f1 := b1.frozen
  go_wp2
  have y_1 := b1.lt
  refine bodyPost_ret (v := .tuple #[.agg #[.int .i64 0, .slice none 0 0, .int .i64 0, .int .i64 0, .int .i64 0, .int .i64 0, .slice none 0 0, .int .i64 0], .int .i64 210]) (by simp [results, Tryz.results20, go_sem, k1, f1, y_1]) rfl ⟨rfl, by exact belowAny⟩
set_option maxRecDepth 100000 in
set_option maxHeartbeats 2000000 in
theorem segRaw_yes (E : Int) (p q : Option Addr) (cap vc : Nat) (l : List RunT) (v : List Int) (w : World)
    (c1 : ∀ W, Below w.heap.size w W → Calls Tryz.prog 52 #[.agg #[.int .i64 4, .slice p l.length cap, .int .i64 0, .int .i64 0, .int .i64 0, .int .i64 0, .slice q v.length vc, .int .i64 E]] W fun e w' => ∃ p' cap' q' vc', e = .returned (.tuple #[.agg #[.int .i64 4, .slice p' l.length cap', .int .i64 0, .int .i64 0, .int .i64 0, .int .i64 0, .slice q' v.length vc', .int .i64 E], .int .i64 0]) ∧ Below W.heap.size W w' ∧ RunsIn w' p' l ∧ IntsIn w' q' v ∧ l.length ≤ cap' ∧ v.length ≤ vc' ∧ (∀ a, p' = some a → W.heap.size ≤ a.block) ∧ (∀ a, q' = some a → W.heap.size ≤ a.block) ∧ Free w' p' 51 ∧ Free w' q' 2) :
    Calls Tryz.prog 20 #[.slice p l.length cap, .slice q v.length vc, .int .i64 E] w fun e w' => ∃ p' cap' q' vc', e = .returned (.tuple #[.agg #[.int .i64 4, .slice p' l.length cap', .int .i64 0, .int .i64 0, .int .i64 0, .int .i64 0, .slice q' v.length vc', .int .i64 E], .int .i64 0]) ∧ Below w.heap.size w w' ∧ RunsIn w' p' l ∧ IntsIn w' q' v ∧ l.length ≤ cap' ∧ v.length ≤ vc' ∧ (∀ a, p' = some a → w.heap.size ≤ a.block) ∧ (∀ a, q' = some a → w.heap.size ≤ a.block) ∧ Free w' p' 51 ∧ Free w' q' 2 := by
  have H_c1 := Lib.hid c1
  clear c1
  go_enter Tryz.func20, Tryz.ntmps20
  go_upto_region 1 with (fail)
  refine wp_facts (fun W' => Below w.heap.size w W' ∧ Blk W' w.heap.size #[.int .i64 0, .slice none 0 0, .int .i64 0, .int .i64 0, .int .i64 0, .int .i64 0, .slice none 0 0, .int .i64 0] 27) ⟨by exact belowAny, by exact blkAny2⟩ ?_
  rintro W1 ⟨hW, b1⟩
  have z2 := hW.size
  have z3 := b1.lt
  have k1 := b1.cell
  have f1 := b1.frozen
  have c1 := H_c1.out
  go_wp2_with fail
  refine (c1 _ (belowAny)).mono ?_
  rintro e w4 ⟨p', cap', q', vc', rfl, hb4, hp1, hp2, hp3, hp4, hp5, hp6, hp7, hp8⟩
  clear c1
  have z5 := hb4.size
  try simp at z5
  clear k1 f1
  have b1 : Blk w4 w.heap.size #[.int .i64 0, .slice none 0 0, .int .i64 0, .int .i64 0, .int .i64 0, .int .i64 0, .slice none 0 0, .int .i64 0] 27 := by exact blkAny2
  have hW : Below w.heap.size w w4 := by exact belowAny
  have z6 := b1.lt
  have k1 := b1.cell
  have f1 := b1.frozen
  have y_1 := b1.lt
  replace hp1 := Lib.hid hp1
  replace hp2 := Lib.hid hp2
  replace hp5 := Lib.hid hp5
  replace hp6 := Lib.hid hp6
  replace hp7 := Lib.hid hp7
  replace hp8 := Lib.hid hp8
  go_wp2
  refine bodyPost_ret (v := .tuple #[.agg #[.int .i64 4, .slice p' l.length cap', .int .i64 0, .int .i64 0, .int .i64 0, .int .i64 0, .slice q' v.length vc', .int .i64 E], .int .i64 0]) (by simp [results, Tryz.results20, go_sem, k1, f1, y_1]) rfl ⟨p', cap', q', vc', rfl, belowAny, ?_, ?_, hp3, hp4, (fun a h => by have := hp5.out a h; omega), (fun a h => by have := hp6.out a h; omega), (by (repeat (refine Free.setCell ?_ _ _)); exact hp7.out), (by (repeat (refine Free.setCell ?_ _ _)); exact hp8.out)⟩
  · repeat (refine RunsIn.set' ?_ (fun a h => by have := hp5.out a h; omega))
    exact hp1.out
  · repeat (refine IntsIn.set' ?_ (fun a h => by have := hp6.out a h; omega))
    exact hp2.out
/-- A segment that seg.made refuses. -/
theorem c_made_no (s : SegT) (p q : Option Addr) (cap vc : Nat) (w : World) (h : SegIn w s p q) (hs : segB s = false) :
    Calls Tryz.prog 52 #[.agg (segA s p q cap vc)] w fun e w' => e = .returned (.tuple #[.agg #[.int .i64 0, .slice none 0 0, .int .i64 0, .int .i64 0, .int .i64 0, .int .i64 0, .slice none 0 0, .int .i64 0], .int .i64 210]) ∧ Below w.heap.size w w' := by
  refine made_no _ _ _ _ _ _ p q cap vc s.runs s.raw w fun W hW => ofs_no _ _ _ _ _ _ p q cap vc s.runs s.raw W _ (fun W' hW' => ?_)
  have := c_segIs s p q cap vc W' ((h.below hW).below hW')
  rw [hs] at this
  exact this
theorem segB_ne {s : SegT} (hs : segB s = true) : s.runs ≠ [] := fun e => by
  have h := cnt_pos (segB_runs hs)
  rw [e] at h
  simp [cnt] at h
theorem RunsIn.some {w : World} {p : Option Addr} {l : List RunT} (h : RunsIn w p l) (hl : l ≠ []) : ∃ b o, p = Option.some ⟨b, o, none⟩ := by
  cases l with
  | nil => exact absurd rfl hl
  | cons r l => obtain ⟨b, o, e, -⟩ := h.at' 0 r rfl; exact ⟨b, o, e⟩
theorem IntsIn.some {w : World} {p : Option Addr} {l : List Int} (h : IntsIn w p l) (hl : l ≠ []) : ∃ b o, p = Option.some ⟨b, o, none⟩ := by
  cases l with
  | nil => exact absurd rfl hl
  | cons r l => obtain ⟨b, o, e, -⟩ := h.at' 0 r rfl; exact ⟨b, o, e⟩
/-- seg.Raw of what is a segment. -/
theorem c_segRawYes (E : Int) (p q : Option Addr) (cap vc : Nat) (l : List RunT) (v : List Int) (w : World) (h : SegIn w ⟨4, l, 0, 0, 0, 0, v, E⟩ p q) (hs : segB ⟨4, l, 0, 0, 0, 0, v, E⟩ = true) (hv : v ≠ []) (hl3 : l.length ≤ 300) (hv3 : v.length ≤ 300) :
    Calls Tryz.prog 20 #[.slice p l.length cap, .slice q v.length vc, .int .i64 E] w fun e w' => ∃ p' cap' q' vc', e = .returned (.tuple #[.agg #[.int .i64 4, .slice p' l.length cap', .int .i64 0, .int .i64 0, .int .i64 0, .int .i64 0, .slice q' v.length vc', .int .i64 E], .int .i64 0]) ∧ Below w.heap.size w w' ∧ RunsIn w' p' l ∧ IntsIn w' q' v ∧ l.length ≤ cap' ∧ v.length ≤ vc' ∧ (∀ a, p' = some a → w.heap.size ≤ a.block) ∧ (∀ a, q' = some a → w.heap.size ≤ a.block) ∧ Free w' p' 51 ∧ Free w' q' 2 := by
  obtain ⟨b, o, rfl⟩ := h.runs.some (segB_ne hs)
  obtain ⟨b', o', rfl⟩ := h.raw.some hv
  refine segRaw_yes E _ _ cap vc l v w fun W hW => ?_
  refine madeF_yes _ _ _ _ _ _ _ _ cap vc l v W fun W1 hW1 => ofsF_yes _ _ _ _ _ _ _ _ cap vc l v W1 (fun W2 hW2 => ?_) (fun W2 hW2 => made1F _ _ _ _ _ _ _ _ cap vc l v W2 (fun W3 hW3 => cloneRunF _ cap l W3 hl3 ((((h.runs.below hW).below hW1).below hW2).below hW3)) (fun W3 hW3 => cloneIntF _ vc v W3 hv3 ((((h.raw.below hW).below hW1).below hW2).below hW3)))
  have := c_segIs ⟨4, l, 0, 0, 0, 0, v, E⟩ _ _ cap vc W2 (((h.below hW).below hW1).below hW2)
  rw [hs] at this
  exact this
theorem c_segRawNo (E : Int) (p q : Option Addr) (cap vc : Nat) (l : List RunT) (v : List Int) (w : World) (h : SegIn w ⟨4, l, 0, 0, 0, 0, v, E⟩ p q) (hs : segB ⟨4, l, 0, 0, 0, 0, v, E⟩ = false) :
    Calls Tryz.prog 20 #[.slice p l.length cap, .slice q v.length vc, .int .i64 E] w fun e w' => e = .returned (.tuple #[.agg #[.int .i64 0, .slice none 0 0, .int .i64 0, .int .i64 0, .int .i64 0, .int .i64 0, .slice none 0 0, .int .i64 0], .int .i64 210]) ∧ Below w.heap.size w w' :=
  segRaw_no E p q cap vc l v w fun W hW => c_made_no ⟨4, l, 0, 0, 0, 0, v, E⟩ p q cap vc W (h.below hW) hs
/-- seg.Of of runs and a line. -/
theorem c_segOfYes (A R n d E : Int) (p : Option Addr) (cap : Nat) (l : List RunT) (w : World) (h : RunsIn w p l) (hs : segB ⟨kindL A R n d, l, A, R, n, d, [], E⟩ = true) (hl3 : l.length ≤ 300) :
    Calls Tryz.prog 19 #[.slice p l.length cap, .agg #[.int .i64 A, .int .i64 R, .int .i64 n, .int .i64 d], .int .i64 E] w fun e w' => ∃ p' cap' q' vc', e = .returned (.tuple #[.agg (segA ⟨kindL A R n d, l, A, R, n, d, [], E⟩ p' q' cap' vc'), .int .i64 0]) ∧ Below w.heap.size w w' ∧ SegIn w' ⟨kindL A R n d, l, A, R, n, d, [], E⟩ p' q' := by
  obtain ⟨b, o, rfl⟩ := h.some (segB_ne hs)
  refine (of_seg_yes (kindL A R n d) A R n d E _ cap l w (fun W hW => c_Kind A R n d W) (fun W hW => ?_)).mono ?_
  · have hi : SegIn W ⟨kindL A R n d, l, A, R, n, d, [], E⟩ (some ⟨b, o, none⟩) none := ⟨h.below hW, ints_nil W none, by simp; omega, by simp⟩
    refine (c_made_yes ⟨kindL A R n d, l, A, R, n, d, [], E⟩ _ none cap 0 W hi hs (fun W' hW' => cloneRun_some _ cap l W' hl3 ((h.below hW).below hW')) (fun W' _ => cloneInt_nil W')).mono ?_
    rintro e w' ⟨p', cap', q', vc', h1, h2, h3, h4, h5, h6, h7, h8⟩
    exact ⟨p', cap', q', vc', h1, h2, h3, h5, h7⟩
  · rintro e w' ⟨p', cap', q', vc', rfl, hB, hR, -, -⟩
    exact ⟨p', cap', q', vc', rfl, hB, ⟨hR, ints_nil w' q', by simp; omega, by simp⟩⟩
theorem c_segOfNo (A R n d E : Int) (p : Option Addr) (cap : Nat) (l : List RunT) (w : World) (h : RunsIn w p l) (hs : segB ⟨kindL A R n d, l, A, R, n, d, [], E⟩ = false) (hl3 : l.length ≤ 300) :
    Calls Tryz.prog 19 #[.slice p l.length cap, .agg #[.int .i64 A, .int .i64 R, .int .i64 n, .int .i64 d], .int .i64 E] w fun e w' => e = .returned (.tuple #[.agg #[.int .i64 0, .slice none 0 0, .int .i64 0, .int .i64 0, .int .i64 0, .int .i64 0, .slice none 0 0, .int .i64 0], .int .i64 210]) ∧ Below w.heap.size w w' :=
  of_seg_no (kindL A R n d) A R n d E p cap l w (fun W hW => c_Kind A R n d W) (fun W hW => c_made_no ⟨kindL A R n d, l, A, R, n, d, [], E⟩ p none cap 0 W ⟨h.below hW, ints_nil W none, by simp; omega, by simp⟩ hs)
end Go.Proofs.YtgblmlefmohgnaaGreat
namespace Go.Proofs.YtgblmlefmohgnaaGreat
open Go.RowKit

theorem pow_lt2 (j k : Nat) (h : j < k) : (2 : Nat) ^ j < 2 ^ k := Nat.pow_lt_pow_right (by omega) h
theorem lt_pow2 {a : Nat} (j k : Nat) (h : a < 2 ^ j) (hjk : j ≤ k) : a < 2 ^ k := Nat.lt_of_lt_of_le h (Nat.pow_le_pow_right (by omega) hjk)
theorem twice_pow {a : Nat} (j k : Nat) (h : a < 2 ^ j) (hjk : j + 1 ≤ k) : 2 * a < 2 ^ k :=
  Nat.lt_of_lt_of_le (Nat.mul_lt_mul_of_pos_left h (by omega)) (by rw [← Nat.pow_succ']; exact Nat.pow_le_pow_right (by omega) hjk)
def valD : List Int → Nat
  | [] => 0
  | d :: l => d.toNat + 2 * valD l
def Dig (l : List Int) : Prop := ∀ d, d ∈ l → d = 0 ∨ d = 1
/-- No noughts at the end. -/
def Canon (l : List Int) : Prop := l = [] ∨ 2 ^ (l.length - 1) ≤ valD l
theorem Dig.nil : Dig [] := fun d h => by simp at h
theorem Dig.snoc {l : List Int} {d : Int} (h : Dig l) (hd : d = 0 ∨ d = 1) : Dig (l ++ [d]) := fun x hx => by
  rcases List.mem_append.1 hx with h1 | h1
  · exact h x h1
  · simp at h1; subst h1; exact hd
theorem Dig.cons {l : List Int} {d : Int} (h : Dig l) (hd : d = 0 ∨ d = 1) : Dig (d :: l) := fun x hx => by
  rcases List.mem_cons.1 hx with h1 | h1
  · subst h1; exact hd
  · exact h x h1
theorem Dig.take {l : List Int} (h : Dig l) (k : Nat) : Dig (l.take k) := fun x hx => h x (List.mem_of_mem_take hx)
theorem Dig.drop {l : List Int} (h : Dig l) (k : Nat) : Dig (l.drop k) := fun x hx => h x (List.mem_of_mem_drop hx)
theorem Dig.at {l : List Int} (h : Dig l) {k : Nat} {d : Int} (hk : l[k]? = some d) : d = 0 ∨ d = 1 := h d (List.mem_of_getElem? hk)
theorem valD_append : ∀ (a b : List Int), valD (a ++ b) = valD a + 2 ^ a.length * valD b
  | [], b => by simp [valD]
  | d :: a, b => by
    simp only [List.cons_append, valD, List.length_cons, valD_append a b]
    rw [Nat.pow_succ, Nat.mul_add, Nat.mul_comm (2 ^ a.length) 2, Nat.mul_assoc]
    omega
theorem valD_snoc (a : List Int) (d : Int) : valD (a ++ [d]) = valD a + 2 ^ a.length * d.toNat := by rw [valD_append]; simp [valD]
theorem valD_take {l : List Int} {k : Nat} {d : Int} (hk : l[k]? = some d) : valD (l.take (k + 1)) = valD (l.take k) + 2 ^ k * d.toNat := by
  have hlt := (List.getElem?_eq_some_iff.1 hk).1
  rw [List.take_add_one, hk]
  show valD (l.take k ++ [d]) = _
  rw [valD_snoc, List.length_take, Nat.min_eq_left (by omega)]
theorem valD_lt : ∀ (l : List Int), Dig l → valD l < 2 ^ l.length
  | [], _ => by simp [valD]
  | d :: l, h => by
    have ih := valD_lt l fun x hx => h x (by simp [hx])
    have hd := h d (by simp)
    simp only [valD, List.length_cons, Nat.pow_succ]
    rcases hd with rfl | rfl <;> simp <;> omega
theorem valD_all (l : List Int) {k : Nat} (h : l.length ≤ k) : valD (l.take k) = valD l := by rw [List.take_of_length_le h]
theorem Canon.nil : Canon [] := .inl rfl
/-- A digit list that ends in 1 has no noughts at the end. -/
theorem canon_snoc_one (l : List Int) : Canon (l ++ [1]) := .inr (by rw [valD_snoc]; simp)
theorem canon_pos {l : List Int} (h : Canon l) (hl : l ≠ []) : 2 ^ (l.length - 1) ≤ valD l := by
  rcases h with h | h
  · exact absurd h hl
  · exact h
/-- Which is less, told by the lengths. -/
theorem less_len {a b : List Int} (ha : Dig a) (hb : Canon b) (h : a.length < b.length) : valD a < valD b := by
  have h1 := valD_lt a ha
  have h2 := canon_pos hb (by rintro rfl; simp at h)
  have h3 : 2 ^ a.length ≤ 2 ^ (b.length - 1) := Nat.pow_le_pow_right (by omega) (by omega)
  omega
theorem valD_split {l : List Int} {k : Nat} (hk : k ≤ l.length) : valD l = valD (l.take k) + 2 ^ k * valD (l.drop k) := by
  conv => lhs; rw [← List.take_append_drop k l]
  rw [valD_append, List.length_take, Nat.min_eq_left hk]
/-- Which is less, told by the highest place at which they part. -/
theorem less_at {a b : List Int} (ha : Dig a) (hb : Dig b) (hl : a.length = b.length) {k : Nat} {x y : Int} (hx : a[k]? = some x) (hy : b[k]? = some y) (hd : a.drop (k + 1) = b.drop (k + 1)) (h : x < y) : valD a < valD b := by
  have hk := (List.getElem?_eq_some_iff.1 hx).1
  have e1 := valD_split (l := a) (k := k + 1) (by omega)
  have e2 := valD_split (l := b) (k := k + 1) (by omega)
  rw [hd] at e1
  have t1 := valD_take hx
  have t2 := valD_take hy
  have b1 := valD_lt (a.take k) (ha.take k)
  rw [List.length_take, Nat.min_eq_left (by omega)] at b1
  have dx := ha.at hx
  have dy := hb.at hy
  have x0 : x = 0 := by omega
  have y1 : y = 1 := by omega
  subst x0; subst y1
  simp at t1 t2
  omega
/-- What numbers a slice of int has; its block is one of int. -/
structure DigsIn (w : World) (p : Option Addr) (l : List Int) : Prop where
  at' : ∀ (i : Nat) (x : Int), l[i]? = some x → ∃ b o, p = some ⟨b, o, none⟩ ∧ w.cell? ⟨b, o + i, none⟩ = some (.int .i64 x)
  typ : ∀ a, p = some a → ∃ cur fz, w.heap[a.block]? = some (.cells cur 3 fz)
theorem DigsIn.below {w w' : World} {p : Option Addr} {l : List Int} (h : DigsIn w p l) (hb : Below w.heap.size w w') : DigsIn w' p l :=
  ⟨((⟨h.at'⟩ : IntsIn w p l).below hb).at', fun a e => by
    obtain ⟨cur, fz, hh⟩ := h.typ a e
    exact ⟨cur, fz, (hb.block a.block (Array.getElem?_eq_some_iff.1 hh).1).trans hh⟩⟩
theorem DigsIn.take {w : World} {p : Option Addr} {l : List Int} (h : DigsIn w p l) (k : Nat) : DigsIn w p (l.take k) := ⟨fun i r hr => h.at' i r (by
  rw [List.getElem?_take] at hr
  split at hr
  · exact hr
  · cases hr), h.typ⟩
theorem clone_digs {w : World} {g k : Nat} {cur : Array Value} {l : List Int} (hb : w.heap[g]? = some (.cells cur 3 (0, 0))) (ht : cur.toList.take k = l.map (Value.int .i64)) : DigsIn w (some ⟨g, 0, none⟩) l :=
  ⟨(cloneInt_in hb ht).at', fun a e => by cases e; exact ⟨cur, (0, 0), hb⟩⟩
/-- A slice of digits: a number, without noughts at the end. -/
def Bits (w : World) (v : Value) (n : Nat) : Prop := ∃ p l cap, v = .slice p l.length cap ∧ l.length ≤ cap ∧ l.length ≤ 1000 ∧ (p = none → l = [] ∧ cap = 0) ∧ DigsIn w p l ∧ Dig l ∧ Canon l ∧ valD l = n
theorem Bits.below {w w' : World} {v : Value} {n : Nat} (h : Bits w v n) (hb : Below w.heap.size w w') : Bits w' v n := by
  obtain ⟨p, l, cap, h1, h2, h3, h4, h5, h6⟩ := h
  exact ⟨p, l, cap, h1, h2, h3, h4, h5.below hb, h6⟩
theorem Bits.rex {L : List Nat} {w w' : World} {v : Value} {n : Nat} (h : Bits w v n) (hr : Rex L w w') (hL : L = []) : Bits w' v n := by subst hL; exact h.below hr.below
theorem Bits.drew {w : World} {v : Value} {n : Nat} (h : Bits w v n) : Bits w.drew v n := by
  obtain ⟨p, l, cap, h1, h2, h3, h4, h5, h6⟩ := h
  exact ⟨p, l, cap, h1, h2, h3, h4, ⟨h5.at', h5.typ⟩, h6⟩
theorem Bits.zero (w : World) : Bits w (.slice none 0 0) 0 := ⟨none, [], 0, rfl, by simp, by simp, fun _ => ⟨rfl, rfl⟩, ⟨fun i x h => by simp at h, fun a e => by cases e⟩, Dig.nil, Canon.nil, rfl⟩
theorem bits_own {w : World} {base n : Nat} {v : Value} {l : List Int} (h : w.ownsRow base 3 1 v n (l.map (Value.int .i64))) (hn : n = l.length) (hl : l.length ≤ 1000) (h1 : Dig l) (h2 : Canon l) : Bits w v (valD l) := by
  subst hn
  obtain ⟨_, h2' | ⟨g, cap', cur, rfl, hg, hb, hn, _, hc, ht⟩⟩ := h
  · obtain ⟨rfl, h0⟩ := h2'
    have : l = [] := List.length_eq_zero_iff.1 h0
    subst this
    exact Bits.zero w
  · exact ⟨some ⟨g, 0, none⟩, l, cap', rfl, by simpa using hn, hl, (fun e => by cases e), clone_digs hb (by simpa using ht), h1, h2, rfl⟩
end Go.Proofs.YtgblmlefmohgnaaGreat
namespace Go.Proofs.YtgblmlefmohgnaaGreat
open Go.RowKit
theorem Tryz.infoI : (Tryz.prog.info? 3).map (fun i => (i.zero, i.size, i.bytes)) = some (some (.int .i64 0), 1, 8) := by kernel_rfl
theorem below_append {w0 W w1 : World} {B : Nat} {e : TypeId} {s k : Nat} {v : Value} {xs : List Value} {tmp : Obj} (hW : Below B w0 W) (hB : B ≤ W.heap.size) (hrow : W.ownsRow B e s v k xs) (hgr : (W.alloc tmp).grownBy w1 v.ownBlock) : Below B w0 w1 := by
  refine (hW.alloc hB tmp).grown hgr (by simp; omega) fun j ej => ?_
  rcases hrow.2 with ⟨rfl, _⟩ | ⟨g, cap, cur, rfl, hb, _, _⟩
  · simp [Value.ownBlock] at ej
  · obtain rfl : g = j := by simpa [Value.ownBlock] using ej
    exact hb
def sizeRel (u0 : Nat) (w : World) (a' : Act) (W : World) : Prop :=
  Below w.heap.size w W ∧ ∃ (l : List Int) (u : Nat) (v : Value), (∃ x : Nat → Value, a' = { tmps := #[.int .u64 (u : Int), x 1, x 2, v, x 4, x 5, x 6, x 7, x 8, x 9, x 10, x 11, x 12, x 13, x 14], defers := [] }) ∧
    W.ownsRow w.heap.size 3 1 v l.length (l.map (Value.int .i64)) ∧ Dig l ∧ valD l + 2 ^ l.length * u = u0 ∧ l.length ≤ 64 ∧ u < 2 ^ (64 - l.length) ∧ (u = 0 → Canon l)
set_option maxRecDepth 100000 in
set_option maxHeartbeats 4000000 in
theorem c_Size (u0 : Nat) (w : World) (h0 : u0 < 18446744073709551616) :
    Calls Tryz.prog 90 #[.int .u64 (u0 : Int)] w fun e w' => ∃ v, e = .returned v ∧ Bits w' v u0 ∧ Below w.heap.size w w' := by
  obtain ⟨i0, hi, hz0, hz1, hz2⟩ := info_parts Tryz.infoI
  go_enter Tryz.func90, Tryz.ntmps90
  go_wp2
  refine wp_loop (sizeRel u0 w) (fun a' _ => (intAt (a'.tmps.getD 0 undef)).toNat) ?_ ?_
  · unfold sizeRel
    exact ⟨Below.refl _ _, [], u0, _, frame_ex rfl, World.ownsRow_nil _ _ _ _, Dig.nil, by simp [valD], by simp, by simpa using h0, fun _ => Canon.nil⟩
  · rintro a' W ⟨hW, l, u, v, ⟨x, rfl⟩, hown, hd, hv, hl, hu, hcn⟩
    have hz := hW.size
    replace hv := Lib.hid hv
    replace hu := Lib.hid hu
    replace hcn := Lib.hid hcn
    by_cases h : u = 0
    · subst h
      have hC := Lib.hid (hcn.out rfl)
      have hn := Lib.hid (show valD l = u0 by have := hv.out; omega)
      clear hcn hv hu
      go_wp2
      go_ret
      exact ⟨v, rfl, hn.out ▸ bits_own hown rfl (by omega) hd hC.out, hW⟩
    · have hpos : 0 < u := by omega
      have hp : 0 < (u : Int) := by omega
      have hlt : l.length < 64 := by
        have := hu.out
        rcases Nat.lt_or_ge l.length 64 with h1 | h1
        · exact h1
        · have : 64 - l.length = 0 := by omega
          rw [this] at hu
          have := hu.out
          simp at this
          omega
      have hu64 : u < 18446744073709551616 := by have := hu.out; have := Nat.pow_le_pow_right (n := 2) (by omega) (show 64 - l.length ≤ 64 by omega); omega
      go_wp2_with (at_builtin; refine wpList_append_own _ rfl (.tmp 6) (.tmp 10) 92 rfl w.heap.size 3 i0 (.int .i64 0) 1 8 (by kernel_rfl) hi hz0 hz1 hz2 rfl (by decide) _ _ _ rfl (hown.alloc _) ⟨W.heap.size, 0, none⟩ 1 1 [.int .i64 (u % 2 : Int)] rfl rfl (cell_one_new _ _ _) (by simp [Value.oneCell']) (by simp [maxLen]; omega) (by omega) (by simp; omega) ?_)
      intro v' w1 hown' hgr _
      have hB := Lib.hid (below_append hW hz hown hgr)
      replace hown' := Lib.hid hown'
      clear hgr hown
      go_wp2
      rw [show (u : Int) / 2 = ((u / 2 : Nat) : Int) by omega]
      refine ⟨?_, by simp [intAt]; omega⟩
      unfold sizeRel
      have e2 : ((u : Int) % 2).toNat = u % 2 := by omega
      refine ⟨hB.out, l ++ [(u : Int) % 2], u / 2, v', frame_ex rfl, by simpa using hown'.out, hd.snoc (by omega), ?_, by simp; omega, ?_, fun h2 => ?_⟩
      · have := hv.out
        rw [valD_snoc, e2, List.length_append, List.length_singleton, Nat.pow_succ, Nat.mul_assoc, Nat.add_assoc, ← Nat.mul_add, show u % 2 + 2 * (u / 2) = u by omega]
        exact this
      · have := hu.out
        rw [List.length_append, List.length_singleton]
        have e : 2 ^ (64 - l.length) = 2 * 2 ^ (64 - (l.length + 1)) := by rw [show 64 - l.length = (64 - (l.length + 1)) + 1 by omega, Nat.pow_succ]; omega
        omega
      · have : u = 1 := by omega
        subst this
        exact canon_snoc_one l
theorem valD_noughts : ∀ n : Nat, valD (List.replicate n 0) = 0
  | 0 => rfl
  | n + 1 => by simp [List.replicate_succ, valD, valD_noughts n]
theorem dig_noughts (n : Nat) : Dig (List.replicate n 0) := fun d h => .inl (List.eq_of_mem_replicate h)
def powRel (n : Nat) (w : World) (a' : Act) (W : World) : Prop :=
  Below w.heap.size w W ∧ ∃ (k : Nat) (v : Value), (∃ x : Nat → Value, a' = { tmps := #[.int .i64 (n : Int), x 1, x 2, v, .int .i64 (k : Int), x 5, x 6, x 7, x 8, x 9, x 10, x 11, x 12, x 13, x 14, x 15], defers := [] }) ∧
    W.ownsRow w.heap.size 3 1 v k ((List.replicate k (0 : Int)).map (Value.int .i64)) ∧ k ≤ n
set_option maxRecDepth 100000 in
set_option maxHeartbeats 4000000 in
theorem c_power (n : Nat) (w : World) (hn : n ≤ 900) :
    Calls Tryz.prog 93 #[.int .i64 (n : Int)] w fun e w' => ∃ v, e = .returned v ∧ Bits w' v (2 ^ n) ∧ Below w.heap.size w w' := by
  obtain ⟨i0, hi, hz0, hz1, hz2⟩ := info_parts Tryz.infoI
  go_enter Tryz.func93, Tryz.ntmps93
  go_wp2
  refine wp_loop (powRel n w) (fun a' _ => n - (intAt (a'.tmps.getD 4 undef)).toNat) ?_ ?_
  · unfold powRel
    exact ⟨Below.refl _ _, 0, _, frame_ex rfl, World.ownsRow_nil _ _ _ _, Nat.zero_le _⟩
  · rintro a' W ⟨hW, k, v, ⟨x, rfl⟩, hown, hk⟩
    have hz := hW.size
    rcases Nat.lt_or_ge k n with hlt | hge
    · go_wp2_with (at_builtin; refine wpList_append_own _ rfl (.tmp 10) (.tmp 11) 92 rfl w.heap.size 3 i0 (.int .i64 0) 1 8 (by kernel_rfl) hi hz0 hz1 hz2 rfl (by decide) _ _ _ rfl (hown.alloc _) ⟨W.heap.size, 0, none⟩ 1 1 [.int .i64 0] rfl rfl (cell_one_new _ _ _) (by simp [Value.oneCell']) (by simp [maxLen]; omega) (by omega) (by simp; omega) ?_)
      intro v' w1 hown' hgr _
      have hB := Lib.hid (below_append hW hz hown hgr)
      replace hown' := Lib.hid hown'
      clear hgr hown
      go_wp2
      rw [show (k : Int) + 1 = ((k + 1 : Nat) : Int) by omega]
      refine ⟨?_, by simp [intAt]; omega⟩
      unfold powRel
      exact ⟨hB.out, k + 1, v', frame_ex rfl, by rw [List.replicate_succ', List.map_append, List.map_replicate]; exact hown'.out, hlt⟩
    · obtain rfl : k = n := by omega
      go_wp2_with (at_builtin; refine wpList_append_own _ rfl (.tmp 13) (.tmp 14) 92 rfl w.heap.size 3 i0 (.int .i64 0) 1 8 (by kernel_rfl) hi hz0 hz1 hz2 rfl (by decide) _ _ _ rfl (hown.alloc _) ⟨W.heap.size, 0, none⟩ 1 1 [.int .i64 1] rfl rfl (cell_one_new _ _ _) (by simp [Value.oneCell']) (by simp [maxLen]; omega) (by omega) (by simp; omega) ?_)
      intro v' w1 hown' hgr _
      have hB := Lib.hid (below_append hW hz hown hgr)
      have hv : valD (List.replicate k (0 : Int) ++ [1]) = 2 ^ k := by rw [valD_snoc, valD_noughts]; simp
      have hb : Bits w1 v' (valD (List.replicate k (0 : Int) ++ [1])) := bits_own (n := k + 1) (by rw [List.map_append, List.map_replicate]; exact hown') (by simp) (by simp; omega) ((dig_noughts k).snoc (.inr rfl)) (canon_snoc_one _)
      rw [hv] at hb
      replace hb := Lib.hid hb
      clear hgr hown hown' hv
      go_wp2
      go_ret
      exact ⟨v', rfl, hb.out, hB.out⟩
end Go.Proofs.YtgblmlefmohgnaaGreat
namespace Go.Proofs.YtgblmlefmohgnaaGreat
open Go.RowKit
theorem DigsIn.taken {w : World} {p : Option Addr} {l : List Int} (h : DigsIn w p l) (k : Nat) : DigsIn w p (l.take k) := h.take k
def trimRel (w : World) (b o cap : Nat) (l : List Int) (a' : Act) (W : World) : Prop :=
  Below w.heap.size w W ∧ ∃ k : Nat, (∃ u : Nat → Value, a' = { tmps := #[.slice (some ⟨b, o, none⟩) l.length cap, u 1, u 2, .int .i64 (k : Int), u 4, u 5, u 6, u 7, u 8, u 9, u 10, u 11, u 12, u 13, u 14, u 15, u 16, u 17, u 18, u 19, u 20], defers := [] }) ∧ k ≤ l.length ∧ valD (l.take k) = valD l
set_option maxRecDepth 100000 in
set_option maxHeartbeats 4000000 in
theorem trim_some (b o cap : Nat) (l : List Int) (w : World) (h : DigsIn w (some ⟨b, o, none⟩) l) (hc : l.length ≤ cap) (hcm : cap ≤ 9223372036854775807) (hl : l.length ≤ 1000) (hd : Dig l) :
    Calls Tryz.prog 125 #[.slice (some ⟨b, o, none⟩) l.length cap] w fun e w' => ∃ v, e = .returned v ∧ Bits w' v (valD l) ∧ Below w.heap.size w w' := by
  go_enter Tryz.func125, Tryz.ntmps125
  go_wp2
  refine wp_loop (trimRel w b o cap l) (fun a' _ => (intAt (a'.tmps.getD 3 undef)).toNat) ?_ ?_
  · unfold trimRel
    exact ⟨Below.refl _ _, l.length, frame_ex rfl, Nat.le_refl _, by rw [List.take_length]⟩
  · rintro a' W ⟨hW, k, ⟨u, rfl⟩, hk, hv⟩
    replace hv := Lib.hid hv
    rcases Nat.eq_zero_or_pos k with rfl | hpos
    · go_wp2
      go_ret
      refine ⟨_, rfl, ⟨some ⟨b, o, none⟩, l.take 0, cap, by simp, by simp, by simp, (fun e => by cases e), (h.below hW).taken 0, by simpa using Dig.nil, by simpa using Canon.nil, hv.out⟩, hW⟩
    · obtain ⟨j, rfl⟩ : ∃ j, k = j + 1 := ⟨k - 1, by omega⟩
      obtain ⟨d, hdj⟩ : ∃ d, l[j]? = some d := ⟨l[j], List.getElem?_eq_getElem (by omega)⟩
      obtain ⟨b', o', e, q0⟩ := (h.below hW).at' j d hdj
      cases e
      have e1 : ((j + 1 : Nat) : Int) - 1 = (j : Int) := by omega
      have ht := Lib.hid (valD_take hdj)
      have hdd := hd.at hdj
      have hcan := Lib.hid (show d = 1 → Canon (l.take (j + 1)) from fun e => by rw [List.take_add_one, hdj, e]; exact canon_snoc_one _)
      clear hdj
      replace e1 := Lib.hid e1
      rcases hdd with rfl | rfl
      · go_wp2
        refine ⟨?_, by simp [intAt]⟩
        unfold trimRel
        exact ⟨hW, j, frame_ex rfl, by omega, by have := ht.out; have := hv.out; simp at *; omega⟩
      · go_wp2
        go_ret
        exact ⟨_, rfl, ⟨some ⟨b, o, none⟩, l.take (j + 1), cap, by rw [List.length_take, Nat.min_eq_left hk]; rfl, by rw [List.length_take]; omega, by rw [List.length_take]; omega, (fun e => by cases e), (h.below hW).taken _, hd.take _, hcan.out trivial, hv.out⟩, hW⟩
set_option maxRecDepth 100000 in
set_option maxHeartbeats 4000000 in
theorem trim_nil (p : Option Addr) (cap : Nat) (w : World) (hd : DigsIn w p []) (hn : p = none → cap = 0) (hcm : cap ≤ 9223372036854775807) :
    Calls Tryz.prog 125 #[.slice p 0 cap] w fun e w' => ∃ v, e = .returned v ∧ Bits w' v 0 ∧ Below w.heap.size w w' := by
  cases p with
  | none =>
    obtain rfl := hn rfl
    go_enter Tryz.func125, Tryz.ntmps125
    go_wp2
    refine wp_loop (fun a' W => W = w ∧ ∃ u : Nat → Value, a' = { tmps := #[.slice none 0 0, u 1, u 2, .int .i64 0, u 4, u 5, u 6, u 7, u 8, u 9, u 10, u 11, u 12, u 13, u 14, u 15, u 16, u 17, u 18, u 19, u 20], defers := [] }) (fun _ _ => 0) ⟨rfl, frame_ex rfl⟩ ?_
    rintro a' W ⟨rfl, u, rfl⟩
    go_wp2
    go_ret
    exact ⟨_, rfl, Bits.zero _, Below.refl _ _⟩
  | some a =>
    go_enter Tryz.func125, Tryz.ntmps125
    go_wp2
    refine wp_loop (fun a' W => W = w ∧ ∃ u : Nat → Value, a' = { tmps := #[.slice (some a) 0 cap, u 1, u 2, .int .i64 0, u 4, u 5, u 6, u 7, u 8, u 9, u 10, u 11, u 12, u 13, u 14, u 15, u 16, u 17, u 18, u 19, u 20], defers := [] }) (fun _ _ => 0) ⟨rfl, frame_ex rfl⟩ ?_
    rintro a' W ⟨rfl, u, rfl⟩
    go_wp2
    go_ret
    exact ⟨_, rfl, ⟨_, [], cap, rfl, by simp, by simp, (fun e => by cases e), hd, Dig.nil, Canon.nil, rfl⟩, Below.refl _ _⟩
theorem c_trim (p : Option Addr) (cap : Nat) (l : List Int) (w : World) (h : DigsIn w p l) (hn : p = none → l = [] ∧ cap = 0) (hc : l.length ≤ cap) (hcm : cap ≤ 9223372036854775807) (hl : l.length ≤ 1000) (hd : Dig l) :
    Calls Tryz.prog 125 #[.slice p l.length cap] w fun e w' => ∃ v, e = .returned v ∧ Bits w' v (valD l) ∧ Below w.heap.size w w' := by
  cases l with
  | nil => exact trim_nil p cap w h (fun e => (hn e).2) hcm
  | cons d l =>
    obtain ⟨b, o, rfl, _⟩ := h.at' 0 d rfl
    exact trim_some b o cap (d :: l) w h hc hcm hl hd
end Go.Proofs.YtgblmlefmohgnaaGreat
namespace Go.Proofs.YtgblmlefmohgnaaGreat
open Go.RowKit
def plusRel (w : World) (p q : Option Addr) (a b : List Int) (ca cb : Nat) (a' : Act) (W : World) : Prop :=
  Below w.heap.size w W ∧ ∃ (l : List Int) (c : Int) (v : Value), (∃ u : Nat → Value, a' = { tmps := #[.slice p a.length ca, .slice q b.length cb, u 2, u 3, u 4, v, .int .i64 c, .int .i64 (l.length : Int), u 8, u 9, u 10, u 11, u 12, u 13, u 14, u 15, u 16, u 17, u 18, u 19, u 20, u 21, u 22, u 23, u 24, u 25, u 26, u 27, u 28, u 29, u 30, u 31, u 32, u 33, u 34, u 35, u 36, u 37, u 38, u 39, u 40, u 41, u 42, u 43, u 44, u 45, u 46, u 47, u 48, u 49, u 50, u 51, u 52, u 53], defers := [] }) ∧
    W.ownsRow w.heap.size 3 1 v l.length (l.map (Value.int .i64)) ∧ Dig l ∧ (0 ≤ c ∧ c ≤ 1) ∧ valD l + 2 ^ l.length * c.toNat = valD (a.take l.length) + valD (b.take l.length) ∧
    ((l.length : Int) + c ≤ a.length + 1 ∨ (l.length : Int) + c ≤ b.length + 1) ∧ (l.length = 0 ∨ l.length ≤ a.length ∨ l.length ≤ b.length ∨ 2 ^ (l.length - 1) ≤ valD l)
set_option maxRecDepth 100000 in
set_option maxHeartbeats 20000000 in
theorem plus_w (p q : Option Addr) (a b : List Int) (ca cb : Nat) (w : World) (ha : DigsIn w p a) (hb : DigsIn w q b) (hda : Dig a) (hdb : Dig b) (hca : Canon a) (hcb : Canon b) (hla : a.length ≤ 950) (hlb : b.length ≤ 950) :
    Calls Tryz.prog 94 #[.slice p a.length ca, .slice q b.length cb] w fun e w' => ∃ v, e = .returned v ∧ Bits w' v (valD a + valD b) ∧ Below w.heap.size w w' := by
  obtain ⟨i0, hi, hz0, hz1, hz2⟩ := info_parts Tryz.infoI
  go_enter Tryz.func94, Tryz.ntmps94
  go_wp2
  refine wp_loop (plusRel w p q a b ca cb) (fun a' _ => 2000 - (intAt (a'.tmps.getD 7 undef)).toNat) ?_ ?_
  · unfold plusRel
    exact ⟨Below.refl _ _, [], 0, _, frame_ex rfl, World.ownsRow_nil _ _ _ _, Dig.nil, by omega, by simp [valD], by simp; omega, .inl rfl⟩
  · rintro a' W ⟨hW, l, c, v, ⟨u, rfl⟩, hown, hd, hc, hv, hM, hcn⟩
    have hz := hW.size
    replace hv := Lib.hid hv
    replace hcn := Lib.hid hcn
    have hl9 : l.length ≤ 951 := by omega
    by_cases hia : l.length < a.length
    · by_cases hib : l.length < b.length
      ·
        obtain ⟨x, hx⟩ : ∃ x, a[l.length]? = some x := ⟨a[l.length], List.getElem?_eq_getElem hia⟩
        obtain ⟨ga, oa, rfl, qa⟩ := (ha.below hW).at' _ x hx
        have bx : 0 ≤ x ∧ x ≤ 1 := by have := hda.at hx; omega
        have ta := valD_take hx
        obtain ⟨y, hy⟩ : ∃ y, b[l.length]? = some y := ⟨b[l.length], List.getElem?_eq_getElem hib⟩
        obtain ⟨gb, ob, rfl, qb⟩ := (hb.below hW).at' _ y hy
        have by' : 0 ≤ y ∧ y ≤ 1 := by have := hdb.at hy; omega
        have tb := valD_take hy
        replace ta := Lib.hid ta
        replace tb := Lib.hid tb
        clear hx
        clear hy
        go_wp2_with (at_builtin; refine wpList_append_own _ rfl (.tmp 46) (.tmp 49) 92 rfl w.heap.size 3 i0 (.int .i64 0) 1 8 (by kernel_rfl) hi hz0 hz1 hz2 rfl (by decide) _ _ _ rfl (hown.alloc _) ⟨W.heap.size, 0, none⟩ 1 1 [.int .i64 ((c + x + y) % 2)] rfl rfl (cell_one_new _ _ _) (by simp [Value.oneCell']) (by simp [maxLen]; omega) (by omega) (by simp; omega) ?_)
        intro v' w1 hown' hgr _
        have hB := Lib.hid (below_append hW hz hown hgr)
        replace hown' := Lib.hid hown'
        clear hgr hown
        go_wp2
        refine ⟨?_, by simp [intAt]; omega⟩
        have ee : ((l.length : Int) + 1) = (((l ++ [(c + x + y) % 2]).length : Nat) : Int) := by simp
        rw [ee]
        unfold plusRel
        refine ⟨hB.out, l ++ [(c + x + y) % 2], (c + x + y) / 2, v', frame_ex rfl, by simpa using hown'.out, hd.snoc (by omega), by omega, ?_, by simp; omega, ?_⟩
        · have := hv.out
          have e1 : ((c + x + y) % 2).toNat + 2 * ((c + x + y) / 2).toNat = c.toNat + x.toNat + y.toNat := by omega
          rw [valD_snoc, List.length_append, List.length_singleton, Nat.pow_succ, Nat.mul_assoc, Nat.add_assoc, ← Nat.mul_add, e1, ta.out, tb.out]
          try simp only [Nat.mul_add]
          omega
        · exact .inr (.inl (by simp; omega))
      ·
        obtain ⟨x, hx⟩ : ∃ x, a[l.length]? = some x := ⟨a[l.length], List.getElem?_eq_getElem hia⟩
        obtain ⟨ga, oa, rfl, qa⟩ := (ha.below hW).at' _ x hx
        have bx : 0 ≤ x ∧ x ≤ 1 := by have := hda.at hx; omega
        have ta := valD_take hx
        have tb : valD (b.take (l.length + 1)) = valD (b.take l.length) := by rw [valD_all b (by omega), valD_all b (by omega)]
        replace ta := Lib.hid ta
        replace tb := Lib.hid tb
        clear hx
        go_wp2_with (at_builtin; refine wpList_append_own _ rfl (.tmp 46) (.tmp 49) 92 rfl w.heap.size 3 i0 (.int .i64 0) 1 8 (by kernel_rfl) hi hz0 hz1 hz2 rfl (by decide) _ _ _ rfl (hown.alloc _) ⟨W.heap.size, 0, none⟩ 1 1 [.int .i64 ((c + x) % 2)] rfl rfl (cell_one_new _ _ _) (by simp [Value.oneCell']) (by simp [maxLen]; omega) (by omega) (by simp; omega) ?_)
        intro v' w1 hown' hgr _
        have hB := Lib.hid (below_append hW hz hown hgr)
        replace hown' := Lib.hid hown'
        clear hgr hown
        go_wp2
        refine ⟨?_, by simp [intAt]; omega⟩
        have ee : ((l.length : Int) + 1) = (((l ++ [(c + x) % 2]).length : Nat) : Int) := by simp
        rw [ee]
        unfold plusRel
        refine ⟨hB.out, l ++ [(c + x) % 2], (c + x) / 2, v', frame_ex rfl, by simpa using hown'.out, hd.snoc (by omega), by omega, ?_, by simp; omega, ?_⟩
        · have := hv.out
          have e1 : ((c + x) % 2).toNat + 2 * ((c + x) / 2).toNat = c.toNat + x.toNat := by omega
          rw [valD_snoc, List.length_append, List.length_singleton, Nat.pow_succ, Nat.mul_assoc, Nat.add_assoc, ← Nat.mul_add, e1, ta.out, tb.out]
          try simp only [Nat.mul_add]
          omega
        · exact .inr (.inl (by simp; omega))
    · by_cases hib : l.length < b.length
      ·
        have ta : valD (a.take (l.length + 1)) = valD (a.take l.length) := by rw [valD_all a (by omega), valD_all a (by omega)]
        obtain ⟨y, hy⟩ : ∃ y, b[l.length]? = some y := ⟨b[l.length], List.getElem?_eq_getElem hib⟩
        obtain ⟨gb, ob, rfl, qb⟩ := (hb.below hW).at' _ y hy
        have by' : 0 ≤ y ∧ y ≤ 1 := by have := hdb.at hy; omega
        have tb := valD_take hy
        replace ta := Lib.hid ta
        replace tb := Lib.hid tb
        clear hy
        go_wp2_with (at_builtin; refine wpList_append_own _ rfl (.tmp 46) (.tmp 49) 92 rfl w.heap.size 3 i0 (.int .i64 0) 1 8 (by kernel_rfl) hi hz0 hz1 hz2 rfl (by decide) _ _ _ rfl (hown.alloc _) ⟨W.heap.size, 0, none⟩ 1 1 [.int .i64 ((c + y) % 2)] rfl rfl (cell_one_new _ _ _) (by simp [Value.oneCell']) (by simp [maxLen]; omega) (by omega) (by simp; omega) ?_)
        intro v' w1 hown' hgr _
        have hB := Lib.hid (below_append hW hz hown hgr)
        replace hown' := Lib.hid hown'
        clear hgr hown
        go_wp2
        refine ⟨?_, by simp [intAt]; omega⟩
        have ee : ((l.length : Int) + 1) = (((l ++ [(c + y) % 2]).length : Nat) : Int) := by simp
        rw [ee]
        unfold plusRel
        refine ⟨hB.out, l ++ [(c + y) % 2], (c + y) / 2, v', frame_ex rfl, by simpa using hown'.out, hd.snoc (by omega), by omega, ?_, by simp; omega, ?_⟩
        · have := hv.out
          have e1 : ((c + y) % 2).toNat + 2 * ((c + y) / 2).toNat = c.toNat + y.toNat := by omega
          rw [valD_snoc, List.length_append, List.length_singleton, Nat.pow_succ, Nat.mul_assoc, Nat.add_assoc, ← Nat.mul_add, e1, ta.out, tb.out]
          try simp only [Nat.mul_add]
          omega
        · exact .inr (.inr (.inl (by simp; omega)))
      · by_cases hc0 : 0 < c
        ·
          have ta : valD (a.take (l.length + 1)) = valD (a.take l.length) := by rw [valD_all a (by omega), valD_all a (by omega)]
          have tb : valD (b.take (l.length + 1)) = valD (b.take l.length) := by rw [valD_all b (by omega), valD_all b (by omega)]
          replace ta := Lib.hid ta
          replace tb := Lib.hid tb
          go_wp2_with (at_builtin; refine wpList_append_own _ rfl (.tmp 46) (.tmp 49) 92 rfl w.heap.size 3 i0 (.int .i64 0) 1 8 (by kernel_rfl) hi hz0 hz1 hz2 rfl (by decide) _ _ _ rfl (hown.alloc _) ⟨W.heap.size, 0, none⟩ 1 1 [.int .i64 ((c) % 2)] rfl rfl (cell_one_new _ _ _) (by simp [Value.oneCell']) (by simp [maxLen]; omega) (by omega) (by simp; omega) ?_)
          intro v' w1 hown' hgr _
          have hB := Lib.hid (below_append hW hz hown hgr)
          replace hown' := Lib.hid hown'
          clear hgr hown
          go_wp2
          refine ⟨?_, by simp [intAt]; omega⟩
          have ee : ((l.length : Int) + 1) = (((l ++ [(c) % 2]).length : Nat) : Int) := by simp
          rw [ee]
          unfold plusRel
          refine ⟨hB.out, l ++ [(c) % 2], (c) / 2, v', frame_ex rfl, by simpa using hown'.out, hd.snoc (by omega), by omega, ?_, by simp; omega, ?_⟩
          · have := hv.out
            have e1 : ((c) % 2).toNat + 2 * ((c) / 2).toNat = c.toNat := by omega
            rw [valD_snoc, List.length_append, List.length_singleton, Nat.pow_succ, Nat.mul_assoc, Nat.add_assoc, ← Nat.mul_add, e1, ta.out, tb.out]
            try simp only [Nat.mul_add]
            omega
          · have hc1 : c = 1 := by omega
            subst hc1
            exact .inr (.inr (.inr (by rw [valD_snoc]; simp)))
        · have hc1 : c = 0 := by omega
          subst hc1
          have hsum := Lib.hid (show valD l = valD a + valD b by
            have := hv.out
            rw [valD_all a (by omega), valD_all b (by omega)] at this
            simpa using this)
          have hcan : Canon l := by
            by_cases h0 : l = []
            · exact .inl h0
            · refine .inr ?_
              have hne : l.length ≠ 0 := fun e => h0 (List.length_eq_zero_iff.1 e)
              have hs := hsum.out
              rcases hcn.out with h1 | h1 | h1 | h1
              · omega
              · have e : l.length = a.length := by omega
                have := canon_pos hca (by rintro rfl; simp at e; exact h0 e)
                rw [← e] at this
                omega
              · have e : l.length = b.length := by omega
                have := canon_pos hcb (by rintro rfl; simp at e; exact h0 e)
                rw [← e] at this
                omega
              · exact h1
          have hbits := Lib.hid (bits_own hown rfl (by omega) hd hcan)
          clear hcn hv hcan hown
          go_wp2
          go_ret
          exact ⟨v, rfl, hsum.out ▸ hbits.out, hW⟩
end Go.Proofs.YtgblmlefmohgnaaGreat
namespace Go.Proofs.YtgblmlefmohgnaaGreat
open Go.RowKit
def mnsRel (w : World) (p q : Option Addr) (a b : List Int) (ca cb : Nat) (a' : Act) (W : World) : Prop :=
  Below w.heap.size w W ∧ ∃ (l : List Int) (c : Int) (v : Value), (∃ u : Nat → Value, a' = { tmps := #[.slice p a.length ca, .slice q b.length cb, u 2, u 3, u 4, v, .int .i64 c, .int .i64 (l.length : Int), u 8, u 9, u 10, u 11, u 12, u 13, u 14, u 15, u 16, u 17, u 18, u 19, u 20, u 21, u 22, u 23, u 24, u 25, u 26, u 27, u 28, u 29, u 30, u 31, u 32, u 33, u 34, u 35, u 36, u 37, u 38, u 39, u 40], defers := [] }) ∧
    W.ownsRow w.heap.size 3 1 v l.length (l.map (Value.int .i64)) ∧ Dig l ∧ (0 ≤ c ∧ c ≤ 1) ∧ valD l + valD (b.take l.length) = valD (a.take l.length) + 2 ^ l.length * c.toNat ∧ l.length ≤ a.length
set_option maxRecDepth 100000 in
set_option maxHeartbeats 20000000 in
theorem minus_w (p q : Option Addr) (a b : List Int) (ca cb : Nat) (w : World) (ha : DigsIn w p a) (hb : DigsIn w q b) (hda : Dig a) (hdb : Dig b) (hla : a.length ≤ 950) (hlb : b.length ≤ a.length) (hge : valD b ≤ valD a) :
    Calls Tryz.prog 92 #[.slice p a.length ca, .slice q b.length cb] w fun e w' => ∃ v, e = .returned v ∧ Bits w' v (valD a - valD b) ∧ Below w.heap.size w w' := by
  obtain ⟨i0, hi, hz0, hz1, hz2⟩ := info_parts Tryz.infoI
  go_enter Tryz.func92, Tryz.ntmps92
  go_wp2
  refine wp_loop (mnsRel w p q a b ca cb) (fun a' _ => 2000 - (intAt (a'.tmps.getD 7 undef)).toNat) ?_ ?_
  · unfold mnsRel
    exact ⟨Below.refl _ _, [], 0, _, frame_ex rfl, World.ownsRow_nil _ _ _ _, Dig.nil, by omega, by simp [valD], by simp⟩
  · rintro a' W ⟨hW, l, c, v, ⟨u, rfl⟩, hown, hd, hc, hv, hM⟩
    have hz := hW.size
    replace hv := Lib.hid hv
    have hl9 : l.length ≤ 950 := by omega
    by_cases hia : l.length < a.length
    · obtain ⟨x, hx⟩ : ∃ x, a[l.length]? = some x := ⟨a[l.length], List.getElem?_eq_getElem hia⟩
      obtain ⟨ga, oa, rfl, qa⟩ := (ha.below hW).at' _ x hx
      have bx : 0 ≤ x ∧ x ≤ 1 := by have := hda.at hx; omega
      have ta := Lib.hid (valD_take hx)
      clear hx
      by_cases hib : l.length < b.length
      · obtain ⟨y, hy⟩ : ∃ y, b[l.length]? = some y := ⟨b[l.length], List.getElem?_eq_getElem hib⟩
        obtain ⟨gb, ob, rfl, qb⟩ := (hb.below hW).at' _ y hy
        have bq : 0 ≤ y ∧ y ≤ 1 := by have := hdb.at hy; omega
        have tb := Lib.hid (valD_take hy)
        clear hy
        by_cases hlow : x - c - y < 0
        ·
          go_wp2_with (at_builtin; refine wpList_append_own _ rfl (.tmp 35) (.tmp 37) 92 rfl w.heap.size 3 i0 (.int .i64 0) 1 8 (by kernel_rfl) hi hz0 hz1 hz2 rfl (by decide) _ _ _ rfl (hown.alloc _) ⟨W.heap.size, 0, none⟩ 1 1 [.int .i64 (x - c - y + 2)] rfl rfl (cell_one_new _ _ _) (by simp [Value.oneCell']) (by simp [maxLen]; omega) (by omega) (by simp; omega) ?_)
          intro v' w1 hown' hgr _
          have hB := Lib.hid (below_append hW hz hown hgr)
          replace hown' := Lib.hid hown'
          clear hgr hown
          go_wp2
          refine ⟨?_, by simp [intAt]; omega⟩
          have ee : ((l.length : Int) + 1) = (((l ++ [x - c - y + 2]).length : Nat) : Int) := by simp
          rw [ee]
          unfold mnsRel
          refine ⟨hB.out, l ++ [x - c - y + 2], 1, v', frame_ex rfl, by simpa using hown'.out, hd.snoc (by omega), by omega, ?_, by simp; omega⟩
          have := hv.out
          have e1 : (x - c - y + 2).toNat + c.toNat + y.toNat = x.toNat + 2 * (1 : Int).toNat := by omega
          obtain ⟨Pw, hPw⟩ : ∃ Pw, Pw = 2 ^ l.length := ⟨_, rfl⟩
          rw [valD_snoc, List.length_append, List.length_singleton, Nat.pow_succ, ta.out, tb.out]
          rw [← hPw] at this ⊢
          have e2 : Pw * (x - c - y + 2).toNat + Pw * c.toNat + Pw * y.toNat = Pw * x.toNat + Pw * (2 * (1 : Int).toNat) := by rw [← Nat.mul_add, ← Nat.mul_add, e1, Nat.mul_add]
          have e3 : Pw * 2 * (1 : Int).toNat = Pw * (2 * (1 : Int).toNat) := Nat.mul_assoc _ _ _
          omega
        ·
          go_wp2_with (at_builtin; refine wpList_append_own _ rfl (.tmp 35) (.tmp 37) 92 rfl w.heap.size 3 i0 (.int .i64 0) 1 8 (by kernel_rfl) hi hz0 hz1 hz2 rfl (by decide) _ _ _ rfl (hown.alloc _) ⟨W.heap.size, 0, none⟩ 1 1 [.int .i64 (x - c - y)] rfl rfl (cell_one_new _ _ _) (by simp [Value.oneCell']) (by simp [maxLen]; omega) (by omega) (by simp; omega) ?_)
          intro v' w1 hown' hgr _
          have hB := Lib.hid (below_append hW hz hown hgr)
          replace hown' := Lib.hid hown'
          clear hgr hown
          go_wp2
          refine ⟨?_, by simp [intAt]; omega⟩
          have ee : ((l.length : Int) + 1) = (((l ++ [x - c - y]).length : Nat) : Int) := by simp
          rw [ee]
          unfold mnsRel
          refine ⟨hB.out, l ++ [x - c - y], 0, v', frame_ex rfl, by simpa using hown'.out, hd.snoc (by omega), by omega, ?_, by simp; omega⟩
          have := hv.out
          have e1 : (x - c - y).toNat + c.toNat + y.toNat = x.toNat + 2 * (0 : Int).toNat := by omega
          obtain ⟨Pw, hPw⟩ : ∃ Pw, Pw = 2 ^ l.length := ⟨_, rfl⟩
          rw [valD_snoc, List.length_append, List.length_singleton, Nat.pow_succ, ta.out, tb.out]
          rw [← hPw] at this ⊢
          have e2 : Pw * (x - c - y).toNat + Pw * c.toNat + Pw * y.toNat = Pw * x.toNat + Pw * (2 * (0 : Int).toNat) := by rw [← Nat.mul_add, ← Nat.mul_add, e1, Nat.mul_add]
          have e3 : Pw * 2 * (0 : Int).toNat = Pw * (2 * (0 : Int).toNat) := Nat.mul_assoc _ _ _
          omega
      · have tb := Lib.hid (show valD (b.take (l.length + 1)) = valD (b.take l.length) by rw [valD_all b (by omega), valD_all b (by omega)])
        by_cases hlow : x - c < 0
        ·
          go_wp2_with (at_builtin; refine wpList_append_own _ rfl (.tmp 35) (.tmp 37) 92 rfl w.heap.size 3 i0 (.int .i64 0) 1 8 (by kernel_rfl) hi hz0 hz1 hz2 rfl (by decide) _ _ _ rfl (hown.alloc _) ⟨W.heap.size, 0, none⟩ 1 1 [.int .i64 (x - c + 2)] rfl rfl (cell_one_new _ _ _) (by simp [Value.oneCell']) (by simp [maxLen]; omega) (by omega) (by simp; omega) ?_)
          intro v' w1 hown' hgr _
          have hB := Lib.hid (below_append hW hz hown hgr)
          replace hown' := Lib.hid hown'
          clear hgr hown
          go_wp2
          refine ⟨?_, by simp [intAt]; omega⟩
          have ee : ((l.length : Int) + 1) = (((l ++ [x - c + 2]).length : Nat) : Int) := by simp
          rw [ee]
          unfold mnsRel
          refine ⟨hB.out, l ++ [x - c + 2], 1, v', frame_ex rfl, by simpa using hown'.out, hd.snoc (by omega), by omega, ?_, by simp; omega⟩
          have := hv.out
          have e1 : (x - c + 2).toNat + c.toNat = x.toNat + 2 * (1 : Int).toNat := by omega
          obtain ⟨Pw, hPw⟩ : ∃ Pw, Pw = 2 ^ l.length := ⟨_, rfl⟩
          rw [valD_snoc, List.length_append, List.length_singleton, Nat.pow_succ, ta.out, tb.out]
          rw [← hPw] at this ⊢
          have e2 : Pw * (x - c + 2).toNat + Pw * c.toNat = Pw * x.toNat + Pw * (2 * (1 : Int).toNat) := by rw [← Nat.mul_add, e1, Nat.mul_add]
          have e3 : Pw * 2 * (1 : Int).toNat = Pw * (2 * (1 : Int).toNat) := Nat.mul_assoc _ _ _
          omega
        ·
          go_wp2_with (at_builtin; refine wpList_append_own _ rfl (.tmp 35) (.tmp 37) 92 rfl w.heap.size 3 i0 (.int .i64 0) 1 8 (by kernel_rfl) hi hz0 hz1 hz2 rfl (by decide) _ _ _ rfl (hown.alloc _) ⟨W.heap.size, 0, none⟩ 1 1 [.int .i64 (x - c)] rfl rfl (cell_one_new _ _ _) (by simp [Value.oneCell']) (by simp [maxLen]; omega) (by omega) (by simp; omega) ?_)
          intro v' w1 hown' hgr _
          have hB := Lib.hid (below_append hW hz hown hgr)
          replace hown' := Lib.hid hown'
          clear hgr hown
          go_wp2
          refine ⟨?_, by simp [intAt]; omega⟩
          have ee : ((l.length : Int) + 1) = (((l ++ [x - c]).length : Nat) : Int) := by simp
          rw [ee]
          unfold mnsRel
          refine ⟨hB.out, l ++ [x - c], 0, v', frame_ex rfl, by simpa using hown'.out, hd.snoc (by omega), by omega, ?_, by simp; omega⟩
          have := hv.out
          have e1 : (x - c).toNat + c.toNat = x.toNat + 2 * (0 : Int).toNat := by omega
          obtain ⟨Pw, hPw⟩ : ∃ Pw, Pw = 2 ^ l.length := ⟨_, rfl⟩
          rw [valD_snoc, List.length_append, List.length_singleton, Nat.pow_succ, ta.out, tb.out]
          rw [← hPw] at this ⊢
          have e2 : Pw * (x - c).toNat + Pw * c.toNat = Pw * x.toNat + Pw * (2 * (0 : Int).toNat) := by rw [← Nat.mul_add, e1, Nat.mul_add]
          have e3 : Pw * 2 * (0 : Int).toNat = Pw * (2 * (0 : Int).toNat) := Nat.mul_assoc _ _ _
          omega
    · have hl0 : l.length = a.length := by omega
      have hsum := Lib.hid (show valD l = valD a - valD b by
        have h1 := hv.out
        have h2 := valD_lt l hd
        rw [valD_all a (by omega), valD_all b (by omega)] at h1
        rcases (show c = 0 ∨ c = 1 by omega) with rfl | rfl
        · simp at h1; omega
        · simp at h1; omega)
      obtain ⟨p', cap', hv', hcap, hcm, hn', hI⟩ : ∃ p' cap', v = .slice p' l.length cap' ∧ l.length ≤ cap' ∧ cap' ≤ 9223372036854775807 ∧ (p' = none → l = [] ∧ cap' = 0) ∧ DigsIn W p' l := by
        obtain ⟨_, h2' | ⟨g, cap', cur, rfl, hg, hb', hn, hmx, hcc, ht⟩⟩ := hown
        · obtain ⟨rfl, h0⟩ := h2'
          have : l = [] := List.length_eq_zero_iff.1 h0
          subst this
          exact ⟨none, 0, rfl, by simp, by omega, fun _ => ⟨rfl, rfl⟩, ⟨fun i x h => by simp at h, fun a e => by cases e⟩⟩
        · exact ⟨some ⟨g, 0, none⟩, cap', rfl, hn, by unfold maxLen at hmx; omega, (fun e => by cases e), clone_digs hb' (by simpa using ht)⟩
      subst hv'
      have ct := fun W' (hW' : Below W.heap.size W W') => c_trim p' cap' l W' (hI.below hW') hn' hcap hcm (by omega) hd
      rw [hsum.out] at ct
      replace ct := Lib.hid ct
      clear hv hI hl0
      go_wp2_with fail
      refine (ct.out _ (Below.refl _ _)).mono ?_
      rintro e w2 ⟨v2, rfl, hb2, hB2⟩
      replace hb2 := Lib.hid hb2
      have hBB := Lib.hid (hW.trans (hB2.mono hz))
      clear hB2
      go_wp2
      go_ret
      exact ⟨v2, rfl, hb2.out, hBB.out⟩
end Go.Proofs.YtgblmlefmohgnaaGreat
