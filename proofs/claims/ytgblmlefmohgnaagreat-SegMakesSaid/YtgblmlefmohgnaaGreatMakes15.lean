/- Parts of the proof that follows: SegMakes, walked. -/
import Derived.Test.YtgblmlefmohgnaaGreatMakes14
set_option linter.unusedSimpArgs false
set_option linter.unusedVariables false
namespace Go.Proofs.YtgblmlefmohgnaaGreat
open Go.RowKit
/-- A number that is known and may be written. -/
structure WrP (w : World) (b o : Nat) (z : Int) : Prop where
  cell : w.cell? ⟨b, o, none⟩ = some (.int .i64 z)
  free : ∃ cur T, w.heap[b]? = some (.cells cur T (0, 0))
theorem WrP.lt {w : World} {b o : Nat} {z : Int} (h : WrP w b o z) : b < w.heap.size := by
  obtain ⟨_, _, hh⟩ := h.free
  exact (Array.getElem?_eq_some_iff.1 hh).1
theorem WrP.frozen {w : World} {b o : Nat} {z : Int} (h : WrP w b o z) : w.frozen? ⟨b, o, none⟩ = false := by
  obtain ⟨cur, T, hh⟩ := h.free
  exact frozen_of_row w b o cur T hh
theorem WrP.below {w w' : World} {b o : Nat} {z : Int} (h : WrP w b o z) (hb : Below w.heap.size w w') : WrP w' b o z := by
  refine ⟨(hb.cell (p := ⟨b, o, none⟩) h.lt).trans h.cell, ?_⟩
  obtain ⟨cur, T, hh⟩ := h.free
  exact ⟨cur, T, (hb.block b h.lt).trans hh⟩
theorem WrP.alloc {w : World} {b o : Nat} {z : Int} (h : WrP w b o z) (x : Obj) : WrP (w.alloc x) b o z := h.below ((Below.refl _ _).alloc (Nat.le_refl _) x)
theorem WrP.set {w : World} {b o : Nat} {z : Int} (h : WrP w b o z) {g i : Nat} (hne : b ≠ g) (v : Value) : WrP (w.setCell ⟨g, i, none⟩ v) b o z := by
  have e : (w.setCell ⟨g, i, none⟩ v).heap[b]? = w.heap[b]? := heap_setCell_other w ⟨g, i, none⟩ b v hne
  refine ⟨?_, ?_⟩
  · have := h.cell
    unfold World.cell? at this ⊢
    simp only [e]
    exact this
  · obtain ⟨cur, T, hh⟩ := h.free
    exact ⟨cur, T, e.trans hh⟩
theorem wrAny {w : World} {b o : Nat} {z : Int} (h : WrP w b o z := by repeat (first | with_reducible assumption | with_reducible (refine WrP.alloc ?_ _) | with_reducible (refine WrP.set ?_ (by first | assumption | omega) _) | with_reducible (refine WrP.below ?_ (by assumption)))) : WrP w b o z := h
theorem SegP.setM {w : World} {s : SegT} {p q : Option Addr} {g : Nat} (h : SegP w s p q) (h1 : Hid (∀ a, p = some a → a.block ≠ g)) (h2 : Hid (∀ a, q = some a → a.block ≠ g)) (i : Nat) (v : Value) : SegP (w.setCell ⟨g, i, none⟩ v) s p q :=
  ⟨⟨h.seg.runs.set' h1.out, h.seg.raw.set' h2.out, h.seg.fewR, h.seg.fewV⟩⟩
theorem segSetM {w : World} {s : SegT} {p q : Option Addr} (h : SegP w s p q := by repeat (first | with_reducible assumption | with_reducible (refine SegP.setM ?_ (by assumption) (by assumption) _ _))) : SegP w s p q := h
/-- A segment of numbers of its own, as a drawn step's value. -/
def OM (s : SegT) (E : Int) (len2 m2 : Nat) : Spec := fun v w => ∃ p9 q9 c9 v9, v = .agg #[.int .i64 4, .slice p9 len2 c9, .int .i64 0, .int .i64 0, .int .i64 0, .int .i64 0, .slice q9 m2 v9, .int .i64 E] ∧ SegIn w s p9 q9
theorem OM.closed (s : SegT) (E : Int) (len2 m2 : Nat) : Closed [] (OM s E len2 m2) := fun _ _ _ hr ⟨p, q, c, v, e, h⟩ => ⟨p, q, c, v, e, h.below hr.below⟩
set_option maxRecDepth 100000 in
set_option maxHeartbeats 8000000 in
theorem makes_00 (A R n d E : Int) (p q : Option Addr) (len cap m vc : Nat) (w : World) (len1 m1 len2 m2 : Nat) (s1 s2 : SegT)
    (h1 : ∀ (W : World), Below w.heap.size w W → Calls Tryz.prog 10 #[] W fun e w' => e = .returned (.bool true) ∧ Below W.heap.size W w')
    (h2 : ∀ (W : World), Below w.heap.size w W → Calls Tryz.prog 16 #[.agg #[.int .i64 A, .int .i64 R, .int .i64 n, .int .i64 d]] W fun e w' => e = .returned (.bool false) ∧ Below W.heap.size W w')
    (h4 : ∀ (W : World), Below w.heap.size w W → Calls Tryz.prog 18 #[.agg #[.int .i64 A, .int .i64 R, .int .i64 n, .int .i64 d]] W fun e w' => e = .returned (.int .i64 0) ∧ Below W.heap.size W w')
    (h5 : ∀ (W : World), Below w.heap.size w W → Calls Tryz.prog 11 #[.agg #[.int .i64 0, .slice p len cap, .int .i64 A, .int .i64 R, .int .i64 n, .int .i64 d, .slice none 0 0, .int .i64 E]] W fun e w' => ∃ p1 c1 q1 v1, e = .returned (.agg #[.int .i64 0, .slice p1 len1 c1, .int .i64 A, .int .i64 R, .int .i64 n, .int .i64 d, .slice q1 m1 v1, .int .i64 E]) ∧ Below W.heap.size W w' ∧ SegIn w' s1 p1 q1)
    (h6 : ∀ (W : World), Below w.heap.size w W → Calls Tryz.prog 11 #[.agg #[.int .i64 4, .slice p len cap, .int .i64 0, .int .i64 0, .int .i64 0, .int .i64 0, .slice q m vc, .int .i64 E]] W fun e w' => ∃ p2 c2 q2 v2, e = .returned (.agg #[.int .i64 4, .slice p2 len2 c2, .int .i64 0, .int .i64 0, .int .i64 0, .int .i64 0, .slice q2 m2 v2, .int .i64 E]) ∧ Below W.heap.size W w' ∧ SegIn w' s2 p2 q2 ∧ (∀ a, p2 = some a → a.block < w'.heap.size) ∧ (∀ a, q2 = some a → a.block < w'.heap.size))
    (h7 : ∀ (W : World) (p1 q1 : Option Addr) (c1 v1 : Nat), SegIn W s1 p1 q1 → Calls Tryz.prog 19 #[.slice p1 len1 c1, .agg #[.int .i64 A, .int .i64 R, .int .i64 n, .int .i64 d], .int .i64 E] W fun e w' => e = .returned (.tuple #[.agg #[.int .i64 0, .slice none 0 0, .int .i64 0, .int .i64 0, .int .i64 0, .int .i64 0, .slice none 0 0, .int .i64 0], .int .i64 210]) ∧ Below W.heap.size W w')
    (h8 : ∀ (W : World) (p2 q2 : Option Addr) (c2 v2 : Nat), SegIn W s2 p2 q2 → Calls Tryz.prog 20 #[.slice p2 len2 c2, .slice q2 m2 v2, .int .i64 E] W fun e w' => e = .returned (.tuple #[.agg #[.int .i64 0, .slice none 0 0, .int .i64 0, .int .i64 0, .int .i64 0, .int .i64 0, .slice none 0 0, .int .i64 0], .int .i64 210]) ∧ Below W.heap.size W w')
    (h10 : ∀ (W : World), Calls Tryz.prog 21 #[.agg #[.int .i64 0, .slice none 0 0, .int .i64 0, .int .i64 0, .int .i64 0, .int .i64 0, .slice none 0 0, .int .i64 0], .agg #[.int .i64 0, .slice none 0 0, .int .i64 0, .int .i64 0, .int .i64 0, .int .i64 0, .slice none 0 0, .int .i64 0]] W fun e w' => e = .returned (.bool true) ∧ Below W.heap.size W w')
    (h12 : ∀ (W : World) (p2 q2 : Option Addr) (c2 v2 : Nat), SegIn W s2 p2 q2 → Calls Tryz.prog 13 #[.agg #[.int .i64 4, .slice p2 len2 c2, .int .i64 0, .int .i64 0, .int .i64 0, .int .i64 0, .slice q2 m2 v2, .int .i64 E]] W fun e w' => e = .returned (.bool false) ∧ Below W.heap.size W w') :
    Calls Tryz.prog 4 #[.slice p len cap, .agg #[.int .i64 A, .int .i64 R, .int .i64 n, .int .i64 d], .slice q m vc, .int .i64 E] w fun e w' => e = .returned (.bool true) ∧ Below w.heap.size w w' := by
  have H_h1 := Lib.hid h1
  clear h1
  have H_h2 := Lib.hid h2
  clear h2
  have H_h4 := Lib.hid h4
  clear h4
  have H_h5 := Lib.hid h5
  clear h5
  have H_h6 := Lib.hid h6
  clear h6
  have H_h7 := Lib.hid h7
  clear h7
  have H_h8 := Lib.hid h8
  clear h8
  have H_h10 := Lib.hid h10
  clear h10
  have H_h12 := Lib.hid h12
  clear h12
  go_enter Tryz.func4, Tryz.ntmps4
  go_upto_region 1 with (fail)
  refine wp_facts (fun W' => Below w.heap.size w W' ∧ Blk W' w.heap.size #[.int .i64 A, .int .i64 R, .int .i64 n, .int .i64 d] 24) ⟨by exact belowAny, by exact blkAny2⟩ ?_
  rintro W1 ⟨hW, b1⟩
  have z2 := hW.size
  have z3 := b1.lt
  have k1 := b1.cell
  have f1 := b1.frozen
  have h1 := H_h1.out
  go_wp2_with fail
  refine (h1 _ belowAny).mono ?_
  rintro e w4 ⟨rfl, hb4⟩
  clear h1
  have z5 := hb4.size
  try simp at z5
  clear k1 f1
  have b1 : Blk w4 w.heap.size #[.int .i64 A, .int .i64 R, .int .i64 n, .int .i64 d] 24 := by exact blkAny2
  have hW : Below w.heap.size w w4 := by exact belowAny
  have z6 := b1.lt
  clear hb4
  have k1 := b1.cell
  have f1 := b1.frozen
  have h2 := H_h2.out
  go_wp2_with fail
  refine (h2 _ belowAny).mono ?_
  rintro e w7 ⟨rfl, hb7⟩
  clear h2
  have z8 := hb7.size
  try simp at z8
  clear k1 f1
  have b1 : Blk w7 w.heap.size #[.int .i64 A, .int .i64 R, .int .i64 n, .int .i64 d] 24 := by exact blkAny2
  have hW : Below w.heap.size w w7 := by exact belowAny
  have z9 := b1.lt
  clear hb7
  have k1 := b1.cell
  have f1 := b1.frozen
  have h4 := H_h4.out
  go_wp2_with fail
  refine (h4 _ belowAny).mono ?_
  rintro e w10 ⟨rfl, hb10⟩
  clear h4
  have z11 := hb10.size
  try simp at z11
  clear k1 f1
  have b1 : Blk w10 w.heap.size #[.int .i64 A, .int .i64 R, .int .i64 n, .int .i64 d] 24 := by exact blkAny2
  have hW : Below w.heap.size w w10 := by exact belowAny
  have z12 := b1.lt
  clear hb10
  have k1 := b1.cell
  have f1 := b1.frozen
  have h5 := H_h5.out
  go_wp2_with fail
  refine (h5 _ belowAny).mono ?_
  rintro e w13 ⟨p1, c1, q1, v1, rfl, hb13, hS⟩
  clear h5
  have z14 := hb13.size
  try simp at z14
  clear k1 f1
  have b1 : Blk w13 w.heap.size #[.int .i64 A, .int .i64 R, .int .i64 n, .int .i64 d] 24 := by exact blkAny2
  have hW : Below w.heap.size w w13 := by exact belowAny
  have z15 := b1.lt
  have k1 := b1.cell
  have f1 := b1.frozen
  have b2 : SegP _ _ _ _ := ⟨hS⟩
  clear hS
  have h6 := H_h6.out
  go_wp2_with fail
  refine (h6 _ belowAny).mono ?_
  rintro e w16 ⟨p2, c2, q2, v2, rfl, hb16, hS, hn2, hn3⟩
  clear h6
  have z17 := hb16.size
  try simp at z17
  clear k1 f1
  have b1 : Blk w16 w.heap.size #[.int .i64 A, .int .i64 R, .int .i64 n, .int .i64 d] 24 := by exact blkAny2
  have b2 : SegP w16 s1 p1 q1 := by exact segPAny
  have b3 : Blk w16 w13.heap.size #[.int .i64 0, .slice p1 len1 c1, .int .i64 A, .int .i64 R, .int .i64 n, .int .i64 d, .slice q1 m1 v1, .int .i64 E] 27 := by exact blkAny2
  have hW : Below w.heap.size w w16 := by exact belowAny
  have z18 := b1.lt
  have z19 := b3.lt
  have k1 := b1.cell
  have f1 := b1.frozen
  have k3 := b3.cell
  have f3 := b3.frozen
  have b4 : SegP _ _ _ _ := ⟨hS⟩
  clear hS
  replace hn2 := Lib.hid hn2
  replace hn3 := Lib.hid hn3
  have h7 := H_h7.out
  go_wp2_with fail
  refine (h7 _ p1 q1 c1 v1 segNow).mono ?_
  rintro e w20 ⟨rfl, hb20⟩
  clear h7
  have z21 := hb20.size
  try simp at z21
  clear k1 f1 k3 f3
  have b1 : Blk w20 w.heap.size #[.int .i64 A, .int .i64 R, .int .i64 n, .int .i64 d] 24 := by exact blkAny2
  have b2 : SegP w20 s1 p1 q1 := by exact segPAny
  have b3 : Blk w20 w13.heap.size #[.int .i64 0, .slice p1 len1 c1, .int .i64 A, .int .i64 R, .int .i64 n, .int .i64 d, .slice q1 m1 v1, .int .i64 E] 27 := by exact blkAny2
  have b4 : SegP w20 s2 p2 q2 := by exact segPAny
  have b5 : Blk w20 w16.heap.size #[.int .i64 4, .slice p2 len2 c2, .int .i64 0, .int .i64 0, .int .i64 0, .int .i64 0, .slice q2 m2 v2, .int .i64 E] 27 := by exact blkAny2
  have hW : Below w.heap.size w w20 := by exact belowAny
  have z22 := b1.lt
  have z23 := b3.lt
  have z24 := b5.lt
  clear hb20
  have k1 := b1.cell
  have f1 := b1.frozen
  have k3 := b3.cell
  have f3 := b3.frozen
  have k5 := b5.cell
  have f5 := b5.frozen
  have h8 := H_h8.out
  go_wp2_with fail
  refine (h8 _ p2 q2 c2 v2 segNow).mono ?_
  rintro e w25 ⟨rfl, hb25⟩
  clear h8
  have z26 := hb25.size
  try simp at z26
  clear k1 f1 k3 f3 k5 f5
  have b1 : Blk w25 w.heap.size #[.int .i64 A, .int .i64 R, .int .i64 n, .int .i64 d] 24 := by exact blkAny2
  have b2 : SegP w25 s1 p1 q1 := by exact segPAny
  have b3 : Blk w25 w13.heap.size #[.int .i64 0, .slice p1 len1 c1, .int .i64 A, .int .i64 R, .int .i64 n, .int .i64 d, .slice q1 m1 v1, .int .i64 E] 27 := by exact blkAny2
  have b4 : SegP w25 s2 p2 q2 := by exact segPAny
  have b5 : Blk w25 w16.heap.size #[.int .i64 4, .slice p2 len2 c2, .int .i64 0, .int .i64 0, .int .i64 0, .int .i64 0, .slice q2 m2 v2, .int .i64 E] 27 := by exact blkAny2
  have b6 : Blk w25 w20.heap.size #[.int .i64 0, .slice none 0 0, .int .i64 0, .int .i64 0, .int .i64 0, .int .i64 0, .slice none 0 0, .int .i64 0] 27 := by exact blkAny2
  have hW : Below w.heap.size w w25 := by exact belowAny
  have z27 := b1.lt
  have z28 := b3.lt
  have z29 := b5.lt
  have z30 := b6.lt
  clear hb25
  have k1 := b1.cell
  have f1 := b1.frozen
  have k3 := b3.cell
  have f3 := b3.frozen
  have k5 := b5.cell
  have f5 := b5.frozen
  have k6 := b6.cell
  have f6 := b6.frozen
  have h10 := H_h10.out
  go_wp2_with fail
  refine (h10 _).mono ?_
  rintro e w31 ⟨rfl, hb31⟩
  clear h10
  have z32 := hb31.size
  try simp at z32
  clear k1 f1 k3 f3 k5 f5 k6 f6
  have b1 : Blk w31 w.heap.size #[.int .i64 A, .int .i64 R, .int .i64 n, .int .i64 d] 24 := by exact blkAny2
  have b2 : SegP w31 s1 p1 q1 := by exact segPAny
  have b3 : Blk w31 w13.heap.size #[.int .i64 0, .slice p1 len1 c1, .int .i64 A, .int .i64 R, .int .i64 n, .int .i64 d, .slice q1 m1 v1, .int .i64 E] 27 := by exact blkAny2
  have b4 : SegP w31 s2 p2 q2 := by exact segPAny
  have b5 : Blk w31 w16.heap.size #[.int .i64 4, .slice p2 len2 c2, .int .i64 0, .int .i64 0, .int .i64 0, .int .i64 0, .slice q2 m2 v2, .int .i64 E] 27 := by exact blkAny2
  have b6 : Blk w31 w20.heap.size #[.int .i64 0, .slice none 0 0, .int .i64 0, .int .i64 0, .int .i64 0, .int .i64 0, .slice none 0 0, .int .i64 0] 27 := by exact blkAny2
  have b7 : Blk w31 w25.heap.size #[.int .i64 0, .slice none 0 0, .int .i64 0, .int .i64 0, .int .i64 0, .int .i64 0, .slice none 0 0, .int .i64 0] 27 := by exact blkAny2
  have hW : Below w.heap.size w w31 := by exact belowAny
  have z33 := b1.lt
  have z34 := b3.lt
  have z35 := b5.lt
  have z36 := b6.lt
  have z37 := b7.lt
  clear hb31
  have k1 := b1.cell
  have f1 := b1.frozen
  have k3 := b3.cell
  have f3 := b3.frozen
  have k5 := b5.cell
  have f5 := b5.frozen
  have k6 := b6.cell
  have f6 := b6.frozen
  have k7 := b7.cell
  have f7 := b7.frozen
  have h12 := H_h12.out
  go_wp2_with fail
  refine (h12 _ p2 q2 c2 v2 segNow).mono ?_
  rintro e w38 ⟨rfl, hb38⟩
  clear h12
  have z39 := hb38.size
  try simp at z39
  clear k1 f1 k3 f3 k5 f5 k6 f6 k7 f7
  have b1 : Blk w38 w.heap.size #[.int .i64 A, .int .i64 R, .int .i64 n, .int .i64 d] 24 := by exact blkAny2
  have b2 : SegP w38 s1 p1 q1 := by exact segPAny
  have b3 : Blk w38 w13.heap.size #[.int .i64 0, .slice p1 len1 c1, .int .i64 A, .int .i64 R, .int .i64 n, .int .i64 d, .slice q1 m1 v1, .int .i64 E] 27 := by exact blkAny2
  have b4 : SegP w38 s2 p2 q2 := by exact segPAny
  have b5 : Blk w38 w16.heap.size #[.int .i64 4, .slice p2 len2 c2, .int .i64 0, .int .i64 0, .int .i64 0, .int .i64 0, .slice q2 m2 v2, .int .i64 E] 27 := by exact blkAny2
  have b6 : Blk w38 w20.heap.size #[.int .i64 0, .slice none 0 0, .int .i64 0, .int .i64 0, .int .i64 0, .int .i64 0, .slice none 0 0, .int .i64 0] 27 := by exact blkAny2
  have b7 : Blk w38 w25.heap.size #[.int .i64 0, .slice none 0 0, .int .i64 0, .int .i64 0, .int .i64 0, .int .i64 0, .slice none 0 0, .int .i64 0] 27 := by exact blkAny2
  have hW : Below w.heap.size w w38 := by exact belowAny
  have z40 := b1.lt
  have z41 := b3.lt
  have z42 := b5.lt
  have z43 := b6.lt
  have z44 := b7.lt
  clear hb38
  have k1 := b1.cell
  have f1 := b1.frozen
  have k3 := b3.cell
  have f3 := b3.frozen
  have k5 := b5.cell
  have f5 := b5.frozen
  have k6 := b6.cell
  have f6 := b6.frozen
  have k7 := b7.cell
  have f7 := b7.frozen
  have h10 := H_h10.out
  go_wp2_with fail
  refine (h10 _).mono ?_
  rintro e w45 ⟨rfl, hb45⟩
  clear h10
  have z46 := hb45.size
  try simp at z46
  clear k1 f1 k3 f3 k5 f5 k6 f6 k7 f7
  have b1 : Blk w45 w.heap.size #[.int .i64 A, .int .i64 R, .int .i64 n, .int .i64 d] 24 := by exact blkAny2
  have b2 : SegP w45 s1 p1 q1 := by exact segPAny
  have b3 : Blk w45 w13.heap.size #[.int .i64 0, .slice p1 len1 c1, .int .i64 A, .int .i64 R, .int .i64 n, .int .i64 d, .slice q1 m1 v1, .int .i64 E] 27 := by exact blkAny2
  have b4 : SegP w45 s2 p2 q2 := by exact segPAny
  have b5 : Blk w45 w16.heap.size #[.int .i64 4, .slice p2 len2 c2, .int .i64 0, .int .i64 0, .int .i64 0, .int .i64 0, .slice q2 m2 v2, .int .i64 E] 27 := by exact blkAny2
  have b6 : Blk w45 w20.heap.size #[.int .i64 0, .slice none 0 0, .int .i64 0, .int .i64 0, .int .i64 0, .int .i64 0, .slice none 0 0, .int .i64 0] 27 := by exact blkAny2
  have b7 : Blk w45 w25.heap.size #[.int .i64 0, .slice none 0 0, .int .i64 0, .int .i64 0, .int .i64 0, .int .i64 0, .slice none 0 0, .int .i64 0] 27 := by exact blkAny2
  have hW : Below w.heap.size w w45 := by exact belowAny
  have z47 := b1.lt
  have z48 := b3.lt
  have z49 := b5.lt
  have z50 := b6.lt
  have z51 := b7.lt
  clear hb45
  have k1 := b1.cell
  have f1 := b1.frozen
  have k3 := b3.cell
  have f3 := b3.frozen
  have k5 := b5.cell
  have f5 := b5.frozen
  have k6 := b6.cell
  have f6 := b6.frozen
  have k7 := b7.cell
  have f7 := b7.frozen
  go_wp2
  have y_1 := b1.lt
  have y_3 := b3.lt
  have y_5 := b5.lt
  have y_6 := b6.lt
  have y_7 := b7.lt
  refine bodyPost_ret (v := .bool true) (by simp [results, Tryz.results4, go_sem, k1, f1, k3, f3, k5, f5, k6, f6, k7, f7, y_1, y_3, y_5, y_6, y_7]) rfl ⟨rfl, by exact belowAny⟩
set_option maxRecDepth 100000 in
set_option maxHeartbeats 8000000 in
theorem makes_10 (A R n d E : Int) (p q : Option Addr) (len cap m vc : Nat) (w : World) (len1 m1 len2 m2 : Nat) (s1 s2 : SegT) (K0 : Int) (hk : (K0 == 0) = false)
    (h1 : ∀ (W : World), Below w.heap.size w W → Calls Tryz.prog 10 #[] W fun e w' => e = .returned (.bool true) ∧ Below W.heap.size W w')
    (h2 : ∀ (W : World), Below w.heap.size w W → Calls Tryz.prog 16 #[.agg #[.int .i64 A, .int .i64 R, .int .i64 n, .int .i64 d]] W fun e w' => e = .returned (.bool true) ∧ Below W.heap.size W w')
    (h3 : ∀ (W : World), Below w.heap.size w W → Calls Tryz.prog 17 #[.agg #[.int .i64 A, .int .i64 R, .int .i64 n, .int .i64 d]] W fun e w' => e = .returned (.int .i64 K0) ∧ Below W.heap.size W w')
    (h4 : ∀ (W : World), Below w.heap.size w W → Calls Tryz.prog 18 #[.agg #[.int .i64 A, .int .i64 R, .int .i64 n, .int .i64 d]] W fun e w' => e = .returned (.int .i64 K0) ∧ Below W.heap.size W w')
    (h5 : ∀ (W : World), Below w.heap.size w W → Calls Tryz.prog 11 #[.agg #[.int .i64 K0, .slice p len cap, .int .i64 A, .int .i64 R, .int .i64 n, .int .i64 d, .slice none 0 0, .int .i64 E]] W fun e w' => ∃ p1 c1 q1 v1, e = .returned (.agg #[.int .i64 K0, .slice p1 len1 c1, .int .i64 A, .int .i64 R, .int .i64 n, .int .i64 d, .slice q1 m1 v1, .int .i64 E]) ∧ Below W.heap.size W w' ∧ SegIn w' s1 p1 q1)
    (h6 : ∀ (W : World), Below w.heap.size w W → Calls Tryz.prog 11 #[.agg #[.int .i64 4, .slice p len cap, .int .i64 0, .int .i64 0, .int .i64 0, .int .i64 0, .slice q m vc, .int .i64 E]] W fun e w' => ∃ p2 c2 q2 v2, e = .returned (.agg #[.int .i64 4, .slice p2 len2 c2, .int .i64 0, .int .i64 0, .int .i64 0, .int .i64 0, .slice q2 m2 v2, .int .i64 E]) ∧ Below W.heap.size W w' ∧ SegIn w' s2 p2 q2 ∧ (∀ a, p2 = some a → a.block < w'.heap.size) ∧ (∀ a, q2 = some a → a.block < w'.heap.size))
    (h7 : ∀ (W : World) (p1 q1 : Option Addr) (c1 v1 : Nat), SegIn W s1 p1 q1 → Calls Tryz.prog 19 #[.slice p1 len1 c1, .agg #[.int .i64 A, .int .i64 R, .int .i64 n, .int .i64 d], .int .i64 E] W fun e w' => e = .returned (.tuple #[.agg #[.int .i64 0, .slice none 0 0, .int .i64 0, .int .i64 0, .int .i64 0, .int .i64 0, .slice none 0 0, .int .i64 0], .int .i64 210]) ∧ Below W.heap.size W w')
    (h8 : ∀ (W : World) (p2 q2 : Option Addr) (c2 v2 : Nat), SegIn W s2 p2 q2 → Calls Tryz.prog 20 #[.slice p2 len2 c2, .slice q2 m2 v2, .int .i64 E] W fun e w' => e = .returned (.tuple #[.agg #[.int .i64 0, .slice none 0 0, .int .i64 0, .int .i64 0, .int .i64 0, .int .i64 0, .slice none 0 0, .int .i64 0], .int .i64 210]) ∧ Below W.heap.size W w')
    (h9 : ∀ (W : World) (p1 q1 : Option Addr) (c1 v1 : Nat), SegIn W s1 p1 q1 → Calls Tryz.prog 13 #[.agg #[.int .i64 K0, .slice p1 len1 c1, .int .i64 A, .int .i64 R, .int .i64 n, .int .i64 d, .slice q1 m1 v1, .int .i64 E]] W fun e w' => e = .returned (.bool false) ∧ Below W.heap.size W w')
    (h10 : ∀ (W : World), Calls Tryz.prog 21 #[.agg #[.int .i64 0, .slice none 0 0, .int .i64 0, .int .i64 0, .int .i64 0, .int .i64 0, .slice none 0 0, .int .i64 0], .agg #[.int .i64 0, .slice none 0 0, .int .i64 0, .int .i64 0, .int .i64 0, .int .i64 0, .slice none 0 0, .int .i64 0]] W fun e w' => e = .returned (.bool true) ∧ Below W.heap.size W w')
    (h12 : ∀ (W : World) (p2 q2 : Option Addr) (c2 v2 : Nat), SegIn W s2 p2 q2 → Calls Tryz.prog 13 #[.agg #[.int .i64 4, .slice p2 len2 c2, .int .i64 0, .int .i64 0, .int .i64 0, .int .i64 0, .slice q2 m2 v2, .int .i64 E]] W fun e w' => e = .returned (.bool false) ∧ Below W.heap.size W w') :
    Calls Tryz.prog 4 #[.slice p len cap, .agg #[.int .i64 A, .int .i64 R, .int .i64 n, .int .i64 d], .slice q m vc, .int .i64 E] w fun e w' => e = .returned (.bool true) ∧ Below w.heap.size w w' := by
  have H_h1 := Lib.hid h1
  clear h1
  have H_h2 := Lib.hid h2
  clear h2
  have H_h3 := Lib.hid h3
  clear h3
  have H_h4 := Lib.hid h4
  clear h4
  have H_h5 := Lib.hid h5
  clear h5
  have H_h6 := Lib.hid h6
  clear h6
  have H_h7 := Lib.hid h7
  clear h7
  have H_h8 := Lib.hid h8
  clear h8
  have H_h9 := Lib.hid h9
  clear h9
  have H_h10 := Lib.hid h10
  clear h10
  have H_h12 := Lib.hid h12
  clear h12
  go_enter Tryz.func4, Tryz.ntmps4
  go_upto_region 1 with (fail)
  refine wp_facts (fun W' => Below w.heap.size w W' ∧ Blk W' w.heap.size #[.int .i64 A, .int .i64 R, .int .i64 n, .int .i64 d] 24) ⟨by exact belowAny, by exact blkAny2⟩ ?_
  rintro W1 ⟨hW, b1⟩
  have z2 := hW.size
  have z3 := b1.lt
  have k1 := b1.cell
  have f1 := b1.frozen
  have h1 := H_h1.out
  go_wp2_with fail
  refine (h1 _ belowAny).mono ?_
  rintro e w4 ⟨rfl, hb4⟩
  clear h1
  have z5 := hb4.size
  try simp at z5
  clear k1 f1
  have b1 : Blk w4 w.heap.size #[.int .i64 A, .int .i64 R, .int .i64 n, .int .i64 d] 24 := by exact blkAny2
  have hW : Below w.heap.size w w4 := by exact belowAny
  have z6 := b1.lt
  clear hb4
  have k1 := b1.cell
  have f1 := b1.frozen
  have h2 := H_h2.out
  go_wp2_with fail
  refine (h2 _ belowAny).mono ?_
  rintro e w7 ⟨rfl, hb7⟩
  clear h2
  have z8 := hb7.size
  try simp at z8
  clear k1 f1
  have b1 : Blk w7 w.heap.size #[.int .i64 A, .int .i64 R, .int .i64 n, .int .i64 d] 24 := by exact blkAny2
  have hW : Below w.heap.size w w7 := by exact belowAny
  have z9 := b1.lt
  clear hb7
  have k1 := b1.cell
  have f1 := b1.frozen
  have h3 := H_h3.out
  go_wp2_with fail
  refine (h3 _ belowAny).mono ?_
  rintro e w10 ⟨rfl, hb10⟩
  clear h3
  have z11 := hb10.size
  try simp at z11
  clear k1 f1
  have b1 : Blk w10 w.heap.size #[.int .i64 A, .int .i64 R, .int .i64 n, .int .i64 d] 24 := by exact blkAny2
  have hW : Below w.heap.size w w10 := by exact belowAny
  have z12 := b1.lt
  clear hb10
  have k1 := b1.cell
  have f1 := b1.frozen
  have h4 := H_h4.out
  go_wp2_with fail
  refine (h4 _ belowAny).mono ?_
  rintro e w13 ⟨rfl, hb13⟩
  clear h4
  have z14 := hb13.size
  try simp at z14
  clear k1 f1
  have b1 : Blk w13 w.heap.size #[.int .i64 A, .int .i64 R, .int .i64 n, .int .i64 d] 24 := by exact blkAny2
  have hW : Below w.heap.size w w13 := by exact belowAny
  have z15 := b1.lt
  clear hb13
  have k1 := b1.cell
  have f1 := b1.frozen
  have h5 := H_h5.out
  go_wp2_with fail
  refine (h5 _ belowAny).mono ?_
  rintro e w16 ⟨p1, c1, q1, v1, rfl, hb16, hS⟩
  clear h5
  have z17 := hb16.size
  try simp at z17
  clear k1 f1
  have b1 : Blk w16 w.heap.size #[.int .i64 A, .int .i64 R, .int .i64 n, .int .i64 d] 24 := by exact blkAny2
  have hW : Below w.heap.size w w16 := by exact belowAny
  have z18 := b1.lt
  have k1 := b1.cell
  have f1 := b1.frozen
  have b2 : SegP _ _ _ _ := ⟨hS⟩
  clear hS
  have h6 := H_h6.out
  go_wp2_with fail
  refine (h6 _ belowAny).mono ?_
  rintro e w19 ⟨p2, c2, q2, v2, rfl, hb19, hS, hn2, hn3⟩
  clear h6
  have z20 := hb19.size
  try simp at z20
  clear k1 f1
  have b1 : Blk w19 w.heap.size #[.int .i64 A, .int .i64 R, .int .i64 n, .int .i64 d] 24 := by exact blkAny2
  have b2 : SegP w19 s1 p1 q1 := by exact segPAny
  have b3 : Blk w19 w16.heap.size #[.int .i64 K0, .slice p1 len1 c1, .int .i64 A, .int .i64 R, .int .i64 n, .int .i64 d, .slice q1 m1 v1, .int .i64 E] 27 := by exact blkAny2
  have hW : Below w.heap.size w w19 := by exact belowAny
  have z21 := b1.lt
  have z22 := b3.lt
  have k1 := b1.cell
  have f1 := b1.frozen
  have k3 := b3.cell
  have f3 := b3.frozen
  have b4 : SegP _ _ _ _ := ⟨hS⟩
  clear hS
  replace hn2 := Lib.hid hn2
  replace hn3 := Lib.hid hn3
  have h7 := H_h7.out
  go_wp2_with fail
  refine (h7 _ p1 q1 c1 v1 segNow).mono ?_
  rintro e w23 ⟨rfl, hb23⟩
  clear h7
  have z24 := hb23.size
  try simp at z24
  clear k1 f1 k3 f3
  have b1 : Blk w23 w.heap.size #[.int .i64 A, .int .i64 R, .int .i64 n, .int .i64 d] 24 := by exact blkAny2
  have b2 : SegP w23 s1 p1 q1 := by exact segPAny
  have b3 : Blk w23 w16.heap.size #[.int .i64 K0, .slice p1 len1 c1, .int .i64 A, .int .i64 R, .int .i64 n, .int .i64 d, .slice q1 m1 v1, .int .i64 E] 27 := by exact blkAny2
  have b4 : SegP w23 s2 p2 q2 := by exact segPAny
  have b5 : Blk w23 w19.heap.size #[.int .i64 4, .slice p2 len2 c2, .int .i64 0, .int .i64 0, .int .i64 0, .int .i64 0, .slice q2 m2 v2, .int .i64 E] 27 := by exact blkAny2
  have hW : Below w.heap.size w w23 := by exact belowAny
  have z25 := b1.lt
  have z26 := b3.lt
  have z27 := b5.lt
  clear hb23
  have k1 := b1.cell
  have f1 := b1.frozen
  have k3 := b3.cell
  have f3 := b3.frozen
  have k5 := b5.cell
  have f5 := b5.frozen
  have h8 := H_h8.out
  go_wp2_with fail
  refine (h8 _ p2 q2 c2 v2 segNow).mono ?_
  rintro e w28 ⟨rfl, hb28⟩
  clear h8
  have z29 := hb28.size
  try simp at z29
  clear k1 f1 k3 f3 k5 f5
  have b1 : Blk w28 w.heap.size #[.int .i64 A, .int .i64 R, .int .i64 n, .int .i64 d] 24 := by exact blkAny2
  have b2 : SegP w28 s1 p1 q1 := by exact segPAny
  have b3 : Blk w28 w16.heap.size #[.int .i64 K0, .slice p1 len1 c1, .int .i64 A, .int .i64 R, .int .i64 n, .int .i64 d, .slice q1 m1 v1, .int .i64 E] 27 := by exact blkAny2
  have b4 : SegP w28 s2 p2 q2 := by exact segPAny
  have b5 : Blk w28 w19.heap.size #[.int .i64 4, .slice p2 len2 c2, .int .i64 0, .int .i64 0, .int .i64 0, .int .i64 0, .slice q2 m2 v2, .int .i64 E] 27 := by exact blkAny2
  have b6 : Blk w28 w23.heap.size #[.int .i64 0, .slice none 0 0, .int .i64 0, .int .i64 0, .int .i64 0, .int .i64 0, .slice none 0 0, .int .i64 0] 27 := by exact blkAny2
  have hW : Below w.heap.size w w28 := by exact belowAny
  have z30 := b1.lt
  have z31 := b3.lt
  have z32 := b5.lt
  have z33 := b6.lt
  clear hb28
  have k1 := b1.cell
  have f1 := b1.frozen
  have k3 := b3.cell
  have f3 := b3.frozen
  have k5 := b5.cell
  have f5 := b5.frozen
  have k6 := b6.cell
  have f6 := b6.frozen
  have h9 := H_h9.out
  go_wp2_with fail
  refine (h9 _ p1 q1 c1 v1 segNow).mono ?_
  rintro e w34 ⟨rfl, hb34⟩
  clear h9
  have z35 := hb34.size
  try simp at z35
  clear k1 f1 k3 f3 k5 f5 k6 f6
  have b1 : Blk w34 w.heap.size #[.int .i64 A, .int .i64 R, .int .i64 n, .int .i64 d] 24 := by exact blkAny2
  have b2 : SegP w34 s1 p1 q1 := by exact segPAny
  have b3 : Blk w34 w16.heap.size #[.int .i64 K0, .slice p1 len1 c1, .int .i64 A, .int .i64 R, .int .i64 n, .int .i64 d, .slice q1 m1 v1, .int .i64 E] 27 := by exact blkAny2
  have b4 : SegP w34 s2 p2 q2 := by exact segPAny
  have b5 : Blk w34 w19.heap.size #[.int .i64 4, .slice p2 len2 c2, .int .i64 0, .int .i64 0, .int .i64 0, .int .i64 0, .slice q2 m2 v2, .int .i64 E] 27 := by exact blkAny2
  have b6 : Blk w34 w23.heap.size #[.int .i64 0, .slice none 0 0, .int .i64 0, .int .i64 0, .int .i64 0, .int .i64 0, .slice none 0 0, .int .i64 0] 27 := by exact blkAny2
  have b7 : Blk w34 w28.heap.size #[.int .i64 0, .slice none 0 0, .int .i64 0, .int .i64 0, .int .i64 0, .int .i64 0, .slice none 0 0, .int .i64 0] 27 := by exact blkAny2
  have hW : Below w.heap.size w w34 := by exact belowAny
  have z36 := b1.lt
  have z37 := b3.lt
  have z38 := b5.lt
  have z39 := b6.lt
  have z40 := b7.lt
  clear hb34
  have k1 := b1.cell
  have f1 := b1.frozen
  have k3 := b3.cell
  have f3 := b3.frozen
  have k5 := b5.cell
  have f5 := b5.frozen
  have k6 := b6.cell
  have f6 := b6.frozen
  have k7 := b7.cell
  have f7 := b7.frozen
  have h10 := H_h10.out
  go_wp2_with fail
  refine (h10 _).mono ?_
  rintro e w41 ⟨rfl, hb41⟩
  clear h10
  have z42 := hb41.size
  try simp at z42
  clear k1 f1 k3 f3 k5 f5 k6 f6 k7 f7
  have b1 : Blk w41 w.heap.size #[.int .i64 A, .int .i64 R, .int .i64 n, .int .i64 d] 24 := by exact blkAny2
  have b2 : SegP w41 s1 p1 q1 := by exact segPAny
  have b3 : Blk w41 w16.heap.size #[.int .i64 K0, .slice p1 len1 c1, .int .i64 A, .int .i64 R, .int .i64 n, .int .i64 d, .slice q1 m1 v1, .int .i64 E] 27 := by exact blkAny2
  have b4 : SegP w41 s2 p2 q2 := by exact segPAny
  have b5 : Blk w41 w19.heap.size #[.int .i64 4, .slice p2 len2 c2, .int .i64 0, .int .i64 0, .int .i64 0, .int .i64 0, .slice q2 m2 v2, .int .i64 E] 27 := by exact blkAny2
  have b6 : Blk w41 w23.heap.size #[.int .i64 0, .slice none 0 0, .int .i64 0, .int .i64 0, .int .i64 0, .int .i64 0, .slice none 0 0, .int .i64 0] 27 := by exact blkAny2
  have b7 : Blk w41 w28.heap.size #[.int .i64 0, .slice none 0 0, .int .i64 0, .int .i64 0, .int .i64 0, .int .i64 0, .slice none 0 0, .int .i64 0] 27 := by exact blkAny2
  have hW : Below w.heap.size w w41 := by exact belowAny
  have z43 := b1.lt
  have z44 := b3.lt
  have z45 := b5.lt
  have z46 := b6.lt
  have z47 := b7.lt
  clear hb41
  have k1 := b1.cell
  have f1 := b1.frozen
  have k3 := b3.cell
  have f3 := b3.frozen
  have k5 := b5.cell
  have f5 := b5.frozen
  have k6 := b6.cell
  have f6 := b6.frozen
  have k7 := b7.cell
  have f7 := b7.frozen
  have h12 := H_h12.out
  go_wp2_with fail
  refine (h12 _ p2 q2 c2 v2 segNow).mono ?_
  rintro e w48 ⟨rfl, hb48⟩
  clear h12
  have z49 := hb48.size
  try simp at z49
  clear k1 f1 k3 f3 k5 f5 k6 f6 k7 f7
  have b1 : Blk w48 w.heap.size #[.int .i64 A, .int .i64 R, .int .i64 n, .int .i64 d] 24 := by exact blkAny2
  have b2 : SegP w48 s1 p1 q1 := by exact segPAny
  have b3 : Blk w48 w16.heap.size #[.int .i64 K0, .slice p1 len1 c1, .int .i64 A, .int .i64 R, .int .i64 n, .int .i64 d, .slice q1 m1 v1, .int .i64 E] 27 := by exact blkAny2
  have b4 : SegP w48 s2 p2 q2 := by exact segPAny
  have b5 : Blk w48 w19.heap.size #[.int .i64 4, .slice p2 len2 c2, .int .i64 0, .int .i64 0, .int .i64 0, .int .i64 0, .slice q2 m2 v2, .int .i64 E] 27 := by exact blkAny2
  have b6 : Blk w48 w23.heap.size #[.int .i64 0, .slice none 0 0, .int .i64 0, .int .i64 0, .int .i64 0, .int .i64 0, .slice none 0 0, .int .i64 0] 27 := by exact blkAny2
  have b7 : Blk w48 w28.heap.size #[.int .i64 0, .slice none 0 0, .int .i64 0, .int .i64 0, .int .i64 0, .int .i64 0, .slice none 0 0, .int .i64 0] 27 := by exact blkAny2
  have hW : Below w.heap.size w w48 := by exact belowAny
  have z50 := b1.lt
  have z51 := b3.lt
  have z52 := b5.lt
  have z53 := b6.lt
  have z54 := b7.lt
  clear hb48
  have k1 := b1.cell
  have f1 := b1.frozen
  have k3 := b3.cell
  have f3 := b3.frozen
  have k5 := b5.cell
  have f5 := b5.frozen
  have k6 := b6.cell
  have f6 := b6.frozen
  have k7 := b7.cell
  have f7 := b7.frozen
  have h10 := H_h10.out
  go_wp2_with fail
  refine (h10 _).mono ?_
  rintro e w55 ⟨rfl, hb55⟩
  clear h10
  have z56 := hb55.size
  try simp at z56
  clear k1 f1 k3 f3 k5 f5 k6 f6 k7 f7
  have b1 : Blk w55 w.heap.size #[.int .i64 A, .int .i64 R, .int .i64 n, .int .i64 d] 24 := by exact blkAny2
  have b2 : SegP w55 s1 p1 q1 := by exact segPAny
  have b3 : Blk w55 w16.heap.size #[.int .i64 K0, .slice p1 len1 c1, .int .i64 A, .int .i64 R, .int .i64 n, .int .i64 d, .slice q1 m1 v1, .int .i64 E] 27 := by exact blkAny2
  have b4 : SegP w55 s2 p2 q2 := by exact segPAny
  have b5 : Blk w55 w19.heap.size #[.int .i64 4, .slice p2 len2 c2, .int .i64 0, .int .i64 0, .int .i64 0, .int .i64 0, .slice q2 m2 v2, .int .i64 E] 27 := by exact blkAny2
  have b6 : Blk w55 w23.heap.size #[.int .i64 0, .slice none 0 0, .int .i64 0, .int .i64 0, .int .i64 0, .int .i64 0, .slice none 0 0, .int .i64 0] 27 := by exact blkAny2
  have b7 : Blk w55 w28.heap.size #[.int .i64 0, .slice none 0 0, .int .i64 0, .int .i64 0, .int .i64 0, .int .i64 0, .slice none 0 0, .int .i64 0] 27 := by exact blkAny2
  have hW : Below w.heap.size w w55 := by exact belowAny
  have z57 := b1.lt
  have z58 := b3.lt
  have z59 := b5.lt
  have z60 := b6.lt
  have z61 := b7.lt
  clear hb55
  have k1 := b1.cell
  have f1 := b1.frozen
  have k3 := b3.cell
  have f3 := b3.frozen
  have k5 := b5.cell
  have f5 := b5.frozen
  have k6 := b6.cell
  have f6 := b6.frozen
  have k7 := b7.cell
  have f7 := b7.frozen
  go_wp2
  have y_1 := b1.lt
  have y_3 := b3.lt
  have y_5 := b5.lt
  have y_6 := b6.lt
  have y_7 := b7.lt
  refine bodyPost_ret (v := .bool true) (by simp [results, Tryz.results4, go_sem, k1, f1, k3, f3, k5, f5, k6, f6, k7, f7, y_1, y_3, y_5, y_6, y_7]) rfl ⟨rfl, by exact belowAny⟩
set_option maxRecDepth 100000 in
set_option maxHeartbeats 8000000 in
theorem makes_20 (A R n d E : Int) (p q : Option Addr) (len cap m vc : Nat) (w : World) (len1 m1 len2 m2 : Nat) (s1 s2 : SegT) (K0 : Int) (hk : (K0 == 0) = false)
    (h1 : ∀ (W : World), Below w.heap.size w W → Calls Tryz.prog 10 #[] W fun e w' => e = .returned (.bool true) ∧ Below W.heap.size W w')
    (h2 : ∀ (W : World), Below w.heap.size w W → Calls Tryz.prog 16 #[.agg #[.int .i64 A, .int .i64 R, .int .i64 n, .int .i64 d]] W fun e w' => e = .returned (.bool true) ∧ Below W.heap.size W w')
    (h3 : ∀ (W : World), Below w.heap.size w W → Calls Tryz.prog 17 #[.agg #[.int .i64 A, .int .i64 R, .int .i64 n, .int .i64 d]] W fun e w' => e = .returned (.int .i64 K0) ∧ Below W.heap.size W w')
    (h4 : ∀ (W : World), Below w.heap.size w W → Calls Tryz.prog 18 #[.agg #[.int .i64 A, .int .i64 R, .int .i64 n, .int .i64 d]] W fun e w' => e = .returned (.int .i64 K0) ∧ Below W.heap.size W w')
    (h5 : ∀ (W : World), Below w.heap.size w W → Calls Tryz.prog 11 #[.agg #[.int .i64 K0, .slice p len cap, .int .i64 A, .int .i64 R, .int .i64 n, .int .i64 d, .slice none 0 0, .int .i64 E]] W fun e w' => ∃ p1 c1 q1 v1, e = .returned (.agg #[.int .i64 K0, .slice p1 len1 c1, .int .i64 A, .int .i64 R, .int .i64 n, .int .i64 d, .slice q1 m1 v1, .int .i64 E]) ∧ Below W.heap.size W w' ∧ SegIn w' s1 p1 q1)
    (h6 : ∀ (W : World), Below w.heap.size w W → Calls Tryz.prog 11 #[.agg #[.int .i64 4, .slice p len cap, .int .i64 0, .int .i64 0, .int .i64 0, .int .i64 0, .slice q m vc, .int .i64 E]] W fun e w' => ∃ p2 c2 q2 v2, e = .returned (.agg #[.int .i64 4, .slice p2 len2 c2, .int .i64 0, .int .i64 0, .int .i64 0, .int .i64 0, .slice q2 m2 v2, .int .i64 E]) ∧ Below W.heap.size W w' ∧ SegIn w' s2 p2 q2 ∧ (∀ a, p2 = some a → a.block < w'.heap.size) ∧ (∀ a, q2 = some a → a.block < w'.heap.size))
    (h7 : ∀ (W : World) (p1 q1 : Option Addr) (c1 v1 : Nat), SegIn W s1 p1 q1 → Calls Tryz.prog 19 #[.slice p1 len1 c1, .agg #[.int .i64 A, .int .i64 R, .int .i64 n, .int .i64 d], .int .i64 E] W fun e w' => ∃ p3 c3 q3 v3, e = .returned (.tuple #[.agg #[.int .i64 K0, .slice p3 len1 c3, .int .i64 A, .int .i64 R, .int .i64 n, .int .i64 d, .slice q3 m1 v3, .int .i64 E], .int .i64 0]) ∧ Below W.heap.size W w' ∧ SegIn w' s1 p3 q3)
    (h8 : ∀ (W : World) (p2 q2 : Option Addr) (c2 v2 : Nat), SegIn W s2 p2 q2 → Calls Tryz.prog 20 #[.slice p2 len2 c2, .slice q2 m2 v2, .int .i64 E] W fun e w' => e = .returned (.tuple #[.agg #[.int .i64 0, .slice none 0 0, .int .i64 0, .int .i64 0, .int .i64 0, .int .i64 0, .slice none 0 0, .int .i64 0], .int .i64 210]) ∧ Below W.heap.size W w')
    (h9 : ∀ (W : World) (p1 q1 : Option Addr) (c1 v1 : Nat), SegIn W s1 p1 q1 → Calls Tryz.prog 13 #[.agg #[.int .i64 K0, .slice p1 len1 c1, .int .i64 A, .int .i64 R, .int .i64 n, .int .i64 d, .slice q1 m1 v1, .int .i64 E]] W fun e w' => e = .returned (.bool true) ∧ Below W.heap.size W w')
    (h10 : ∀ (W : World), Calls Tryz.prog 21 #[.agg #[.int .i64 0, .slice none 0 0, .int .i64 0, .int .i64 0, .int .i64 0, .int .i64 0, .slice none 0 0, .int .i64 0], .agg #[.int .i64 0, .slice none 0 0, .int .i64 0, .int .i64 0, .int .i64 0, .int .i64 0, .slice none 0 0, .int .i64 0]] W fun e w' => e = .returned (.bool true) ∧ Below W.heap.size W w')
    (h11 : ∀ (W : World) (p3 q3 : Option Addr) (c3 v3 : Nat) (p1 q1 : Option Addr) (c1 v1 : Nat), SegIn W s1 p3 q3 → SegIn W s1 p1 q1 → Calls Tryz.prog 21 #[.agg #[.int .i64 K0, .slice p3 len1 c3, .int .i64 A, .int .i64 R, .int .i64 n, .int .i64 d, .slice q3 m1 v3, .int .i64 E], .agg #[.int .i64 K0, .slice p1 len1 c1, .int .i64 A, .int .i64 R, .int .i64 n, .int .i64 d, .slice q1 m1 v1, .int .i64 E]] W fun e w' => e = .returned (.bool true) ∧ Below W.heap.size W w')
    (h12 : ∀ (W : World) (p2 q2 : Option Addr) (c2 v2 : Nat), SegIn W s2 p2 q2 → Calls Tryz.prog 13 #[.agg #[.int .i64 4, .slice p2 len2 c2, .int .i64 0, .int .i64 0, .int .i64 0, .int .i64 0, .slice q2 m2 v2, .int .i64 E]] W fun e w' => e = .returned (.bool false) ∧ Below W.heap.size W w') :
    Calls Tryz.prog 4 #[.slice p len cap, .agg #[.int .i64 A, .int .i64 R, .int .i64 n, .int .i64 d], .slice q m vc, .int .i64 E] w fun e w' => e = .returned (.bool true) ∧ Below w.heap.size w w' := by
  have H_h1 := Lib.hid h1
  clear h1
  have H_h2 := Lib.hid h2
  clear h2
  have H_h3 := Lib.hid h3
  clear h3
  have H_h4 := Lib.hid h4
  clear h4
  have H_h5 := Lib.hid h5
  clear h5
  have H_h6 := Lib.hid h6
  clear h6
  have H_h7 := Lib.hid h7
  clear h7
  have H_h8 := Lib.hid h8
  clear h8
  have H_h9 := Lib.hid h9
  clear h9
  have H_h10 := Lib.hid h10
  clear h10
  have H_h11 := Lib.hid h11
  clear h11
  have H_h12 := Lib.hid h12
  clear h12
  go_enter Tryz.func4, Tryz.ntmps4
  go_upto_region 1 with (fail)
  refine wp_facts (fun W' => Below w.heap.size w W' ∧ Blk W' w.heap.size #[.int .i64 A, .int .i64 R, .int .i64 n, .int .i64 d] 24) ⟨by exact belowAny, by exact blkAny2⟩ ?_
  rintro W1 ⟨hW, b1⟩
  have z2 := hW.size
  have z3 := b1.lt
  have k1 := b1.cell
  have f1 := b1.frozen
  have h1 := H_h1.out
  go_wp2_with fail
  refine (h1 _ belowAny).mono ?_
  rintro e w4 ⟨rfl, hb4⟩
  clear h1
  have z5 := hb4.size
  try simp at z5
  clear k1 f1
  have b1 : Blk w4 w.heap.size #[.int .i64 A, .int .i64 R, .int .i64 n, .int .i64 d] 24 := by exact blkAny2
  have hW : Below w.heap.size w w4 := by exact belowAny
  have z6 := b1.lt
  clear hb4
  have k1 := b1.cell
  have f1 := b1.frozen
  have h2 := H_h2.out
  go_wp2_with fail
  refine (h2 _ belowAny).mono ?_
  rintro e w7 ⟨rfl, hb7⟩
  clear h2
  have z8 := hb7.size
  try simp at z8
  clear k1 f1
  have b1 : Blk w7 w.heap.size #[.int .i64 A, .int .i64 R, .int .i64 n, .int .i64 d] 24 := by exact blkAny2
  have hW : Below w.heap.size w w7 := by exact belowAny
  have z9 := b1.lt
  clear hb7
  have k1 := b1.cell
  have f1 := b1.frozen
  have h3 := H_h3.out
  go_wp2_with fail
  refine (h3 _ belowAny).mono ?_
  rintro e w10 ⟨rfl, hb10⟩
  clear h3
  have z11 := hb10.size
  try simp at z11
  clear k1 f1
  have b1 : Blk w10 w.heap.size #[.int .i64 A, .int .i64 R, .int .i64 n, .int .i64 d] 24 := by exact blkAny2
  have hW : Below w.heap.size w w10 := by exact belowAny
  have z12 := b1.lt
  clear hb10
  have k1 := b1.cell
  have f1 := b1.frozen
  have h4 := H_h4.out
  go_wp2_with fail
  refine (h4 _ belowAny).mono ?_
  rintro e w13 ⟨rfl, hb13⟩
  clear h4
  have z14 := hb13.size
  try simp at z14
  clear k1 f1
  have b1 : Blk w13 w.heap.size #[.int .i64 A, .int .i64 R, .int .i64 n, .int .i64 d] 24 := by exact blkAny2
  have hW : Below w.heap.size w w13 := by exact belowAny
  have z15 := b1.lt
  clear hb13
  have k1 := b1.cell
  have f1 := b1.frozen
  have h5 := H_h5.out
  go_wp2_with fail
  refine (h5 _ belowAny).mono ?_
  rintro e w16 ⟨p1, c1, q1, v1, rfl, hb16, hS⟩
  clear h5
  have z17 := hb16.size
  try simp at z17
  clear k1 f1
  have b1 : Blk w16 w.heap.size #[.int .i64 A, .int .i64 R, .int .i64 n, .int .i64 d] 24 := by exact blkAny2
  have hW : Below w.heap.size w w16 := by exact belowAny
  have z18 := b1.lt
  have k1 := b1.cell
  have f1 := b1.frozen
  have b2 : SegP _ _ _ _ := ⟨hS⟩
  clear hS
  have h6 := H_h6.out
  go_wp2_with fail
  refine (h6 _ belowAny).mono ?_
  rintro e w19 ⟨p2, c2, q2, v2, rfl, hb19, hS, hn2, hn3⟩
  clear h6
  have z20 := hb19.size
  try simp at z20
  clear k1 f1
  have b1 : Blk w19 w.heap.size #[.int .i64 A, .int .i64 R, .int .i64 n, .int .i64 d] 24 := by exact blkAny2
  have b2 : SegP w19 s1 p1 q1 := by exact segPAny
  have b3 : Blk w19 w16.heap.size #[.int .i64 K0, .slice p1 len1 c1, .int .i64 A, .int .i64 R, .int .i64 n, .int .i64 d, .slice q1 m1 v1, .int .i64 E] 27 := by exact blkAny2
  have hW : Below w.heap.size w w19 := by exact belowAny
  have z21 := b1.lt
  have z22 := b3.lt
  have k1 := b1.cell
  have f1 := b1.frozen
  have k3 := b3.cell
  have f3 := b3.frozen
  have b4 : SegP _ _ _ _ := ⟨hS⟩
  clear hS
  replace hn2 := Lib.hid hn2
  replace hn3 := Lib.hid hn3
  have h7 := H_h7.out
  go_wp2_with fail
  refine (h7 _ p1 q1 c1 v1 segNow).mono ?_
  rintro e w23 ⟨p3, c3, q3, v3, rfl, hb23, hS⟩
  clear h7
  have z24 := hb23.size
  try simp at z24
  clear k1 f1 k3 f3
  have b1 : Blk w23 w.heap.size #[.int .i64 A, .int .i64 R, .int .i64 n, .int .i64 d] 24 := by exact blkAny2
  have b2 : SegP w23 s1 p1 q1 := by exact segPAny
  have b3 : Blk w23 w16.heap.size #[.int .i64 K0, .slice p1 len1 c1, .int .i64 A, .int .i64 R, .int .i64 n, .int .i64 d, .slice q1 m1 v1, .int .i64 E] 27 := by exact blkAny2
  have b4 : SegP w23 s2 p2 q2 := by exact segPAny
  have b5 : Blk w23 w19.heap.size #[.int .i64 4, .slice p2 len2 c2, .int .i64 0, .int .i64 0, .int .i64 0, .int .i64 0, .slice q2 m2 v2, .int .i64 E] 27 := by exact blkAny2
  have hW : Below w.heap.size w w23 := by exact belowAny
  have z25 := b1.lt
  have z26 := b3.lt
  have z27 := b5.lt
  have k1 := b1.cell
  have f1 := b1.frozen
  have k3 := b3.cell
  have f3 := b3.frozen
  have k5 := b5.cell
  have f5 := b5.frozen
  have b6 : SegP _ _ _ _ := ⟨hS⟩
  clear hS
  have h8 := H_h8.out
  go_wp2_with fail
  refine (h8 _ p2 q2 c2 v2 segNow).mono ?_
  rintro e w28 ⟨rfl, hb28⟩
  clear h8
  have z29 := hb28.size
  try simp at z29
  clear k1 f1 k3 f3 k5 f5
  have b1 : Blk w28 w.heap.size #[.int .i64 A, .int .i64 R, .int .i64 n, .int .i64 d] 24 := by exact blkAny2
  have b2 : SegP w28 s1 p1 q1 := by exact segPAny
  have b3 : Blk w28 w16.heap.size #[.int .i64 K0, .slice p1 len1 c1, .int .i64 A, .int .i64 R, .int .i64 n, .int .i64 d, .slice q1 m1 v1, .int .i64 E] 27 := by exact blkAny2
  have b4 : SegP w28 s2 p2 q2 := by exact segPAny
  have b5 : Blk w28 w19.heap.size #[.int .i64 4, .slice p2 len2 c2, .int .i64 0, .int .i64 0, .int .i64 0, .int .i64 0, .slice q2 m2 v2, .int .i64 E] 27 := by exact blkAny2
  have b6 : SegP w28 s1 p3 q3 := by exact segPAny
  have b7 : Blk w28 w23.heap.size #[.int .i64 K0, .slice p3 len1 c3, .int .i64 A, .int .i64 R, .int .i64 n, .int .i64 d, .slice q3 m1 v3, .int .i64 E] 27 := by exact blkAny2
  have hW : Below w.heap.size w w28 := by exact belowAny
  have z30 := b1.lt
  have z31 := b3.lt
  have z32 := b5.lt
  have z33 := b7.lt
  clear hb28
  have k1 := b1.cell
  have f1 := b1.frozen
  have k3 := b3.cell
  have f3 := b3.frozen
  have k5 := b5.cell
  have f5 := b5.frozen
  have k7 := b7.cell
  have f7 := b7.frozen
  have h9 := H_h9.out
  go_wp2_with fail
  refine (h9 _ p1 q1 c1 v1 segNow).mono ?_
  rintro e w34 ⟨rfl, hb34⟩
  clear h9
  have z35 := hb34.size
  try simp at z35
  clear k1 f1 k3 f3 k5 f5 k7 f7
  have b1 : Blk w34 w.heap.size #[.int .i64 A, .int .i64 R, .int .i64 n, .int .i64 d] 24 := by exact blkAny2
  have b2 : SegP w34 s1 p1 q1 := by exact segPAny
  have b3 : Blk w34 w16.heap.size #[.int .i64 K0, .slice p1 len1 c1, .int .i64 A, .int .i64 R, .int .i64 n, .int .i64 d, .slice q1 m1 v1, .int .i64 E] 27 := by exact blkAny2
  have b4 : SegP w34 s2 p2 q2 := by exact segPAny
  have b5 : Blk w34 w19.heap.size #[.int .i64 4, .slice p2 len2 c2, .int .i64 0, .int .i64 0, .int .i64 0, .int .i64 0, .slice q2 m2 v2, .int .i64 E] 27 := by exact blkAny2
  have b6 : SegP w34 s1 p3 q3 := by exact segPAny
  have b7 : Blk w34 w23.heap.size #[.int .i64 K0, .slice p3 len1 c3, .int .i64 A, .int .i64 R, .int .i64 n, .int .i64 d, .slice q3 m1 v3, .int .i64 E] 27 := by exact blkAny2
  have b8 : Blk w34 w28.heap.size #[.int .i64 0, .slice none 0 0, .int .i64 0, .int .i64 0, .int .i64 0, .int .i64 0, .slice none 0 0, .int .i64 0] 27 := by exact blkAny2
  have hW : Below w.heap.size w w34 := by exact belowAny
  have z36 := b1.lt
  have z37 := b3.lt
  have z38 := b5.lt
  have z39 := b7.lt
  have z40 := b8.lt
  clear hb34
  have k1 := b1.cell
  have f1 := b1.frozen
  have k3 := b3.cell
  have f3 := b3.frozen
  have k5 := b5.cell
  have f5 := b5.frozen
  have k7 := b7.cell
  have f7 := b7.frozen
  have k8 := b8.cell
  have f8 := b8.frozen
  have h11 := H_h11.out
  go_wp2_with fail
  refine (h11 _ p3 q3 c3 v3 p1 q1 c1 v1 segNow segNow).mono ?_
  rintro e w41 ⟨rfl, hb41⟩
  clear h11
  have z42 := hb41.size
  try simp at z42
  clear k1 f1 k3 f3 k5 f5 k7 f7 k8 f8
  have b1 : Blk w41 w.heap.size #[.int .i64 A, .int .i64 R, .int .i64 n, .int .i64 d] 24 := by exact blkAny2
  have b2 : SegP w41 s1 p1 q1 := by exact segPAny
  have b3 : Blk w41 w16.heap.size #[.int .i64 K0, .slice p1 len1 c1, .int .i64 A, .int .i64 R, .int .i64 n, .int .i64 d, .slice q1 m1 v1, .int .i64 E] 27 := by exact blkAny2
  have b4 : SegP w41 s2 p2 q2 := by exact segPAny
  have b5 : Blk w41 w19.heap.size #[.int .i64 4, .slice p2 len2 c2, .int .i64 0, .int .i64 0, .int .i64 0, .int .i64 0, .slice q2 m2 v2, .int .i64 E] 27 := by exact blkAny2
  have b6 : SegP w41 s1 p3 q3 := by exact segPAny
  have b7 : Blk w41 w23.heap.size #[.int .i64 K0, .slice p3 len1 c3, .int .i64 A, .int .i64 R, .int .i64 n, .int .i64 d, .slice q3 m1 v3, .int .i64 E] 27 := by exact blkAny2
  have b8 : Blk w41 w28.heap.size #[.int .i64 0, .slice none 0 0, .int .i64 0, .int .i64 0, .int .i64 0, .int .i64 0, .slice none 0 0, .int .i64 0] 27 := by exact blkAny2
  have hW : Below w.heap.size w w41 := by exact belowAny
  have z43 := b1.lt
  have z44 := b3.lt
  have z45 := b5.lt
  have z46 := b7.lt
  have z47 := b8.lt
  clear hb41
  have k1 := b1.cell
  have f1 := b1.frozen
  have k3 := b3.cell
  have f3 := b3.frozen
  have k5 := b5.cell
  have f5 := b5.frozen
  have k7 := b7.cell
  have f7 := b7.frozen
  have k8 := b8.cell
  have f8 := b8.frozen
  have h12 := H_h12.out
  go_wp2_with fail
  refine (h12 _ p2 q2 c2 v2 segNow).mono ?_
  rintro e w48 ⟨rfl, hb48⟩
  clear h12
  have z49 := hb48.size
  try simp at z49
  clear k1 f1 k3 f3 k5 f5 k7 f7 k8 f8
  have b1 : Blk w48 w.heap.size #[.int .i64 A, .int .i64 R, .int .i64 n, .int .i64 d] 24 := by exact blkAny2
  have b2 : SegP w48 s1 p1 q1 := by exact segPAny
  have b3 : Blk w48 w16.heap.size #[.int .i64 K0, .slice p1 len1 c1, .int .i64 A, .int .i64 R, .int .i64 n, .int .i64 d, .slice q1 m1 v1, .int .i64 E] 27 := by exact blkAny2
  have b4 : SegP w48 s2 p2 q2 := by exact segPAny
  have b5 : Blk w48 w19.heap.size #[.int .i64 4, .slice p2 len2 c2, .int .i64 0, .int .i64 0, .int .i64 0, .int .i64 0, .slice q2 m2 v2, .int .i64 E] 27 := by exact blkAny2
  have b6 : SegP w48 s1 p3 q3 := by exact segPAny
  have b7 : Blk w48 w23.heap.size #[.int .i64 K0, .slice p3 len1 c3, .int .i64 A, .int .i64 R, .int .i64 n, .int .i64 d, .slice q3 m1 v3, .int .i64 E] 27 := by exact blkAny2
  have b8 : Blk w48 w28.heap.size #[.int .i64 0, .slice none 0 0, .int .i64 0, .int .i64 0, .int .i64 0, .int .i64 0, .slice none 0 0, .int .i64 0] 27 := by exact blkAny2
  have hW : Below w.heap.size w w48 := by exact belowAny
  have z50 := b1.lt
  have z51 := b3.lt
  have z52 := b5.lt
  have z53 := b7.lt
  have z54 := b8.lt
  clear hb48
  have k1 := b1.cell
  have f1 := b1.frozen
  have k3 := b3.cell
  have f3 := b3.frozen
  have k5 := b5.cell
  have f5 := b5.frozen
  have k7 := b7.cell
  have f7 := b7.frozen
  have k8 := b8.cell
  have f8 := b8.frozen
  have h10 := H_h10.out
  go_wp2_with fail
  refine (h10 _).mono ?_
  rintro e w55 ⟨rfl, hb55⟩
  clear h10
  have z56 := hb55.size
  try simp at z56
  clear k1 f1 k3 f3 k5 f5 k7 f7 k8 f8
  have b1 : Blk w55 w.heap.size #[.int .i64 A, .int .i64 R, .int .i64 n, .int .i64 d] 24 := by exact blkAny2
  have b2 : SegP w55 s1 p1 q1 := by exact segPAny
  have b3 : Blk w55 w16.heap.size #[.int .i64 K0, .slice p1 len1 c1, .int .i64 A, .int .i64 R, .int .i64 n, .int .i64 d, .slice q1 m1 v1, .int .i64 E] 27 := by exact blkAny2
  have b4 : SegP w55 s2 p2 q2 := by exact segPAny
  have b5 : Blk w55 w19.heap.size #[.int .i64 4, .slice p2 len2 c2, .int .i64 0, .int .i64 0, .int .i64 0, .int .i64 0, .slice q2 m2 v2, .int .i64 E] 27 := by exact blkAny2
  have b6 : SegP w55 s1 p3 q3 := by exact segPAny
  have b7 : Blk w55 w23.heap.size #[.int .i64 K0, .slice p3 len1 c3, .int .i64 A, .int .i64 R, .int .i64 n, .int .i64 d, .slice q3 m1 v3, .int .i64 E] 27 := by exact blkAny2
  have b8 : Blk w55 w28.heap.size #[.int .i64 0, .slice none 0 0, .int .i64 0, .int .i64 0, .int .i64 0, .int .i64 0, .slice none 0 0, .int .i64 0] 27 := by exact blkAny2
  have hW : Below w.heap.size w w55 := by exact belowAny
  have z57 := b1.lt
  have z58 := b3.lt
  have z59 := b5.lt
  have z60 := b7.lt
  have z61 := b8.lt
  clear hb55
  have k1 := b1.cell
  have f1 := b1.frozen
  have k3 := b3.cell
  have f3 := b3.frozen
  have k5 := b5.cell
  have f5 := b5.frozen
  have k7 := b7.cell
  have f7 := b7.frozen
  have k8 := b8.cell
  have f8 := b8.frozen
  go_wp2
  have y_1 := b1.lt
  have y_3 := b3.lt
  have y_5 := b5.lt
  have y_7 := b7.lt
  have y_8 := b8.lt
  refine bodyPost_ret (v := .bool true) (by simp [results, Tryz.results4, go_sem, k1, f1, k3, f3, k5, f5, k7, f7, k8, f8, y_1, y_3, y_5, y_7, y_8]) rfl ⟨rfl, by exact belowAny⟩
set_option maxRecDepth 100000 in
set_option maxHeartbeats 8000000 in
theorem makes_01 (A R n d E : Int) (p q : Option Addr) (len cap m vc : Nat) (w : World) (len1 m1 len2 m2 : Nat) (s1 s2 : SegT) (hl2 : 0 < len2) (hm2 : 0 < m2)
    (h1 : ∀ (W : World), Below w.heap.size w W → Calls Tryz.prog 10 #[] W fun e w' => e = .returned (.bool true) ∧ Below W.heap.size W w')
    (h2 : ∀ (W : World), Below w.heap.size w W → Calls Tryz.prog 16 #[.agg #[.int .i64 A, .int .i64 R, .int .i64 n, .int .i64 d]] W fun e w' => e = .returned (.bool false) ∧ Below W.heap.size W w')
    (h4 : ∀ (W : World), Below w.heap.size w W → Calls Tryz.prog 18 #[.agg #[.int .i64 A, .int .i64 R, .int .i64 n, .int .i64 d]] W fun e w' => e = .returned (.int .i64 0) ∧ Below W.heap.size W w')
    (h5 : ∀ (W : World), Below w.heap.size w W → Calls Tryz.prog 11 #[.agg #[.int .i64 0, .slice p len cap, .int .i64 A, .int .i64 R, .int .i64 n, .int .i64 d, .slice none 0 0, .int .i64 E]] W fun e w' => ∃ p1 c1 q1 v1, e = .returned (.agg #[.int .i64 0, .slice p1 len1 c1, .int .i64 A, .int .i64 R, .int .i64 n, .int .i64 d, .slice q1 m1 v1, .int .i64 E]) ∧ Below W.heap.size W w' ∧ SegIn w' s1 p1 q1)
    (h6 : ∀ (W : World), Below w.heap.size w W → Calls Tryz.prog 11 #[.agg #[.int .i64 4, .slice p len cap, .int .i64 0, .int .i64 0, .int .i64 0, .int .i64 0, .slice q m vc, .int .i64 E]] W fun e w' => ∃ p2 c2 q2 v2, e = .returned (.agg #[.int .i64 4, .slice p2 len2 c2, .int .i64 0, .int .i64 0, .int .i64 0, .int .i64 0, .slice q2 m2 v2, .int .i64 E]) ∧ Below W.heap.size W w' ∧ SegIn w' s2 p2 q2 ∧ (∀ a, p2 = some a → a.block < w'.heap.size) ∧ (∀ a, q2 = some a → a.block < w'.heap.size))
    (h7 : ∀ (W : World) (p1 q1 : Option Addr) (c1 v1 : Nat), SegIn W s1 p1 q1 → Calls Tryz.prog 19 #[.slice p1 len1 c1, .agg #[.int .i64 A, .int .i64 R, .int .i64 n, .int .i64 d], .int .i64 E] W fun e w' => e = .returned (.tuple #[.agg #[.int .i64 0, .slice none 0 0, .int .i64 0, .int .i64 0, .int .i64 0, .int .i64 0, .slice none 0 0, .int .i64 0], .int .i64 210]) ∧ Below W.heap.size W w')
    (h8 : ∀ (W : World) (p2 q2 : Option Addr) (c2 v2 : Nat), SegIn W s2 p2 q2 → Calls Tryz.prog 20 #[.slice p2 len2 c2, .slice q2 m2 v2, .int .i64 E] W fun e w' => ∃ c4 v4 j4 o4 g4 r4 z4 y4, e = .returned (.tuple #[.agg #[.int .i64 4, .slice (some ⟨j4, o4, none⟩) len2 c4, .int .i64 0, .int .i64 0, .int .i64 0, .int .i64 0, .slice (some ⟨g4, r4, none⟩) m2 v4, .int .i64 E], .int .i64 0]) ∧ Below W.heap.size W w' ∧ SegIn w' s2 (some ⟨j4, o4, none⟩) (some ⟨g4, r4, none⟩) ∧ W.heap.size ≤ j4 ∧ W.heap.size ≤ g4 ∧ j4 ≠ g4 ∧ WrP w' j4 o4 z4 ∧ WrP w' g4 r4 y4)
    (h10 : ∀ (W : World), Calls Tryz.prog 21 #[.agg #[.int .i64 0, .slice none 0 0, .int .i64 0, .int .i64 0, .int .i64 0, .int .i64 0, .slice none 0 0, .int .i64 0], .agg #[.int .i64 0, .slice none 0 0, .int .i64 0, .int .i64 0, .int .i64 0, .int .i64 0, .slice none 0 0, .int .i64 0]] W fun e w' => e = .returned (.bool true) ∧ Below W.heap.size W w')
    (h12 : ∀ (W : World) (p2 q2 : Option Addr) (c2 v2 : Nat), SegIn W s2 p2 q2 → Calls Tryz.prog 13 #[.agg #[.int .i64 4, .slice p2 len2 c2, .int .i64 0, .int .i64 0, .int .i64 0, .int .i64 0, .slice q2 m2 v2, .int .i64 E]] W fun e w' => e = .returned (.bool true) ∧ Below W.heap.size W w')
    (h13 : ∀ (W : World) (j4 o4 g4 r4 c4 v4 : Nat) (p2 q2 : Option Addr) (c2 v2 : Nat), SegIn W s2 (some ⟨j4, o4, none⟩) (some ⟨g4, r4, none⟩) → SegIn W s2 p2 q2 → Calls Tryz.prog 21 #[.agg #[.int .i64 4, .slice (some ⟨j4, o4, none⟩) len2 c4, .int .i64 0, .int .i64 0, .int .i64 0, .int .i64 0, .slice (some ⟨g4, r4, none⟩) m2 v4, .int .i64 E], .agg #[.int .i64 4, .slice p2 len2 c2, .int .i64 0, .int .i64 0, .int .i64 0, .int .i64 0, .slice q2 m2 v2, .int .i64 E]] W fun e w' => e = .returned (.bool true) ∧ Below W.heap.size W w')
    (h14 : ∀ (W : World), Below w.heap.size w W → Calls Tryz.prog 11 #[.agg #[.int .i64 4, .slice p len cap, .int .i64 0, .int .i64 0, .int .i64 0, .int .i64 0, .slice q m vc, .int .i64 E]] W fun e w' => ∃ v, e = .returned v ∧ Below W.heap.size W w' ∧ OM s2 E len2 m2 v w')
    (h15 : ∀ (W : World) (p2 q2 : Option Addr) (c2 v2 : Nat) (p9 q9 : Option Addr) (c9 v9 : Nat), SegIn W s2 p2 q2 → SegIn W s2 p9 q9 → Calls Tryz.prog 21 #[.agg #[.int .i64 4, .slice p2 len2 c2, .int .i64 0, .int .i64 0, .int .i64 0, .int .i64 0, .slice q2 m2 v2, .int .i64 E], .agg #[.int .i64 4, .slice p9 len2 c9, .int .i64 0, .int .i64 0, .int .i64 0, .int .i64 0, .slice q9 m2 v9, .int .i64 E]] W fun e w' => e = .returned (.bool true) ∧ Below W.heap.size W w') :
    Calls Tryz.prog 4 #[.slice p len cap, .agg #[.int .i64 A, .int .i64 R, .int .i64 n, .int .i64 d], .slice q m vc, .int .i64 E] w fun e w' => e = .returned (.bool true) ∧ Below w.heap.size w w' := by
  have H_h1 := Lib.hid h1
  clear h1
  have H_h2 := Lib.hid h2
  clear h2
  have H_h4 := Lib.hid h4
  clear h4
  have H_h5 := Lib.hid h5
  clear h5
  have H_h6 := Lib.hid h6
  clear h6
  have H_h7 := Lib.hid h7
  clear h7
  have H_h8 := Lib.hid h8
  clear h8
  have H_h10 := Lib.hid h10
  clear h10
  have H_h12 := Lib.hid h12
  clear h12
  have H_h13 := Lib.hid h13
  clear h13
  have H_h14 := Lib.hid h14
  clear h14
  have H_h15 := Lib.hid h15
  clear h15
  go_enter Tryz.func4, Tryz.ntmps4
  go_upto_region 1 with (fail)
  refine wp_facts (fun W' => Below w.heap.size w W' ∧ Blk W' w.heap.size #[.int .i64 A, .int .i64 R, .int .i64 n, .int .i64 d] 24) ⟨by exact belowAny, by exact blkAny2⟩ ?_
  rintro W1 ⟨hW, b1⟩
  have z2 := hW.size
  have z3 := b1.lt
  have k1 := b1.cell
  have f1 := b1.frozen
  have h1 := H_h1.out
  go_wp2_with fail
  refine (h1 _ belowAny).mono ?_
  rintro e w4 ⟨rfl, hb4⟩
  clear h1
  have z5 := hb4.size
  try simp at z5
  clear k1 f1
  have b1 : Blk w4 w.heap.size #[.int .i64 A, .int .i64 R, .int .i64 n, .int .i64 d] 24 := by exact blkAny2
  have hW : Below w.heap.size w w4 := by exact belowAny
  have z6 := b1.lt
  clear hb4
  have k1 := b1.cell
  have f1 := b1.frozen
  have h2 := H_h2.out
  go_wp2_with fail
  refine (h2 _ belowAny).mono ?_
  rintro e w7 ⟨rfl, hb7⟩
  clear h2
  have z8 := hb7.size
  try simp at z8
  clear k1 f1
  have b1 : Blk w7 w.heap.size #[.int .i64 A, .int .i64 R, .int .i64 n, .int .i64 d] 24 := by exact blkAny2
  have hW : Below w.heap.size w w7 := by exact belowAny
  have z9 := b1.lt
  clear hb7
  have k1 := b1.cell
  have f1 := b1.frozen
  have h4 := H_h4.out
  go_wp2_with fail
  refine (h4 _ belowAny).mono ?_
  rintro e w10 ⟨rfl, hb10⟩
  clear h4
  have z11 := hb10.size
  try simp at z11
  clear k1 f1
  have b1 : Blk w10 w.heap.size #[.int .i64 A, .int .i64 R, .int .i64 n, .int .i64 d] 24 := by exact blkAny2
  have hW : Below w.heap.size w w10 := by exact belowAny
  have z12 := b1.lt
  clear hb10
  have k1 := b1.cell
  have f1 := b1.frozen
  have h5 := H_h5.out
  go_wp2_with fail
  refine (h5 _ belowAny).mono ?_
  rintro e w13 ⟨p1, c1, q1, v1, rfl, hb13, hS⟩
  clear h5
  have z14 := hb13.size
  try simp at z14
  clear k1 f1
  have b1 : Blk w13 w.heap.size #[.int .i64 A, .int .i64 R, .int .i64 n, .int .i64 d] 24 := by exact blkAny2
  have hW : Below w.heap.size w w13 := by exact belowAny
  have z15 := b1.lt
  have k1 := b1.cell
  have f1 := b1.frozen
  have b2 : SegP _ _ _ _ := ⟨hS⟩
  clear hS
  have h6 := H_h6.out
  go_wp2_with fail
  refine (h6 _ belowAny).mono ?_
  rintro e w16 ⟨p2, c2, q2, v2, rfl, hb16, hS, hn2, hn3⟩
  clear h6
  have z17 := hb16.size
  try simp at z17
  clear k1 f1
  have b1 : Blk w16 w.heap.size #[.int .i64 A, .int .i64 R, .int .i64 n, .int .i64 d] 24 := by exact blkAny2
  have b2 : SegP w16 s1 p1 q1 := by exact segPAny
  have b3 : Blk w16 w13.heap.size #[.int .i64 0, .slice p1 len1 c1, .int .i64 A, .int .i64 R, .int .i64 n, .int .i64 d, .slice q1 m1 v1, .int .i64 E] 27 := by exact blkAny2
  have hW : Below w.heap.size w w16 := by exact belowAny
  have z18 := b1.lt
  have z19 := b3.lt
  have k1 := b1.cell
  have f1 := b1.frozen
  have k3 := b3.cell
  have f3 := b3.frozen
  have b4 : SegP _ _ _ _ := ⟨hS⟩
  clear hS
  replace hn2 := Lib.hid hn2
  replace hn3 := Lib.hid hn3
  have h7 := H_h7.out
  go_wp2_with fail
  refine (h7 _ p1 q1 c1 v1 segNow).mono ?_
  rintro e w20 ⟨rfl, hb20⟩
  clear h7
  have z21 := hb20.size
  try simp at z21
  clear k1 f1 k3 f3
  have b1 : Blk w20 w.heap.size #[.int .i64 A, .int .i64 R, .int .i64 n, .int .i64 d] 24 := by exact blkAny2
  have b2 : SegP w20 s1 p1 q1 := by exact segPAny
  have b3 : Blk w20 w13.heap.size #[.int .i64 0, .slice p1 len1 c1, .int .i64 A, .int .i64 R, .int .i64 n, .int .i64 d, .slice q1 m1 v1, .int .i64 E] 27 := by exact blkAny2
  have b4 : SegP w20 s2 p2 q2 := by exact segPAny
  have b5 : Blk w20 w16.heap.size #[.int .i64 4, .slice p2 len2 c2, .int .i64 0, .int .i64 0, .int .i64 0, .int .i64 0, .slice q2 m2 v2, .int .i64 E] 27 := by exact blkAny2
  have hW : Below w.heap.size w w20 := by exact belowAny
  have z22 := b1.lt
  have z23 := b3.lt
  have z24 := b5.lt
  clear hb20
  have k1 := b1.cell
  have f1 := b1.frozen
  have k3 := b3.cell
  have f3 := b3.frozen
  have k5 := b5.cell
  have f5 := b5.frozen
  have h8 := H_h8.out
  go_wp2_with fail
  refine (h8 _ p2 q2 c2 v2 segNow).mono ?_
  rintro e w25 ⟨c4, v4, j4, o4, g4, r4, z4, y4, rfl, hb25, hS, hj, hg, hne, hw1, hw2⟩
  clear h8
  have z26 := hb25.size
  try simp at z26
  clear k1 f1 k3 f3 k5 f5
  have b1 : Blk w25 w.heap.size #[.int .i64 A, .int .i64 R, .int .i64 n, .int .i64 d] 24 := by exact blkAny2
  have b2 : SegP w25 s1 p1 q1 := by exact segPAny
  have b3 : Blk w25 w13.heap.size #[.int .i64 0, .slice p1 len1 c1, .int .i64 A, .int .i64 R, .int .i64 n, .int .i64 d, .slice q1 m1 v1, .int .i64 E] 27 := by exact blkAny2
  have b4 : SegP w25 s2 p2 q2 := by exact segPAny
  have b5 : Blk w25 w16.heap.size #[.int .i64 4, .slice p2 len2 c2, .int .i64 0, .int .i64 0, .int .i64 0, .int .i64 0, .slice q2 m2 v2, .int .i64 E] 27 := by exact blkAny2
  have b6 : Blk w25 w20.heap.size #[.int .i64 0, .slice none 0 0, .int .i64 0, .int .i64 0, .int .i64 0, .int .i64 0, .slice none 0 0, .int .i64 0] 27 := by exact blkAny2
  have hW : Below w.heap.size w w25 := by exact belowAny
  have z27 := b1.lt
  have z28 := b3.lt
  have z29 := b5.lt
  have z30 := b6.lt
  have k1 := b1.cell
  have f1 := b1.frozen
  have k3 := b3.cell
  have f3 := b3.frozen
  have k5 := b5.cell
  have f5 := b5.frozen
  have k6 := b6.cell
  have f6 := b6.frozen
  try simp at hj
  try simp at hg
  have b7 : SegP _ _ _ _ := ⟨hS⟩
  have b8 := hw1
  have b9 := hw2
  clear hS hw1 hw2
  have hj4 := b8.lt
  have hg4 := b9.lt
  have h10 := H_h10.out
  go_wp2_with fail
  refine (h10 _).mono ?_
  rintro e w31 ⟨rfl, hb31⟩
  clear h10
  have z32 := hb31.size
  try simp at z32
  clear k1 f1 k3 f3 k5 f5 k6 f6
  have b1 : Blk w31 w.heap.size #[.int .i64 A, .int .i64 R, .int .i64 n, .int .i64 d] 24 := by exact blkAny2
  have b2 : SegP w31 s1 p1 q1 := by exact segPAny
  have b3 : Blk w31 w13.heap.size #[.int .i64 0, .slice p1 len1 c1, .int .i64 A, .int .i64 R, .int .i64 n, .int .i64 d, .slice q1 m1 v1, .int .i64 E] 27 := by exact blkAny2
  have b4 : SegP w31 s2 p2 q2 := by exact segPAny
  have b5 : Blk w31 w16.heap.size #[.int .i64 4, .slice p2 len2 c2, .int .i64 0, .int .i64 0, .int .i64 0, .int .i64 0, .slice q2 m2 v2, .int .i64 E] 27 := by exact blkAny2
  have b6 : Blk w31 w20.heap.size #[.int .i64 0, .slice none 0 0, .int .i64 0, .int .i64 0, .int .i64 0, .int .i64 0, .slice none 0 0, .int .i64 0] 27 := by exact blkAny2
  have b7 : SegP w31 s2 (some ⟨j4, o4, none⟩) (some ⟨g4, r4, none⟩) := by exact segPAny
  have b8 : WrP w31 j4 o4 z4 := by exact wrAny
  have b9 : WrP w31 g4 r4 y4 := by exact wrAny
  have b10 : Blk w31 w25.heap.size #[.int .i64 4, .slice (some ⟨j4, o4, none⟩) len2 c4, .int .i64 0, .int .i64 0, .int .i64 0, .int .i64 0, .slice (some ⟨g4, r4, none⟩) m2 v4, .int .i64 E] 27 := by exact blkAny2
  have hW : Below w.heap.size w w31 := by exact belowAny
  have z33 := b1.lt
  have z34 := b3.lt
  have z35 := b5.lt
  have z36 := b6.lt
  have z37 := b10.lt
  clear hb31
  have k1 := b1.cell
  have f1 := b1.frozen
  have k3 := b3.cell
  have f3 := b3.frozen
  have k5 := b5.cell
  have f5 := b5.frozen
  have k6 := b6.cell
  have f6 := b6.frozen
  have k10 := b10.cell
  have f10 := b10.frozen
  have h12 := H_h12.out
  go_wp2_with fail
  refine (h12 _ p2 q2 c2 v2 segNow).mono ?_
  rintro e w38 ⟨rfl, hb38⟩
  clear h12
  have z39 := hb38.size
  try simp at z39
  clear k1 f1 k3 f3 k5 f5 k6 f6 k10 f10
  have b1 : Blk w38 w.heap.size #[.int .i64 A, .int .i64 R, .int .i64 n, .int .i64 d] 24 := by exact blkAny2
  have b2 : SegP w38 s1 p1 q1 := by exact segPAny
  have b3 : Blk w38 w13.heap.size #[.int .i64 0, .slice p1 len1 c1, .int .i64 A, .int .i64 R, .int .i64 n, .int .i64 d, .slice q1 m1 v1, .int .i64 E] 27 := by exact blkAny2
  have b4 : SegP w38 s2 p2 q2 := by exact segPAny
  have b5 : Blk w38 w16.heap.size #[.int .i64 4, .slice p2 len2 c2, .int .i64 0, .int .i64 0, .int .i64 0, .int .i64 0, .slice q2 m2 v2, .int .i64 E] 27 := by exact blkAny2
  have b6 : Blk w38 w20.heap.size #[.int .i64 0, .slice none 0 0, .int .i64 0, .int .i64 0, .int .i64 0, .int .i64 0, .slice none 0 0, .int .i64 0] 27 := by exact blkAny2
  have b7 : SegP w38 s2 (some ⟨j4, o4, none⟩) (some ⟨g4, r4, none⟩) := by exact segPAny
  have b8 : WrP w38 j4 o4 z4 := by exact wrAny
  have b9 : WrP w38 g4 r4 y4 := by exact wrAny
  have b10 : Blk w38 w25.heap.size #[.int .i64 4, .slice (some ⟨j4, o4, none⟩) len2 c4, .int .i64 0, .int .i64 0, .int .i64 0, .int .i64 0, .slice (some ⟨g4, r4, none⟩) m2 v4, .int .i64 E] 27 := by exact blkAny2
  have hW : Below w.heap.size w w38 := by exact belowAny
  have z40 := b1.lt
  have z41 := b3.lt
  have z42 := b5.lt
  have z43 := b6.lt
  have z44 := b10.lt
  clear hb38
  have k1 := b1.cell
  have f1 := b1.frozen
  have k3 := b3.cell
  have f3 := b3.frozen
  have k5 := b5.cell
  have f5 := b5.frozen
  have k6 := b6.cell
  have f6 := b6.frozen
  have k10 := b10.cell
  have f10 := b10.frozen
  have h13 := H_h13.out
  go_wp2_with fail
  refine (h13 _ j4 o4 g4 r4 c4 v4 p2 q2 c2 v2 segNow segNow).mono ?_
  rintro e w45 ⟨rfl, hb45⟩
  clear h13
  have z46 := hb45.size
  try simp at z46
  clear k1 f1 k3 f3 k5 f5 k6 f6 k10 f10
  have b1 : Blk w45 w.heap.size #[.int .i64 A, .int .i64 R, .int .i64 n, .int .i64 d] 24 := by exact blkAny2
  have b2 : SegP w45 s1 p1 q1 := by exact segPAny
  have b3 : Blk w45 w13.heap.size #[.int .i64 0, .slice p1 len1 c1, .int .i64 A, .int .i64 R, .int .i64 n, .int .i64 d, .slice q1 m1 v1, .int .i64 E] 27 := by exact blkAny2
  have b4 : SegP w45 s2 p2 q2 := by exact segPAny
  have b5 : Blk w45 w16.heap.size #[.int .i64 4, .slice p2 len2 c2, .int .i64 0, .int .i64 0, .int .i64 0, .int .i64 0, .slice q2 m2 v2, .int .i64 E] 27 := by exact blkAny2
  have b6 : Blk w45 w20.heap.size #[.int .i64 0, .slice none 0 0, .int .i64 0, .int .i64 0, .int .i64 0, .int .i64 0, .slice none 0 0, .int .i64 0] 27 := by exact blkAny2
  have b7 : SegP w45 s2 (some ⟨j4, o4, none⟩) (some ⟨g4, r4, none⟩) := by exact segPAny
  have b8 : WrP w45 j4 o4 z4 := by exact wrAny
  have b9 : WrP w45 g4 r4 y4 := by exact wrAny
  have b10 : Blk w45 w25.heap.size #[.int .i64 4, .slice (some ⟨j4, o4, none⟩) len2 c4, .int .i64 0, .int .i64 0, .int .i64 0, .int .i64 0, .slice (some ⟨g4, r4, none⟩) m2 v4, .int .i64 E] 27 := by exact blkAny2
  have hW : Below w.heap.size w w45 := by exact belowAny
  have z47 := b1.lt
  have z48 := b3.lt
  have z49 := b5.lt
  have z50 := b6.lt
  have z51 := b10.lt
  clear hb45
  have k1 := b1.cell
  have f1 := b1.frozen
  have k3 := b3.cell
  have f3 := b3.frozen
  have k5 := b5.cell
  have f5 := b5.frozen
  have k6 := b6.cell
  have f6 := b6.frozen
  have k10 := b10.cell
  have f10 := b10.frozen
  go_upto_region 21 with (fail)
  clear k1 f1 k3 f3 k5 f5 k6 f6 k10 f10
  refine wp_facts (fun W' => Below w.heap.size w W' ∧ Blk W' w16.heap.size #[.int .i64 4, .slice p2 len2 c2, .int .i64 0, .int .i64 0, .int .i64 0, .int .i64 0, .slice q2 m2 v2, .int .i64 E] 27 ∧ Blk W' w25.heap.size #[.int .i64 4, .slice (some ⟨j4, o4, none⟩) len2 c4, .int .i64 0, .int .i64 0, .int .i64 0, .int .i64 0, .slice (some ⟨g4, r4, none⟩) m2 v4, .int .i64 E] 27 ∧ SegP W' s2 p2 q2 ∧ WrP W' j4 o4 z4 ∧ WrP W' g4 r4 y4) ⟨by exact belowAny, by exact blkAny2, by exact blkAny2, by exact segPAny, by exact wrAny, by exact wrAny⟩ ?_
  clear b1 b2 b3 b4 b5 b6 b7 b8 b9 b10 hW
  rintro W52 ⟨hW, b1, b2, b3, b4, b5⟩
  have z53 := hW.size
  have z54 := b1.lt
  have z55 := b2.lt
  have k1 := b1.cell
  have f1 := b1.frozen
  have k2 := b2.cell
  have f2 := b2.frozen
  have kq := b5.cell
  have fq := b5.frozen
  have n21 := Lib.hid (fun a h => by have := hn2.out a h; omega : ∀ a, p2 = some a → a.block ≠ g4)
  have n22 := Lib.hid (fun a h => by have := hn3.out a h; omega : ∀ a, q2 = some a → a.block ≠ g4)
  have n31 := Lib.hid (fun a h => by have := hn2.out a h; omega : ∀ a, p2 = some a → a.block ≠ j4)
  have n32 := Lib.hid (fun a h => by have := hn3.out a h; omega : ∀ a, q2 = some a → a.block ≠ j4)
  clear hn2 hn3
  go_upto_region 22 with (fail)
  clear kq fq
  clear k1 f1 k2 f2
  refine wp_facts (fun W' => Below w.heap.size w W' ∧ Blk W' w16.heap.size #[.int .i64 4, .slice p2 len2 c2, .int .i64 0, .int .i64 0, .int .i64 0, .int .i64 0, .slice q2 m2 v2, .int .i64 E] 27 ∧ Blk W' w25.heap.size #[.int .i64 4, .slice (some ⟨j4, o4, none⟩) len2 c4, .int .i64 0, .int .i64 0, .int .i64 0, .int .i64 0, .slice (some ⟨g4, r4, none⟩) m2 v4, .int .i64 E] 27 ∧ SegP W' s2 p2 q2 ∧ WrP W' j4 o4 z4) ⟨by exact belowAny, by exact blkAny2, by exact blkAny2, by exact segSetM, by exact wrAny⟩ ?_
  clear b1 b2 b3 b4 b5 hW
  rintro W56 ⟨hW, b1, b2, b3, b4⟩
  have z57 := hW.size
  have z58 := b1.lt
  have z59 := b2.lt
  have k1 := b1.cell
  have f1 := b1.frozen
  have k2 := b2.cell
  have f2 := b2.frozen
  have kq := b4.cell
  have fq := b4.frozen
  go_upto_region 23 with (fail)
  clear kq fq
  clear k1 f1 k2 f2
  refine wp_facts (fun W' => Below w.heap.size w W' ∧ Blk W' w16.heap.size #[.int .i64 4, .slice p2 len2 c2, .int .i64 0, .int .i64 0, .int .i64 0, .int .i64 0, .slice q2 m2 v2, .int .i64 E] 27 ∧ SegP W' s2 p2 q2) ⟨by exact belowAny, by exact blkAny2, by exact segSetM⟩ ?_
  clear b1 b2 b3 b4 hW
  rintro W60 ⟨hW, b1, b2⟩
  have z61 := hW.size
  have z62 := b1.lt
  have h14 := H_h14.out
  have h15 := H_h15.out
  refine wp_facts (fun W' => Below w.heap.size w W' ∧ Blk W' w16.heap.size #[.int .i64 4, .slice p2 len2 c2, .int .i64 0, .int .i64 0, .int .i64 0, .int .i64 0, .slice q2 m2 v2, .int .i64 E] 27 ∧ SegP W' s2 p2 q2) ⟨by exact belowAny, by exact blkAny2, by exact b2⟩ ?_
  clear b1 b2 hW
  rintro W63 ⟨hW, b1, b2⟩
  have z64 := hW.size
  have z65 := b1.lt
  refine wp_region_nd 8 116 [] (fun W' => Rex [] W63 W' ∧ Blk W' w16.heap.size #[.int .i64 4, .slice p2 len2 c2, .int .i64 0, .int .i64 0, .int .i64 0, .int .i64 0, .slice q2 m2 v2, .int .i64 E] 27 ∧ SegP W' s2 p2 q2) mixed (by kernel_rfl) rfl ⟨(Rex.refl _ _).drew, b1, b2.drew⟩ (fun w w' ⟨h0, h1, h2⟩ hr => ⟨h0.trans hr, h1.rex hr (by simp <;> omega), h2.rex hr (by simp <;> omega)⟩) (fun c a d v w h => by cases d <;> exact h) ?_
  iterate 5
    apply nd_det (hg := rfl) (hal := rfl)
    · intro a W' hC hE
      obtain ⟨_, k1, k2⟩ := hC
      have k1 := k1.cell
      first
        | (simp [Oper.looksAt, Op.operands, Call.operands, envOf, Det] at hE; simp [go_sem, Act.eval, IntWalk.i64_left, hE, k1, k2]; try rfl)
        | (clear hE; simp [go_sem, Act.eval, IntWalk.i64_left, k1, k2]; try rfl)
  apply nd_call (OM s2 E len2 m2) (hg := rfl) (hal := rfl)
  · exact OM.closed _ _ _ _
  · intro a' W' hC hE
    obtain ⟨hR9, k1, _⟩ := hC
    have k1 := k1.cell
    simp [Oper.looksAt, Op.operands, Call.operands, envOf, Det] at hE
    refine ⟨_, _, ?_, (h14 W' (hW.trans (hR9.of_priv hW.size))).mono ?_⟩
    · simp [go_sem, Act.eval, hE]
      try rfl
    · rintro e w' ⟨v, rfl, hB, hO⟩
      exact ⟨_, rfl, hB, hO⟩
  apply nd_call (Det (.bool true)) (hg := rfl) (hal := rfl)
  · exact closed_det _ _
  · intro a' W' hC hE
    simp [Oper.looksAt, Op.operands, Call.operands, envOf, Det] at hE
    obtain ⟨p9, q9, c9, v9, e9, h9⟩ := hE.2
    refine ⟨_, _, ?_, (h15 W' p2 q2 c2 v2 p9 q9 c9 v9 hC.2.2.seg h9).mono ?_⟩
    · simp [go_sem, Act.eval, hE.1, e9]
      try rfl
    · rintro e w' ⟨rfl, hB⟩
      exact ⟨_, rfl, hB, rfl⟩
  iterate 1
    apply nd_det (hg := rfl) (hal := rfl)
    · intro a W' hC hE
      obtain ⟨_, k1, k2⟩ := hC
      have k1 := k1.cell
      first
        | (simp [Oper.looksAt, Op.operands, Call.operands, envOf, Det] at hE; simp [go_sem, Act.eval, IntWalk.i64_left, hE, k1, k2]; try rfl)
        | (clear hE; simp [go_sem, Act.eval, IntWalk.i64_left, k1, k2]; try rfl)
  rintro W66 ⟨hR, d1, d2⟩
  simp only [ndFinR, Det, forall_eq]
  intros
  repeat (rename GDet _ _ _ _ => hgd; clear hgd)
  simp only [Act.put, List.setIfInBounds_toArray, List.set_cons_zero, List.set_cons_succ]
  refine wpList_nil ?_
  replace hW := hW.trans (hR.of_priv hW.size)
  clear hR
  try clear b1 b2
  have b1 := d1
  clear d1
  have b2 := d2
  clear d2
  clear h14
  clear h15
  go_wp2
  have y_1 := b1.lt
  refine bodyPost_ret (v := .bool true) (by simp [results, Tryz.results4, go_sem, y_1]) rfl ⟨rfl, hW⟩
set_option maxRecDepth 100000 in
set_option maxHeartbeats 8000000 in
theorem makes_11 (A R n d E : Int) (p q : Option Addr) (len cap m vc : Nat) (w : World) (len1 m1 len2 m2 : Nat) (s1 s2 : SegT) (hl2 : 0 < len2) (hm2 : 0 < m2) (K0 : Int) (hk : (K0 == 0) = false)
    (h1 : ∀ (W : World), Below w.heap.size w W → Calls Tryz.prog 10 #[] W fun e w' => e = .returned (.bool true) ∧ Below W.heap.size W w')
    (h2 : ∀ (W : World), Below w.heap.size w W → Calls Tryz.prog 16 #[.agg #[.int .i64 A, .int .i64 R, .int .i64 n, .int .i64 d]] W fun e w' => e = .returned (.bool true) ∧ Below W.heap.size W w')
    (h3 : ∀ (W : World), Below w.heap.size w W → Calls Tryz.prog 17 #[.agg #[.int .i64 A, .int .i64 R, .int .i64 n, .int .i64 d]] W fun e w' => e = .returned (.int .i64 K0) ∧ Below W.heap.size W w')
    (h4 : ∀ (W : World), Below w.heap.size w W → Calls Tryz.prog 18 #[.agg #[.int .i64 A, .int .i64 R, .int .i64 n, .int .i64 d]] W fun e w' => e = .returned (.int .i64 K0) ∧ Below W.heap.size W w')
    (h5 : ∀ (W : World), Below w.heap.size w W → Calls Tryz.prog 11 #[.agg #[.int .i64 K0, .slice p len cap, .int .i64 A, .int .i64 R, .int .i64 n, .int .i64 d, .slice none 0 0, .int .i64 E]] W fun e w' => ∃ p1 c1 q1 v1, e = .returned (.agg #[.int .i64 K0, .slice p1 len1 c1, .int .i64 A, .int .i64 R, .int .i64 n, .int .i64 d, .slice q1 m1 v1, .int .i64 E]) ∧ Below W.heap.size W w' ∧ SegIn w' s1 p1 q1)
    (h6 : ∀ (W : World), Below w.heap.size w W → Calls Tryz.prog 11 #[.agg #[.int .i64 4, .slice p len cap, .int .i64 0, .int .i64 0, .int .i64 0, .int .i64 0, .slice q m vc, .int .i64 E]] W fun e w' => ∃ p2 c2 q2 v2, e = .returned (.agg #[.int .i64 4, .slice p2 len2 c2, .int .i64 0, .int .i64 0, .int .i64 0, .int .i64 0, .slice q2 m2 v2, .int .i64 E]) ∧ Below W.heap.size W w' ∧ SegIn w' s2 p2 q2 ∧ (∀ a, p2 = some a → a.block < w'.heap.size) ∧ (∀ a, q2 = some a → a.block < w'.heap.size))
    (h7 : ∀ (W : World) (p1 q1 : Option Addr) (c1 v1 : Nat), SegIn W s1 p1 q1 → Calls Tryz.prog 19 #[.slice p1 len1 c1, .agg #[.int .i64 A, .int .i64 R, .int .i64 n, .int .i64 d], .int .i64 E] W fun e w' => e = .returned (.tuple #[.agg #[.int .i64 0, .slice none 0 0, .int .i64 0, .int .i64 0, .int .i64 0, .int .i64 0, .slice none 0 0, .int .i64 0], .int .i64 210]) ∧ Below W.heap.size W w')
    (h8 : ∀ (W : World) (p2 q2 : Option Addr) (c2 v2 : Nat), SegIn W s2 p2 q2 → Calls Tryz.prog 20 #[.slice p2 len2 c2, .slice q2 m2 v2, .int .i64 E] W fun e w' => ∃ c4 v4 j4 o4 g4 r4 z4 y4, e = .returned (.tuple #[.agg #[.int .i64 4, .slice (some ⟨j4, o4, none⟩) len2 c4, .int .i64 0, .int .i64 0, .int .i64 0, .int .i64 0, .slice (some ⟨g4, r4, none⟩) m2 v4, .int .i64 E], .int .i64 0]) ∧ Below W.heap.size W w' ∧ SegIn w' s2 (some ⟨j4, o4, none⟩) (some ⟨g4, r4, none⟩) ∧ W.heap.size ≤ j4 ∧ W.heap.size ≤ g4 ∧ j4 ≠ g4 ∧ WrP w' j4 o4 z4 ∧ WrP w' g4 r4 y4)
    (h9 : ∀ (W : World) (p1 q1 : Option Addr) (c1 v1 : Nat), SegIn W s1 p1 q1 → Calls Tryz.prog 13 #[.agg #[.int .i64 K0, .slice p1 len1 c1, .int .i64 A, .int .i64 R, .int .i64 n, .int .i64 d, .slice q1 m1 v1, .int .i64 E]] W fun e w' => e = .returned (.bool false) ∧ Below W.heap.size W w')
    (h10 : ∀ (W : World), Calls Tryz.prog 21 #[.agg #[.int .i64 0, .slice none 0 0, .int .i64 0, .int .i64 0, .int .i64 0, .int .i64 0, .slice none 0 0, .int .i64 0], .agg #[.int .i64 0, .slice none 0 0, .int .i64 0, .int .i64 0, .int .i64 0, .int .i64 0, .slice none 0 0, .int .i64 0]] W fun e w' => e = .returned (.bool true) ∧ Below W.heap.size W w')
    (h12 : ∀ (W : World) (p2 q2 : Option Addr) (c2 v2 : Nat), SegIn W s2 p2 q2 → Calls Tryz.prog 13 #[.agg #[.int .i64 4, .slice p2 len2 c2, .int .i64 0, .int .i64 0, .int .i64 0, .int .i64 0, .slice q2 m2 v2, .int .i64 E]] W fun e w' => e = .returned (.bool true) ∧ Below W.heap.size W w')
    (h13 : ∀ (W : World) (j4 o4 g4 r4 c4 v4 : Nat) (p2 q2 : Option Addr) (c2 v2 : Nat), SegIn W s2 (some ⟨j4, o4, none⟩) (some ⟨g4, r4, none⟩) → SegIn W s2 p2 q2 → Calls Tryz.prog 21 #[.agg #[.int .i64 4, .slice (some ⟨j4, o4, none⟩) len2 c4, .int .i64 0, .int .i64 0, .int .i64 0, .int .i64 0, .slice (some ⟨g4, r4, none⟩) m2 v4, .int .i64 E], .agg #[.int .i64 4, .slice p2 len2 c2, .int .i64 0, .int .i64 0, .int .i64 0, .int .i64 0, .slice q2 m2 v2, .int .i64 E]] W fun e w' => e = .returned (.bool true) ∧ Below W.heap.size W w')
    (h14 : ∀ (W : World), Below w.heap.size w W → Calls Tryz.prog 11 #[.agg #[.int .i64 4, .slice p len cap, .int .i64 0, .int .i64 0, .int .i64 0, .int .i64 0, .slice q m vc, .int .i64 E]] W fun e w' => ∃ v, e = .returned v ∧ Below W.heap.size W w' ∧ OM s2 E len2 m2 v w')
    (h15 : ∀ (W : World) (p2 q2 : Option Addr) (c2 v2 : Nat) (p9 q9 : Option Addr) (c9 v9 : Nat), SegIn W s2 p2 q2 → SegIn W s2 p9 q9 → Calls Tryz.prog 21 #[.agg #[.int .i64 4, .slice p2 len2 c2, .int .i64 0, .int .i64 0, .int .i64 0, .int .i64 0, .slice q2 m2 v2, .int .i64 E], .agg #[.int .i64 4, .slice p9 len2 c9, .int .i64 0, .int .i64 0, .int .i64 0, .int .i64 0, .slice q9 m2 v9, .int .i64 E]] W fun e w' => e = .returned (.bool true) ∧ Below W.heap.size W w') :
    Calls Tryz.prog 4 #[.slice p len cap, .agg #[.int .i64 A, .int .i64 R, .int .i64 n, .int .i64 d], .slice q m vc, .int .i64 E] w fun e w' => e = .returned (.bool true) ∧ Below w.heap.size w w' := by
  have H_h1 := Lib.hid h1
  clear h1
  have H_h2 := Lib.hid h2
  clear h2
  have H_h3 := Lib.hid h3
  clear h3
  have H_h4 := Lib.hid h4
  clear h4
  have H_h5 := Lib.hid h5
  clear h5
  have H_h6 := Lib.hid h6
  clear h6
  have H_h7 := Lib.hid h7
  clear h7
  have H_h8 := Lib.hid h8
  clear h8
  have H_h9 := Lib.hid h9
  clear h9
  have H_h10 := Lib.hid h10
  clear h10
  have H_h12 := Lib.hid h12
  clear h12
  have H_h13 := Lib.hid h13
  clear h13
  have H_h14 := Lib.hid h14
  clear h14
  have H_h15 := Lib.hid h15
  clear h15
  go_enter Tryz.func4, Tryz.ntmps4
  go_upto_region 1 with (fail)
  refine wp_facts (fun W' => Below w.heap.size w W' ∧ Blk W' w.heap.size #[.int .i64 A, .int .i64 R, .int .i64 n, .int .i64 d] 24) ⟨by exact belowAny, by exact blkAny2⟩ ?_
  rintro W1 ⟨hW, b1⟩
  have z2 := hW.size
  have z3 := b1.lt
  have k1 := b1.cell
  have f1 := b1.frozen
  have h1 := H_h1.out
  go_wp2_with fail
  refine (h1 _ belowAny).mono ?_
  rintro e w4 ⟨rfl, hb4⟩
  clear h1
  have z5 := hb4.size
  try simp at z5
  clear k1 f1
  have b1 : Blk w4 w.heap.size #[.int .i64 A, .int .i64 R, .int .i64 n, .int .i64 d] 24 := by exact blkAny2
  have hW : Below w.heap.size w w4 := by exact belowAny
  have z6 := b1.lt
  clear hb4
  have k1 := b1.cell
  have f1 := b1.frozen
  have h2 := H_h2.out
  go_wp2_with fail
  refine (h2 _ belowAny).mono ?_
  rintro e w7 ⟨rfl, hb7⟩
  clear h2
  have z8 := hb7.size
  try simp at z8
  clear k1 f1
  have b1 : Blk w7 w.heap.size #[.int .i64 A, .int .i64 R, .int .i64 n, .int .i64 d] 24 := by exact blkAny2
  have hW : Below w.heap.size w w7 := by exact belowAny
  have z9 := b1.lt
  clear hb7
  have k1 := b1.cell
  have f1 := b1.frozen
  have h3 := H_h3.out
  go_wp2_with fail
  refine (h3 _ belowAny).mono ?_
  rintro e w10 ⟨rfl, hb10⟩
  clear h3
  have z11 := hb10.size
  try simp at z11
  clear k1 f1
  have b1 : Blk w10 w.heap.size #[.int .i64 A, .int .i64 R, .int .i64 n, .int .i64 d] 24 := by exact blkAny2
  have hW : Below w.heap.size w w10 := by exact belowAny
  have z12 := b1.lt
  clear hb10
  have k1 := b1.cell
  have f1 := b1.frozen
  have h4 := H_h4.out
  go_wp2_with fail
  refine (h4 _ belowAny).mono ?_
  rintro e w13 ⟨rfl, hb13⟩
  clear h4
  have z14 := hb13.size
  try simp at z14
  clear k1 f1
  have b1 : Blk w13 w.heap.size #[.int .i64 A, .int .i64 R, .int .i64 n, .int .i64 d] 24 := by exact blkAny2
  have hW : Below w.heap.size w w13 := by exact belowAny
  have z15 := b1.lt
  clear hb13
  have k1 := b1.cell
  have f1 := b1.frozen
  have h5 := H_h5.out
  go_wp2_with fail
  refine (h5 _ belowAny).mono ?_
  rintro e w16 ⟨p1, c1, q1, v1, rfl, hb16, hS⟩
  clear h5
  have z17 := hb16.size
  try simp at z17
  clear k1 f1
  have b1 : Blk w16 w.heap.size #[.int .i64 A, .int .i64 R, .int .i64 n, .int .i64 d] 24 := by exact blkAny2
  have hW : Below w.heap.size w w16 := by exact belowAny
  have z18 := b1.lt
  have k1 := b1.cell
  have f1 := b1.frozen
  have b2 : SegP _ _ _ _ := ⟨hS⟩
  clear hS
  have h6 := H_h6.out
  go_wp2_with fail
  refine (h6 _ belowAny).mono ?_
  rintro e w19 ⟨p2, c2, q2, v2, rfl, hb19, hS, hn2, hn3⟩
  clear h6
  have z20 := hb19.size
  try simp at z20
  clear k1 f1
  have b1 : Blk w19 w.heap.size #[.int .i64 A, .int .i64 R, .int .i64 n, .int .i64 d] 24 := by exact blkAny2
  have b2 : SegP w19 s1 p1 q1 := by exact segPAny
  have b3 : Blk w19 w16.heap.size #[.int .i64 K0, .slice p1 len1 c1, .int .i64 A, .int .i64 R, .int .i64 n, .int .i64 d, .slice q1 m1 v1, .int .i64 E] 27 := by exact blkAny2
  have hW : Below w.heap.size w w19 := by exact belowAny
  have z21 := b1.lt
  have z22 := b3.lt
  have k1 := b1.cell
  have f1 := b1.frozen
  have k3 := b3.cell
  have f3 := b3.frozen
  have b4 : SegP _ _ _ _ := ⟨hS⟩
  clear hS
  replace hn2 := Lib.hid hn2
  replace hn3 := Lib.hid hn3
  have h7 := H_h7.out
  go_wp2_with fail
  refine (h7 _ p1 q1 c1 v1 segNow).mono ?_
  rintro e w23 ⟨rfl, hb23⟩
  clear h7
  have z24 := hb23.size
  try simp at z24
  clear k1 f1 k3 f3
  have b1 : Blk w23 w.heap.size #[.int .i64 A, .int .i64 R, .int .i64 n, .int .i64 d] 24 := by exact blkAny2
  have b2 : SegP w23 s1 p1 q1 := by exact segPAny
  have b3 : Blk w23 w16.heap.size #[.int .i64 K0, .slice p1 len1 c1, .int .i64 A, .int .i64 R, .int .i64 n, .int .i64 d, .slice q1 m1 v1, .int .i64 E] 27 := by exact blkAny2
  have b4 : SegP w23 s2 p2 q2 := by exact segPAny
  have b5 : Blk w23 w19.heap.size #[.int .i64 4, .slice p2 len2 c2, .int .i64 0, .int .i64 0, .int .i64 0, .int .i64 0, .slice q2 m2 v2, .int .i64 E] 27 := by exact blkAny2
  have hW : Below w.heap.size w w23 := by exact belowAny
  have z25 := b1.lt
  have z26 := b3.lt
  have z27 := b5.lt
  clear hb23
  have k1 := b1.cell
  have f1 := b1.frozen
  have k3 := b3.cell
  have f3 := b3.frozen
  have k5 := b5.cell
  have f5 := b5.frozen
  have h8 := H_h8.out
  go_wp2_with fail
  refine (h8 _ p2 q2 c2 v2 segNow).mono ?_
  rintro e w28 ⟨c4, v4, j4, o4, g4, r4, z4, y4, rfl, hb28, hS, hj, hg, hne, hw1, hw2⟩
  clear h8
  have z29 := hb28.size
  try simp at z29
  clear k1 f1 k3 f3 k5 f5
  have b1 : Blk w28 w.heap.size #[.int .i64 A, .int .i64 R, .int .i64 n, .int .i64 d] 24 := by exact blkAny2
  have b2 : SegP w28 s1 p1 q1 := by exact segPAny
  have b3 : Blk w28 w16.heap.size #[.int .i64 K0, .slice p1 len1 c1, .int .i64 A, .int .i64 R, .int .i64 n, .int .i64 d, .slice q1 m1 v1, .int .i64 E] 27 := by exact blkAny2
  have b4 : SegP w28 s2 p2 q2 := by exact segPAny
  have b5 : Blk w28 w19.heap.size #[.int .i64 4, .slice p2 len2 c2, .int .i64 0, .int .i64 0, .int .i64 0, .int .i64 0, .slice q2 m2 v2, .int .i64 E] 27 := by exact blkAny2
  have b6 : Blk w28 w23.heap.size #[.int .i64 0, .slice none 0 0, .int .i64 0, .int .i64 0, .int .i64 0, .int .i64 0, .slice none 0 0, .int .i64 0] 27 := by exact blkAny2
  have hW : Below w.heap.size w w28 := by exact belowAny
  have z30 := b1.lt
  have z31 := b3.lt
  have z32 := b5.lt
  have z33 := b6.lt
  have k1 := b1.cell
  have f1 := b1.frozen
  have k3 := b3.cell
  have f3 := b3.frozen
  have k5 := b5.cell
  have f5 := b5.frozen
  have k6 := b6.cell
  have f6 := b6.frozen
  try simp at hj
  try simp at hg
  have b7 : SegP _ _ _ _ := ⟨hS⟩
  have b8 := hw1
  have b9 := hw2
  clear hS hw1 hw2
  have hj4 := b8.lt
  have hg4 := b9.lt
  have h9 := H_h9.out
  go_wp2_with fail
  refine (h9 _ p1 q1 c1 v1 segNow).mono ?_
  rintro e w34 ⟨rfl, hb34⟩
  clear h9
  have z35 := hb34.size
  try simp at z35
  clear k1 f1 k3 f3 k5 f5 k6 f6
  have b1 : Blk w34 w.heap.size #[.int .i64 A, .int .i64 R, .int .i64 n, .int .i64 d] 24 := by exact blkAny2
  have b2 : SegP w34 s1 p1 q1 := by exact segPAny
  have b3 : Blk w34 w16.heap.size #[.int .i64 K0, .slice p1 len1 c1, .int .i64 A, .int .i64 R, .int .i64 n, .int .i64 d, .slice q1 m1 v1, .int .i64 E] 27 := by exact blkAny2
  have b4 : SegP w34 s2 p2 q2 := by exact segPAny
  have b5 : Blk w34 w19.heap.size #[.int .i64 4, .slice p2 len2 c2, .int .i64 0, .int .i64 0, .int .i64 0, .int .i64 0, .slice q2 m2 v2, .int .i64 E] 27 := by exact blkAny2
  have b6 : Blk w34 w23.heap.size #[.int .i64 0, .slice none 0 0, .int .i64 0, .int .i64 0, .int .i64 0, .int .i64 0, .slice none 0 0, .int .i64 0] 27 := by exact blkAny2
  have b7 : SegP w34 s2 (some ⟨j4, o4, none⟩) (some ⟨g4, r4, none⟩) := by exact segPAny
  have b8 : WrP w34 j4 o4 z4 := by exact wrAny
  have b9 : WrP w34 g4 r4 y4 := by exact wrAny
  have b10 : Blk w34 w28.heap.size #[.int .i64 4, .slice (some ⟨j4, o4, none⟩) len2 c4, .int .i64 0, .int .i64 0, .int .i64 0, .int .i64 0, .slice (some ⟨g4, r4, none⟩) m2 v4, .int .i64 E] 27 := by exact blkAny2
  have hW : Below w.heap.size w w34 := by exact belowAny
  have z36 := b1.lt
  have z37 := b3.lt
  have z38 := b5.lt
  have z39 := b6.lt
  have z40 := b10.lt
  clear hb34
  have k1 := b1.cell
  have f1 := b1.frozen
  have k3 := b3.cell
  have f3 := b3.frozen
  have k5 := b5.cell
  have f5 := b5.frozen
  have k6 := b6.cell
  have f6 := b6.frozen
  have k10 := b10.cell
  have f10 := b10.frozen
  have h10 := H_h10.out
  go_wp2_with fail
  refine (h10 _).mono ?_
  rintro e w41 ⟨rfl, hb41⟩
  clear h10
  have z42 := hb41.size
  try simp at z42
  clear k1 f1 k3 f3 k5 f5 k6 f6 k10 f10
  have b1 : Blk w41 w.heap.size #[.int .i64 A, .int .i64 R, .int .i64 n, .int .i64 d] 24 := by exact blkAny2
  have b2 : SegP w41 s1 p1 q1 := by exact segPAny
  have b3 : Blk w41 w16.heap.size #[.int .i64 K0, .slice p1 len1 c1, .int .i64 A, .int .i64 R, .int .i64 n, .int .i64 d, .slice q1 m1 v1, .int .i64 E] 27 := by exact blkAny2
  have b4 : SegP w41 s2 p2 q2 := by exact segPAny
  have b5 : Blk w41 w19.heap.size #[.int .i64 4, .slice p2 len2 c2, .int .i64 0, .int .i64 0, .int .i64 0, .int .i64 0, .slice q2 m2 v2, .int .i64 E] 27 := by exact blkAny2
  have b6 : Blk w41 w23.heap.size #[.int .i64 0, .slice none 0 0, .int .i64 0, .int .i64 0, .int .i64 0, .int .i64 0, .slice none 0 0, .int .i64 0] 27 := by exact blkAny2
  have b7 : SegP w41 s2 (some ⟨j4, o4, none⟩) (some ⟨g4, r4, none⟩) := by exact segPAny
  have b8 : WrP w41 j4 o4 z4 := by exact wrAny
  have b9 : WrP w41 g4 r4 y4 := by exact wrAny
  have b10 : Blk w41 w28.heap.size #[.int .i64 4, .slice (some ⟨j4, o4, none⟩) len2 c4, .int .i64 0, .int .i64 0, .int .i64 0, .int .i64 0, .slice (some ⟨g4, r4, none⟩) m2 v4, .int .i64 E] 27 := by exact blkAny2
  have hW : Below w.heap.size w w41 := by exact belowAny
  have z43 := b1.lt
  have z44 := b3.lt
  have z45 := b5.lt
  have z46 := b6.lt
  have z47 := b10.lt
  clear hb41
  have k1 := b1.cell
  have f1 := b1.frozen
  have k3 := b3.cell
  have f3 := b3.frozen
  have k5 := b5.cell
  have f5 := b5.frozen
  have k6 := b6.cell
  have f6 := b6.frozen
  have k10 := b10.cell
  have f10 := b10.frozen
  have h12 := H_h12.out
  go_wp2_with fail
  refine (h12 _ p2 q2 c2 v2 segNow).mono ?_
  rintro e w48 ⟨rfl, hb48⟩
  clear h12
  have z49 := hb48.size
  try simp at z49
  clear k1 f1 k3 f3 k5 f5 k6 f6 k10 f10
  have b1 : Blk w48 w.heap.size #[.int .i64 A, .int .i64 R, .int .i64 n, .int .i64 d] 24 := by exact blkAny2
  have b2 : SegP w48 s1 p1 q1 := by exact segPAny
  have b3 : Blk w48 w16.heap.size #[.int .i64 K0, .slice p1 len1 c1, .int .i64 A, .int .i64 R, .int .i64 n, .int .i64 d, .slice q1 m1 v1, .int .i64 E] 27 := by exact blkAny2
  have b4 : SegP w48 s2 p2 q2 := by exact segPAny
  have b5 : Blk w48 w19.heap.size #[.int .i64 4, .slice p2 len2 c2, .int .i64 0, .int .i64 0, .int .i64 0, .int .i64 0, .slice q2 m2 v2, .int .i64 E] 27 := by exact blkAny2
  have b6 : Blk w48 w23.heap.size #[.int .i64 0, .slice none 0 0, .int .i64 0, .int .i64 0, .int .i64 0, .int .i64 0, .slice none 0 0, .int .i64 0] 27 := by exact blkAny2
  have b7 : SegP w48 s2 (some ⟨j4, o4, none⟩) (some ⟨g4, r4, none⟩) := by exact segPAny
  have b8 : WrP w48 j4 o4 z4 := by exact wrAny
  have b9 : WrP w48 g4 r4 y4 := by exact wrAny
  have b10 : Blk w48 w28.heap.size #[.int .i64 4, .slice (some ⟨j4, o4, none⟩) len2 c4, .int .i64 0, .int .i64 0, .int .i64 0, .int .i64 0, .slice (some ⟨g4, r4, none⟩) m2 v4, .int .i64 E] 27 := by exact blkAny2
  have hW : Below w.heap.size w w48 := by exact belowAny
  have z50 := b1.lt
  have z51 := b3.lt
  have z52 := b5.lt
  have z53 := b6.lt
  have z54 := b10.lt
  clear hb48
  have k1 := b1.cell
  have f1 := b1.frozen
  have k3 := b3.cell
  have f3 := b3.frozen
  have k5 := b5.cell
  have f5 := b5.frozen
  have k6 := b6.cell
  have f6 := b6.frozen
  have k10 := b10.cell
  have f10 := b10.frozen
  have h13 := H_h13.out
  go_wp2_with fail
  refine (h13 _ j4 o4 g4 r4 c4 v4 p2 q2 c2 v2 segNow segNow).mono ?_
  rintro e w55 ⟨rfl, hb55⟩
  clear h13
  have z56 := hb55.size
  try simp at z56
  clear k1 f1 k3 f3 k5 f5 k6 f6 k10 f10
  have b1 : Blk w55 w.heap.size #[.int .i64 A, .int .i64 R, .int .i64 n, .int .i64 d] 24 := by exact blkAny2
  have b2 : SegP w55 s1 p1 q1 := by exact segPAny
  have b3 : Blk w55 w16.heap.size #[.int .i64 K0, .slice p1 len1 c1, .int .i64 A, .int .i64 R, .int .i64 n, .int .i64 d, .slice q1 m1 v1, .int .i64 E] 27 := by exact blkAny2
  have b4 : SegP w55 s2 p2 q2 := by exact segPAny
  have b5 : Blk w55 w19.heap.size #[.int .i64 4, .slice p2 len2 c2, .int .i64 0, .int .i64 0, .int .i64 0, .int .i64 0, .slice q2 m2 v2, .int .i64 E] 27 := by exact blkAny2
  have b6 : Blk w55 w23.heap.size #[.int .i64 0, .slice none 0 0, .int .i64 0, .int .i64 0, .int .i64 0, .int .i64 0, .slice none 0 0, .int .i64 0] 27 := by exact blkAny2
  have b7 : SegP w55 s2 (some ⟨j4, o4, none⟩) (some ⟨g4, r4, none⟩) := by exact segPAny
  have b8 : WrP w55 j4 o4 z4 := by exact wrAny
  have b9 : WrP w55 g4 r4 y4 := by exact wrAny
  have b10 : Blk w55 w28.heap.size #[.int .i64 4, .slice (some ⟨j4, o4, none⟩) len2 c4, .int .i64 0, .int .i64 0, .int .i64 0, .int .i64 0, .slice (some ⟨g4, r4, none⟩) m2 v4, .int .i64 E] 27 := by exact blkAny2
  have hW : Below w.heap.size w w55 := by exact belowAny
  have z57 := b1.lt
  have z58 := b3.lt
  have z59 := b5.lt
  have z60 := b6.lt
  have z61 := b10.lt
  clear hb55
  have k1 := b1.cell
  have f1 := b1.frozen
  have k3 := b3.cell
  have f3 := b3.frozen
  have k5 := b5.cell
  have f5 := b5.frozen
  have k6 := b6.cell
  have f6 := b6.frozen
  have k10 := b10.cell
  have f10 := b10.frozen
  go_upto_region 21 with (fail)
  clear k1 f1 k3 f3 k5 f5 k6 f6 k10 f10
  refine wp_facts (fun W' => Below w.heap.size w W' ∧ Blk W' w19.heap.size #[.int .i64 4, .slice p2 len2 c2, .int .i64 0, .int .i64 0, .int .i64 0, .int .i64 0, .slice q2 m2 v2, .int .i64 E] 27 ∧ Blk W' w28.heap.size #[.int .i64 4, .slice (some ⟨j4, o4, none⟩) len2 c4, .int .i64 0, .int .i64 0, .int .i64 0, .int .i64 0, .slice (some ⟨g4, r4, none⟩) m2 v4, .int .i64 E] 27 ∧ SegP W' s2 p2 q2 ∧ WrP W' j4 o4 z4 ∧ WrP W' g4 r4 y4) ⟨by exact belowAny, by exact blkAny2, by exact blkAny2, by exact segPAny, by exact wrAny, by exact wrAny⟩ ?_
  clear b1 b2 b3 b4 b5 b6 b7 b8 b9 b10 hW
  rintro W62 ⟨hW, b1, b2, b3, b4, b5⟩
  have z63 := hW.size
  have z64 := b1.lt
  have z65 := b2.lt
  have k1 := b1.cell
  have f1 := b1.frozen
  have k2 := b2.cell
  have f2 := b2.frozen
  have kq := b5.cell
  have fq := b5.frozen
  have n21 := Lib.hid (fun a h => by have := hn2.out a h; omega : ∀ a, p2 = some a → a.block ≠ g4)
  have n22 := Lib.hid (fun a h => by have := hn3.out a h; omega : ∀ a, q2 = some a → a.block ≠ g4)
  have n31 := Lib.hid (fun a h => by have := hn2.out a h; omega : ∀ a, p2 = some a → a.block ≠ j4)
  have n32 := Lib.hid (fun a h => by have := hn3.out a h; omega : ∀ a, q2 = some a → a.block ≠ j4)
  clear hn2 hn3
  go_upto_region 22 with (fail)
  clear kq fq
  clear k1 f1 k2 f2
  refine wp_facts (fun W' => Below w.heap.size w W' ∧ Blk W' w19.heap.size #[.int .i64 4, .slice p2 len2 c2, .int .i64 0, .int .i64 0, .int .i64 0, .int .i64 0, .slice q2 m2 v2, .int .i64 E] 27 ∧ Blk W' w28.heap.size #[.int .i64 4, .slice (some ⟨j4, o4, none⟩) len2 c4, .int .i64 0, .int .i64 0, .int .i64 0, .int .i64 0, .slice (some ⟨g4, r4, none⟩) m2 v4, .int .i64 E] 27 ∧ SegP W' s2 p2 q2 ∧ WrP W' j4 o4 z4) ⟨by exact belowAny, by exact blkAny2, by exact blkAny2, by exact segSetM, by exact wrAny⟩ ?_
  clear b1 b2 b3 b4 b5 hW
  rintro W66 ⟨hW, b1, b2, b3, b4⟩
  have z67 := hW.size
  have z68 := b1.lt
  have z69 := b2.lt
  have k1 := b1.cell
  have f1 := b1.frozen
  have k2 := b2.cell
  have f2 := b2.frozen
  have kq := b4.cell
  have fq := b4.frozen
  go_upto_region 23 with (fail)
  clear kq fq
  clear k1 f1 k2 f2
  refine wp_facts (fun W' => Below w.heap.size w W' ∧ Blk W' w19.heap.size #[.int .i64 4, .slice p2 len2 c2, .int .i64 0, .int .i64 0, .int .i64 0, .int .i64 0, .slice q2 m2 v2, .int .i64 E] 27 ∧ SegP W' s2 p2 q2) ⟨by exact belowAny, by exact blkAny2, by exact segSetM⟩ ?_
  clear b1 b2 b3 b4 hW
  rintro W70 ⟨hW, b1, b2⟩
  have z71 := hW.size
  have z72 := b1.lt
  have h14 := H_h14.out
  have h15 := H_h15.out
  refine wp_facts (fun W' => Below w.heap.size w W' ∧ Blk W' w19.heap.size #[.int .i64 4, .slice p2 len2 c2, .int .i64 0, .int .i64 0, .int .i64 0, .int .i64 0, .slice q2 m2 v2, .int .i64 E] 27 ∧ SegP W' s2 p2 q2) ⟨by exact belowAny, by exact blkAny2, by exact b2⟩ ?_
  clear b1 b2 hW
  rintro W73 ⟨hW, b1, b2⟩
  have z74 := hW.size
  have z75 := b1.lt
  refine wp_region_nd 8 116 [] (fun W' => Rex [] W73 W' ∧ Blk W' w19.heap.size #[.int .i64 4, .slice p2 len2 c2, .int .i64 0, .int .i64 0, .int .i64 0, .int .i64 0, .slice q2 m2 v2, .int .i64 E] 27 ∧ SegP W' s2 p2 q2) mixed (by kernel_rfl) rfl ⟨(Rex.refl _ _).drew, b1, b2.drew⟩ (fun w w' ⟨h0, h1, h2⟩ hr => ⟨h0.trans hr, h1.rex hr (by simp <;> omega), h2.rex hr (by simp <;> omega)⟩) (fun c a d v w h => by cases d <;> exact h) ?_
  iterate 5
    apply nd_det (hg := rfl) (hal := rfl)
    · intro a W' hC hE
      obtain ⟨_, k1, k2⟩ := hC
      have k1 := k1.cell
      first
        | (simp [Oper.looksAt, Op.operands, Call.operands, envOf, Det] at hE; simp [go_sem, Act.eval, IntWalk.i64_left, hE, k1, k2]; try rfl)
        | (clear hE; simp [go_sem, Act.eval, IntWalk.i64_left, k1, k2]; try rfl)
  apply nd_call (OM s2 E len2 m2) (hg := rfl) (hal := rfl)
  · exact OM.closed _ _ _ _
  · intro a' W' hC hE
    obtain ⟨hR9, k1, _⟩ := hC
    have k1 := k1.cell
    simp [Oper.looksAt, Op.operands, Call.operands, envOf, Det] at hE
    refine ⟨_, _, ?_, (h14 W' (hW.trans (hR9.of_priv hW.size))).mono ?_⟩
    · simp [go_sem, Act.eval, hE]
      try rfl
    · rintro e w' ⟨v, rfl, hB, hO⟩
      exact ⟨_, rfl, hB, hO⟩
  apply nd_call (Det (.bool true)) (hg := rfl) (hal := rfl)
  · exact closed_det _ _
  · intro a' W' hC hE
    simp [Oper.looksAt, Op.operands, Call.operands, envOf, Det] at hE
    obtain ⟨p9, q9, c9, v9, e9, h9⟩ := hE.2
    refine ⟨_, _, ?_, (h15 W' p2 q2 c2 v2 p9 q9 c9 v9 hC.2.2.seg h9).mono ?_⟩
    · simp [go_sem, Act.eval, hE.1, e9]
      try rfl
    · rintro e w' ⟨rfl, hB⟩
      exact ⟨_, rfl, hB, rfl⟩
  iterate 1
    apply nd_det (hg := rfl) (hal := rfl)
    · intro a W' hC hE
      obtain ⟨_, k1, k2⟩ := hC
      have k1 := k1.cell
      first
        | (simp [Oper.looksAt, Op.operands, Call.operands, envOf, Det] at hE; simp [go_sem, Act.eval, IntWalk.i64_left, hE, k1, k2]; try rfl)
        | (clear hE; simp [go_sem, Act.eval, IntWalk.i64_left, k1, k2]; try rfl)
  rintro W76 ⟨hR, d1, d2⟩
  simp only [ndFinR, Det, forall_eq]
  intros
  repeat (rename GDet _ _ _ _ => hgd; clear hgd)
  simp only [Act.put, List.setIfInBounds_toArray, List.set_cons_zero, List.set_cons_succ]
  refine wpList_nil ?_
  replace hW := hW.trans (hR.of_priv hW.size)
  clear hR
  try clear b1 b2
  have b1 := d1
  clear d1
  have b2 := d2
  clear d2
  clear h14
  clear h15
  go_wp2
  have y_1 := b1.lt
  refine bodyPost_ret (v := .bool true) (by simp [results, Tryz.results4, go_sem, y_1]) rfl ⟨rfl, hW⟩
set_option maxRecDepth 100000 in
set_option maxHeartbeats 8000000 in
theorem makes_21 (A R n d E : Int) (p q : Option Addr) (len cap m vc : Nat) (w : World) (len1 m1 len2 m2 : Nat) (s1 s2 : SegT) (hl2 : 0 < len2) (hm2 : 0 < m2) (K0 : Int) (hk : (K0 == 0) = false)
    (h1 : ∀ (W : World), Below w.heap.size w W → Calls Tryz.prog 10 #[] W fun e w' => e = .returned (.bool true) ∧ Below W.heap.size W w')
    (h2 : ∀ (W : World), Below w.heap.size w W → Calls Tryz.prog 16 #[.agg #[.int .i64 A, .int .i64 R, .int .i64 n, .int .i64 d]] W fun e w' => e = .returned (.bool true) ∧ Below W.heap.size W w')
    (h3 : ∀ (W : World), Below w.heap.size w W → Calls Tryz.prog 17 #[.agg #[.int .i64 A, .int .i64 R, .int .i64 n, .int .i64 d]] W fun e w' => e = .returned (.int .i64 K0) ∧ Below W.heap.size W w')
    (h4 : ∀ (W : World), Below w.heap.size w W → Calls Tryz.prog 18 #[.agg #[.int .i64 A, .int .i64 R, .int .i64 n, .int .i64 d]] W fun e w' => e = .returned (.int .i64 K0) ∧ Below W.heap.size W w')
    (h5 : ∀ (W : World), Below w.heap.size w W → Calls Tryz.prog 11 #[.agg #[.int .i64 K0, .slice p len cap, .int .i64 A, .int .i64 R, .int .i64 n, .int .i64 d, .slice none 0 0, .int .i64 E]] W fun e w' => ∃ p1 c1 q1 v1, e = .returned (.agg #[.int .i64 K0, .slice p1 len1 c1, .int .i64 A, .int .i64 R, .int .i64 n, .int .i64 d, .slice q1 m1 v1, .int .i64 E]) ∧ Below W.heap.size W w' ∧ SegIn w' s1 p1 q1)
    (h6 : ∀ (W : World), Below w.heap.size w W → Calls Tryz.prog 11 #[.agg #[.int .i64 4, .slice p len cap, .int .i64 0, .int .i64 0, .int .i64 0, .int .i64 0, .slice q m vc, .int .i64 E]] W fun e w' => ∃ p2 c2 q2 v2, e = .returned (.agg #[.int .i64 4, .slice p2 len2 c2, .int .i64 0, .int .i64 0, .int .i64 0, .int .i64 0, .slice q2 m2 v2, .int .i64 E]) ∧ Below W.heap.size W w' ∧ SegIn w' s2 p2 q2 ∧ (∀ a, p2 = some a → a.block < w'.heap.size) ∧ (∀ a, q2 = some a → a.block < w'.heap.size))
    (h7 : ∀ (W : World) (p1 q1 : Option Addr) (c1 v1 : Nat), SegIn W s1 p1 q1 → Calls Tryz.prog 19 #[.slice p1 len1 c1, .agg #[.int .i64 A, .int .i64 R, .int .i64 n, .int .i64 d], .int .i64 E] W fun e w' => ∃ p3 c3 q3 v3, e = .returned (.tuple #[.agg #[.int .i64 K0, .slice p3 len1 c3, .int .i64 A, .int .i64 R, .int .i64 n, .int .i64 d, .slice q3 m1 v3, .int .i64 E], .int .i64 0]) ∧ Below W.heap.size W w' ∧ SegIn w' s1 p3 q3)
    (h8 : ∀ (W : World) (p2 q2 : Option Addr) (c2 v2 : Nat), SegIn W s2 p2 q2 → Calls Tryz.prog 20 #[.slice p2 len2 c2, .slice q2 m2 v2, .int .i64 E] W fun e w' => ∃ c4 v4 j4 o4 g4 r4 z4 y4, e = .returned (.tuple #[.agg #[.int .i64 4, .slice (some ⟨j4, o4, none⟩) len2 c4, .int .i64 0, .int .i64 0, .int .i64 0, .int .i64 0, .slice (some ⟨g4, r4, none⟩) m2 v4, .int .i64 E], .int .i64 0]) ∧ Below W.heap.size W w' ∧ SegIn w' s2 (some ⟨j4, o4, none⟩) (some ⟨g4, r4, none⟩) ∧ W.heap.size ≤ j4 ∧ W.heap.size ≤ g4 ∧ j4 ≠ g4 ∧ WrP w' j4 o4 z4 ∧ WrP w' g4 r4 y4)
    (h9 : ∀ (W : World) (p1 q1 : Option Addr) (c1 v1 : Nat), SegIn W s1 p1 q1 → Calls Tryz.prog 13 #[.agg #[.int .i64 K0, .slice p1 len1 c1, .int .i64 A, .int .i64 R, .int .i64 n, .int .i64 d, .slice q1 m1 v1, .int .i64 E]] W fun e w' => e = .returned (.bool true) ∧ Below W.heap.size W w')
    (h11 : ∀ (W : World) (p3 q3 : Option Addr) (c3 v3 : Nat) (p1 q1 : Option Addr) (c1 v1 : Nat), SegIn W s1 p3 q3 → SegIn W s1 p1 q1 → Calls Tryz.prog 21 #[.agg #[.int .i64 K0, .slice p3 len1 c3, .int .i64 A, .int .i64 R, .int .i64 n, .int .i64 d, .slice q3 m1 v3, .int .i64 E], .agg #[.int .i64 K0, .slice p1 len1 c1, .int .i64 A, .int .i64 R, .int .i64 n, .int .i64 d, .slice q1 m1 v1, .int .i64 E]] W fun e w' => e = .returned (.bool true) ∧ Below W.heap.size W w')
    (h12 : ∀ (W : World) (p2 q2 : Option Addr) (c2 v2 : Nat), SegIn W s2 p2 q2 → Calls Tryz.prog 13 #[.agg #[.int .i64 4, .slice p2 len2 c2, .int .i64 0, .int .i64 0, .int .i64 0, .int .i64 0, .slice q2 m2 v2, .int .i64 E]] W fun e w' => e = .returned (.bool true) ∧ Below W.heap.size W w')
    (h13 : ∀ (W : World) (j4 o4 g4 r4 c4 v4 : Nat) (p2 q2 : Option Addr) (c2 v2 : Nat), SegIn W s2 (some ⟨j4, o4, none⟩) (some ⟨g4, r4, none⟩) → SegIn W s2 p2 q2 → Calls Tryz.prog 21 #[.agg #[.int .i64 4, .slice (some ⟨j4, o4, none⟩) len2 c4, .int .i64 0, .int .i64 0, .int .i64 0, .int .i64 0, .slice (some ⟨g4, r4, none⟩) m2 v4, .int .i64 E], .agg #[.int .i64 4, .slice p2 len2 c2, .int .i64 0, .int .i64 0, .int .i64 0, .int .i64 0, .slice q2 m2 v2, .int .i64 E]] W fun e w' => e = .returned (.bool true) ∧ Below W.heap.size W w')
    (h14 : ∀ (W : World), Below w.heap.size w W → Calls Tryz.prog 11 #[.agg #[.int .i64 4, .slice p len cap, .int .i64 0, .int .i64 0, .int .i64 0, .int .i64 0, .slice q m vc, .int .i64 E]] W fun e w' => ∃ v, e = .returned v ∧ Below W.heap.size W w' ∧ OM s2 E len2 m2 v w')
    (h15 : ∀ (W : World) (p2 q2 : Option Addr) (c2 v2 : Nat) (p9 q9 : Option Addr) (c9 v9 : Nat), SegIn W s2 p2 q2 → SegIn W s2 p9 q9 → Calls Tryz.prog 21 #[.agg #[.int .i64 4, .slice p2 len2 c2, .int .i64 0, .int .i64 0, .int .i64 0, .int .i64 0, .slice q2 m2 v2, .int .i64 E], .agg #[.int .i64 4, .slice p9 len2 c9, .int .i64 0, .int .i64 0, .int .i64 0, .int .i64 0, .slice q9 m2 v9, .int .i64 E]] W fun e w' => e = .returned (.bool true) ∧ Below W.heap.size W w') :
    Calls Tryz.prog 4 #[.slice p len cap, .agg #[.int .i64 A, .int .i64 R, .int .i64 n, .int .i64 d], .slice q m vc, .int .i64 E] w fun e w' => e = .returned (.bool true) ∧ Below w.heap.size w w' := by
  have H_h1 := Lib.hid h1
  clear h1
  have H_h2 := Lib.hid h2
  clear h2
  have H_h3 := Lib.hid h3
  clear h3
  have H_h4 := Lib.hid h4
  clear h4
  have H_h5 := Lib.hid h5
  clear h5
  have H_h6 := Lib.hid h6
  clear h6
  have H_h7 := Lib.hid h7
  clear h7
  have H_h8 := Lib.hid h8
  clear h8
  have H_h9 := Lib.hid h9
  clear h9
  have H_h11 := Lib.hid h11
  clear h11
  have H_h12 := Lib.hid h12
  clear h12
  have H_h13 := Lib.hid h13
  clear h13
  have H_h14 := Lib.hid h14
  clear h14
  have H_h15 := Lib.hid h15
  clear h15
  go_enter Tryz.func4, Tryz.ntmps4
  go_upto_region 1 with (fail)
  refine wp_facts (fun W' => Below w.heap.size w W' ∧ Blk W' w.heap.size #[.int .i64 A, .int .i64 R, .int .i64 n, .int .i64 d] 24) ⟨by exact belowAny, by exact blkAny2⟩ ?_
  rintro W1 ⟨hW, b1⟩
  have z2 := hW.size
  have z3 := b1.lt
  have k1 := b1.cell
  have f1 := b1.frozen
  have h1 := H_h1.out
  go_wp2_with fail
  refine (h1 _ belowAny).mono ?_
  rintro e w4 ⟨rfl, hb4⟩
  clear h1
  have z5 := hb4.size
  try simp at z5
  clear k1 f1
  have b1 : Blk w4 w.heap.size #[.int .i64 A, .int .i64 R, .int .i64 n, .int .i64 d] 24 := by exact blkAny2
  have hW : Below w.heap.size w w4 := by exact belowAny
  have z6 := b1.lt
  clear hb4
  have k1 := b1.cell
  have f1 := b1.frozen
  have h2 := H_h2.out
  go_wp2_with fail
  refine (h2 _ belowAny).mono ?_
  rintro e w7 ⟨rfl, hb7⟩
  clear h2
  have z8 := hb7.size
  try simp at z8
  clear k1 f1
  have b1 : Blk w7 w.heap.size #[.int .i64 A, .int .i64 R, .int .i64 n, .int .i64 d] 24 := by exact blkAny2
  have hW : Below w.heap.size w w7 := by exact belowAny
  have z9 := b1.lt
  clear hb7
  have k1 := b1.cell
  have f1 := b1.frozen
  have h3 := H_h3.out
  go_wp2_with fail
  refine (h3 _ belowAny).mono ?_
  rintro e w10 ⟨rfl, hb10⟩
  clear h3
  have z11 := hb10.size
  try simp at z11
  clear k1 f1
  have b1 : Blk w10 w.heap.size #[.int .i64 A, .int .i64 R, .int .i64 n, .int .i64 d] 24 := by exact blkAny2
  have hW : Below w.heap.size w w10 := by exact belowAny
  have z12 := b1.lt
  clear hb10
  have k1 := b1.cell
  have f1 := b1.frozen
  have h4 := H_h4.out
  go_wp2_with fail
  refine (h4 _ belowAny).mono ?_
  rintro e w13 ⟨rfl, hb13⟩
  clear h4
  have z14 := hb13.size
  try simp at z14
  clear k1 f1
  have b1 : Blk w13 w.heap.size #[.int .i64 A, .int .i64 R, .int .i64 n, .int .i64 d] 24 := by exact blkAny2
  have hW : Below w.heap.size w w13 := by exact belowAny
  have z15 := b1.lt
  clear hb13
  have k1 := b1.cell
  have f1 := b1.frozen
  have h5 := H_h5.out
  go_wp2_with fail
  refine (h5 _ belowAny).mono ?_
  rintro e w16 ⟨p1, c1, q1, v1, rfl, hb16, hS⟩
  clear h5
  have z17 := hb16.size
  try simp at z17
  clear k1 f1
  have b1 : Blk w16 w.heap.size #[.int .i64 A, .int .i64 R, .int .i64 n, .int .i64 d] 24 := by exact blkAny2
  have hW : Below w.heap.size w w16 := by exact belowAny
  have z18 := b1.lt
  have k1 := b1.cell
  have f1 := b1.frozen
  have b2 : SegP _ _ _ _ := ⟨hS⟩
  clear hS
  have h6 := H_h6.out
  go_wp2_with fail
  refine (h6 _ belowAny).mono ?_
  rintro e w19 ⟨p2, c2, q2, v2, rfl, hb19, hS, hn2, hn3⟩
  clear h6
  have z20 := hb19.size
  try simp at z20
  clear k1 f1
  have b1 : Blk w19 w.heap.size #[.int .i64 A, .int .i64 R, .int .i64 n, .int .i64 d] 24 := by exact blkAny2
  have b2 : SegP w19 s1 p1 q1 := by exact segPAny
  have b3 : Blk w19 w16.heap.size #[.int .i64 K0, .slice p1 len1 c1, .int .i64 A, .int .i64 R, .int .i64 n, .int .i64 d, .slice q1 m1 v1, .int .i64 E] 27 := by exact blkAny2
  have hW : Below w.heap.size w w19 := by exact belowAny
  have z21 := b1.lt
  have z22 := b3.lt
  have k1 := b1.cell
  have f1 := b1.frozen
  have k3 := b3.cell
  have f3 := b3.frozen
  have b4 : SegP _ _ _ _ := ⟨hS⟩
  clear hS
  replace hn2 := Lib.hid hn2
  replace hn3 := Lib.hid hn3
  have h7 := H_h7.out
  go_wp2_with fail
  refine (h7 _ p1 q1 c1 v1 segNow).mono ?_
  rintro e w23 ⟨p3, c3, q3, v3, rfl, hb23, hS⟩
  clear h7
  have z24 := hb23.size
  try simp at z24
  clear k1 f1 k3 f3
  have b1 : Blk w23 w.heap.size #[.int .i64 A, .int .i64 R, .int .i64 n, .int .i64 d] 24 := by exact blkAny2
  have b2 : SegP w23 s1 p1 q1 := by exact segPAny
  have b3 : Blk w23 w16.heap.size #[.int .i64 K0, .slice p1 len1 c1, .int .i64 A, .int .i64 R, .int .i64 n, .int .i64 d, .slice q1 m1 v1, .int .i64 E] 27 := by exact blkAny2
  have b4 : SegP w23 s2 p2 q2 := by exact segPAny
  have b5 : Blk w23 w19.heap.size #[.int .i64 4, .slice p2 len2 c2, .int .i64 0, .int .i64 0, .int .i64 0, .int .i64 0, .slice q2 m2 v2, .int .i64 E] 27 := by exact blkAny2
  have hW : Below w.heap.size w w23 := by exact belowAny
  have z25 := b1.lt
  have z26 := b3.lt
  have z27 := b5.lt
  have k1 := b1.cell
  have f1 := b1.frozen
  have k3 := b3.cell
  have f3 := b3.frozen
  have k5 := b5.cell
  have f5 := b5.frozen
  have b6 : SegP _ _ _ _ := ⟨hS⟩
  clear hS
  have h8 := H_h8.out
  go_wp2_with fail
  refine (h8 _ p2 q2 c2 v2 segNow).mono ?_
  rintro e w28 ⟨c4, v4, j4, o4, g4, r4, z4, y4, rfl, hb28, hS, hj, hg, hne, hw1, hw2⟩
  clear h8
  have z29 := hb28.size
  try simp at z29
  clear k1 f1 k3 f3 k5 f5
  have b1 : Blk w28 w.heap.size #[.int .i64 A, .int .i64 R, .int .i64 n, .int .i64 d] 24 := by exact blkAny2
  have b2 : SegP w28 s1 p1 q1 := by exact segPAny
  have b3 : Blk w28 w16.heap.size #[.int .i64 K0, .slice p1 len1 c1, .int .i64 A, .int .i64 R, .int .i64 n, .int .i64 d, .slice q1 m1 v1, .int .i64 E] 27 := by exact blkAny2
  have b4 : SegP w28 s2 p2 q2 := by exact segPAny
  have b5 : Blk w28 w19.heap.size #[.int .i64 4, .slice p2 len2 c2, .int .i64 0, .int .i64 0, .int .i64 0, .int .i64 0, .slice q2 m2 v2, .int .i64 E] 27 := by exact blkAny2
  have b6 : SegP w28 s1 p3 q3 := by exact segPAny
  have b7 : Blk w28 w23.heap.size #[.int .i64 K0, .slice p3 len1 c3, .int .i64 A, .int .i64 R, .int .i64 n, .int .i64 d, .slice q3 m1 v3, .int .i64 E] 27 := by exact blkAny2
  have hW : Below w.heap.size w w28 := by exact belowAny
  have z30 := b1.lt
  have z31 := b3.lt
  have z32 := b5.lt
  have z33 := b7.lt
  have k1 := b1.cell
  have f1 := b1.frozen
  have k3 := b3.cell
  have f3 := b3.frozen
  have k5 := b5.cell
  have f5 := b5.frozen
  have k7 := b7.cell
  have f7 := b7.frozen
  try simp at hj
  try simp at hg
  have b8 : SegP _ _ _ _ := ⟨hS⟩
  have b9 := hw1
  have b10 := hw2
  clear hS hw1 hw2
  have hj4 := b9.lt
  have hg4 := b10.lt
  have h9 := H_h9.out
  go_wp2_with fail
  refine (h9 _ p1 q1 c1 v1 segNow).mono ?_
  rintro e w34 ⟨rfl, hb34⟩
  clear h9
  have z35 := hb34.size
  try simp at z35
  clear k1 f1 k3 f3 k5 f5 k7 f7
  have b1 : Blk w34 w.heap.size #[.int .i64 A, .int .i64 R, .int .i64 n, .int .i64 d] 24 := by exact blkAny2
  have b2 : SegP w34 s1 p1 q1 := by exact segPAny
  have b3 : Blk w34 w16.heap.size #[.int .i64 K0, .slice p1 len1 c1, .int .i64 A, .int .i64 R, .int .i64 n, .int .i64 d, .slice q1 m1 v1, .int .i64 E] 27 := by exact blkAny2
  have b4 : SegP w34 s2 p2 q2 := by exact segPAny
  have b5 : Blk w34 w19.heap.size #[.int .i64 4, .slice p2 len2 c2, .int .i64 0, .int .i64 0, .int .i64 0, .int .i64 0, .slice q2 m2 v2, .int .i64 E] 27 := by exact blkAny2
  have b6 : SegP w34 s1 p3 q3 := by exact segPAny
  have b7 : Blk w34 w23.heap.size #[.int .i64 K0, .slice p3 len1 c3, .int .i64 A, .int .i64 R, .int .i64 n, .int .i64 d, .slice q3 m1 v3, .int .i64 E] 27 := by exact blkAny2
  have b8 : SegP w34 s2 (some ⟨j4, o4, none⟩) (some ⟨g4, r4, none⟩) := by exact segPAny
  have b9 : WrP w34 j4 o4 z4 := by exact wrAny
  have b10 : WrP w34 g4 r4 y4 := by exact wrAny
  have b11 : Blk w34 w28.heap.size #[.int .i64 4, .slice (some ⟨j4, o4, none⟩) len2 c4, .int .i64 0, .int .i64 0, .int .i64 0, .int .i64 0, .slice (some ⟨g4, r4, none⟩) m2 v4, .int .i64 E] 27 := by exact blkAny2
  have hW : Below w.heap.size w w34 := by exact belowAny
  have z36 := b1.lt
  have z37 := b3.lt
  have z38 := b5.lt
  have z39 := b7.lt
  have z40 := b11.lt
  clear hb34
  have k1 := b1.cell
  have f1 := b1.frozen
  have k3 := b3.cell
  have f3 := b3.frozen
  have k5 := b5.cell
  have f5 := b5.frozen
  have k7 := b7.cell
  have f7 := b7.frozen
  have k11 := b11.cell
  have f11 := b11.frozen
  have h11 := H_h11.out
  go_wp2_with fail
  refine (h11 _ p3 q3 c3 v3 p1 q1 c1 v1 segNow segNow).mono ?_
  rintro e w41 ⟨rfl, hb41⟩
  clear h11
  have z42 := hb41.size
  try simp at z42
  clear k1 f1 k3 f3 k5 f5 k7 f7 k11 f11
  have b1 : Blk w41 w.heap.size #[.int .i64 A, .int .i64 R, .int .i64 n, .int .i64 d] 24 := by exact blkAny2
  have b2 : SegP w41 s1 p1 q1 := by exact segPAny
  have b3 : Blk w41 w16.heap.size #[.int .i64 K0, .slice p1 len1 c1, .int .i64 A, .int .i64 R, .int .i64 n, .int .i64 d, .slice q1 m1 v1, .int .i64 E] 27 := by exact blkAny2
  have b4 : SegP w41 s2 p2 q2 := by exact segPAny
  have b5 : Blk w41 w19.heap.size #[.int .i64 4, .slice p2 len2 c2, .int .i64 0, .int .i64 0, .int .i64 0, .int .i64 0, .slice q2 m2 v2, .int .i64 E] 27 := by exact blkAny2
  have b6 : SegP w41 s1 p3 q3 := by exact segPAny
  have b7 : Blk w41 w23.heap.size #[.int .i64 K0, .slice p3 len1 c3, .int .i64 A, .int .i64 R, .int .i64 n, .int .i64 d, .slice q3 m1 v3, .int .i64 E] 27 := by exact blkAny2
  have b8 : SegP w41 s2 (some ⟨j4, o4, none⟩) (some ⟨g4, r4, none⟩) := by exact segPAny
  have b9 : WrP w41 j4 o4 z4 := by exact wrAny
  have b10 : WrP w41 g4 r4 y4 := by exact wrAny
  have b11 : Blk w41 w28.heap.size #[.int .i64 4, .slice (some ⟨j4, o4, none⟩) len2 c4, .int .i64 0, .int .i64 0, .int .i64 0, .int .i64 0, .slice (some ⟨g4, r4, none⟩) m2 v4, .int .i64 E] 27 := by exact blkAny2
  have hW : Below w.heap.size w w41 := by exact belowAny
  have z43 := b1.lt
  have z44 := b3.lt
  have z45 := b5.lt
  have z46 := b7.lt
  have z47 := b11.lt
  clear hb41
  have k1 := b1.cell
  have f1 := b1.frozen
  have k3 := b3.cell
  have f3 := b3.frozen
  have k5 := b5.cell
  have f5 := b5.frozen
  have k7 := b7.cell
  have f7 := b7.frozen
  have k11 := b11.cell
  have f11 := b11.frozen
  have h12 := H_h12.out
  go_wp2_with fail
  refine (h12 _ p2 q2 c2 v2 segNow).mono ?_
  rintro e w48 ⟨rfl, hb48⟩
  clear h12
  have z49 := hb48.size
  try simp at z49
  clear k1 f1 k3 f3 k5 f5 k7 f7 k11 f11
  have b1 : Blk w48 w.heap.size #[.int .i64 A, .int .i64 R, .int .i64 n, .int .i64 d] 24 := by exact blkAny2
  have b2 : SegP w48 s1 p1 q1 := by exact segPAny
  have b3 : Blk w48 w16.heap.size #[.int .i64 K0, .slice p1 len1 c1, .int .i64 A, .int .i64 R, .int .i64 n, .int .i64 d, .slice q1 m1 v1, .int .i64 E] 27 := by exact blkAny2
  have b4 : SegP w48 s2 p2 q2 := by exact segPAny
  have b5 : Blk w48 w19.heap.size #[.int .i64 4, .slice p2 len2 c2, .int .i64 0, .int .i64 0, .int .i64 0, .int .i64 0, .slice q2 m2 v2, .int .i64 E] 27 := by exact blkAny2
  have b6 : SegP w48 s1 p3 q3 := by exact segPAny
  have b7 : Blk w48 w23.heap.size #[.int .i64 K0, .slice p3 len1 c3, .int .i64 A, .int .i64 R, .int .i64 n, .int .i64 d, .slice q3 m1 v3, .int .i64 E] 27 := by exact blkAny2
  have b8 : SegP w48 s2 (some ⟨j4, o4, none⟩) (some ⟨g4, r4, none⟩) := by exact segPAny
  have b9 : WrP w48 j4 o4 z4 := by exact wrAny
  have b10 : WrP w48 g4 r4 y4 := by exact wrAny
  have b11 : Blk w48 w28.heap.size #[.int .i64 4, .slice (some ⟨j4, o4, none⟩) len2 c4, .int .i64 0, .int .i64 0, .int .i64 0, .int .i64 0, .slice (some ⟨g4, r4, none⟩) m2 v4, .int .i64 E] 27 := by exact blkAny2
  have hW : Below w.heap.size w w48 := by exact belowAny
  have z50 := b1.lt
  have z51 := b3.lt
  have z52 := b5.lt
  have z53 := b7.lt
  have z54 := b11.lt
  clear hb48
  have k1 := b1.cell
  have f1 := b1.frozen
  have k3 := b3.cell
  have f3 := b3.frozen
  have k5 := b5.cell
  have f5 := b5.frozen
  have k7 := b7.cell
  have f7 := b7.frozen
  have k11 := b11.cell
  have f11 := b11.frozen
  have h13 := H_h13.out
  go_wp2_with fail
  refine (h13 _ j4 o4 g4 r4 c4 v4 p2 q2 c2 v2 segNow segNow).mono ?_
  rintro e w55 ⟨rfl, hb55⟩
  clear h13
  have z56 := hb55.size
  try simp at z56
  clear k1 f1 k3 f3 k5 f5 k7 f7 k11 f11
  have b1 : Blk w55 w.heap.size #[.int .i64 A, .int .i64 R, .int .i64 n, .int .i64 d] 24 := by exact blkAny2
  have b2 : SegP w55 s1 p1 q1 := by exact segPAny
  have b3 : Blk w55 w16.heap.size #[.int .i64 K0, .slice p1 len1 c1, .int .i64 A, .int .i64 R, .int .i64 n, .int .i64 d, .slice q1 m1 v1, .int .i64 E] 27 := by exact blkAny2
  have b4 : SegP w55 s2 p2 q2 := by exact segPAny
  have b5 : Blk w55 w19.heap.size #[.int .i64 4, .slice p2 len2 c2, .int .i64 0, .int .i64 0, .int .i64 0, .int .i64 0, .slice q2 m2 v2, .int .i64 E] 27 := by exact blkAny2
  have b6 : SegP w55 s1 p3 q3 := by exact segPAny
  have b7 : Blk w55 w23.heap.size #[.int .i64 K0, .slice p3 len1 c3, .int .i64 A, .int .i64 R, .int .i64 n, .int .i64 d, .slice q3 m1 v3, .int .i64 E] 27 := by exact blkAny2
  have b8 : SegP w55 s2 (some ⟨j4, o4, none⟩) (some ⟨g4, r4, none⟩) := by exact segPAny
  have b9 : WrP w55 j4 o4 z4 := by exact wrAny
  have b10 : WrP w55 g4 r4 y4 := by exact wrAny
  have b11 : Blk w55 w28.heap.size #[.int .i64 4, .slice (some ⟨j4, o4, none⟩) len2 c4, .int .i64 0, .int .i64 0, .int .i64 0, .int .i64 0, .slice (some ⟨g4, r4, none⟩) m2 v4, .int .i64 E] 27 := by exact blkAny2
  have hW : Below w.heap.size w w55 := by exact belowAny
  have z57 := b1.lt
  have z58 := b3.lt
  have z59 := b5.lt
  have z60 := b7.lt
  have z61 := b11.lt
  clear hb55
  have k1 := b1.cell
  have f1 := b1.frozen
  have k3 := b3.cell
  have f3 := b3.frozen
  have k5 := b5.cell
  have f5 := b5.frozen
  have k7 := b7.cell
  have f7 := b7.frozen
  have k11 := b11.cell
  have f11 := b11.frozen
  go_upto_region 21 with (fail)
  clear k1 f1 k3 f3 k5 f5 k7 f7 k11 f11
  refine wp_facts (fun W' => Below w.heap.size w W' ∧ Blk W' w19.heap.size #[.int .i64 4, .slice p2 len2 c2, .int .i64 0, .int .i64 0, .int .i64 0, .int .i64 0, .slice q2 m2 v2, .int .i64 E] 27 ∧ Blk W' w28.heap.size #[.int .i64 4, .slice (some ⟨j4, o4, none⟩) len2 c4, .int .i64 0, .int .i64 0, .int .i64 0, .int .i64 0, .slice (some ⟨g4, r4, none⟩) m2 v4, .int .i64 E] 27 ∧ SegP W' s2 p2 q2 ∧ WrP W' j4 o4 z4 ∧ WrP W' g4 r4 y4) ⟨by exact belowAny, by exact blkAny2, by exact blkAny2, by exact segPAny, by exact wrAny, by exact wrAny⟩ ?_
  clear b1 b2 b3 b4 b5 b6 b7 b8 b9 b10 b11 hW
  rintro W62 ⟨hW, b1, b2, b3, b4, b5⟩
  have z63 := hW.size
  have z64 := b1.lt
  have z65 := b2.lt
  have k1 := b1.cell
  have f1 := b1.frozen
  have k2 := b2.cell
  have f2 := b2.frozen
  have kq := b5.cell
  have fq := b5.frozen
  have n21 := Lib.hid (fun a h => by have := hn2.out a h; omega : ∀ a, p2 = some a → a.block ≠ g4)
  have n22 := Lib.hid (fun a h => by have := hn3.out a h; omega : ∀ a, q2 = some a → a.block ≠ g4)
  have n31 := Lib.hid (fun a h => by have := hn2.out a h; omega : ∀ a, p2 = some a → a.block ≠ j4)
  have n32 := Lib.hid (fun a h => by have := hn3.out a h; omega : ∀ a, q2 = some a → a.block ≠ j4)
  clear hn2 hn3
  go_upto_region 22 with (fail)
  clear kq fq
  clear k1 f1 k2 f2
  refine wp_facts (fun W' => Below w.heap.size w W' ∧ Blk W' w19.heap.size #[.int .i64 4, .slice p2 len2 c2, .int .i64 0, .int .i64 0, .int .i64 0, .int .i64 0, .slice q2 m2 v2, .int .i64 E] 27 ∧ Blk W' w28.heap.size #[.int .i64 4, .slice (some ⟨j4, o4, none⟩) len2 c4, .int .i64 0, .int .i64 0, .int .i64 0, .int .i64 0, .slice (some ⟨g4, r4, none⟩) m2 v4, .int .i64 E] 27 ∧ SegP W' s2 p2 q2 ∧ WrP W' j4 o4 z4) ⟨by exact belowAny, by exact blkAny2, by exact blkAny2, by exact segSetM, by exact wrAny⟩ ?_
  clear b1 b2 b3 b4 b5 hW
  rintro W66 ⟨hW, b1, b2, b3, b4⟩
  have z67 := hW.size
  have z68 := b1.lt
  have z69 := b2.lt
  have k1 := b1.cell
  have f1 := b1.frozen
  have k2 := b2.cell
  have f2 := b2.frozen
  have kq := b4.cell
  have fq := b4.frozen
  go_upto_region 23 with (fail)
  clear kq fq
  clear k1 f1 k2 f2
  refine wp_facts (fun W' => Below w.heap.size w W' ∧ Blk W' w19.heap.size #[.int .i64 4, .slice p2 len2 c2, .int .i64 0, .int .i64 0, .int .i64 0, .int .i64 0, .slice q2 m2 v2, .int .i64 E] 27 ∧ SegP W' s2 p2 q2) ⟨by exact belowAny, by exact blkAny2, by exact segSetM⟩ ?_
  clear b1 b2 b3 b4 hW
  rintro W70 ⟨hW, b1, b2⟩
  have z71 := hW.size
  have z72 := b1.lt
  have h14 := H_h14.out
  have h15 := H_h15.out
  refine wp_facts (fun W' => Below w.heap.size w W' ∧ Blk W' w19.heap.size #[.int .i64 4, .slice p2 len2 c2, .int .i64 0, .int .i64 0, .int .i64 0, .int .i64 0, .slice q2 m2 v2, .int .i64 E] 27 ∧ SegP W' s2 p2 q2) ⟨by exact belowAny, by exact blkAny2, by exact b2⟩ ?_
  clear b1 b2 hW
  rintro W73 ⟨hW, b1, b2⟩
  have z74 := hW.size
  have z75 := b1.lt
  refine wp_region_nd 8 116 [] (fun W' => Rex [] W73 W' ∧ Blk W' w19.heap.size #[.int .i64 4, .slice p2 len2 c2, .int .i64 0, .int .i64 0, .int .i64 0, .int .i64 0, .slice q2 m2 v2, .int .i64 E] 27 ∧ SegP W' s2 p2 q2) mixed (by kernel_rfl) rfl ⟨(Rex.refl _ _).drew, b1, b2.drew⟩ (fun w w' ⟨h0, h1, h2⟩ hr => ⟨h0.trans hr, h1.rex hr (by simp <;> omega), h2.rex hr (by simp <;> omega)⟩) (fun c a d v w h => by cases d <;> exact h) ?_
  iterate 5
    apply nd_det (hg := rfl) (hal := rfl)
    · intro a W' hC hE
      obtain ⟨_, k1, k2⟩ := hC
      have k1 := k1.cell
      first
        | (simp [Oper.looksAt, Op.operands, Call.operands, envOf, Det] at hE; simp [go_sem, Act.eval, IntWalk.i64_left, hE, k1, k2]; try rfl)
        | (clear hE; simp [go_sem, Act.eval, IntWalk.i64_left, k1, k2]; try rfl)
  apply nd_call (OM s2 E len2 m2) (hg := rfl) (hal := rfl)
  · exact OM.closed _ _ _ _
  · intro a' W' hC hE
    obtain ⟨hR9, k1, _⟩ := hC
    have k1 := k1.cell
    simp [Oper.looksAt, Op.operands, Call.operands, envOf, Det] at hE
    refine ⟨_, _, ?_, (h14 W' (hW.trans (hR9.of_priv hW.size))).mono ?_⟩
    · simp [go_sem, Act.eval, hE]
      try rfl
    · rintro e w' ⟨v, rfl, hB, hO⟩
      exact ⟨_, rfl, hB, hO⟩
  apply nd_call (Det (.bool true)) (hg := rfl) (hal := rfl)
  · exact closed_det _ _
  · intro a' W' hC hE
    simp [Oper.looksAt, Op.operands, Call.operands, envOf, Det] at hE
    obtain ⟨p9, q9, c9, v9, e9, h9⟩ := hE.2
    refine ⟨_, _, ?_, (h15 W' p2 q2 c2 v2 p9 q9 c9 v9 hC.2.2.seg h9).mono ?_⟩
    · simp [go_sem, Act.eval, hE.1, e9]
      try rfl
    · rintro e w' ⟨rfl, hB⟩
      exact ⟨_, rfl, hB, rfl⟩
  iterate 1
    apply nd_det (hg := rfl) (hal := rfl)
    · intro a W' hC hE
      obtain ⟨_, k1, k2⟩ := hC
      have k1 := k1.cell
      first
        | (simp [Oper.looksAt, Op.operands, Call.operands, envOf, Det] at hE; simp [go_sem, Act.eval, IntWalk.i64_left, hE, k1, k2]; try rfl)
        | (clear hE; simp [go_sem, Act.eval, IntWalk.i64_left, k1, k2]; try rfl)
  rintro W76 ⟨hR, d1, d2⟩
  simp only [ndFinR, Det, forall_eq]
  intros
  repeat (rename GDet _ _ _ _ => hgd; clear hgd)
  simp only [Act.put, List.setIfInBounds_toArray, List.set_cons_zero, List.set_cons_succ]
  refine wpList_nil ?_
  replace hW := hW.trans (hR.of_priv hW.size)
  clear hR
  try clear b1 b2
  have b1 := d1
  clear d1
  have b2 := d2
  clear d2
  clear h14
  clear h15
  go_wp2
  have y_1 := b1.lt
  refine bodyPost_ret (v := .bool true) (by simp [results, Tryz.results4, go_sem, y_1]) rfl ⟨rfl, hW⟩
end Go.Proofs.YtgblmlefmohgnaaGreat
