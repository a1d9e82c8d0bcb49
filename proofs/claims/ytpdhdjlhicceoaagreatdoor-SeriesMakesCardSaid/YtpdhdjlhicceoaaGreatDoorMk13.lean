/- Parts of the proof that follows: References 14, 24: which segments may be a row, and which series may be. No condition. | slices.Equal, of runs and of numbers; the segment's Same, and the document's. | The document's segments: Same. | References 13, 24: a series that lies twice is the same as itself. No condition. | SeriesMakes walked. No condition. -/
import Derived.Test.YtpdhdjlhicceoaaGreatDoorMk12
set_option linter.unusedSimpArgs false
set_option linter.unusedVariables false
namespace Go.Proofs.YtpdhdjlhicceoaaGreatDoor
open Go.RowKit
/-- Cells that lie in a row. -/
structure CellsP (w : World) (b o : Nat) (cs : Array Value) : Prop where
  at' : ∀ (j : Nat) (v : Value), cs[j]? = some v → w.cell? ⟨b, o + j, none⟩ = some v
theorem CellsP.below {w w' : World} {b o : Nat} {cs : Array Value} (h : CellsP w b o cs) (hb : Below w.heap.size w w') : CellsP w' b o cs := ⟨fun j v hv => by
  have h1 := h.at' j v hv
  exact ((bcell hb).1 b _ (cell_lt h1)).trans h1⟩
theorem CellsP.rex {L : List Nat} {w w' : World} {b o : Nat} {cs : Array Value} (h : CellsP w b o cs) (hr : Rex L w w') (hL : L = []) : CellsP w' b o cs := by subst hL; exact h.below hr.below
theorem CellsP.drew {w : World} {b o : Nat} {cs : Array Value} (h : CellsP w b o cs) : CellsP w.drew b o cs := ⟨h.at'⟩
def r14Rel (w : World) (p : Option Addr) (cap : Nat) (l : List SegT) (a' : Act) (W : World) : Prop :=
  Below w.heap.size w W ∧ ∃ i : Nat, (∃ u : Nat → Value, a' = { tmps := #[.slice p l.length cap, u 1, u 2, u 3, u 4, .slice p l.length cap, .int .i64 (l.length : Int), .int .i64 (i : Int), u 8, u 9, u 10, u 11, u 12, u 13, u 14, u 15, u 16, u 17, u 18, u 19, u 20, u 21, u 22, u 23, u 24, u 25, u 26, u 27, u 28, u 29], defers := [] }) ∧ rowB (-1) (l.take i) = true ∧ i ≤ l.length
def r24aRel (w : World) (s : SerT) (ps : Option Addr) (cs : Nat) (po : Option Addr) (co : Nat) (a' : Act) (W : World) : Prop :=
  Below w.heap.size w W ∧ Blk W w.heap.size #[.string s.name, .int .i64 s.eps, .int .i64 s.floor, .int .i64 s.last, .int .i64 s.scale, .slice ps s.segs.length cs, .slice po s.opn.length co] 26 ∧ ∃ i : Nat, (∃ u : Nat → Value, a' = { tmps := #[u 0, .pointer (some ⟨w.heap.size, 0, none⟩), u 2, u 3, u 4, u 5, u 6, u 7, u 8, u 9, u 10, u 11, u 12, u 13, u 14, u 15, u 16, u 17, u 18, u 19, u 20, u 21, u 22, u 23, u 24, u 25, u 26, u 27, u 28, u 29, u 30, u 31, u 32, u 33, u 34, u 35, u 36, u 37, u 38, u 39, u 40, u 41, u 42, u 43, u 44, u 45, u 46, u 47, u 48, u 49, u 50, u 51, .slice ps s.segs.length cs, .int .i64 (s.segs.length : Int), .int .i64 (i : Int), u 55, u 56, u 57, u 58, u 59, u 60, u 61, u 62, u 63, u 64, u 65, u 66, u 67, u 68, u 69, u 70, u 71, u 72, u 73, u 74, u 75, u 76, u 77, u 78, u 79, u 80, u 81, u 82, u 83, u 84, u 85, u 86, u 87, u 88, u 89, u 90, u 91, u 92, u 93, u 94, u 95, u 96, u 97, u 98, u 99, u 100, u 101, u 102, u 103, u 104, u 105, u 106, u 107, u 108, u 109, u 110, u 111, u 112, u 113, u 114, u 115, u 116, u 117, u 118, u 119, u 120, u 121, u 122, u 123, u 124, u 125, u 126, u 127, u 128, u 129], defers := [] }) ∧ (s.segs.take i).all (inSegB s.eps s.floor) = true ∧ i ≤ s.segs.length
def r24bRel (w : World) (s : SerT) (ps : Option Addr) (cs : Nat) (po : Option Addr) (co : Nat) (a' : Act) (W : World) : Prop :=
  Below w.heap.size w W ∧ Blk W w.heap.size #[.string s.name, .int .i64 s.eps, .int .i64 s.floor, .int .i64 s.last, .int .i64 s.scale, .slice ps s.segs.length cs, .slice po s.opn.length co] 26 ∧ ∃ i : Nat, (∃ u : Nat → Value, a' = { tmps := #[u 0, .pointer (some ⟨w.heap.size, 0, none⟩), u 2, u 3, u 4, u 5, u 6, u 7, u 8, u 9, u 10, u 11, u 12, u 13, u 14, u 15, u 16, u 17, u 18, u 19, u 20, u 21, u 22, u 23, u 24, u 25, u 26, u 27, u 28, u 29, u 30, u 31, u 32, u 33, u 34, u 35, u 36, u 37, u 38, u 39, u 40, u 41, u 42, u 43, u 44, u 45, u 46, u 47, u 48, u 49, u 50, u 51, u 52, u 53, u 54, u 55, u 56, u 57, u 58, u 59, u 60, u 61, u 62, u 63, u 64, u 65, u 66, u 67, u 68, u 69, u 70, u 71, .slice po s.opn.length co, .int .i64 (s.opn.length : Int), .int .i64 (i : Int), u 75, u 76, u 77, u 78, u 79, u 80, u 81, u 82, u 83, u 84, u 85, u 86, u 87, u 88, u 89, u 90, u 91, u 92, u 93, u 94, u 95, u 96, u 97, u 98, u 99, u 100, u 101, u 102, u 103, u 104, u 105, u 106, u 107, u 108, u 109, u 110, u 111, u 112, u 113, u 114, u 115, u 116, u 117, u 118, u 119, u 120, u 121, u 122, u 123, u 124, u 125, u 126, u 127, u 128, u 129], defers := [] }) ∧ (s.opn.take i).all (inOpnB s.floor) = true ∧ i ≤ s.opn.length
def r24cRel (w : World) (s : SerT) (ps : Option Addr) (cs : Nat) (po : Option Addr) (co : Nat) (T : List Int) (p : Option Addr) (c : Nat) (a' : Act) (W : World) : Prop :=
  Below w.heap.size w W ∧ Blk W w.heap.size #[.string s.name, .int .i64 s.eps, .int .i64 s.floor, .int .i64 s.last, .int .i64 s.scale, .slice ps s.segs.length cs, .slice po s.opn.length co] 26 ∧ IntsIn W p T ∧ ∃ i : Nat, (∃ u : Nat → Value, a' = { tmps := #[u 0, .pointer (some ⟨w.heap.size, 0, none⟩), u 2, u 3, u 4, u 5, u 6, .slice p T.length c, u 8, u 9, u 10, u 11, u 12, u 13, u 14, u 15, u 16, u 17, u 18, u 19, u 20, u 21, u 22, u 23, u 24, u 25, u 26, u 27, u 28, u 29, u 30, u 31, u 32, u 33, u 34, u 35, u 36, u 37, u 38, u 39, u 40, u 41, u 42, u 43, u 44, u 45, u 46, u 47, u 48, u 49, u 50, u 51, u 52, u 53, u 54, u 55, u 56, u 57, u 58, u 59, u 60, u 61, u 62, u 63, u 64, u 65, u 66, u 67, u 68, u 69, u 70, u 71, u 72, u 73, u 74, u 75, u 76, u 77, u 78, u 79, u 80, u 81, u 82, u 83, u 84, u 85, u 86, u 87, u 88, u 89, u 90, u 91, .int .i64 (T.length : Int), .int .i64 (i : Int), u 94, u 95, u 96, u 97, u 98, u 99, u 100, u 101, u 102, u 103, u 104, u 105, u 106, u 107, u 108, u 109, u 110, u 111, u 112, u 113, u 114, u 115, u 116, u 117, u 118, u 119, u 120, u 121, u 122, u 123, u 124, u 125, u 126, u 127, u 128, u 129], defers := [] }) ∧ riseB (-1) (T.take i) = true ∧ i ≤ T.length ∧ (i = T.length → (decide (lastOr (-1) T < 0) || (s.last == lastOr (-1) T)) = true)
end Go.Proofs.YtpdhdjlhicceoaaGreatDoor
namespace Go.Proofs.YtpdhdjlhicceoaaGreatDoor
open Go.RowKit
def eqRunRel (w : World) (p : Option Addr) (cap : Nat) (p' : Option Addr) (cap' : Nat) (A B : List RunT) (a' : Act) (W : World) : Prop :=
  Below w.heap.size w W ∧ ∃ (i : Nat), (∃ u : Nat → Value, a' = { tmps := #[.slice p A.length cap, .slice p' A.length cap', u 2, u 3, .bool false, u 5, u 6, u 7, u 8, u 9, u 10, u 11, .int .i64 (A.length : Int), .int .i64 (i : Int), u 14, u 15, u 16, u 17, u 18, u 19, u 20, u 21, u 22, u 23, u 24, u 25], defers := [] }) ∧ i ≤ A.length ∧ ∀ k, k < i → A[k]? = B[k]?
def eqIntRel (w : World) (p : Option Addr) (cap : Nat) (p' : Option Addr) (cap' : Nat) (A B : List Int) (a' : Act) (W : World) : Prop :=
  Below w.heap.size w W ∧ ∃ (i : Nat), (∃ u : Nat → Value, a' = { tmps := #[.slice p A.length cap, .slice p' A.length cap', u 2, u 3, .bool false, u 5, u 6, u 7, u 8, u 9, u 10, u 11, .int .i64 (A.length : Int), .int .i64 (i : Int), u 14, u 15, u 16, u 17, u 18, u 19, u 20, u 21, u 22, u 23, u 24, u 25], defers := [] }) ∧ i ≤ A.length ∧ ∀ k, k < i → A[k]? = B[k]?
end Go.Proofs.YtpdhdjlhicceoaaGreatDoor
namespace Go.Proofs.YtpdhdjlhicceoaaGreatDoor
open Go.RowKit
theorem ite_n4 {a b c d e f g h : Int} {w : World} : ((if a = b then (if c = d then (if e = f then (if g = h then Result.ok (Go.Next.value (Value.bool false)) w else Result.ok (Go.Next.value (Value.bool true)) w) else Result.ok (Go.Next.value (Value.bool true)) w) else Result.ok (Go.Next.value (Value.bool true)) w) else Result.ok (Go.Next.value (Value.bool true)) w) : Result Go.Next) = Result.ok (Go.Next.value (Value.bool (!(decide (a = b) && decide (c = d) && decide (e = f) && decide (g = h))))) w := by
  by_cases h1 : a = b <;> by_cases h2 : c = d <;> by_cases h3 : e = f <;> by_cases h4 : g = h <;> simp [h1, h2, h3, h4]
set_option maxRecDepth 100000 in
set_option maxHeartbeats 8000000 in
theorem rsame_no (K A R n d E : Int) (p q : Option Addr) (len cap vc : Nat) (V : List Int) (w : World) (K' A' R' n' d' E' : Int) (p' q' : Option Addr) (len' cap' m' vc' : Nat) (r1 : Bool)
    (hF : Hid ((K != K' || (!decide (A = A') || !decide (R = R') || !decide (n = n') || !decide (d = d')) || E != E' || !r1 || (V.length : Int) != (m' : Int)) = true))
    (c1 : ∀ W, Below w.heap.size w W → Calls Tryz.prog 113 #[.slice p len cap, .slice p' len' cap'] W fun e w' => e = .returned (.bool r1) ∧ Below W.heap.size W w') :
    Calls Tryz.prog 83 #[.agg #[.int .i64 K, .slice p len cap, .int .i64 A, .int .i64 R, .int .i64 n, .int .i64 d, .slice q V.length vc, .int .i64 E], .agg #[.int .i64 K', .slice p' len' cap', .int .i64 A', .int .i64 R', .int .i64 n', .int .i64 d', .slice q' m' vc', .int .i64 E']] w fun e w' => e = .returned (.bool false) ∧ Below w.heap.size w w' := by
  have H_c1 := Lib.hid c1
  clear c1
  go_enter Tryz.func83, Tryz.ntmps83
  go_upto_region 1 with (fail)
  refine wp_cutB w (Bc w.heap.size #[.int .i64 K, .slice p len cap, .int .i64 A, .int .i64 R, .int .i64 n, .int .i64 d, .slice q V.length vc, .int .i64 E] 49 <| Bc (w.heap.size + 1) #[.int .i64 K', .slice p' len' cap', .int .i64 A', .int .i64 R', .int .i64 n', .int .i64 d', .slice q' m' vc', .int .i64 E'] 49 <| Bz) ?_
  rintro W1 hW z2 hL
  refine wp_regS 36 60 hW hL ?_
  iterate 6
    apply nd_det (hg := rfl) (hal := rfl)
    · intro a W' hC hE
      obtain ⟨_, ⟨-, -, k1, -⟩, ⟨-, -, k2, -⟩, -⟩ := hC
      first
        | (simp [Oper.looksAt, Op.operands, Call.operands, envOf, Det] at hE; simp [go_sem, Act.eval, IntWalk.i64_left, hE, k1, k2, ite_n4]; try rfl)
        | (clear hE; simp [go_sem, Act.eval, IntWalk.i64_left, k1, k2, ite_n4]; try rfl)
  iterate 5
    apply nd_detg (p := true) (hg := rfl) (hd := rfl) (hal := rfl)
    · intro v W' h
      simp [envOf, Det, GDet] at h
      simp
      exact h
    · intro hp hx a W' hC hE
      obtain ⟨_, ⟨-, -, k1, -⟩, ⟨-, -, k2, -⟩, -⟩ := hC
      simp [Oper.looksAt, Op.operands, Call.operands, envOf, Det, GDet, hx] at hE
      simp [go_sem, Act.eval, IntWalk.i64_left, hE, k1, k2, ite_n4]
      try rfl
  refine pO ?_
  iterate 1
    apply nd_det (hg := rfl) (hal := rfl)
    · intro a W' hC hE
      obtain ⟨_, ⟨-, -, k1, -⟩, ⟨-, -, k2, -⟩, -⟩ := hC
      first
        | (simp [Oper.looksAt, Op.operands, Call.operands, envOf, Det] at hE; simp [go_sem, Act.eval, IntWalk.i64_left, hE, k1, k2, ite_n4]; try rfl)
        | (clear hE; simp [go_sem, Act.eval, IntWalk.i64_left, k1, k2, ite_n4]; try rfl)
  iterate 5
    apply nd_detg (p := true) (hg := rfl) (hd := rfl) (hal := rfl)
    · intro v W' h
      simp [envOf, Det, GDet] at h
      simp
      exact h
    · intro hp hx a W' hC hE
      obtain ⟨_, ⟨-, -, k1, -⟩, ⟨-, -, k2, -⟩, -⟩ := hC
      simp [Oper.looksAt, Op.operands, Call.operands, envOf, Det, GDet, hx] at hE
      simp [go_sem, Act.eval, IntWalk.i64_left, hE, k1, k2, ite_n4]
      try rfl
  refine pO ?_
  iterate 1
    apply nd_det (hg := rfl) (hal := rfl)
    · intro a W' hC hE
      obtain ⟨_, ⟨-, -, k1, -⟩, ⟨-, -, k2, -⟩, -⟩ := hC
      first
        | (simp [Oper.looksAt, Op.operands, Call.operands, envOf, Det] at hE; simp [go_sem, Act.eval, IntWalk.i64_left, hE, k1, k2, ite_n4]; try rfl)
        | (clear hE; simp [go_sem, Act.eval, IntWalk.i64_left, k1, k2, ite_n4]; try rfl)
  iterate 4
    apply nd_detg (p := true) (hg := rfl) (hd := rfl) (hal := rfl)
    · intro v W' h
      simp [envOf, Det, GDet] at h
      simp
      exact h
    · intro hp hx a W' hC hE
      obtain ⟨_, ⟨-, -, k1, -⟩, ⟨-, -, k2, -⟩, -⟩ := hC
      simp [Oper.looksAt, Op.operands, Call.operands, envOf, Det, GDet, hx] at hE
      simp [go_sem, Act.eval, IntWalk.i64_left, hE, k1, k2, ite_n4]
      try rfl
  apply nd_callvg2 (p := true) (hg := rfl) (hd := rfl) (hal := rfl)
  · intro v W' h
    simp [envOf, Det] at h
    simp
    exact h
  · intro hp hx W' hC
    exact H_c1.out W' (hW.trans (hC.1.of_priv hW.size))
  · intro hp hx a W' hC hE
    obtain ⟨_, ⟨-, -, k1, -⟩, ⟨-, -, k2, -⟩, -⟩ := hC
    first
      | (simp [Oper.looksAt, Op.operands, Call.operands, envOf, Det, GDet, hx] at hE; simp [go_sem, Act.eval, IntWalk.i64_left, hE, k1, k2, ite_n4]; try rfl)
      | (clear hE; simp [go_sem, Act.eval, IntWalk.i64_left, k1, k2, ite_n4]; try rfl)
  iterate 1
    apply nd_detg (p := true) (hg := rfl) (hd := rfl) (hal := rfl)
    · intro v W' h
      simp [envOf, Det, GDet] at h
      simp
      exact h
    · intro hp hx a W' hC hE
      obtain ⟨_, ⟨-, -, k1, -⟩, ⟨-, -, k2, -⟩, -⟩ := hC
      simp [Oper.looksAt, Op.operands, Call.operands, envOf, Det, GDet, hx] at hE
      simp [go_sem, Act.eval, IntWalk.i64_left, hE, k1, k2, ite_n4]
      try rfl
  refine pO ?_
  iterate 1
    apply nd_det (hg := rfl) (hal := rfl)
    · intro a W' hC hE
      obtain ⟨_, ⟨-, -, k1, -⟩, ⟨-, -, k2, -⟩, -⟩ := hC
      first
        | (simp [Oper.looksAt, Op.operands, Call.operands, envOf, Det] at hE; simp [go_sem, Act.eval, IntWalk.i64_left, hE, k1, k2, ite_n4]; try rfl)
        | (clear hE; simp [go_sem, Act.eval, IntWalk.i64_left, k1, k2, ite_n4]; try rfl)
  iterate 7
    apply nd_detg (p := true) (hg := rfl) (hd := rfl) (hal := rfl)
    · intro v W' h
      simp [envOf, Det, GDet] at h
      simp
      exact h
    · intro hp hx a W' hC hE
      obtain ⟨_, ⟨-, -, k1, -⟩, ⟨-, -, k2, -⟩, -⟩ := hC
      simp [Oper.looksAt, Op.operands, Call.operands, envOf, Det, GDet, hx] at hE
      simp [go_sem, Act.eval, IntWalk.i64_left, hE, k1, k2, ite_n4]
      try rfl
  refine pO ?_
  clear hW hL
  rintro W3 hW z4 hL
  simp only [ndR]
  intros
  repeat (rename GDet _ _ _ _ => hgd; clear hgd)
  simp only [ndS]
  refine wpList_nil ?_
  obtain ⟨⟨b1, yb1, k1, f1⟩, ⟨b2, yb2, k2, f2⟩, -⟩ := hL
  have z51 := hW.size
  have z52 := b1.lt
  have z53 := b2.lt
  rw [hF.out]
  go_wp2
  refine bodyPost_ret (v := .bool false) (by simp [results, Tryz.results83, go_sem, k1, f1, k2, f2, yb1, yb2]) rfl ⟨rfl, hW⟩
def rsRel (w : World) (K A R n d E : Int) (p q : Option Addr) (len cap vc : Nat) (K' A' R' n' d' E' : Int) (p' q' : Option Addr) (len' cap' vc' : Nat) (V V' : List Int) (a' : Act) (W : World) : Prop :=
  Below w.heap.size w W ∧ Blk W w.heap.size #[.int .i64 K, .slice p len cap, .int .i64 A, .int .i64 R, .int .i64 n, .int .i64 d, .slice q V.length vc, .int .i64 E] 49 ∧ Blk W (w.heap.size + 1) #[.int .i64 K', .slice p' len' cap', .int .i64 A', .int .i64 R', .int .i64 n', .int .i64 d', .slice q' V.length vc', .int .i64 E'] 49 ∧ ∃ (i : Nat), (∃ u : Nat → Value, a' = { tmps := #[u 0, u 1, .pointer (some ⟨w.heap.size, 0, none⟩), .pointer (some ⟨w.heap.size + 1, 0, none⟩), .bool false, .int .i64 (i : Int), u 6, u 7, u 8, u 9, u 10, u 11, u 12, u 13, u 14, u 15, u 16, u 17, u 18, u 19, u 20, u 21, u 22, u 23, u 24, u 25, u 26, u 27, u 28, u 29, u 30, u 31, u 32, u 33, u 34, u 35, u 36, u 37, u 38, u 39, u 40, u 41, u 42, u 43, u 44, u 45, u 46, u 47, u 48, u 49, u 50, u 51, u 52, u 53, u 54, u 55, u 56, u 57, u 58, u 59], defers := [] }) ∧ i ≤ V.length ∧ ∀ k, k < i → V[k]? = V'[k]?
set_option maxRecDepth 100000 in
set_option maxHeartbeats 8000000 in
theorem rsame_yes (K A R n d E : Int) (p q : Option Addr) (len cap vc : Nat) (V V' : List Int) (w : World) (K' A' R' n' d' E' : Int) (p' q' : Option Addr) (len' cap' vc' : Nat) (r1 : Bool) (hl : V.length = V'.length) (hlen : V.length ≤ 1000000) (hA0 : IntsIn w q V) (hB0 : IntsIn w q' V')
    (hF : Hid ((K != K' || (!decide (A = A') || !decide (R = R') || !decide (n = n') || !decide (d = d')) || E != E' || !r1 || false) = false))
    (c1 : ∀ W, Below w.heap.size w W → Calls Tryz.prog 113 #[.slice p len cap, .slice p' len' cap'] W fun e w' => e = .returned (.bool r1) ∧ Below W.heap.size W w') :
    Calls Tryz.prog 83 #[.agg #[.int .i64 K, .slice p len cap, .int .i64 A, .int .i64 R, .int .i64 n, .int .i64 d, .slice q V.length vc, .int .i64 E], .agg #[.int .i64 K', .slice p' len' cap', .int .i64 A', .int .i64 R', .int .i64 n', .int .i64 d', .slice q' V.length vc', .int .i64 E']] w fun e w' => e = .returned (.bool (decide (V = V'))) ∧ Below w.heap.size w w' := by
  replace hl := Lib.hid hl
  have H_c1 := Lib.hid c1
  clear c1
  go_enter Tryz.func83, Tryz.ntmps83
  go_upto_region 1 with (fail)
  refine wp_cutB w (Bc w.heap.size #[.int .i64 K, .slice p len cap, .int .i64 A, .int .i64 R, .int .i64 n, .int .i64 d, .slice q V.length vc, .int .i64 E] 49 <| Bc (w.heap.size + 1) #[.int .i64 K', .slice p' len' cap', .int .i64 A', .int .i64 R', .int .i64 n', .int .i64 d', .slice q' V.length vc', .int .i64 E'] 49 <| Bz) ?_
  rintro W1 hW z2 hL
  refine wp_regS 36 60 hW hL ?_
  iterate 6
    apply nd_det (hg := rfl) (hal := rfl)
    · intro a W' hC hE
      obtain ⟨_, ⟨-, -, k1, -⟩, ⟨-, -, k2, -⟩, -⟩ := hC
      first
        | (simp [Oper.looksAt, Op.operands, Call.operands, envOf, Det] at hE; simp [go_sem, Act.eval, IntWalk.i64_left, hE, k1, k2, ite_n4]; try rfl)
        | (clear hE; simp [go_sem, Act.eval, IntWalk.i64_left, k1, k2, ite_n4]; try rfl)
  iterate 5
    apply nd_detg (p := true) (hg := rfl) (hd := rfl) (hal := rfl)
    · intro v W' h
      simp [envOf, Det, GDet] at h
      simp
      exact h
    · intro hp hx a W' hC hE
      obtain ⟨_, ⟨-, -, k1, -⟩, ⟨-, -, k2, -⟩, -⟩ := hC
      simp [Oper.looksAt, Op.operands, Call.operands, envOf, Det, GDet, hx] at hE
      simp [go_sem, Act.eval, IntWalk.i64_left, hE, k1, k2, ite_n4]
      try rfl
  refine pO ?_
  iterate 1
    apply nd_det (hg := rfl) (hal := rfl)
    · intro a W' hC hE
      obtain ⟨_, ⟨-, -, k1, -⟩, ⟨-, -, k2, -⟩, -⟩ := hC
      first
        | (simp [Oper.looksAt, Op.operands, Call.operands, envOf, Det] at hE; simp [go_sem, Act.eval, IntWalk.i64_left, hE, k1, k2, ite_n4]; try rfl)
        | (clear hE; simp [go_sem, Act.eval, IntWalk.i64_left, k1, k2, ite_n4]; try rfl)
  iterate 5
    apply nd_detg (p := true) (hg := rfl) (hd := rfl) (hal := rfl)
    · intro v W' h
      simp [envOf, Det, GDet] at h
      simp
      exact h
    · intro hp hx a W' hC hE
      obtain ⟨_, ⟨-, -, k1, -⟩, ⟨-, -, k2, -⟩, -⟩ := hC
      simp [Oper.looksAt, Op.operands, Call.operands, envOf, Det, GDet, hx] at hE
      simp [go_sem, Act.eval, IntWalk.i64_left, hE, k1, k2, ite_n4]
      try rfl
  refine pO ?_
  iterate 1
    apply nd_det (hg := rfl) (hal := rfl)
    · intro a W' hC hE
      obtain ⟨_, ⟨-, -, k1, -⟩, ⟨-, -, k2, -⟩, -⟩ := hC
      first
        | (simp [Oper.looksAt, Op.operands, Call.operands, envOf, Det] at hE; simp [go_sem, Act.eval, IntWalk.i64_left, hE, k1, k2, ite_n4]; try rfl)
        | (clear hE; simp [go_sem, Act.eval, IntWalk.i64_left, k1, k2, ite_n4]; try rfl)
  iterate 4
    apply nd_detg (p := true) (hg := rfl) (hd := rfl) (hal := rfl)
    · intro v W' h
      simp [envOf, Det, GDet] at h
      simp
      exact h
    · intro hp hx a W' hC hE
      obtain ⟨_, ⟨-, -, k1, -⟩, ⟨-, -, k2, -⟩, -⟩ := hC
      simp [Oper.looksAt, Op.operands, Call.operands, envOf, Det, GDet, hx] at hE
      simp [go_sem, Act.eval, IntWalk.i64_left, hE, k1, k2, ite_n4]
      try rfl
  apply nd_callvg2 (p := true) (hg := rfl) (hd := rfl) (hal := rfl)
  · intro v W' h
    simp [envOf, Det] at h
    simp
    exact h
  · intro hp hx W' hC
    exact H_c1.out W' (hW.trans (hC.1.of_priv hW.size))
  · intro hp hx a W' hC hE
    obtain ⟨_, ⟨-, -, k1, -⟩, ⟨-, -, k2, -⟩, -⟩ := hC
    first
      | (simp [Oper.looksAt, Op.operands, Call.operands, envOf, Det, GDet, hx] at hE; simp [go_sem, Act.eval, IntWalk.i64_left, hE, k1, k2, ite_n4]; try rfl)
      | (clear hE; simp [go_sem, Act.eval, IntWalk.i64_left, k1, k2, ite_n4]; try rfl)
  iterate 1
    apply nd_detg (p := true) (hg := rfl) (hd := rfl) (hal := rfl)
    · intro v W' h
      simp [envOf, Det, GDet] at h
      simp
      exact h
    · intro hp hx a W' hC hE
      obtain ⟨_, ⟨-, -, k1, -⟩, ⟨-, -, k2, -⟩, -⟩ := hC
      simp [Oper.looksAt, Op.operands, Call.operands, envOf, Det, GDet, hx] at hE
      simp [go_sem, Act.eval, IntWalk.i64_left, hE, k1, k2, ite_n4]
      try rfl
  refine pO ?_
  iterate 1
    apply nd_det (hg := rfl) (hal := rfl)
    · intro a W' hC hE
      obtain ⟨_, ⟨-, -, k1, -⟩, ⟨-, -, k2, -⟩, -⟩ := hC
      first
        | (simp [Oper.looksAt, Op.operands, Call.operands, envOf, Det] at hE; simp [go_sem, Act.eval, IntWalk.i64_left, hE, k1, k2, ite_n4]; try rfl)
        | (clear hE; simp [go_sem, Act.eval, IntWalk.i64_left, k1, k2, ite_n4]; try rfl)
  iterate 7
    apply nd_detg (p := true) (hg := rfl) (hd := rfl) (hal := rfl)
    · intro v W' h
      simp [envOf, Det, GDet] at h
      simp
      exact h
    · intro hp hx a W' hC hE
      obtain ⟨_, ⟨-, -, k1, -⟩, ⟨-, -, k2, -⟩, -⟩ := hC
      simp [Oper.looksAt, Op.operands, Call.operands, envOf, Det, GDet, hx] at hE
      simp [go_sem, Act.eval, IntWalk.i64_left, hE, k1, k2, ite_n4]
      try rfl
  refine pO ?_
  clear hW hL
  rintro W3 hW z4 hL
  simp only [ndR]
  intros
  repeat (rename GDet _ _ _ _ => hgd; clear hgd)
  simp only [ndS]
  refine wpList_nil ?_
  obtain ⟨⟨b1, yb1, k1, f1⟩, ⟨b2, yb2, k2, f2⟩, -⟩ := hL
  have z51 := hW.size
  have z52 := b1.lt
  have z53 := b2.lt
  rw [hF.out]
  go_wp2
  refine wp_loop (rsRel w K A R n d E p q len cap vc K' A' R' n' d' E' p' q' len' cap' vc' V V') (fun a' _ => V.length - (intAt (a'.tmps.getD 5 undef)).toNat) ?_ ?_
  · unfold rsRel
    exact ⟨hW, b1, b2, 0, frame_ex rfl, by omega, fun k hk => by omega⟩
  · clear b1 b2 hW k1 f1 k2 f2
    rintro a' W ⟨hW0, b1, b2, i, ⟨u, rfl⟩, hi', hall⟩
    have hz := hW0.size
    have z61 := b1.lt
    have z62 := b2.lt
    replace hall := Lib.hid hall
    rcases Nat.lt_or_ge i V.length with hlt | hge
    · obtain ⟨r, tr⟩ : ∃ r, V[i]? = some r := ⟨V[i]'(by omega), List.getElem?_eq_getElem (by omega)⟩
      obtain ⟨t, tq⟩ : ∃ q, V'[i]? = some q := ⟨V'[i]'(by have := hl.out; omega), List.getElem?_eq_getElem (by have := hl.out; omega)⟩
      obtain ⟨b, o, rfl, -⟩ := hA0.at' i r tr
      obtain ⟨b', o', rfl, -⟩ := hB0.at' i t tq
      have hA : IntsP W b o V := ⟨hA0.below hW0⟩
      have hB : IntsP W b' o' V' := ⟨hB0.below hW0⟩
      replace tr := Lib.hid tr
      replace tq := Lib.hid tq
      have l1 := hlt
      have l2 : i < V'.length := by have := hl.out; omega
      have k1 := b1.cell
      have f1 := b1.frozen
      have k2 := b2.cell
      have f2 := b2.frozen
      go_upto_region 6 with (fail)
      clear k1 f1 k2 f2
      refine wp_cutB W (Bc w.heap.size #[.int .i64 K, .slice p len cap, .int .i64 A, .int .i64 R, .int .i64 n, .int .i64 d, .slice (some ⟨b, o, none⟩) V.length vc, .int .i64 E] 49 <| Bc (w.heap.size + 1) #[.int .i64 K', .slice p' len' cap', .int .i64 A', .int .i64 R', .int .i64 n', .int .i64 d', .slice (some ⟨b', o', none⟩) V.length vc', .int .i64 E'] 49 <| Rc (fun W' => IntsP W' b o V) <| Rc (fun W' => IntsP W' b' o' V') <| Bz) ?_ (hI := by exact belowAny) (hR := (Bc.mk (by exact blkAny2) <| Bc.mk (by exact blkAny2) <| Rc.mk (by exact hA.below belowAny) <| Rc.mk (by exact hB.below belowAny) <| trivial))
      clear b1 b2
      rintro W61 hW z62 hL
      obtain ⟨⟨b1, yb1, k1, f1⟩, ⟨b2, yb2, k2, f2⟩, b3, b4, -⟩ := id hL
      clear k1 f1 k2 f2
      refine wp_regQ 11 60 hW hL ?_
      iterate 11 refine dE (fun W' hC => aI (hC.2.2.2.1.cellAt tr.out) (aI (hC.2.2.2.2.1.cellAt tq.out) (aI l1 l2))) ?_
      clear hW hL b1 b2 b3 b4
      rintro W63 hW z64 hL
      simp only [ndR]
      intros
      simp only [ndS]
      refine wpList_nil ?_
      obtain ⟨⟨b1, yb1, k1, f1⟩, ⟨b2, yb2, k2, f2⟩, b3, b4, -⟩ := hL
      by_cases hrq : r = t
      · have hall' := Lib.hid (show ∀ k, k < i + 1 → V[k]? = V'[k]? from fun k hk => by
          rcases Nat.lt_or_ge k i with h | h
          · exact hall.out k h
          · obtain rfl : k = i := by omega
            rw [tr.out, tq.out, hrq])
        rw [show (r != t) = false by subst hrq; simp]
        clear hrq
        go_wp2
        rw [show (i : Int) + 1 = ((i + 1 : Nat) : Int) by omega]
        refine ⟨?_, by simp [intAt]; omega⟩
        unfold rsRel
        exact ⟨hW0.trans (hW.mono hz), b1, b2, i + 1, frame_ex rfl, by omega, hall'.out⟩
      · have hne := Lib.hid (show decide (V = V') = false by
          rw [decide_eq_false_iff_not]
          rintro rfl
          rw [tr.out] at tq
          exact hrq (Option.some.inj tq.out))
        rw [show (r != t) = true by simp [hrq]]
        clear hrq
        go_wp2
        go_ret
        exact ⟨by rw [hne.out]; rfl, hW0.trans (hW.mono hz)⟩
    · obtain rfl : i = V.length := by omega
      have heq := Lib.hid (show decide (V = V') = true by
        rw [decide_eq_true_eq]
        apply List.ext_getElem?
        intro k
        rcases Nat.lt_or_ge k V.length with h | h
        · exact hall.out k h
        · rw [List.getElem?_eq_none h, List.getElem?_eq_none (by have := hl.out; omega)])
      have k1 := b1.cell
      have f1 := b1.frozen
      go_wp2
      go_ret
      exact ⟨by rw [heq.out]; rfl, hW0⟩
/-- Are two segments the same? -/
def sameT (s t : SegT) : Bool := (s.K == t.K) && (decide (s.A = t.A) && decide (s.R = t.R) && decide (s.n = t.n) && decide (s.d = t.d)) && (s.E == t.E) && decide (s.runs = t.runs) && decide (s.raw = t.raw)
theorem sameT_refl (s : SegT) : sameT s s = true := by simp [sameT]
theorem c_refSame (s t : SegT) (p q p' q' : Option Addr) (cap vc cap' vc' : Nat) (w : World) (h : SegIn w s p q) (h' : SegIn w t p' q') :
    Calls Tryz.prog 83 #[.agg (segA s p q cap vc), .agg (segA t p' q' cap' vc')] w fun e w' => e = .returned (.bool (sameT s t)) ∧ Below w.heap.size w w' := by
  have a := h.fewR; have b := h.fewV
  have c1 := fun (W : World) (hW : Below w.heap.size w W) => c_refsame p cap p' cap' s.runs t.runs W (by omega) (h.runs.below hW) (h'.runs.below hW)
  cases hF : (s.K != t.K || (!decide (s.A = t.A) || !decide (s.R = t.R) || !decide (s.n = t.n) || !decide (s.d = t.d)) || s.E != t.E || !decide (s.runs = t.runs) || (s.raw.length : Int) != (t.raw.length : Int)) with
  | true =>
    rw [show sameT s t = false by
      cases hs : sameT s t with
      | false => rfl
      | true =>
        unfold sameT at hs
        simp only [Bool.and_eq_true, decide_eq_true_eq, beq_iff_eq] at hs
        obtain ⟨⟨⟨⟨h1, ⟨⟨h2, h3⟩, h4⟩, h5⟩, h6⟩, h7⟩, h8⟩ := hs
        rw [h1, h2, h3, h4, h5, h6, h7, h8] at hF
        simp at hF]
    exact rsame_no _ _ _ _ _ _ p q _ cap vc s.raw w _ _ _ _ _ _ p' q' _ cap' _ vc' _ (Lib.hid hF) c1
  | false =>
    have hF' := hF
    simp only [Bool.or_eq_false_iff, Bool.not_eq_false', bne_eq_false_iff_eq, Bool.and_eq_true, decide_eq_true_eq] at hF
    obtain ⟨⟨⟨⟨h1, ⟨⟨h2, h3⟩, h4⟩, h5⟩, h6⟩, h7⟩, h8⟩ := hF
    have hl : s.raw.length = t.raw.length := by omega
    rw [← hl, show ((s.raw.length : Int) != (s.raw.length : Int)) = false by simp] at hF'
    rw [show sameT s t = decide (s.raw = t.raw) by simp [sameT, h1, h2, h3, h4, h5, h6, h7]]
    have := rsame_yes _ _ _ _ _ _ p q _ cap vc s.raw t.raw w _ _ _ _ _ _ p' q' _ cap' vc' _ hl (by omega) h.raw h'.raw (Lib.hid hF') c1
    unfold segA
    rw [← hl]
    exact this
end Go.Proofs.YtpdhdjlhicceoaaGreatDoor
namespace Go.Proofs.YtpdhdjlhicceoaaGreatDoor
open Go.RowKit
def s13Rel (w : World) (p p' : Option Addr) (cap cap' : Nat) (l : List SegT) (a' : Act) (W : World) : Prop :=
  Below w.heap.size w W ∧ ∃ i : Nat, (∃ u : Nat → Value, a' = { tmps := #[.slice p l.length cap, .slice p' l.length cap', u 2, u 3, u 4, .int .i64 (i : Int), u 6, u 7, u 8, u 9, u 10, u 11, u 12, u 13, u 14, u 15, u 16, u 17, u 18, u 19, u 20, u 21, u 22, u 23, u 24, u 25, u 26], defers := [] }) ∧ i ≤ l.length
set_option maxRecDepth 100000 in
set_option maxHeartbeats 2000000 in
theorem c_r13Same (l : List SegT) (p p' : Option Addr) (cap cap' : Nat) (w : World) (h : SegsIn w p l) (h' : SegsIn w p' l) (hl : l.length ≤ 100) :
    Calls Tryz.prog 42 #[.slice p l.length cap, .slice p' l.length cap'] w fun e w' => e = .returned (.bool true) ∧ Below w.heap.size w w' := by
  go_enter Tryz.func42, Tryz.ntmps42
  go_wp2
  refine wp_loop (s13Rel w p p' cap cap' l) (fun a' _ => l.length - (intAt (a'.tmps.getD 5 undef)).toNat) ?_ ?_
  · unfold s13Rel
    exact ⟨Below.refl _ _, 0, frame_ex rfl, by omega⟩
  rintro a' W ⟨hW0, i, ⟨u, rfl⟩, hi⟩
  have hz := hW0.size
  rcases Nat.lt_or_ge i l.length with hlt | hge
  · obtain ⟨x, tr⟩ : ∃ r, l[i]? = some r := ⟨l[i]'(by omega), List.getElem?_eq_getElem (by omega)⟩
    obtain ⟨b1, o1, p1, q1, cp1, vc1, rfl, h1, g1, -⟩ := (h.below hW0).at' i x tr
    obtain ⟨b2, o2, p2, q2, cp2, vc2, rfl, h2, g2, -⟩ := (h'.below hW0).at' i x tr
    have c1 := fun W' (hW' : Below W.heap.size W W') => c_refSame x x p1 q1 p2 q2 cp1 vc1 cp2 vc2 W' (g1.below hW') (g2.below hW')
    rw [sameT_refl] at c1
    unfold segA at c1 h1 h2
    replace c1 := Lib.hid c1
    clear tr g1 g2
    go_upto_region 6 with (fail)
    refine wp_cutB W (Rc (fun W' => CellsP W' b1 (o1 + i * 8) #[.int .i64 x.K, .slice p1 x.runs.length cp1, .int .i64 x.A, .int .i64 x.R, .int .i64 x.n, .int .i64 x.d, .slice q1 x.raw.length vc1, .int .i64 x.E]) <| Rc (fun W' => CellsP W' b2 (o2 + i * 8) #[.int .i64 x.K, .slice p2 x.runs.length cp2, .int .i64 x.A, .int .i64 x.R, .int .i64 x.n, .int .i64 x.d, .slice q2 x.raw.length vc2, .int .i64 x.E]) <| Bz) ?_ (hI := by exact belowAny) (hR := (Rc.mk (by first | exact ⟨h1⟩ | (exact (CellsP.mk h1).below belowAny)) <| Rc.mk (by first | exact ⟨h2⟩ | (exact (CellsP.mk h2).below belowAny)) <| trivial))
    rintro W21 hW z22 hL
    obtain ⟨b1, b2, -⟩ := id hL
    refine wp_regQ 10 27 hW hL ?_
    iterate 8 refine dE (fun W' hC => aI hlt (aI (Nat.not_le.2 hlt) (aI (hC.2.1.at' 0 _ rfl) (aI (hC.2.1.at' 1 _ rfl) (aI (hC.2.1.at' 2 _ rfl) (aI (hC.2.1.at' 3 _ rfl) (aI (hC.2.1.at' 4 _ rfl) (aI (hC.2.1.at' 5 _ rfl) (aI (hC.2.1.at' 6 _ rfl) (aI (hC.2.1.at' 7 _ rfl) (aI (hC.2.2.1.at' 0 _ rfl) (aI (hC.2.2.1.at' 1 _ rfl) (aI (hC.2.2.1.at' 2 _ rfl) (aI (hC.2.2.1.at' 3 _ rfl) (aI (hC.2.2.1.at' 4 _ rfl) (aI (hC.2.2.1.at' 5 _ rfl) (aI (hC.2.2.1.at' 6 _ rfl) (hC.2.2.1.at' 7 _ rfl)))))))))))))))))) ?_
    refine cE (fun W' hC => aI hlt (aI (Nat.not_le.2 hlt) (aI (hC.2.1.at' 0 _ rfl) (aI (hC.2.1.at' 1 _ rfl) (aI (hC.2.1.at' 2 _ rfl) (aI (hC.2.1.at' 3 _ rfl) (aI (hC.2.1.at' 4 _ rfl) (aI (hC.2.1.at' 5 _ rfl) (aI (hC.2.1.at' 6 _ rfl) (aI (hC.2.1.at' 7 _ rfl) (aI (hC.2.2.1.at' 0 _ rfl) (aI (hC.2.2.1.at' 1 _ rfl) (aI (hC.2.2.1.at' 2 _ rfl) (aI (hC.2.2.1.at' 3 _ rfl) (aI (hC.2.2.1.at' 4 _ rfl) (aI (hC.2.2.1.at' 5 _ rfl) (aI (hC.2.2.1.at' 6 _ rfl) (hC.2.2.1.at' 7 _ rfl)))))))))))))))))) (fun W' hC => c1.out W' (hW.trans (hC.1.of_priv hW.size))) ?_
    refine dE (fun W' hC => aI hlt (aI (Nat.not_le.2 hlt) (aI (hC.2.1.at' 0 _ rfl) (aI (hC.2.1.at' 1 _ rfl) (aI (hC.2.1.at' 2 _ rfl) (aI (hC.2.1.at' 3 _ rfl) (aI (hC.2.1.at' 4 _ rfl) (aI (hC.2.1.at' 5 _ rfl) (aI (hC.2.1.at' 6 _ rfl) (aI (hC.2.1.at' 7 _ rfl) (aI (hC.2.2.1.at' 0 _ rfl) (aI (hC.2.2.1.at' 1 _ rfl) (aI (hC.2.2.1.at' 2 _ rfl) (aI (hC.2.2.1.at' 3 _ rfl) (aI (hC.2.2.1.at' 4 _ rfl) (aI (hC.2.2.1.at' 5 _ rfl) (aI (hC.2.2.1.at' 6 _ rfl) (hC.2.2.1.at' 7 _ rfl)))))))))))))))))) ?_
    clear hW hL b1 b2
    rintro W23 hW z24 hL
    simp only [ndR]
    intros
    simp only [ndS]
    refine wpList_nil ?_
    obtain ⟨b1, b2, -⟩ := hL
    go_wp2
    rw [show (i : Int) + 1 = ((i + 1 : Nat) : Int) by omega]
    refine ⟨?_, by simp [intAt]; omega⟩
    unfold s13Rel
    exact ⟨hW0.trans (hW.mono hz), i + 1, frame_ex rfl, by omega⟩
  · obtain rfl : i = l.length := by omega
    go_wp2
    go_ret
    exact ⟨rfl, hW0⟩
def s24Rel (w : World) (s : SerT) (ps1 ps2 : Option Addr) (cs1 cs2 : Nat) (po1 po2 : Option Addr) (co1 co2 : Nat) (a' : Act) (W : World) : Prop :=
  Below w.heap.size w W ∧ Blk W w.heap.size #[.string s.name, .int .i64 s.eps, .int .i64 s.floor, .int .i64 s.last, .int .i64 s.scale, .slice ps1 s.segs.length cs1, .slice po1 s.opn.length co1] 26 ∧ Blk W (w.heap.size + 1) #[.string s.name, .int .i64 s.eps, .int .i64 s.floor, .int .i64 s.last, .int .i64 s.scale, .slice ps2 s.segs.length cs2, .slice po2 s.opn.length co2] 26 ∧ ∃ i : Nat, (∃ u : Nat → Value, a' = { tmps := #[u 0, u 1, .pointer (some ⟨w.heap.size, 0, none⟩), .pointer (some ⟨w.heap.size + 1, 0, none⟩), u 4, u 5, u 6, u 7, u 8, u 9, u 10, u 11, u 12, u 13, u 14, u 15, u 16, u 17, u 18, u 19, u 20, u 21, u 22, u 23, u 24, u 25, u 26, u 27, u 28, u 29, u 30, u 31, u 32, u 33, u 34, u 35, u 36, u 37, u 38, u 39, u 40, u 41, u 42, u 43, u 44, u 45, u 46, u 47, u 48, u 49, u 50, u 51, u 52, u 53, u 54, u 55, u 56, u 57, .int .i64 (s.opn.length : Int), .int .i64 (i : Int), u 60, u 61, u 62, u 63, u 64, u 65, u 66, u 67, u 68, u 69, u 70, u 71, u 72, u 73], defers := [] }) ∧ i ≤ s.opn.length
theorem cells_pt {w : World} {p : Option Addr} {l : List (Int × Int)} (h : PtsIn w p l) {i : Nat} {t y : Int} (hi : l[i]? = some (t, y)) : ∃ b o, p = some ⟨b, o, none⟩ ∧ CellsP w b (o + i * 2) #[.int .i64 t, .int .i64 y] := by
  obtain ⟨b, o, e, c0, c1⟩ := h.at' i _ hi
  refine ⟨b, o, e, ⟨fun j v hj => ?_⟩⟩
  match j, hj with
  | 0, hj =>
    obtain rfl : Value.int .i64 t = v := by simpa using hj
    exact c0
  | 1, hj =>
    obtain rfl : Value.int .i64 y = v := by simpa using hj
    exact c1
set_option maxRecDepth 100000 in
set_option maxHeartbeats 2000000 in
theorem c_r24Same (s : SerT) (ps1 ps2 : Option Addr) (cs1 cs2 : Nat) (po1 po2 : Option Addr) (co1 co2 : Nat) (w : World) (h : SerIn w s ps1 po1) (h' : SerIn w s ps2 po2) :
    Calls Tryz.prog 14 #[.agg (serA s ps1 cs1 po1 co1), .agg (serA s ps2 cs2 po2 co2)] w fun e w' => e = .returned (.bool true) ∧ Below w.heap.size w w' := by
  have c1 := Lib.hid (fun W (hW : Below w.heap.size w W) => c_r13Same s.segs ps1 ps2 cs1 cs2 W (h.below hW).segs (h'.below hW).segs h.fewS)
  have hfO := h.fewO
  unfold serA
  go_enter Tryz.func14, Tryz.ntmps14
  go_upto_region 1 with (fail)
  refine wp_cutB w (Bc w.heap.size #[.string s.name, .int .i64 s.eps, .int .i64 s.floor, .int .i64 s.last, .int .i64 s.scale, .slice ps1 s.segs.length cs1, .slice po1 s.opn.length co1] 26 <| Bc (w.heap.size + 1) #[.string s.name, .int .i64 s.eps, .int .i64 s.floor, .int .i64 s.last, .int .i64 s.scale, .slice ps2 s.segs.length cs2, .slice po2 s.opn.length co2] 26 <| Bz) ?_
  rintro W1 hW z2 hL
  refine wp_regS 50 74 hW hL ?_
  iterate 6 refine dA ?_
  iterate 5 refine gA ?_
  refine pO ?_
  refine dA ?_
  iterate 5 refine gA ?_
  refine pO ?_
  refine dA ?_
  iterate 5 refine gA ?_
  refine pO ?_
  refine dA ?_
  iterate 5 refine gA ?_
  refine pO ?_
  refine dA ?_
  iterate 4 refine gA ?_
  refine cG (fun hp hx W' hC => c1.out W' (hW.trans (hC.1.of_priv hW.size))) ?_
  refine gA ?_
  refine pO ?_
  refine dA ?_
  iterate 7 refine gA ?_
  refine pO ?_
  clear hW hL
  rintro W3 hW z4 hL
  simp only [ndR]
  intros
  repeat (rename GDet _ _ _ _ => hgd; clear hgd)
  simp only [ndS]
  refine wpList_nil ?_
  obtain ⟨⟨b1, yb1, k1, f1⟩, ⟨b2, yb2, k2, f2⟩, -⟩ := hL
  go_wp2
  refine wp_loop (s24Rel w s ps1 ps2 cs1 cs2 po1 po2 co1 co2) (fun a' _ => s.opn.length - (intAt (a'.tmps.getD 59 undef)).toNat) ?_ ?_
  · unfold s24Rel
    exact ⟨hW, b1, b2, 0, frame_ex rfl, by omega⟩
  clear b1 b2 hW
  rintro a' W ⟨hW0, b1, b2, i, ⟨u, rfl⟩, hi⟩
  have hz := hW0.size
  have zb1 := b1.lt
  have zb2 := b2.lt
  rcases Nat.lt_or_ge i s.opn.length with hlt | hge
  · obtain ⟨⟨t, y⟩, tr⟩ : ∃ r, s.opn[i]? = some r := ⟨s.opn[i]'(by omega), List.getElem?_eq_getElem (by omega)⟩
    obtain ⟨b1', o1, rfl, h1⟩ := cells_pt (h.below hW0).opn tr
    obtain ⟨b2', o2, rfl, h2⟩ := cells_pt (h'.below hW0).opn tr
    clear tr
    go_upto_region 6 with (fail)
    refine wp_cutB W (Bc w.heap.size #[.string s.name, .int .i64 s.eps, .int .i64 s.floor, .int .i64 s.last, .int .i64 s.scale, .slice ps1 s.segs.length cs1, .slice (some ⟨b1', o1, none⟩) s.opn.length co1] 26 <| Bc (w.heap.size + 1) #[.string s.name, .int .i64 s.eps, .int .i64 s.floor, .int .i64 s.last, .int .i64 s.scale, .slice ps2 s.segs.length cs2, .slice (some ⟨b2', o2, none⟩) s.opn.length co2] 26 <| Rc (fun W' => CellsP W' b1' (o1 + i * 2) #[.int .i64 t, .int .i64 y]) <| Rc (fun W' => CellsP W' b2' (o2 + i * 2) #[.int .i64 t, .int .i64 y]) <| Bz) ?_ (hI := by exact belowAny) (hR := (Bc.mk (by exact blkAny2) <| Bc.mk (by exact blkAny2) <| Rc.mk (by first | exact h1 | exact h1.below belowAny) <| Rc.mk (by first | exact h2 | exact h2.below belowAny) <| trivial))
    clear b1 b2
    rintro W21 hW z22 hL
    obtain ⟨⟨b1, yb1, k1, f1⟩, ⟨b2, yb2, k2, f2⟩, b3, b4, -⟩ := id hL
    clear k1 f1 k2 f2
    refine wp_regQ 11 74 hW hL ?_
    iterate 11 refine dE (fun W' hC => aI hlt (aI (Nat.not_le.2 hlt) (aI (hC.2.2.2.1.at' 0 _ rfl) (aI (hC.2.2.2.1.at' 1 _ rfl) (aI (hC.2.2.2.2.1.at' 0 _ rfl) (hC.2.2.2.2.1.at' 1 _ rfl)))))) ?_
    clear hW hL b1 b2 b3 b4
    rintro W23 hW z24 hL
    simp only [ndR]
    intros
    simp only [ndS]
    refine wpList_nil ?_
    obtain ⟨⟨b1, yb1, k1, f1⟩, ⟨b2, yb2, k2, f2⟩, b3, b4, -⟩ := hL
    go_wp2
    rw [show (i : Int) + 1 = ((i + 1 : Nat) : Int) by omega]
    refine ⟨?_, by simp [intAt]; omega⟩
    unfold s24Rel
    exact ⟨hW0.trans (hW.mono hz), b1, b2, i + 1, frame_ex rfl, by omega⟩
  · obtain rfl : i = s.opn.length := by omega
    go_wp2
    go_ret
    exact ⟨rfl, hW0⟩
end Go.Proofs.YtpdhdjlhicceoaaGreatDoor
namespace Go.Proofs.YtpdhdjlhicceoaaGreatDoor
open Go.RowKit
set_option maxRecDepth 100000 in
set_option maxHeartbeats 2000000 in
theorem smakes_w (nm : ByteArray) (eps sc : Int) (n1 : ByteArray) (e1 f1 l1 s1 E : Int) (w : World)
    (c1 : ∀ W, Below w.heap.size w W → Calls Tryz.prog 11 #[] W fun e w' => e = .returned (.bool true) ∧ Below W.heap.size W w')
    (cN : ∀ W, Below w.heap.size w W → Calls Tryz.prog 12 #[.string (nm.extract 0 (mn (nm.size : Int) 20).toNat), .int .i64 eps, .int .i64 sc] W fun e w' => e = .returned (.tuple #[.agg #[.string n1, .int .i64 e1, .int .i64 f1, .int .i64 l1, .int .i64 s1, .slice none 0 0, .slice none 0 0], .int .i64 E]) ∧ Below W.heap.size W w')
    (cR : ∀ W, Below w.heap.size w W → Calls Tryz.prog 13 #[.string (nm.extract 0 (mn (nm.size : Int) 20).toNat), .int .i64 eps, .int .i64 sc] W fun e w' => e = .returned (.tuple #[.agg #[.string n1, .int .i64 e1, .int .i64 f1, .int .i64 l1, .int .i64 s1, .slice none 0 0, .slice none 0 0], .int .i64 E]) ∧ Below W.heap.size W w')
    (cS : ∀ W, Below w.heap.size w W → Calls Tryz.prog 14 #[.agg #[.string n1, .int .i64 e1, .int .i64 f1, .int .i64 l1, .int .i64 s1, .slice none 0 0, .slice none 0 0], .agg #[.string n1, .int .i64 e1, .int .i64 f1, .int .i64 l1, .int .i64 s1, .slice none 0 0, .slice none 0 0]] W fun e w' => e = .returned (.bool true) ∧ Below W.heap.size W w') :
    Calls Tryz.prog 3 #[.string nm, .int .i64 eps, .int .i64 sc] w fun e w' => e = .returned (.bool true) ∧ Below w.heap.size w w' := by
  have H_c1 := Lib.hid c1
  clear c1
  have H_cN := Lib.hid cN
  clear cN
  have H_cR := Lib.hid cR
  clear cR
  have H_cS := Lib.hid cS
  clear cS
  go_enter Tryz.func3, Tryz.ntmps3
  go_wp2_with fail
  refine (H_c1.out _ belowAny).mono ?_
  rintro e w1 ⟨rfl, hb1⟩
  have z2 := hb1.size
  try simp at z2
  refine haveB w w1 (Bz) ?_
  rintro hW z3 ⟨-⟩
  clear hb1
  have hmin : ∀ ts t x y w, (Builtin.min_ ts t #[.int .i64 x, .int .i64 y]).run Tryz.prog w = .ok (.int .i64 (mn x y)) w := fun ts t x y w => by simp [Builtin.min_, Builtin.min2, mn]
  have hm0 := mn_spec (nm.size : Int) 20
  have hm1 : 0 ≤ mn (nm.size : Int) 20 := by omega
  have hm2 : mn (nm.size : Int) 20 ≤ (nm.size : Int) := hm0.1
  clear hm0
  go_wp2_with fail
  refine (H_cN.out _ belowAny).mono ?_
  rintro e w4 ⟨rfl, hb4⟩
  have z5 := hb4.size
  try simp at z5
  refine haveB w w4 (Bz) ?_
  clear hW
  rintro hW z6 ⟨-⟩
  clear hb4
  clear hmin hm1 hm2
  go_wp2_with fail
  refine (H_cR.out _ belowAny).mono ?_
  rintro e w7 ⟨rfl, hb7⟩
  have z8 := hb7.size
  try simp at z8
  refine haveB w w7 (Bc w4.heap.size #[.string n1, .int .i64 e1, .int .i64 f1, .int .i64 l1, .int .i64 s1, .slice none 0 0, .slice none 0 0] 26 <| Bz) ?_
  clear hW
  rintro hW z9 ⟨⟨b1, yb1, k1, f1⟩, -⟩
  clear hb7
  go_wp2_with fail
  refine (H_cS.out _ belowAny).mono ?_
  rintro e w10 ⟨rfl, hb10⟩
  have z11 := hb10.size
  try simp at z11
  clear k1 f1
  refine haveB w w10 (Bc w4.heap.size #[.string n1, .int .i64 e1, .int .i64 f1, .int .i64 l1, .int .i64 s1, .slice none 0 0, .slice none 0 0] 26 <| Bc w7.heap.size #[.string n1, .int .i64 e1, .int .i64 f1, .int .i64 l1, .int .i64 s1, .slice none 0 0, .slice none 0 0] 26 <| Bz) ?_
  clear b1 hW
  rintro hW z12 ⟨⟨b1, yb1, k1, f1⟩, ⟨b2, yb2, k2, f2⟩, -⟩
  clear hb10
  go_wp2
  refine bodyPost_ret (by simp [results, Tryz.results3, go_sem, k1, f1, k2, f2, yb1, yb2]) rfl ⟨rfl, by exact belowAny⟩
theorem newV_form (s : ByteArray) (eps sc : Int) : ∃ n1 e1 f1 l1 s1 E, newV s eps sc = .tuple #[.agg #[.string n1, .int .i64 e1, .int .i64 f1, .int .i64 l1, .int .i64 s1, .slice none 0 0, .slice none 0 0], .int .i64 E] := by
  unfold newV
  split
  · split
    · split <;> exact ⟨_, _, _, _, _, _, rfl⟩
    · exact ⟨_, _, _, _, _, _, rfl⟩
  · exact ⟨_, _, _, _, _, _, rfl⟩
theorem cut20 (nm : ByteArray) : (nm.extract 0 (mn (nm.size : Int) 20).toNat).size ≤ 1000 := by
  have h0 := mn_spec (nm.size : Int) 20
  rw [ByteArray.size_extract]
  omega
theorem c_smakes (nm : ByteArray) (eps sc : Int) (w : World)
    (c1 : ∀ W, Below w.heap.size w W → Calls Tryz.prog 11 #[] W fun e w' => e = .returned (.bool true) ∧ Below W.heap.size W w') :
    Calls Tryz.prog 3 #[.string nm, .int .i64 eps, .int .i64 sc] w fun e w' => e = .returned (.bool true) ∧ Below w.heap.size w w' := by
  obtain ⟨n1, e1, f1, l1, s1, E, hE⟩ := newV_form (nm.extract 0 (mn (nm.size : Int) 20).toNat) eps sc
  have cN := fun W (_ : Below w.heap.size w W) => c_sNew (nm.extract 0 (mn (nm.size : Int) 20).toNat) eps sc W
  have cR := fun W (_ : Below w.heap.size w W) => c_r24New (nm.extract 0 (mn (nm.size : Int) 20).toNat) eps sc W (cut20 nm)
  rw [hE] at cN cR
  refine smakes_w nm eps sc n1 e1 f1 l1 s1 E w c1 cN cR fun W _ => ?_
  have hin : SerIn W ⟨n1, e1, f1, l1, s1, [], []⟩ none none := ⟨⟨fun i s h => by simp at h⟩, ⟨fun i r h => by simp at h⟩, by simp, by simp⟩
  exact c_r24Same ⟨n1, e1, f1, l1, s1, [], []⟩ none none 0 0 none none 0 0 W hin hin
end Go.Proofs.YtpdhdjlhicceoaaGreatDoor
