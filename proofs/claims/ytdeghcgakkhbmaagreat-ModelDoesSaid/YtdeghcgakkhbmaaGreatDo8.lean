/- Parts of the proof that follows: A series in memory; a row of segments: ends, Check; a segment's last time. No condition. | A series' times, one behind the other. No condition. | series.kept: how many times a series keeps. No condition. | series.Check. No condition. | Layer wide: Sub. | Layer answer: a sheet takes a piece. No condition but that the numbers are in their bounds. | A range over a function whose iterator writes a variable of its own ahead of the first round, and whose body never leaves: one law. No condition. | A region that draws its order, in the open fence: all but a tail is walked once, in the order of the text; the tail, behind all of it, may call a range's body. No condition. | answer.pieces: what is asked, piece by piece. No condition but that the series may be. | answer.whole: the sheet of all that is asked. No condition. | answer.whole, and what asks for it alone: At, Count, Sheet, Least, Most. No condition. | answer.whole at a series; and what asks for it alone: At, Count, Sheet, Least, Most. No condition. | answer.Mean. No condition. | What answer says of a series, plainly: whole, At, Count, Sheet, Least, Most, Sum, Mean. No condition. | The laws of chapter 25: some, wakes. No condition. | A copy of its own of a row, by append; rows of segments as they came in. No condition. | The laws of chapter 25: own. No condition. | slices.Clone, of segments and points, and of runs and numbers that may be nil. No condition. -/
import Derived.RegionTactic
import Derived.ChangeAlike
import Derived.Laws.AppendOwnNone
import Derived.Test.YtdeghcgakkhbmaaGreatDo7
set_option linter.unusedSimpArgs false
set_option linter.unusedVariables false
namespace Go.Proofs.YtdeghcgakkhbmaaGreat
open Go.RowKit
/-- Segments in memory, each with its runs and its numbers. -/
structure SegsIn (w : World) (p : Option Addr) (l : List SegT) : Prop where
  at' : ∀ (i : Nat) (s : SegT), l[i]? = some s → ∃ b o p' q' cap vc, p = some ⟨b, o, none⟩ ∧ (∀ j v, (segA s p' q' cap vc)[j]? = some v → w.cell? ⟨b, o + i * 8 + j, none⟩ = some v) ∧ SegIn w s p' q' ∧ s.raw.length ≤ vc
theorem SegsIn.below {w w' : World} {p : Option Addr} {l : List SegT} (h : SegsIn w p l) (hb : Below w.heap.size w w') : SegsIn w' p l := ⟨fun i s hs => by
  obtain ⟨b, o, p', q', cap, vc, e, h1, h2, h3⟩ := h.at' i s hs
  exact ⟨b, o, p', q', cap, vc, e, fun j v hv => (hb.cell (p := ⟨b, _, none⟩) (cell_lt (h1 j v hv))).trans (h1 j v hv), h2.below hb, h3⟩⟩
/-- The cells of one of them. -/
theorem SegsIn.one {w : World} {p : Option Addr} {l : List SegT} (h : SegsIn w p l) {i : Nat} {s : SegT} (hs : l[i]? = some s) : ∃ b o p' q' cap vc, p = some ⟨b, o, none⟩ ∧ SegIn w s p' q' ∧ s.raw.length ≤ vc ∧
    w.cell? ⟨b, o + i * 8, none⟩ = some (.int .i64 s.K) ∧ w.cell? ⟨b, o + i * 8 + 1, none⟩ = some (.slice p' s.runs.length cap) ∧ w.cell? ⟨b, o + i * 8 + 2, none⟩ = some (.int .i64 s.A) ∧ w.cell? ⟨b, o + i * 8 + 3, none⟩ = some (.int .i64 s.R) ∧ w.cell? ⟨b, o + i * 8 + 4, none⟩ = some (.int .i64 s.n) ∧ w.cell? ⟨b, o + i * 8 + 5, none⟩ = some (.int .i64 s.d) ∧ w.cell? ⟨b, o + i * 8 + 6, none⟩ = some (.slice q' s.raw.length vc) ∧ w.cell? ⟨b, o + i * 8 + 7, none⟩ = some (.int .i64 s.E) := by
  obtain ⟨b, o, p', q', cap, vc, e, h1, h2, h3⟩ := h.at' i s hs
  exact ⟨b, o, p', q', cap, vc, e, h2, h3, h1 0 _ rfl, h1 1 _ rfl, h1 2 _ rfl, h1 3 _ rfl, h1 4 _ rfl, h1 5 _ rfl, h1 6 _ rfl, h1 7 _ rfl⟩
structure SerIn (w : World) (s : SerT) (ps po : Option Addr) : Prop where
  segs : SegsIn w ps s.segs
  opn : PtsIn w po s.opn
  fewS : s.segs.length ≤ 100
  fewO : s.opn.length ≤ 100
theorem SerIn.below {w w' : World} {s : SerT} {ps po : Option Addr} (h : SerIn w s ps po) (hb : Below w.heap.size w w') : SerIn w' s ps po := ⟨h.segs.below hb, h.opn.below hb, h.fewS, h.fewO⟩
def serA (s : SerT) (ps : Option Addr) (cs : Nat) (po : Option Addr) (co : Nat) : Array Value := #[.string s.name, .int .i64 s.eps, .int .i64 s.floor, .int .i64 s.last, .int .i64 s.scale, .slice ps s.segs.length cs, .slice po s.opn.length co]
/-- A row of segments: Check. -/
def mcRel (w : World) (p : Option Addr) (cap : Nat) (l : List SegT) (a' : Act) (W : World) : Prop :=
  Below w.heap.size w W ∧ ∃ (i : Nat) (bh : Int), (∃ u : Nat → Value, a' = { tmps := #[.slice p l.length cap, u 1, u 2, .int .i64 bh, u 4, u 5, u 6, u 7, .slice p l.length cap, .int .i64 (l.length : Int), .int .i64 (i : Int), u 11, u 12, u 13, u 14, u 15, u 16, u 17, u 18, u 19, u 20, u 21, u 22, u 23, u 24, u 25, u 26], defers := [] }) ∧ i ≤ l.length ∧ rowB (-1) l = rowB bh (l.drop i)
end Go.Proofs.YtdeghcgakkhbmaaGreat
namespace Go.Proofs.YtdeghcgakkhbmaaGreat
open Go.RowKit Go.Shelf
attribute [local go_sem] Oper.semAt_some
theorem KF.blk {B0 n₀ : Nat} {A B : World} (h : KF B0 n₀ A B) {b : Nat} {cs : Array Value} {t : TypeId} (hn : n₀ ≤ b) (hb : Blk A b cs t) : Blk B b cs t := h.rest b cs t (0, 0) hn hb
end Go.Proofs.YtdeghcgakkhbmaaGreat
namespace Go.Proofs.YtdeghcgakkhbmaaGreat
open Go.RowKit Go.Shelf
attribute [local go_sem] Oper.semAt_some
def keptL (fl : Int) (l : List Int) : Nat := (l.filter fun t => decide (fl ≤ t)).length
end Go.Proofs.YtdeghcgakkhbmaaGreat
namespace Go.Proofs.YtdeghcgakkhbmaaGreat
open Go.RowKit Go.Shelf
attribute [local go_sem] Oper.semAt_some
def ck1Rel (w : World) (s : SerT) (ps po : Option Addr) (cs co : Nat) (a' : Act) (W : World) : Prop :=
  Below w.heap.size w W ∧ Blk W w.heap.size #[.string s.name, .int .i64 s.eps, .int .i64 s.floor, .int .i64 s.last, .int .i64 s.scale, .slice ps s.segs.length cs, .slice po s.opn.length co] 79 ∧ Blk W (w.heap.size + 1) #[.int .i64 0] 36 ∧ ∃ i : Nat, (∃ u : Nat → Value, a' = { tmps := #[.agg #[.string s.name, .int .i64 s.eps, .int .i64 s.floor, .int .i64 s.last, .int .i64 s.scale, .slice ps s.segs.length cs, .slice po s.opn.length co], .pointer (some ⟨w.heap.size, 0, none⟩), .pointer (some ⟨w.heap.size + 1, 0, none⟩), u 3, u 4, u 5, u 6, u 7, u 8, u 9, u 10, u 11, u 12, u 13, u 14, u 15, u 16, u 17, u 18, u 19, u 20, u 21, u 22, u 23, u 24, .slice ps s.segs.length cs, .int .i64 (s.segs.length : Int), .int .i64 (i : Int), u 28, u 29, u 30, u 31, u 32, u 33, u 34, u 35, u 36, u 37, u 38, u 39, u 40, u 41, u 42, u 43, u 44, u 45, u 46, u 47, u 48, u 49, u 50, u 51, u 52, u 53, u 54, u 55, u 56, u 57, u 58, u 59, u 60, u 61, u 62, u 63, u 64, u 65, u 66, u 67, u 68, u 69, u 70, u 71, u 72, u 73, u 74, u 75, u 76, u 77, u 78, u 79, u 80, u 81, u 82, u 83], defers := [] }) ∧ i ≤ s.segs.length ∧ (∀ j x, j < i → s.segs[j]? = some x → inSegB s.eps s.floor x = true)
def ck2Rel (w : World) (s : SerT) (ps po : Option Addr) (cs co : Nat) (a' : Act) (W : World) : Prop :=
  Below w.heap.size w W ∧ Blk W w.heap.size #[.string s.name, .int .i64 s.eps, .int .i64 s.floor, .int .i64 s.last, .int .i64 s.scale, .slice ps s.segs.length cs, .slice po s.opn.length co] 79 ∧ Blk W (w.heap.size + 1) #[.int .i64 0] 36 ∧ ∃ i : Nat, (∃ u : Nat → Value, a' = { tmps := #[.agg #[.string s.name, .int .i64 s.eps, .int .i64 s.floor, .int .i64 s.last, .int .i64 s.scale, .slice ps s.segs.length cs, .slice po s.opn.length co], .pointer (some ⟨w.heap.size, 0, none⟩), .pointer (some ⟨w.heap.size + 1, 0, none⟩), u 3, u 4, u 5, u 6, u 7, u 8, u 9, u 10, u 11, u 12, u 13, u 14, u 15, u 16, u 17, u 18, u 19, u 20, u 21, u 22, u 23, u 24, u 25, u 26, u 27, u 28, u 29, u 30, u 31, u 32, u 33, u 34, u 35, u 36, u 37, u 38, u 39, u 40, u 41, u 42, u 43, u 44, .slice po s.opn.length co, .int .i64 (s.opn.length : Int), .int .i64 (i : Int), u 48, u 49, u 50, u 51, u 52, u 53, u 54, u 55, u 56, u 57, u 58, u 59, u 60, u 61, u 62, u 63, u 64, u 65, u 66, u 67, u 68, u 69, u 70, u 71, u 72, u 73, u 74, u 75, u 76, u 77, u 78, u 79, u 80, u 81, u 82, u 83], defers := [] }) ∧ i ≤ s.opn.length ∧ (∀ j x, j < i → s.opn[j]? = some x → inOpnB s.floor x = true)
end Go.Proofs.YtdeghcgakkhbmaaGreat
namespace Go.Proofs.YtdeghcgakkhbmaaGreat
open Go.RowKit
end Go.Proofs.YtdeghcgakkhbmaaGreat
namespace Go.Proofs.YtdeghcgakkhbmaaGreat
open Go.RowKit
section
variable {P : Program} {ops : Array Oper} {C : World → Prop} {X : List (Nat × Nat)} {a0 : Act} {Fin : List (Option Tmp × Spec) → Prop} {i : Nat} {o : Oper} {rest : List Oper} {acc : List (Option Tmp × Spec)}
/-- An operation that makes memory. -/
theorem nd_mem (Φ : Spec) (hcl : Closed (others X i) Φ) (hg : o.guard = none) (hal : isAlloc o = false)
    (h : ∀ (a : Act) (w : World), C w → (∀ s ∈ o.looksAt ops, envOf a0 acc s (a.tmps.getD s undef) w) → ∃ v w', (execOp a.eval o).run P w = .ok (.value v) w' ∧ Below w.heap.size w w' ∧ Φ v w')
    (hr : ndWalk P ops C X a0 Fin (i + 1) rest ((o.dst, Φ) :: acc)) : ndWalk P ops C X a0 Fin i (o :: rest) acc :=
  ⟨Φ, hcl, fun a w hC hE => ⟨fun _ => by
    obtain ⟨v, w', h1, h2, h3⟩ := h a w hC hE
    rw [h1]; exact ⟨Rex.of_below h2, h3, fun e => by rw [hal] at e; cases e⟩, fun e => by rw [wanted_none hg] at e; cases e⟩, hr⟩
end
/-- A slice of two spans. -/
def SPV (l : List (Int × Int)) : Spec := fun v w => ∃ k, v = .slice (some ⟨k, 0, none⟩) 2 2 ∧ PtsIn w (some ⟨k, 0, none⟩) l
theorem SPV.closed (l : List (Int × Int)) : Closed [] (SPV l) := fun _ _ _ hr ⟨k, e, h⟩ => ⟨k, e, h.rex hr rfl⟩
/-- A piece: some values, and how far. -/
def pcA (vs : List Int) (far : Int) : Array Value := #[.int .i64 vs.length, .int .i64 (minL vs), .int .i64 (maxL vs), .int .i64 (hiW (lsum vs)), .int .u64 (loW (lsum vs)), .int .i64 far]
end Go.Proofs.YtdeghcgakkhbmaaGreat
namespace Go.Proofs.YtdeghcgakkhbmaaGreat
open Go.RowKit Go.Shelf
attribute [local go_sem] Oper.semAt_some

/-- What such an iterator promises: its own variable lies in block Ba. -/
def SeqWr {α : Type} (F : Fence) (n : Nat) (P : Program) (g : Nat) (lb : Array Value) (encs : α → Array Value) (Kp : World → World → Prop) (xs : List α) (Ba : Nat) (w : World) : Prop :=
  ∀ (l : Nat) (J : List α → World → Prop) (W : World), Below w.heap.size w W → AbidesFrom W.heap.size J → (∀ pre W1 v, J pre W1 → J pre (W1.setCell ⟨Ba, 0, none⟩ v)) →
    (∀ pre x W1, J pre W1 → pre ++ [x] <+: xs → YieldAt F (n - 1) P l (encs x) W1 fun e W' => e = .returned (.bool true) ∧ J (pre ++ [x]) W' ∧ Kp W1 W') →
    J [] W → CallsIn F n P g (#[.func (.yield l) #[] #[]] ++ lb) W fun e W' => (∃ v, e = .returned v) ∧ J xs W'

/-- What a round of a body that never leaves must achieve. -/
def goesOn {α : Type} (B : Nat) (Kp : World → World → Prop) (I : List α → World → Prop) (pre : List α) (W : World) : Exit → Act → World → Prop
  | .normal, _, W' => KeepsFrom B W W' ∧ Kp W W' ∧ I pre W'
  | _, _, _ => False

end Go.Proofs.YtdeghcgakkhbmaaGreat
namespace Go.Proofs.YtdeghcgakkhbmaaGreat
open Go.RowKit
attribute [local go_sem] Oper.semAt_some
section
variable {P : Program} {ops : Array Oper} {C : World → Prop} {X : List (Nat × Nat)} {a0 : Act} {n nn : Nat} {Q : Exit → Act → World → Prop}
/-- Each of the first n operations stands ahead of each later one. -/
def allFirstB (ops : Array Oper) (n : Nat) : Bool := (List.range n).all fun i => (List.range ops.size).all fun t => decide (t < n) || ancB ops 8 t i
end
end Go.Proofs.YtdeghcgakkhbmaaGreat
namespace Go.Proofs.YtdeghcgakkhbmaaGreat
open Go.RowKit Go.Shelf
attribute [local go_sem] Oper.semAt_some
end Go.Proofs.YtdeghcgakkhbmaaGreat
namespace Go.Proofs.YtdeghcgakkhbmaaGreat
open Go.RowKit Go.Shelf
attribute [local go_sem] Oper.semAt_some
/-- What a piece is. -/
def PcOk (x : List Int × Int) : Prop := x.1 ≠ [] ∧ x.1.length ≤ 256 ∧ 0 ≤ x.2 ∧ x.2 ≤ 1099511627776 ∧ ∀ v, v ∈ x.1 → -2305844108725321728 ≤ v ∧ v ≤ 2305844108725321728
def WholeOut (s : SerT) (a b : Int) (e : Ending) : Prop := e = .returned (.tuple #[.agg (shA ((pcsL s a b).flatMap pairs)), .int .i64 (if (pcsL s a b).flatMap pairs = [] then 9 else 0)])
end Go.Proofs.YtdeghcgakkhbmaaGreat
namespace Go.Proofs.YtdeghcgakkhbmaaGreat
open Go.RowKit
end Go.Proofs.YtdeghcgakkhbmaaGreat
namespace Go.Proofs.YtdeghcgakkhbmaaGreat
open Go.RowKit
end Go.Proofs.YtdeghcgakkhbmaaGreat
namespace Go.Proofs.YtdeghcgakkhbmaaGreat
open Go.RowKit
end Go.Proofs.YtdeghcgakkhbmaaGreat
namespace Go.Proofs.YtdeghcgakkhbmaaGreat
open Go.RowKit
/-- What is told is in its bounds. -/
def TellOk (l : List (Int × Int)) : Prop := (∀ x, x ∈ l → -2305844108725321728 ≤ x.1 ∧ x.1 ≤ 2305844108725321728 ∧ 0 ≤ x.2 ∧ x.2 ≤ 1099511627776) ∧ l.length ≤ 100000
def sumV (l : List (Int × Int)) : Array Value := if inI (lsum (loL l)) && inI (lsum (hiL l)) then #[.int .i64 (lsum (loL l)), .int .i64 (lsum (hiL l))] else #[.int .i64 0, .int .i64 0]
def sumE (l : List (Int × Int)) (e : Int) : Int := if e = 0 then (if inI (lsum (loL l)) && inI (lsum (hiL l)) then 0 else 5) else e
def meanV (l : List (Int × Int)) : Array Value := #[.int .i64 l.length, .int .i64 (lsum (loL l) / l.length), .int .i64 (lsum (loL l) % l.length), .int .i64 (lsum (hiL l) / l.length), .int .i64 (lsum (hiL l) % l.length)]
def minA (l : List (Int × Int)) : Array Value := #[.int .i64 (minL (loL l)), .int .i64 (minL (hiL l))]
def maxA (l : List (Int × Int)) : Array Value := #[.int .i64 (maxL (loL l)), .int .i64 (maxL (hiL l))]
end Go.Proofs.YtdeghcgakkhbmaaGreat
namespace Go.Proofs.YtdeghcgakkhbmaaGreat
open Go.RowKit
def some0 : SerT := ⟨⟨#[97]⟩, 2, 3, 12, 0, [⟨1, [⟨0, 2, 4⟩], 10, 0, 0, 1, [], 1⟩], [(9, 20), (12, 5)]⟩
theorem SerIn.alloc {w : World} {s : SerT} {ps po : Option Addr} (h : SerIn w s ps po) (o : Obj) : SerIn (w.alloc o) s ps po := h.below ((Below.refl _ _).alloc (Nat.le_refl _) o)
end Go.Proofs.YtdeghcgakkhbmaaGreat
namespace Go.Proofs.YtdeghcgakkhbmaaGreat
open Go.RowKit
def MadeV (B : Nat) (e : TypeId) : Spec := fun v w => ∃ g, v = .slice (some ⟨g, 0, none⟩) 0 0 ∧ B ≤ g ∧ Blk w g #[] e
theorem MadeV.closed (B : Nat) (e : TypeId) : Closed [] (MadeV B e) := fun _ _ _ hr ⟨g, e1, h1, h⟩ => ⟨g, e1, h1, h.rex hr (by simp)⟩
def AppV (B : Nat) (e : TypeId) (n k : Nat) (news : List Value) : Spec := fun v w => ∃ g cap cur, v = .slice (some ⟨g, 0, none⟩) n cap ∧ B ≤ g ∧ Blk w g cur e ∧ n ≤ cap ∧ k ≤ cur.size ∧ cur.toList.take k = news
theorem AppV.closed (B : Nat) (e : TypeId) (n k : Nat) (news : List Value) : Closed [] (AppV B e n k news) := fun _ _ _ hr ⟨g, c, cur, e1, h1, h, h2, h3, h4⟩ => ⟨g, c, cur, e1, h1, h.rex hr (by simp), h2, h3, h4⟩
/-- A segment in memory: what it says, and where its rows are. -/
structure SegR where
  s : SegT
  p : Option Addr
  q : Option Addr
  cap : Nat
  vc : Nat
def segRA (r : SegR) : Array Value := segA r.s r.p r.q r.cap r.vc
def flatSegs (l : List SegR) : List Value := l.flatMap fun r => (segRA r).toList
theorem flat_of {α : Type} (f : α → List Value) (K : Nat) (hK : 0 < K) (hf : ∀ x, (f x).length = K) : ∀ (l : List α) (j : Nat) (u : Value), (l.flatMap f)[j]? = some u → ∃ i x k, l[i]? = some x ∧ k < K ∧ j = i * K + k ∧ (f x)[k]? = some u
  | [], j, u, h => by simp at h
  | x :: l, j, u, h => by
    rw [List.flatMap_cons] at h
    rcases Nat.lt_or_ge j K with hlt | hge
    · rw [List.getElem?_append_left (by rw [hf]; exact hlt)] at h
      exact ⟨0, x, j, rfl, hlt, by omega, h⟩
    · rw [List.getElem?_append_right (by rw [hf]; exact hge), hf] at h
      obtain ⟨i, y, k, h1, h2, h3, h4⟩ := flat_of f K hK hf l (j - K) u h
      exact ⟨i + 1, y, k, h1, h2, by rw [Nat.add_mul]; omega, h4⟩
theorem flat_to {α : Type} (f : α → List Value) (K : Nat) (hf : ∀ x, (f x).length = K) : ∀ (l : List α) (i : Nat) (x : α) (k : Nat) (u : Value), l[i]? = some x → (f x)[k]? = some u → (l.flatMap f)[i * K + k]? = some u
  | [], i, x, k, u, h, _ => by simp at h
  | y :: l, i, x, k, u, h, hu => by
    have hk : k < K := by have := (List.getElem?_eq_some_iff.1 hu).1; rw [hf] at this; exact this
    rw [List.flatMap_cons]
    cases i with
    | zero =>
      obtain rfl : y = x := by simpa using h
      rw [List.getElem?_append_left (by rw [hf]; omega)]
      simpa using hu
    | succ i =>
      rw [List.getElem?_append_right (by rw [hf, Nat.add_mul]; omega), hf, show (i + 1) * K + k - K = i * K + k by rw [Nat.add_mul]; omega]
      exact flat_to f K hf l i x k u (by simpa using h) hu
/-- Rows of segments as they came in. -/
def SegsCame (w : World) (p : Option Addr) (l : List SegR) : Prop := ∀ (i : Nat) (r : SegR), l[i]? = some r → ∃ b o, p = some ⟨b, o, none⟩ ∧ (∀ j v, (segRA r)[j]? = some v → w.cell? ⟨b, o + i * 8 + j, none⟩ = some v) ∧ Came w r.s r.p r.q r.cap r.vc
theorem Came.below {w w' : World} {s : SegT} {p q : Option Addr} {cap vc : Nat} (h : Came w s p q cap vc) (hb : Below w.heap.size w w') : Came w' s p q cap vc := ⟨h.runs.below hb, h.raw.below hb, h.nilR, h.nilV, h.capR, h.capV, h.maxR, h.maxV⟩
theorem SegsCame.below {w w' : World} {p : Option Addr} {l : List SegR} (h : SegsCame w p l) (hb : Below w.heap.size w w') : SegsCame w' p l := fun i r hr => by
  obtain ⟨b, o, e, h1, h2⟩ := h i r hr
  exact ⟨b, o, e, fun j v hv => (hb.cell (p := ⟨b, _, none⟩) (cell_lt (h1 j v hv))).trans (h1 j v hv), h2.below hb⟩
theorem SegsCame.take {w : World} {p : Option Addr} {l : List SegR} (h : SegsCame w p l) (k : Nat) : SegsCame w p (l.take k) := fun i r hr => h i r (by
  rw [List.getElem?_take] at hr
  split at hr
  · exact hr
  · cases hr)
/-- A block's cells are those of segments. -/
def SegCells (cur : Array Value) (l : List SegR) : Prop := ∀ (i : Nat) (r : SegR), l[i]? = some r → ∀ k v, (segRA r)[k]? = some v → cur[i * 8 + k]? = some v
theorem SegCells.set {cur : Array Value} {l : List SegR} (h : SegCells cur l) {i k : Nat} {r r' : SegR} (hr : l[i]? = some r) (hk : k < 8) {v : Value} (he : segRA r' = (segRA r).setIfInBounds k v) : SegCells (cur.setIfInBounds (i * 8 + k) v) (l.set i r') := fun i2 r2 hr2 k2 v2 hv2 => by
  have hk2 : k2 < 8 := by have := (Array.getElem?_eq_some_iff.1 hv2).1; rw [show (segRA r2).size = 8 from rfl] at this; exact this
  rw [List.getElem?_set] at hr2
  split at hr2
  · rename_i e
    subst e
    split at hr2
    · injection hr2 with hr2
      subst hr2
      rw [he, Array.getElem?_setIfInBounds] at hv2
      split at hv2
      · rename_i ek
        subst ek
        split at hv2
        · have hb : i * 8 + k < cur.size := by
            have h0 := h i r hr k ((segRA r)[k]'(by rw [show (segRA r).size = 8 from rfl]; exact hk)) (Array.getElem?_eq_getElem _)
            exact (Array.getElem?_eq_some_iff.1 h0).1
          rw [Array.getElem?_setIfInBounds, if_pos rfl, if_pos hb]
          exact hv2
        · cases hv2
      · rename_i ek
        rw [Array.getElem?_setIfInBounds, if_neg (by omega)]
        exact h i r hr k2 v2 hv2
    · cases hr2
  · rename_i e
    rw [Array.getElem?_setIfInBounds, if_neg (by omega)]
    exact h i2 r2 hr2 k2 v2 hv2
end Go.Proofs.YtdeghcgakkhbmaaGreat
namespace Go.Proofs.YtdeghcgakkhbmaaGreat
open Go.RowKit
theorem add_zero_map (p : Option Addr) : (Option.map (fun x : Addr => x) p) = p := by cases p <;> rfl
def ownG (s : SegT) : SegT := ⟨s.K, s.runs.take 300, s.A, s.R, s.n, s.d, s.raw.take 300, s.E⟩
theorem RunsIn.rex1 {w w' : World} {p : Option Addr} {l : List RunT} {g : Nat} {L : List Nat} (h : RunsIn w p l) (hL : ∀ x, x ∈ L → x ≤ g) (hg : ∀ a, p = some a → g < a.block) (hr : Rex L w w') : RunsIn w' p l := ⟨fun i r hi => by
  obtain ⟨b, o, e, h1, h2, h3⟩ := h.at' i r hi
  have hb := hg _ e
  have key : ∀ z v, w.cell? ⟨b, z, none⟩ = some v → w'.cell? ⟨b, z, none⟩ = some v := fun z v hv => (World.cell?_of_block (hr.block b (cell_lt hv) (fun hx => by have := hL _ hx; simp at hb; omega))).trans hv
  exact ⟨b, o, e, key _ _ h1, key _ _ h2, key _ _ h3⟩⟩
theorem IntsIn.rex1 {w w' : World} {p : Option Addr} {l : List Int} {g : Nat} {L : List Nat} (h : IntsIn w p l) (hL : ∀ x, x ∈ L → x ≤ g) (hg : ∀ a, p = some a → g < a.block) (hr : Rex L w w') : IntsIn w' p l := ⟨fun i r hi => by
  obtain ⟨b, o, e, h1⟩ := h.at' i r hi
  have hb := hg _ e
  exact ⟨b, o, e, (World.cell?_of_block (hr.block b (cell_lt h1) (fun hx => by have := hL _ hx; simp at hb; omega))).trans h1⟩⟩
/-- A segment of one's own. -/
structure OwnSeg (W : World) (g : Nat) (r0 r : SegR) : Prop where
  says : r.s = ownG r0.s
  runs : RunsIn W r.p r.s.runs
  raw : IntsIn W r.q r.s.raw
  capV : r.s.raw.length ≤ r.vc
  farR : ∀ a, r.p = some a → g < a.block
  farV : ∀ a, r.q = some a → g < a.block
theorem OwnSeg.rex {W W' : World} {g : Nat} {r0 r : SegR} {L : List Nat} (h : OwnSeg W g r0 r) (hL : ∀ x, x ∈ L → x ≤ g) (hr : Rex L W W') : OwnSeg W' g r0 r := ⟨h.says, h.runs.rex1 hL h.farR hr, h.raw.rex1 hL h.farV hr, h.capV, h.farR, h.farV⟩
structure OwnTo (W : World) (g : Nat) (rows R : List SegR) (i : Nat) : Prop where
  len : R.length = rows.length
  rest : ∀ k, i ≤ k → R[k]? = rows[k]?
  own : ∀ k, k < i → ∀ r, R[k]? = some r → ∃ r0, rows[k]? = some r0 ∧ OwnSeg W g r0 r
theorem OwnTo.rex {W W' : World} {g i : Nat} {rows R : List SegR} {L : List Nat} (h : OwnTo W g rows R i) (hL : ∀ x, x ∈ L → x ≤ g) (hr : Rex L W W') : OwnTo W' g rows R i := ⟨h.len, h.rest, fun k hk r hR => by
  obtain ⟨r0, h1, h2⟩ := h.own k hk r hR
  exact ⟨r0, h1, h2.rex hL hr⟩⟩
theorem OwnTo.step {W : World} {g i : Nat} {rows R : List SegR} {r0 r1 : SegR} (h : OwnTo W g rows R i) (h0 : rows[i]? = some r0) (h1 : OwnSeg W g r0 r1) : OwnTo W g rows (R.set i r1) (i + 1) := ⟨by rw [List.length_set]; exact h.len, fun k hk => by rw [List.getElem?_set_ne (by omega)]; exact h.rest k (by omega), fun k hk r hR => by
  rw [List.getElem?_set] at hR
  split at hR
  · rename_i e
    subst e
    split at hR
    · injection hR with hR
      subst hR
      exact ⟨r0, h0, h1⟩
    · cases hR
  · exact h.own k (by omega) r hR⟩
theorem Tryz.infoPt : (Tryz.prog.info? 58).map (fun i => (i.zero, i.size, i.bytes)) = some (some (.agg #[.int .i64 0, .int .i64 0]), 2, 16) := by kernel_rfl
theorem flatPts_len9 : ∀ l : List (Int × Int), (flatPts l).length = l.length * 2
  | [] => rfl
  | x :: l => by
    rw [show flatPts (x :: l) = [.int .i64 x.1, .int .i64 x.2] ++ flatPts l from rfl, List.length_append, flatPts_len9 l]
    simp only [List.length_cons, List.length_nil]
    omega
theorem flatPts_one9 : ∀ (l : List (Int × Int)) (u : Value), u ∈ flatPts l → u.oneCell' = true
  | [], u, h => by simp [flatPts] at h
  | x :: l, u, h => by
    rw [show flatPts (x :: l) = [.int .i64 x.1, .int .i64 x.2] ++ flatPts l from rfl] at h
    simp only [List.mem_append, List.mem_cons, List.not_mem_nil, or_false] at h
    rcases h with (rfl | rfl) | h
    · rfl
    · rfl
    · exact flatPts_one9 l u h
theorem flatPts_flat : ∀ l : List (Int × Int), flatPts l = l.flatMap fun x => [.int .i64 x.1, .int .i64 x.2]
  | [] => rfl
  | x :: l => by rw [List.flatMap_cons, ← flatPts_flat l]; rfl
theorem pts_flat9 {w : World} {a : Addr} {l : List (Int × Int)} (h : PtsIn w (some a) l) (j : Nat) (u : Value) (hu : (flatPts l)[j]? = some u) : w.cell? (a.add j) = some u := by
  rw [flatPts_flat] at hu
  obtain ⟨i, x, k, h1, h2, rfl, h3⟩ := flat_of _ 2 (by omega) (fun _ => rfl) l j u hu
  obtain ⟨b, o, e, c0, c1⟩ := h.at' i x h1
  injection e with e
  subst e
  rw [show (⟨b, o, none⟩ : Addr).add (i * 2 + k) = ⟨b, o + i * 2 + k, none⟩ by unfold Addr.add; split <;> simp_all <;> omega]
  match k, h2, h3 with
  | 0, _, h3 => simp at h3; subst h3; exact c0
  | 1, _, h3 => simp at h3; subst h3; exact c1
theorem PtsIn.take9 {w : World} {p : Option Addr} {l : List (Int × Int)} (h : PtsIn w p l) (k : Nat) : PtsIn w p (l.take k) := ⟨fun i r hr => h.at' i r (by
  rw [List.getElem?_take] at hr
  split at hr
  · exact hr
  · cases hr)⟩
def ownRel (w : World) (nm : ByteArray) (ep fl la sc : Int) (po : Option Addr) (co np : Nat) (rows : List SegR) (M gS capS : Nat) (a' : Act) (W : World) : Prop :=
  Below w.heap.size w W ∧ Blk W w.heap.size #[.string nm, .int .i64 ep, .int .i64 fl, .int .i64 la, .int .i64 sc, .slice (some ⟨gS, 0, none⟩) M capS, .slice po np co] 79 ∧ Blk W (w.heap.size + 1) #[.string .empty, .int .i64 0, .int .i64 0, .int .i64 0, .int .i64 0, .slice none 0 0, .slice none 0 0] 79 ∧ ∃ (i : Nat) (cur : Array Value) (R : List SegR), Blk W gS cur 135 ∧ SegCells cur R ∧ OwnTo W gS rows R i ∧ (∃ u : Nat → Value, a' = { tmps := #[u 0, .pointer (some ⟨w.heap.size, 0, none⟩), .pointer (some ⟨w.heap.size + 1, 0, none⟩), u 3, u 4, u 5, u 6, u 7, u 8, u 9, u 10, u 11, u 12, u 13, u 14, u 15, .slice (some ⟨gS, 0, none⟩) M capS, .int .i64 (M : Int), .int .i64 (i : Int), u 19, u 20, u 21, u 22, u 23, u 24, u 25, u 26, u 27, u 28, u 29, u 30, u 31, u 32, u 33, u 34, u 35, u 36, u 37, u 38, u 39, u 40, u 41, u 42, u 43, u 44, u 45, u 46, u 47, u 48, u 49, u 50, u 51, u 52, u 53, u 54, u 55, u 56, u 57, u 58, u 59, u 60, u 61, u 62], defers := [] }) ∧ i ≤ M
end Go.Proofs.YtdeghcgakkhbmaaGreat
namespace Go.Proofs.YtdeghcgakkhbmaaGreat
open Go.RowKit
/-- A row that lies in a block of its own. -/
def RowOwn (w : World) (e : TypeId) (n k : Nat) (news : List Value) (v : Value) (w' : World) : Prop := ∃ g cap' cur, v = .slice (some ⟨g, 0, none⟩) n cap' ∧ w.heap.size ≤ g ∧ Blk w' g cur e ∧ n ≤ cap' ∧ cur.toList.take k = news
set_option maxRecDepth 100000 in
set_option maxHeartbeats 2000000 in
theorem clonePt_nil (w : World) : Calls Tryz.prog 41 #[.slice none 0 0] w fun e w' => e = .returned (.slice none 0 0) ∧ Below w.heap.size w w' := by
  go_enter Tryz.func41, Tryz.ntmps41
  have hnil : ∀ W, (binOp .eql 33 (.slice none 0 0) (.slice none 0 0)).run Tryz.prog W = .ok (.bool true) W := fun W => by kernel_rfl
  go_wp2
  go_ret
  exact ⟨rfl, belowAny⟩
end Go.Proofs.YtdeghcgakkhbmaaGreat
