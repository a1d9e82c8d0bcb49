/- Parts of the proof that follows: A series in memory; a row of segments: ends, Check; a segment's last time. No condition. | A series' times, one behind the other. No condition. | series.kept: how many times a series keeps. No condition. | series.Check. No condition. | Binary digits, plainly, from the lowest on. No condition. | The references' numbers: Size, power. | The references' numbers: trim. -/
import Derived.Test.YtpdhdjlhicceoaaGreatDoorMk7
set_option linter.unusedSimpArgs false
set_option linter.unusedVariables false
namespace Go.Proofs.YtpdhdjlhicceoaaGreatDoor
open Go.RowKit
/-- Segments in memory, each with its runs and its numbers. -/
structure SegsIn (w : World) (p : Option Addr) (l : List SegT) : Prop where
  at' : ∀ (i : Nat) (s : SegT), l[i]? = some s → ∃ b o p' q' cap vc, p = some ⟨b, o, none⟩ ∧ (∀ j v, (segA s p' q' cap vc)[j]? = some v → w.cell? ⟨b, o + i * 8 + j, none⟩ = some v) ∧ SegIn w s p' q' ∧ s.raw.length ≤ vc
theorem SegsIn.below {w w' : World} {p : Option Addr} {l : List SegT} (h : SegsIn w p l) (hb : Below w.heap.size w w') : SegsIn w' p l := ⟨fun i s hs => by
  obtain ⟨b, o, p', q', cap, vc, e, h1, h2, h3⟩ := h.at' i s hs
  exact ⟨b, o, p', q', cap, vc, e, fun j v hv => (hb.cell (p := ⟨b, _, none⟩) (cell_lt (h1 j v hv))).trans (h1 j v hv), h2.below hb, h3⟩⟩
/-- The cells of one of them. -/
theorem SegsIn.one {w : World} {p : Option Addr} {l : List SegT} (h : SegsIn w p l) {i : Nat} {s : SegT} (hs : l[i]? = some s) : ∃ b o p' q' cap vc, p = some ⟨b, o, none⟩ ∧ SegIn w s p' q' ∧ s.raw.length ≤ vc ∧
    w.cell? ⟨b, o + i * 8, none⟩ = some (.int .i64 s.K) ∧ w.cell? ⟨b, o + i * 8 + 1, none⟩ = some (.slice p' s.runs.length cap) ∧ w.cell? ⟨b, o + i * 8 + 2, none⟩ = some (.int .i64 s.A) ∧ w.cell? ⟨b, o + i * 8 + 3, none⟩ = some (.int .i64 s.R) ∧ w.cell? ⟨b, o + i * 8 + 4, none⟩ = some (.int .i64 s.n) ∧ w.cell? ⟨b, o + i * 8 + 5, none⟩ = some (.int .i64 s.d) ∧ w.cell? ⟨b, o + i * 8 + 6, none⟩ = some (.slice q' s.raw.length vc) ∧ w.cell? ⟨b, o + i * 8 + 7, none⟩ = some (.int .i64 s.E) := by
  obtain ⟨b, o, p', q', cap, vc, e, h1, h2, h3⟩ := h.at' i s hs
  exact ⟨b, o, p', q', cap, vc, e, h2, h3, h1 0 _ rfl, h1 1 _ rfl, h1 2 _ rfl, h1 3 _ rfl, h1 4 _ rfl, h1 5 _ rfl, h1 6 _ rfl, h1 7 _ rfl⟩
structure SerIn (w : World) (s : SerT) (ps po : Option Addr) : Prop where
  segs : SegsIn w ps s.segs
  opn : PtsIn w po s.opn
  fewS : s.segs.length ≤ 100
  fewO : s.opn.length ≤ 100
theorem SerIn.below {w w' : World} {s : SerT} {ps po : Option Addr} (h : SerIn w s ps po) (hb : Below w.heap.size w w') : SerIn w' s ps po := ⟨h.segs.below hb, h.opn.below hb, h.fewS, h.fewO⟩
def serA (s : SerT) (ps : Option Addr) (cs : Nat) (po : Option Addr) (co : Nat) : Array Value := #[.string s.name, .int .i64 s.eps, .int .i64 s.floor, .int .i64 s.last, .int .i64 s.scale, .slice ps s.segs.length cs, .slice po s.opn.length co]
/-- A row of segments: Check. -/
def mcRel (w : World) (p : Option Addr) (cap : Nat) (l : List SegT) (a' : Act) (W : World) : Prop :=
  Below w.heap.size w W ∧ ∃ (i : Nat) (bh : Int), (∃ u : Nat → Value, a' = { tmps := #[.slice p l.length cap, u 1, u 2, .int .i64 bh, u 4, u 5, u 6, u 7, .slice p l.length cap, .int .i64 (l.length : Int), .int .i64 (i : Int), u 11, u 12, u 13, u 14, u 15, u 16, u 17, u 18, u 19, u 20, u 21, u 22, u 23, u 24, u 25, u 26], defers := [] }) ∧ i ≤ l.length ∧ rowB (-1) l = rowB bh (l.drop i)
end Go.Proofs.YtpdhdjlhicceoaaGreatDoor
namespace Go.Proofs.YtpdhdjlhicceoaaGreatDoor
open Go.RowKit Go.Shelf
attribute [local go_sem] Oper.semAt_some
end Go.Proofs.YtpdhdjlhicceoaaGreatDoor
namespace Go.Proofs.YtpdhdjlhicceoaaGreatDoor
open Go.RowKit Go.Shelf
attribute [local go_sem] Oper.semAt_some
def keptL (fl : Int) (l : List Int) : Nat := (l.filter fun t => decide (fl ≤ t)).length
end Go.Proofs.YtpdhdjlhicceoaaGreatDoor
namespace Go.Proofs.YtpdhdjlhicceoaaGreatDoor
open Go.RowKit Go.Shelf
attribute [local go_sem] Oper.semAt_some
def ck1Rel (w : World) (s : SerT) (ps po : Option Addr) (cs co : Nat) (a' : Act) (W : World) : Prop :=
  Below w.heap.size w W ∧ Blk W w.heap.size #[.string s.name, .int .i64 s.eps, .int .i64 s.floor, .int .i64 s.last, .int .i64 s.scale, .slice ps s.segs.length cs, .slice po s.opn.length co] 26 ∧ Blk W (w.heap.size + 1) #[.int .i64 0] 27 ∧ ∃ i : Nat, (∃ u : Nat → Value, a' = { tmps := #[.agg #[.string s.name, .int .i64 s.eps, .int .i64 s.floor, .int .i64 s.last, .int .i64 s.scale, .slice ps s.segs.length cs, .slice po s.opn.length co], .pointer (some ⟨w.heap.size, 0, none⟩), .pointer (some ⟨w.heap.size + 1, 0, none⟩), u 3, u 4, u 5, u 6, u 7, u 8, u 9, u 10, u 11, u 12, u 13, u 14, u 15, u 16, u 17, u 18, u 19, u 20, u 21, u 22, u 23, u 24, .slice ps s.segs.length cs, .int .i64 (s.segs.length : Int), .int .i64 (i : Int), u 28, u 29, u 30, u 31, u 32, u 33, u 34, u 35, u 36, u 37, u 38, u 39, u 40, u 41, u 42, u 43, u 44, u 45, u 46, u 47, u 48, u 49, u 50, u 51, u 52, u 53, u 54, u 55, u 56, u 57, u 58, u 59, u 60, u 61, u 62, u 63, u 64, u 65, u 66, u 67, u 68, u 69, u 70, u 71, u 72, u 73, u 74, u 75, u 76, u 77, u 78, u 79, u 80, u 81, u 82, u 83], defers := [] }) ∧ i ≤ s.segs.length ∧ (∀ j x, j < i → s.segs[j]? = some x → inSegB s.eps s.floor x = true)
def ck2Rel (w : World) (s : SerT) (ps po : Option Addr) (cs co : Nat) (a' : Act) (W : World) : Prop :=
  Below w.heap.size w W ∧ Blk W w.heap.size #[.string s.name, .int .i64 s.eps, .int .i64 s.floor, .int .i64 s.last, .int .i64 s.scale, .slice ps s.segs.length cs, .slice po s.opn.length co] 26 ∧ Blk W (w.heap.size + 1) #[.int .i64 0] 27 ∧ ∃ i : Nat, (∃ u : Nat → Value, a' = { tmps := #[.agg #[.string s.name, .int .i64 s.eps, .int .i64 s.floor, .int .i64 s.last, .int .i64 s.scale, .slice ps s.segs.length cs, .slice po s.opn.length co], .pointer (some ⟨w.heap.size, 0, none⟩), .pointer (some ⟨w.heap.size + 1, 0, none⟩), u 3, u 4, u 5, u 6, u 7, u 8, u 9, u 10, u 11, u 12, u 13, u 14, u 15, u 16, u 17, u 18, u 19, u 20, u 21, u 22, u 23, u 24, u 25, u 26, u 27, u 28, u 29, u 30, u 31, u 32, u 33, u 34, u 35, u 36, u 37, u 38, u 39, u 40, u 41, u 42, u 43, u 44, .slice po s.opn.length co, .int .i64 (s.opn.length : Int), .int .i64 (i : Int), u 48, u 49, u 50, u 51, u 52, u 53, u 54, u 55, u 56, u 57, u 58, u 59, u 60, u 61, u 62, u 63, u 64, u 65, u 66, u 67, u 68, u 69, u 70, u 71, u 72, u 73, u 74, u 75, u 76, u 77, u 78, u 79, u 80, u 81, u 82, u 83], defers := [] }) ∧ i ≤ s.opn.length ∧ (∀ j x, j < i → s.opn[j]? = some x → inOpnB s.floor x = true)
end Go.Proofs.YtpdhdjlhicceoaaGreatDoor
namespace Go.Proofs.YtpdhdjlhicceoaaGreatDoor
open Go.RowKit

def valD : List Int → Nat
  | [] => 0
  | d :: l => d.toNat + 2 * valD l
def Dig (l : List Int) : Prop := ∀ d, d ∈ l → d = 0 ∨ d = 1
/-- No noughts at the end. -/
def Canon (l : List Int) : Prop := l = [] ∨ 2 ^ (l.length - 1) ≤ valD l
theorem Dig.nil : Dig [] := fun d h => by simp at h
theorem Dig.cons {l : List Int} {d : Int} (h : Dig l) (hd : d = 0 ∨ d = 1) : Dig (d :: l) := fun x hx => by
  rcases List.mem_cons.1 hx with h1 | h1
  · subst h1; exact hd
  · exact h x h1
theorem Dig.take {l : List Int} (h : Dig l) (k : Nat) : Dig (l.take k) := fun x hx => h x (List.mem_of_mem_take hx)
theorem Dig.drop {l : List Int} (h : Dig l) (k : Nat) : Dig (l.drop k) := fun x hx => h x (List.mem_of_mem_drop hx)
theorem Dig.at {l : List Int} (h : Dig l) {k : Nat} {d : Int} (hk : l[k]? = some d) : d = 0 ∨ d = 1 := h d (List.mem_of_getElem? hk)
theorem Canon.nil : Canon [] := .inl rfl
/-- What numbers a slice of int has; its block is one of int. -/
structure DigsIn (w : World) (p : Option Addr) (l : List Int) : Prop where
  at' : ∀ (i : Nat) (x : Int), l[i]? = some x → ∃ b o, p = some ⟨b, o, none⟩ ∧ w.cell? ⟨b, o + i, none⟩ = some (.int .i64 x)
  typ : ∀ a, p = some a → ∃ cur fz, w.heap[a.block]? = some (.cells cur 3 fz)
theorem DigsIn.below {w w' : World} {p : Option Addr} {l : List Int} (h : DigsIn w p l) (hb : Below w.heap.size w w') : DigsIn w' p l :=
  ⟨((⟨h.at'⟩ : IntsIn w p l).below hb).at', fun a e => by
    obtain ⟨cur, fz, hh⟩ := h.typ a e
    exact ⟨cur, fz, (hb.block a.block (Array.getElem?_eq_some_iff.1 hh).1).trans hh⟩⟩
theorem DigsIn.take {w : World} {p : Option Addr} {l : List Int} (h : DigsIn w p l) (k : Nat) : DigsIn w p (l.take k) := ⟨fun i r hr => h.at' i r (by
  rw [List.getElem?_take] at hr
  split at hr
  · exact hr
  · cases hr), h.typ⟩
/-- A slice of digits: a number, without noughts at the end. -/
def Bits (w : World) (v : Value) (n : Nat) : Prop := ∃ p l cap, v = .slice p l.length cap ∧ l.length ≤ cap ∧ l.length ≤ 1000 ∧ (p = none → l = [] ∧ cap = 0) ∧ DigsIn w p l ∧ Dig l ∧ Canon l ∧ valD l = n
theorem Bits.below {w w' : World} {v : Value} {n : Nat} (h : Bits w v n) (hb : Below w.heap.size w w') : Bits w' v n := by
  obtain ⟨p, l, cap, h1, h2, h3, h4, h5, h6⟩ := h
  exact ⟨p, l, cap, h1, h2, h3, h4, h5.below hb, h6⟩
theorem Bits.rex {L : List Nat} {w w' : World} {v : Value} {n : Nat} (h : Bits w v n) (hr : Rex L w w') (hL : L = []) : Bits w' v n := by subst hL; exact h.below hr.below
theorem Bits.drew {w : World} {v : Value} {n : Nat} (h : Bits w v n) : Bits w.drew v n := by
  obtain ⟨p, l, cap, h1, h2, h3, h4, h5, h6⟩ := h
  exact ⟨p, l, cap, h1, h2, h3, h4, ⟨h5.at', h5.typ⟩, h6⟩
theorem Bits.zero (w : World) : Bits w (.slice none 0 0) 0 := ⟨none, [], 0, rfl, by simp, by simp, fun _ => ⟨rfl, rfl⟩, ⟨fun i x h => by simp at h, fun a e => by cases e⟩, Dig.nil, Canon.nil, rfl⟩
end Go.Proofs.YtpdhdjlhicceoaaGreatDoor
namespace Go.Proofs.YtpdhdjlhicceoaaGreatDoor
open Go.RowKit
def sizeRel (u0 : Nat) (w : World) (a' : Act) (W : World) : Prop :=
  Below w.heap.size w W ∧ ∃ (l : List Int) (u : Nat) (v : Value), (∃ x : Nat → Value, a' = { tmps := #[.int .u64 (u : Int), x 1, x 2, v, x 4, x 5, x 6, x 7, x 8, x 9, x 10, x 11, x 12, x 13, x 14], defers := [] }) ∧
    W.ownsRow w.heap.size 3 1 v l.length (l.map (Value.int .i64)) ∧ Dig l ∧ valD l + 2 ^ l.length * u = u0 ∧ l.length ≤ 64 ∧ u < 2 ^ (64 - l.length) ∧ (u = 0 → Canon l)
def powRel (n : Nat) (w : World) (a' : Act) (W : World) : Prop :=
  Below w.heap.size w W ∧ ∃ (k : Nat) (v : Value), (∃ x : Nat → Value, a' = { tmps := #[.int .i64 (n : Int), x 1, x 2, v, .int .i64 (k : Int), x 5, x 6, x 7, x 8, x 9, x 10, x 11, x 12, x 13, x 14, x 15], defers := [] }) ∧
    W.ownsRow w.heap.size 3 1 v k ((List.replicate k (0 : Int)).map (Value.int .i64)) ∧ k ≤ n
end Go.Proofs.YtpdhdjlhicceoaaGreatDoor
namespace Go.Proofs.YtpdhdjlhicceoaaGreatDoor
open Go.RowKit
theorem DigsIn.taken {w : World} {p : Option Addr} {l : List Int} (h : DigsIn w p l) (k : Nat) : DigsIn w p (l.take k) := h.take k
def trimRel (w : World) (b o cap : Nat) (l : List Int) (a' : Act) (W : World) : Prop :=
  Below w.heap.size w W ∧ ∃ k : Nat, (∃ u : Nat → Value, a' = { tmps := #[.slice (some ⟨b, o, none⟩) l.length cap, u 1, u 2, .int .i64 (k : Int), u 4, u 5, u 6, u 7, u 8, u 9, u 10, u 11, u 12, u 13, u 14, u 15, u 16, u 17, u 18, u 19, u 20], defers := [] }) ∧ k ≤ l.length ∧ valD (l.take k) = valD l
end Go.Proofs.YtpdhdjlhicceoaaGreatDoor
