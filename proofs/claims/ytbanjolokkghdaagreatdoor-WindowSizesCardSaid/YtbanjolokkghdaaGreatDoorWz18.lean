/- Parts of the proof that follows: A series, plainly: which may be; what is told of its times; their sheet. No condition. | Layer span: Check, checked, both, total. No condition but that the ends are numbers of 64 bits. | Layers record and series: Name, and whether a series' numbers may be. No condition. | A series in memory; a row of segments: ends, Check; a segment's last time. No condition. -/
import Derived.Lib.OthersKept
import Derived.Lib.RuneBytes
import Derived.Test.YtbanjolokkghdaaGreatDoorWz17
set_option linter.unusedSimpArgs false
set_option linter.unusedVariables false
namespace Go.Proofs.YtbanjolokkghdaaGreatDoor
open Go.RowKit

/-- What a series says. -/
structure SerT where
  name : ByteArray
  eps : Int
  floor : Int
  last : Int
  scale : Int
  segs : List SegT
  opn : List (Int × Int)
def letterB (r : Nat) : Bool := decide (97 ≤ r ∧ r ≤ 122) || decide (48 ≤ r ∧ r ≤ 57)
def lettersB (s : ByteArray) : Nat → Nat → Bool
  | 0, _ => true
  | f + 1, pos => if pos < s.size then letterB (Utf8.decode s pos).1 && lettersB s f (pos + (Utf8.decode s pos).2) else true
def nameB (s : ByteArray) : Bool := decide (1 ≤ s.size ∧ s.size ≤ 12) && lettersB s s.size 0
def timesS (s : SerT) : List Int := s.segs.flatMap (fun x => timesL x.runs) ++ s.opn.map (·.1)
def btw (n lo hi : Int) : Bool := decide (lo ≤ n) && decide (n ≤ hi)
def numsB (s : SerT) : Bool := nameB s.name && (btw s.eps 0 1099511627776 && (btw s.scale (-40) 40 && (btw s.floor 0 281474976710656 && btw s.last (-1) 281474976710656)))
def rowB : Int → List SegT → Bool
  | _, [] => true
  | b, x :: l => segB x && (decide (b < firstT x.runs) && rowB (lastT x.runs) l)
def inSegB (eps floor : Int) (x : SegT) : Bool := decide (x.E ≤ eps) && decide (floor ≤ lastT x.runs)
def inOpnB (floor : Int) (p : Int × Int) : Bool := btw p.1 floor 281474976710656 && btw p.2 (-2305843009213693952) 2305843009213693952
def riseB : Int → List Int → Bool
  | _, [] => true
  | b, t :: l => decide (b < t) && riseB t l
def lastOr : Int → List Int → Int
  | b, [] => b
  | _, t :: l => lastOr t l
def keptN (s : SerT) : Nat := ((timesS s).filter fun t => decide (s.floor ≤ t)).length
def lastB (s : SerT) : Bool := decide (lastOr (-1) (timesS s) < 0) || (s.last == lastOr (-1) (timesS s))
def checkB (s : SerT) : Bool := numsB s && (rowB (-1) s.segs && (decide (s.opn.length < 32) && (s.segs.all (inSegB s.eps s.floor) && (s.opn.all (inOpnB s.floor) && (riseB (-1) (timesS s) && (lastB s && decide (keptN s ≤ 1024)))))))
def checkE (s : SerT) : Int := if checkB s = true then 0 else 340

/-- What is told of each kept time: the time, the value, how far. -/
def segBk (a b : Int) (x : SegT) : List (Int × Int × Int) := ((ptsL x).filter (selB a b)).map fun p => (p.1, p.2, x.E)
def opnBk (a b : Int) (l : List (Int × Int)) : List (Int × Int × Int) := (l.filter (selB a b)).map fun p => (p.1, p.2, 0)
def toldL (s : SerT) (a b : Int) : List (Int × Int × Int) := s.segs.flatMap (segBk (mx a s.floor) b) ++ opnBk (mx a s.floor) b s.opn
/-- .. piece by piece: some values, and how far. -/
def segPc (a b : Int) (x : SegT) : List (List Int × Int) := if selL a b (ptsL x) = [] then [] else [(selL a b (ptsL x), x.E)]
def opnPc (a b : Int) (l : List (Int × Int)) : List (List Int × Int) := (l.filter (selB a b)).map fun p => ([p.2], 0)
def pcsL (s : SerT) (a b : Int) : List (List Int × Int) := s.segs.flatMap (segPc (mx a s.floor) b) ++ opnPc (mx a s.floor) b s.opn
def pairs (g : List Int × Int) : List (Int × Int) := g.1.map fun v => (v, g.2)
def loL (l : List (Int × Int)) : List Int := l.map fun x => x.1 - x.2
def hiL (l : List (Int × Int)) : List Int := l.map fun x => x.1 + x.2
/-- The sheet of some values. -/
def shA (l : List (Int × Int)) : Array Value := #[.int .i64 l.length, .int .i64 (minL (loL l)), .int .i64 (minL (hiL l)), .int .i64 (maxL (loL l)), .int .i64 (maxL (hiL l)), .int .i64 (hiW (lsum (loL l))), .int .u64 (loW (lsum (loL l))), .int .i64 (hiW (lsum (hiL l))), .int .u64 (loW (lsum (hiL l)))]
def wholeL (s : SerT) (a b : Int) : List (Int × Int) := (toldL s a b).map (·.2)
def wholeE (s : SerT) (a b : Int) : Int := if checkB s = true then (if toldL s a b = [] then 9 else 0) else 340
def wholeV (s : SerT) (a b : Int) : List (Int × Int) := if checkB s = true then wholeL s a b else []
end Go.Proofs.YtbanjolokkghdaaGreatDoor
namespace Go.Proofs.YtbanjolokkghdaaGreatDoor
open Go.RowKit
def spE (a b : Int) : Int := if a ≤ b then 0 else 140
def spsE (l : List (Int × Int)) : Int := if l.all (fun x => decide (x.1 ≤ x.2)) = true then 0 else 140
def spcRel (w : World) (p : Option Addr) (cap : Nat) (l : List (Int × Int)) (a' : Act) (W : World) : Prop :=
  Below w.heap.size w W ∧ ∃ i : Nat, (∃ u : Nat → Value, a' = { tmps := #[.slice p l.length cap, u 1, u 2, u 3, u 4, u 5, .slice p l.length cap, .int .i64 (l.length : Int), .int .i64 (i : Int), u 9, u 10, u 11, u 12, u 13, u 14, u 15, u 16, u 17], defers := [] }) ∧ i ≤ l.length ∧ ∀ k x, k < i → l[k]? = some x → x.1 ≤ x.2
end Go.Proofs.YtbanjolokkghdaaGreatDoor
namespace Go.Proofs.YtbanjolokkghdaaGreatDoor
open Go.RowKit
def nmRel (w : World) (s : ByteArray) (ok : Bool) (a' : Act) (W : World) : Prop :=
  Below w.heap.size w W ∧ ∃ pos f : Nat, (∃ u : Nat → Value, a' = { tmps := #[.string s, u 1, u 2, .bool ok, u 4, u 5, u 6, u 7, u 8, u 9, u 10, u 11, u 12, u 13, u 14, .pointer (some ⟨w.heap.size, 0, none⟩), u 16, u 17, u 18, u 19, u 20, u 21, u 22], defers := [] }) ∧ W.heap[w.heap.size]? = some (.stringIter s pos) ∧ s.size ≤ pos + f ∧ lettersB s f pos = lettersB s s.size 0
end Go.Proofs.YtbanjolokkghdaaGreatDoor
namespace Go.Proofs.YtbanjolokkghdaaGreatDoor
open Go.RowKit
/-- Segments in memory, each with its runs and its numbers. -/
structure SegsIn (w : World) (p : Option Addr) (l : List SegT) : Prop where
  at' : ∀ (i : Nat) (s : SegT), l[i]? = some s → ∃ b o p' q' cap vc, p = some ⟨b, o, none⟩ ∧ (∀ j v, (segA s p' q' cap vc)[j]? = some v → w.cell? ⟨b, o + i * 8 + j, none⟩ = some v) ∧ SegIn w s p' q' ∧ s.raw.length ≤ vc
theorem SegsIn.below {w w' : World} {p : Option Addr} {l : List SegT} (h : SegsIn w p l) (hb : Below w.heap.size w w') : SegsIn w' p l := ⟨fun i s hs => by
  obtain ⟨b, o, p', q', cap, vc, e, h1, h2, h3⟩ := h.at' i s hs
  exact ⟨b, o, p', q', cap, vc, e, fun j v hv => (hb.cell (p := ⟨b, _, none⟩) (cell_lt (h1 j v hv))).trans (h1 j v hv), h2.below hb, h3⟩⟩
/-- The cells of one of them. -/
theorem SegsIn.one {w : World} {p : Option Addr} {l : List SegT} (h : SegsIn w p l) {i : Nat} {s : SegT} (hs : l[i]? = some s) : ∃ b o p' q' cap vc, p = some ⟨b, o, none⟩ ∧ SegIn w s p' q' ∧ s.raw.length ≤ vc ∧
    w.cell? ⟨b, o + i * 8, none⟩ = some (.int .i64 s.K) ∧ w.cell? ⟨b, o + i * 8 + 1, none⟩ = some (.slice p' s.runs.length cap) ∧ w.cell? ⟨b, o + i * 8 + 2, none⟩ = some (.int .i64 s.A) ∧ w.cell? ⟨b, o + i * 8 + 3, none⟩ = some (.int .i64 s.R) ∧ w.cell? ⟨b, o + i * 8 + 4, none⟩ = some (.int .i64 s.n) ∧ w.cell? ⟨b, o + i * 8 + 5, none⟩ = some (.int .i64 s.d) ∧ w.cell? ⟨b, o + i * 8 + 6, none⟩ = some (.slice q' s.raw.length vc) ∧ w.cell? ⟨b, o + i * 8 + 7, none⟩ = some (.int .i64 s.E) := by
  obtain ⟨b, o, p', q', cap, vc, e, h1, h2, h3⟩ := h.at' i s hs
  exact ⟨b, o, p', q', cap, vc, e, h2, h3, h1 0 _ rfl, h1 1 _ rfl, h1 2 _ rfl, h1 3 _ rfl, h1 4 _ rfl, h1 5 _ rfl, h1 6 _ rfl, h1 7 _ rfl⟩
structure SerIn (w : World) (s : SerT) (ps po : Option Addr) : Prop where
  segs : SegsIn w ps s.segs
  opn : PtsIn w po s.opn
  fewS : s.segs.length ≤ 100
  fewO : s.opn.length ≤ 100
theorem SerIn.below {w w' : World} {s : SerT} {ps po : Option Addr} (h : SerIn w s ps po) (hb : Below w.heap.size w w') : SerIn w' s ps po := ⟨h.segs.below hb, h.opn.below hb, h.fewS, h.fewO⟩
def serA (s : SerT) (ps : Option Addr) (cs : Nat) (po : Option Addr) (co : Nat) : Array Value := #[.string s.name, .int .i64 s.eps, .int .i64 s.floor, .int .i64 s.last, .int .i64 s.scale, .slice ps s.segs.length cs, .slice po s.opn.length co]
/-- A row of segments: Check. -/
def mcRel (w : World) (p : Option Addr) (cap : Nat) (l : List SegT) (a' : Act) (W : World) : Prop :=
  Below w.heap.size w W ∧ ∃ (i : Nat) (bh : Int), (∃ u : Nat → Value, a' = { tmps := #[.slice p l.length cap, u 1, u 2, .int .i64 bh, u 4, u 5, u 6, u 7, .slice p l.length cap, .int .i64 (l.length : Int), .int .i64 (i : Int), u 11, u 12, u 13, u 14, u 15, u 16, u 17, u 18, u 19, u 20, u 21, u 22, u 23, u 24, u 25, u 26], defers := [] }) ∧ i ≤ l.length ∧ rowB (-1) l = rowB bh (l.drop i)
end Go.Proofs.YtbanjolokkghdaaGreatDoor
