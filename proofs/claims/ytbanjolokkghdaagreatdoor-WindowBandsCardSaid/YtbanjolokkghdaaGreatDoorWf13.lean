/- Parts of the proof that follows: All points of a segment, collected. No condition. | seg.Points, told. No condition. | Points in memory; which of them lie within a span, plainly. No condition. | A series, plainly: which may be; what is told of its times; their sheet. No condition. | A raw series and a model, plainly: which may be, what is told of some times. No condition. | The laws of chapter 11: wakes. | The laws of chapter 11: wakes told; together. | The laws of chapter 11: own. | A segment as it came in. No condition. | The laws of chapter 11: own, told. | A segment that lies, kept by steps that make memory. No condition. -/
import Derived.Laws.AppendOwnNone
import Derived.Test.YtbanjolokkghdaaGreatDoorWf12
set_option linter.unusedSimpArgs false
set_option linter.unusedVariables false
namespace Go.Proofs.YtbanjolokkghdaaGreatDoor
open Go.RowKit Go.Shelf
attribute [local go_sem] Oper.semAt_some
def flatPts (l : List (Int × Int)) : List Value := l.flatMap fun x => [.int .i64 x.1, .int .i64 x.2]
theorem RunsIn.keep {w A B : World} {p : Option Addr} {l : List RunT} (h : RunsIn w p l) (hb : Below w.heap.size A B) (ha : RunsIn A p l) : RunsIn B p l := ⟨fun i r hr => by
  obtain ⟨b, o, e, k0, k1, k2⟩ := ha.at' i r hr
  obtain ⟨b', o', e', q0, _⟩ := h.at' i r hr
  rw [e] at e'
  injection e' with e'
  injection e' with e1 e2
  subst e1
  have hlt := cell_lt q0
  exact ⟨b, o, e, (hb.cell (p := ⟨b, _, none⟩) hlt).trans k0, (hb.cell (p := ⟨b, _, none⟩) hlt).trans k1, (hb.cell (p := ⟨b, _, none⟩) hlt).trans k2⟩⟩
theorem IntsIn.keep {w A B : World} {p : Option Addr} {l : List Int} (h : IntsIn w p l) (hb : Below w.heap.size A B) (ha : IntsIn A p l) : IntsIn B p l := ⟨fun i r hr => by
  obtain ⟨b, o, e, k0⟩ := ha.at' i r hr
  obtain ⟨b', o', e', q0⟩ := h.at' i r hr
  rw [e] at e'
  injection e' with e'
  injection e' with e1 e2
  subst e1
  exact ⟨b, o, e, (hb.cell (p := ⟨b, _, none⟩) (cell_lt q0)).trans k0⟩⟩
theorem SegIn.keep {w A B : World} {s : SegT} {p q : Option Addr} (h : SegIn w s p q) (hb : Below w.heap.size A B) (ha : SegIn A s p q) : SegIn B s p q := ⟨h.runs.keep hb ha.runs, h.raw.keep hb ha.raw, h.fewR, h.fewV⟩
/-- All points, in an array of its own. -/
def PtsIs (s : SegT) (B : Nat) (v : Value) (w : World) : Prop := w.ownsRow B 56 2 v (ptsL s).length (flatPts (ptsL s))
end Go.Proofs.YtbanjolokkghdaaGreatDoor
namespace Go.Proofs.YtbanjolokkghdaaGreatDoor
open Go.RowKit
end Go.Proofs.YtbanjolokkghdaaGreatDoor
namespace Go.Proofs.YtbanjolokkghdaaGreatDoor
open Go.RowKit

structure PtsIn (w : World) (p : Option Addr) (l : List (Int × Int)) : Prop where
  at' : ∀ (i : Nat) (x : Int × Int), l[i]? = some x → ∃ b o, p = some ⟨b, o, none⟩ ∧ w.cell? ⟨b, o + i * 2, none⟩ = some (.int .i64 x.1) ∧ w.cell? ⟨b, o + i * 2 + 1, none⟩ = some (.int .i64 x.2)
theorem PtsIn.below {w w' : World} {p : Option Addr} {l : List (Int × Int)} (h : PtsIn w p l) (hb : Below w.heap.size w w') : PtsIn w' p l := ⟨fun i r hr => by
  obtain ⟨b, o, e, h1, h2⟩ := h.at' i r hr
  exact ⟨b, o, e, (hb.cell (p := ⟨b, _, none⟩) (cell_lt h1)).trans h1, (hb.cell (p := ⟨b, _, none⟩) (cell_lt h1)).trans h2⟩⟩
theorem PtsIn.alloc {w : World} {p : Option Addr} {l : List (Int × Int)} (h : PtsIn w p l) (o : Obj) : PtsIn (w.alloc o) p l := h.below ((Below.refl _ _).alloc (Nat.le_refl _) o)
theorem PtsIn.calls {w w' : World} {p : Option Addr} {l : List (Int × Int)} (h : PtsIn w p l) (hb : Below w.heap.size w w') : PtsIn w' p l := h.below hb
theorem PtsIn.set' {w : World} {p : Option Addr} {o i : Nat} {v : Value} {l : List (Int × Int)} (h : PtsIn w p l) (hne : ∀ a, p = some a → a.block ≠ o) : PtsIn (w.setCell ⟨o, i, none⟩ v) p l := ⟨fun k r hr => by
  obtain ⟨b, y, e, h1, h2⟩ := h.at' k r hr
  have hc : ∀ z, (w.setCell ⟨o, i, none⟩ v).cell? ⟨b, z, none⟩ = w.cell? ⟨b, z, none⟩ := by
    intro z
    have := heap_setCell_other w ⟨o, i, none⟩ b v (hne _ e)
    simp only [World.cell?, this]
  exact ⟨b, y, e, (hc _).trans h1, (hc _).trans h2⟩⟩
theorem PtsIn.set {w : World} {g x o i : Nat} {v : Value} {l : List (Int × Int)} (h : PtsIn w (some ⟨g, x, none⟩) l) (hne : g ≠ o) : PtsIn (w.setCell ⟨o, i, none⟩ v) (some ⟨g, x, none⟩) l := h.set' fun a e => by cases e; exact hne
theorem PtsIn.drew {w : World} {p : Option Addr} {l : List (Int × Int)} (h : PtsIn w p l) : PtsIn w.drew p l := ⟨h.at'⟩
theorem PtsIn.rex {L : List Nat} {w w' : World} {p : Option Addr} {l : List (Int × Int)} (h : PtsIn w p l) (hr : Rex L w w') (hL : L = []) : PtsIn w' p l := by subst hL; exact h.below hr.below
theorem flatPts_at : ∀ (l : List (Int × Int)) (i : Nat) (x : Int × Int), l[i]? = some x → (flatPts l)[i * 2]? = some (.int .i64 x.1) ∧ (flatPts l)[i * 2 + 1]? = some (.int .i64 x.2)
  | [], i, x, h => by simp at h
  | y :: l, 0, x, h => by
    simp at h
    subst h
    exact ⟨rfl, rfl⟩
  | y :: l, i + 1, x, h => by
    obtain ⟨a, b⟩ := flatPts_at l i x (by simpa using h)
    have e : flatPts (y :: l) = .int .i64 y.1 :: .int .i64 y.2 :: flatPts l := rfl
    rw [e, show (i + 1) * 2 = i * 2 + 1 + 1 by omega]
    exact ⟨by simpa using a, by simpa using b⟩
theorem pts_in {w : World} {g n : Nat} {t : TypeId} {cur : Array Value} {l : List (Int × Int)} (hb : Blk w g cur t) (ht : cur.toList.take n = flatPts l) : PtsIn w (some ⟨g, 0, none⟩) l := ⟨fun i x hx => by
  obtain ⟨a, b⟩ := flatPts_at l i x hx
  refine ⟨g, 0, rfl, ?_, ?_⟩
  · rw [hb.cell, Nat.zero_add]; exact row_take ht a
  · rw [hb.cell, Nat.zero_add]; exact row_take ht b⟩

/-- The values of the points from a to b. -/
def selB (a b : Int) (x : Int × Int) : Bool := decide (a ≤ x.1) && decide (x.1 ≤ b)
def selL (a b : Int) (l : List (Int × Int)) : List Int := (l.filter (selB a b)).map (·.2)
end Go.Proofs.YtbanjolokkghdaaGreatDoor
namespace Go.Proofs.YtbanjolokkghdaaGreatDoor
open Go.RowKit

/-- What a series says. -/
structure SerT where
  name : ByteArray
  eps : Int
  floor : Int
  last : Int
  scale : Int
  segs : List SegT
  opn : List (Int × Int)
def letterB (r : Nat) : Bool := decide (97 ≤ r ∧ r ≤ 122) || decide (48 ≤ r ∧ r ≤ 57)
def lettersB (s : ByteArray) : Nat → Nat → Bool
  | 0, _ => true
  | f + 1, pos => if pos < s.size then letterB (Utf8.decode s pos).1 && lettersB s f (pos + (Utf8.decode s pos).2) else true
def nameB (s : ByteArray) : Bool := decide (1 ≤ s.size ∧ s.size ≤ 12) && lettersB s s.size 0
def timesS (s : SerT) : List Int := s.segs.flatMap (fun x => timesL x.runs) ++ s.opn.map (·.1)
def btw (n lo hi : Int) : Bool := decide (lo ≤ n) && decide (n ≤ hi)
def numsB (s : SerT) : Bool := nameB s.name && (btw s.eps 0 1099511627776 && (btw s.scale (-40) 40 && (btw s.floor 0 281474976710656 && btw s.last (-1) 281474976710656)))
def rowB : Int → List SegT → Bool
  | _, [] => true
  | b, x :: l => segB x && (decide (b < firstT x.runs) && rowB (lastT x.runs) l)
def inSegB (eps floor : Int) (x : SegT) : Bool := decide (x.E ≤ eps) && decide (floor ≤ lastT x.runs)
def inOpnB (floor : Int) (p : Int × Int) : Bool := btw p.1 floor 281474976710656 && btw p.2 (-2305843009213693952) 2305843009213693952
def riseB : Int → List Int → Bool
  | _, [] => true
  | b, t :: l => decide (b < t) && riseB t l
def lastOr : Int → List Int → Int
  | b, [] => b
  | _, t :: l => lastOr t l
def keptN (s : SerT) : Nat := ((timesS s).filter fun t => decide (s.floor ≤ t)).length
def lastB (s : SerT) : Bool := decide (lastOr (-1) (timesS s) < 0) || (s.last == lastOr (-1) (timesS s))
def checkB (s : SerT) : Bool := numsB s && (rowB (-1) s.segs && (decide (s.opn.length < 32) && (s.segs.all (inSegB s.eps s.floor) && (s.opn.all (inOpnB s.floor) && (riseB (-1) (timesS s) && (lastB s && decide (keptN s ≤ 1024)))))))
def checkE (s : SerT) : Int := if checkB s = true then 0 else 340

theorem lastOr_snoc : ∀ (l : List Int) (b t : Int), lastOr b (l ++ [t]) = t
  | [], _, _ => rfl
  | _ :: l, _, _ => by simp only [List.cons_append, lastOr]; exact lastOr_snoc l _ _
/-- What is told of each kept time: the time, the value, how far. -/
def segBk (a b : Int) (x : SegT) : List (Int × Int × Int) := ((ptsL x).filter (selB a b)).map fun p => (p.1, p.2, x.E)
def opnBk (a b : Int) (l : List (Int × Int)) : List (Int × Int × Int) := (l.filter (selB a b)).map fun p => (p.1, p.2, 0)
def toldL (s : SerT) (a b : Int) : List (Int × Int × Int) := s.segs.flatMap (segBk (mx a s.floor) b) ++ opnBk (mx a s.floor) b s.opn
/-- .. piece by piece: some values, and how far. -/
def segPc (a b : Int) (x : SegT) : List (List Int × Int) := if selL a b (ptsL x) = [] then [] else [(selL a b (ptsL x), x.E)]
def opnPc (a b : Int) (l : List (Int × Int)) : List (List Int × Int) := (l.filter (selB a b)).map fun p => ([p.2], 0)
def pcsL (s : SerT) (a b : Int) : List (List Int × Int) := s.segs.flatMap (segPc (mx a s.floor) b) ++ opnPc (mx a s.floor) b s.opn
def pairs (g : List Int × Int) : List (Int × Int) := g.1.map fun v => (v, g.2)
def loL (l : List (Int × Int)) : List Int := l.map fun x => x.1 - x.2
def hiL (l : List (Int × Int)) : List Int := l.map fun x => x.1 + x.2
/-- The sheet of some values. -/
def shA (l : List (Int × Int)) : Array Value := #[.int .i64 l.length, .int .i64 (minL (loL l)), .int .i64 (minL (hiL l)), .int .i64 (maxL (loL l)), .int .i64 (maxL (hiL l)), .int .i64 (hiW (lsum (loL l))), .int .u64 (loW (lsum (loL l))), .int .i64 (hiW (lsum (hiL l))), .int .u64 (loW (lsum (hiL l)))]
def wholeL (s : SerT) (a b : Int) : List (Int × Int) := (toldL s a b).map (·.2)
def wholeE (s : SerT) (a b : Int) : Int := if checkB s = true then (if toldL s a b = [] then 9 else 0) else 340
def wholeV (s : SerT) (a b : Int) : List (Int × Int) := if checkB s = true then wholeL s a b else []
end Go.Proofs.YtbanjolokkghdaaGreatDoor
namespace Go.Proofs.YtbanjolokkghdaaGreatDoor
open Go.RowKit
/-- What a raw series says. -/
structure RawT where
  name : ByteArray
  eps : Int
  floor : Int
  last : Int
  scale : Int
  pts : List (Int × Int)
def ptB (p : Int × Int) : Bool := btw p.1 0 281474976710656 && btw p.2 (-2305843009213693952) 2305843009213693952
def rawPtsB (fl : Int) : Int → List (Int × Int) → Bool
  | _, [] => true
  | b, p :: l => (ptB p && (decide (fl ≤ p.1) && decide (b < p.1))) && rawPtsB fl p.1 l
def rawNumsB (r : RawT) : Bool := nameB r.name && (btw r.eps 0 1099511627776 && (btw r.scale (-40) 40 && (btw r.floor 0 281474976710656 && (btw r.last (-1) 281474976710656 && decide (r.pts.length ≤ 1024)))))
def rawB (r : RawT) : Bool := rawNumsB r && (rawPtsB r.floor (-1) r.pts && (r.pts.isEmpty || r.last == lastOr (-1) (r.pts.map (·.1))))
theorem rawPtsB_snoc (fl : Int) : ∀ (l : List (Int × Int)) (b : Int) (p : Int × Int), rawPtsB fl b (l ++ [p]) = (rawPtsB fl b l && (ptB p && (decide (fl ≤ p.1) && decide (lastOr b (l.map (·.1)) < p.1))))
  | [], b, p => by simp [rawPtsB, lastOr]
  | q :: l, b, p => by
    simp only [List.cons_append, rawPtsB, List.map_cons, lastOr]
    rw [rawPtsB_snoc fl l]
    simp only [Bool.and_assoc]
theorem rawPtsB_mem (fl : Int) : ∀ (l : List (Int × Int)) (b : Int), rawPtsB fl b l = true → ∀ p, p ∈ l → ptB p = true ∧ fl ≤ p.1 ∧ b < p.1
  | [], _, _, _, h => by cases h
  | q :: l, b, h, p, hp => by
    simp only [rawPtsB, Bool.and_eq_true, decide_eq_true_eq] at h
    rcases List.mem_cons.1 hp with rfl | hp
    · exact ⟨h.1.1, h.1.2.1, h.1.2.2⟩
    · obtain ⟨a, c, d⟩ := rawPtsB_mem fl l q.1 h.2 p hp
      exact ⟨a, c, by have := h.1.2.2; omega⟩
/-- The points of some times. -/
def someL (r : RawT) (a b : Int) : List (Int × Int) := r.pts.filter fun p => decide (a ≤ p.1) && decide (p.1 ≤ b)
def someV (r : RawT) (a b : Int) : List Int := (someL r a b).map (·.2)
end Go.Proofs.YtbanjolokkghdaaGreatDoor
namespace Go.Proofs.YtbanjolokkghdaaGreatDoor
open Go.RowKit
def l0 : List RunT := [⟨10, 2, 4⟩]
def s0 : SegT := ⟨2, l0, 5, 0, 1, 2, [], 3⟩
end Go.Proofs.YtbanjolokkghdaaGreatDoor
namespace Go.Proofs.YtbanjolokkghdaaGreatDoor
open Go.RowKit
end Go.Proofs.YtbanjolokkghdaaGreatDoor
namespace Go.Proofs.YtbanjolokkghdaaGreatDoor
open Go.RowKit
/-- The block of a slice is one of a type. -/
def TyP (w : World) (p : Option Addr) (T : TypeId) : Prop := ∀ a, p = some a → ∃ cur fz, w.heap[a.block]? = some (.cells cur T fz)
theorem TyP.below {w w' : World} {p : Option Addr} {T : TypeId} (h : TyP w p T) (hb : Below w.heap.size w w') : TyP w' p T := fun a e => by
  obtain ⟨cur, fz, hh⟩ := h a e
  exact ⟨cur, fz, (hb.block a.block (Array.getElem?_eq_some_iff.1 hh).1).trans hh⟩
theorem TyP.alloc {w : World} {p : Option Addr} {T : TypeId} (h : TyP w p T) (o : Obj) : TyP (w.alloc o) p T := h.below ((Below.refl _ _).alloc (Nat.le_refl _) o)
theorem TyP.setCell {w : World} {p : Option Addr} {T : TypeId} (h : TyP w p T) (a : Addr) (v : Value) : TyP (w.setCell a v) p T := fun b e => by
  obtain ⟨cur, fz, hh⟩ := h b e
  by_cases hb : b.block = a.block
  · refine ⟨if a.spot.isSome then cur else cur.setIfInBounds a.off v, fz, ?_⟩
    simp only [World.setCell, Array.getElem?_modify]
    rw [if_pos hb.symm, hh]; rfl
  · exact ⟨cur, fz, (heap_setCell_other w a b.block v hb).trans hh⟩
theorem TyP.new {w : World} {cs : Array Value} {T : TypeId} {g : Nat} (h : w.heap.size = g) : TyP (w.alloc (.cells cs T)) (some ⟨g, 0, none⟩) T := fun a e => by
  subst h
  cases e
  exact ⟨cs, (0, 0), heap_alloc_new w _⟩
theorem RunsIn.take {w : World} {p : Option Addr} {l : List RunT} (h : RunsIn w p l) (k : Nat) : RunsIn w p (l.take k) := ⟨fun i r hr => h.at' i r (by
  rw [List.getElem?_take] at hr
  split at hr
  · exact hr
  · cases hr)⟩
theorem IntsIn.take {w : World} {p : Option Addr} {l : List Int} (h : IntsIn w p l) (k : Nat) : IntsIn w p (l.take k) := ⟨fun i r hr => h.at' i r (by
  rw [List.getElem?_take] at hr
  split at hr
  · exact hr
  · cases hr)⟩
end Go.Proofs.YtbanjolokkghdaaGreatDoor
namespace Go.Proofs.YtbanjolokkghdaaGreatDoor
open Go.RowKit
/-- A segment as it came in. -/
structure Came (w : World) (s : SegT) (p q : Option Addr) (cap vc : Nat) : Prop where
  runs : RunsIn w p s.runs
  raw : IntsIn w q s.raw
  nilR : p = none → s.runs = [] ∧ cap = 0
  nilV : q = none → s.raw = [] ∧ vc = 0
  capR : s.runs.length ≤ cap
  capV : s.raw.length ≤ vc
  maxR : s.runs.length ≤ 9223372036854775807
  maxV : s.raw.length ≤ 9223372036854775807
end Go.Proofs.YtbanjolokkghdaaGreatDoor
namespace Go.Proofs.YtbanjolokkghdaaGreatDoor
open Go.RowKit
def ownS (s : SegT) : SegT := ⟨s.K, s.runs.take 300, s.A, s.R, s.n, s.d, s.raw.take 300, s.E⟩
def OwnOut (s : SegT) (w : World) (e : Ending) (w' : World) : Prop := ∃ p' cap' q' vc', e = .returned (.agg (segA (ownS s) p' q' cap' vc')) ∧ Below w.heap.size w w' ∧ SegIn w' (ownS s) p' q' ∧ (ownS s).raw.length ≤ vc'
/-- The same, and of which types the rows' blocks are. -/
def OwnOutT (s : SegT) (w : World) (e : Ending) (w' : World) : Prop := ∃ p' cap' q' vc', e = .returned (.agg (segA (ownS s) p' q' cap' vc')) ∧ Below w.heap.size w w' ∧ SegIn w' (ownS s) p' q' ∧ (ownS s).raw.length ≤ vc' ∧ TyP w' p' 94 ∧ TyP w' q' 2
end Go.Proofs.YtbanjolokkghdaaGreatDoor
namespace Go.Proofs.YtbanjolokkghdaaGreatDoor
open Go.RowKit
structure SegP (w : World) (s : SegT) (p q : Option Addr) : Prop where
  seg : SegIn w s p q
theorem SegP.below {w w' : World} {s : SegT} {p q : Option Addr} (h : SegP w s p q) (hb : Below w.heap.size w w') : SegP w' s p q := ⟨h.seg.below hb⟩
theorem SegP.alloc {w : World} {s : SegT} {p q : Option Addr} (h : SegP w s p q) (o : Obj) : SegP (w.alloc o) s p q := h.below ((Below.refl _ _).alloc (Nat.le_refl _) o)
theorem SegP.rex {L : List Nat} {w w' : World} {s : SegT} {p q : Option Addr} (h : SegP w s p q) (hr : Rex L w w') (hL : L = []) : SegP w' s p q := by subst hL; exact h.below hr.below
theorem SegP.drew {w : World} {s : SegT} {p q : Option Addr} (h : SegP w s p q) : SegP w.drew s p q := ⟨⟨⟨h.seg.runs.at'⟩, ⟨h.seg.raw.at'⟩, h.seg.fewR, h.seg.fewV⟩⟩
structure PtsP (w : World) (b o : Nat) (l : List (Int × Int)) : Prop where
  pts : PtsIn w (some ⟨b, o, none⟩) l
theorem PtsP.below {w w' : World} {b o : Nat} {l : List (Int × Int)} (h : PtsP w b o l) (hb : Below w.heap.size w w') : PtsP w' b o l := ⟨h.pts.below hb⟩
theorem PtsP.rex {L : List Nat} {w w' : World} {b o : Nat} {l : List (Int × Int)} (h : PtsP w b o l) (hr : Rex L w w') (hL : L = []) : PtsP w' b o l := by subst hL; exact h.below hr.below
theorem PtsP.drew {w : World} {b o : Nat} {l : List (Int × Int)} (h : PtsP w b o l) : PtsP w.drew b o l := ⟨⟨h.pts.at'⟩⟩
theorem PtsP.cellAt {w : World} {b o : Nat} {l : List (Int × Int)} (h : PtsP w b o l) {i : Nat} {x : Int × Int} (hx : l[i]? = some x) : w.cell? ⟨b, o + i * 2, none⟩ = some (.int .i64 x.1) ∧ w.cell? ⟨b, o + i * 2 + 1, none⟩ = some (.int .i64 x.2) := by
  obtain ⟨b', o', e, h1, h2⟩ := h.pts.at' i x hx
  cases e
  exact ⟨h1, h2⟩
end Go.Proofs.YtbanjolokkghdaaGreatDoor
