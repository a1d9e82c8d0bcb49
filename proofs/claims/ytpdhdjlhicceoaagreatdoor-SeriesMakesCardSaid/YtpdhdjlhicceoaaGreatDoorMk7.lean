/- Parts of the proof that follows: All times of runs, told. | All points of a segment, one behind the other. No condition. | All points of a segment, collected. No condition. | seg.Points, told. No condition. | Points in memory; which of them lie within a span, plainly. No condition. | A series, plainly: which may be; what is told of its times; their sheet. No condition. | The laws of chapter 11: wakes. | The laws of chapter 11: wakes told; together. | The laws of chapter 11: own. | A segment as it came in. No condition. | The laws of chapter 11: own, told. | A segment that lies, kept by steps that make memory. No condition. | Layer span: Check, checked, both, total. No condition but that the ends are numbers of 64 bits. | Layers record and series: Name, and whether a series' numbers may be. No condition. | Layer seg: Check, Count told. | seg.Far$1, walked: how far a segment is from points. No condition. -/
import Derived.Laws.AppendOwnNone
import Derived.Lib.OthersKept
import Derived.Lib.RuneBytes
import Derived.Test.YtpdhdjlhicceoaaGreatDoorMk6
set_option linter.unusedSimpArgs false
set_option linter.unusedVariables false
namespace Go.Proofs.YtpdhdjlhicceoaaGreatDoor
open Go.RowKit Go.Shelf
theorem keepsT_putObj {T : TypeId} {W : World} {l : Nat} {o : Obj} (o' : Obj) (hl : W.heap[l]? = some o) (ho : o.isCells = false) : KeepsT T W (W.putObj l o') := by
  intro b cs f hb
  rw [World.putObj_heap_other]
  · exact hb
  · rintro rfl
    rw [hb] at hl
    cases hl
    cases ho
/-- All times, in an array of its own. -/
def TimesOut (w : World) (l : List RunT) (e : Ending) (w' : World) : Prop := ∃ v, e = .returned (.tuple #[v, .int .i64 0]) ∧ w'.ownsRow w.heap.size 2 1 v (timesL l).length ((timesL l).map (Value.int .i64)) ∧ Below w.heap.size w w'
end Go.Proofs.YtpdhdjlhicceoaaGreatDoor
namespace Go.Proofs.YtpdhdjlhicceoaaGreatDoor
open Go.RowKit Go.Shelf
attribute [local go_sem] Oper.semAt_some
/-- The points of a segment. -/
def ptsL (s : SegT) : List (Int × Int) := (timesL s.runs).zip (vals s)
/-- What a round must keep for the points' sake. -/
structure KeepsPts (s : SegT) (p q : Option Addr) (cap vc Bs n₀ : Nat) (A B : World) : Prop where
  size : A.heap.size ≤ B.heap.size
  seg : SegIn A s p q → SegIn B s p q
  box : Blk A Bs (segA s p q cap vc) 93 → Blk B Bs (segA s p q cap vc) 93
  nums : ∀ (b : Nat) (cs : Array Value), n₀ ≤ b → Blk A b cs 2 → Blk B b cs 2
end Go.Proofs.YtpdhdjlhicceoaaGreatDoor
namespace Go.Proofs.YtpdhdjlhicceoaaGreatDoor
open Go.RowKit Go.Shelf
attribute [local go_sem] Oper.semAt_some
def flatPts (l : List (Int × Int)) : List Value := l.flatMap fun x => [.int .i64 x.1, .int .i64 x.2]
theorem RunsIn.keep {w A B : World} {p : Option Addr} {l : List RunT} (h : RunsIn w p l) (hb : Below w.heap.size A B) (ha : RunsIn A p l) : RunsIn B p l := ⟨fun i r hr => by
  obtain ⟨b, o, e, k0, k1, k2⟩ := ha.at' i r hr
  obtain ⟨b', o', e', q0, _⟩ := h.at' i r hr
  rw [e] at e'
  injection e' with e'
  injection e' with e1 e2
  subst e1
  have hlt := cell_lt q0
  exact ⟨b, o, e, (hb.cell (p := ⟨b, _, none⟩) hlt).trans k0, (hb.cell (p := ⟨b, _, none⟩) hlt).trans k1, (hb.cell (p := ⟨b, _, none⟩) hlt).trans k2⟩⟩
theorem IntsIn.keep {w A B : World} {p : Option Addr} {l : List Int} (h : IntsIn w p l) (hb : Below w.heap.size A B) (ha : IntsIn A p l) : IntsIn B p l := ⟨fun i r hr => by
  obtain ⟨b, o, e, k0⟩ := ha.at' i r hr
  obtain ⟨b', o', e', q0⟩ := h.at' i r hr
  rw [e] at e'
  injection e' with e'
  injection e' with e1 e2
  subst e1
  exact ⟨b, o, e, (hb.cell (p := ⟨b, _, none⟩) (cell_lt q0)).trans k0⟩⟩
theorem SegIn.keep {w A B : World} {s : SegT} {p q : Option Addr} (h : SegIn w s p q) (hb : Below w.heap.size A B) (ha : SegIn A s p q) : SegIn B s p q := ⟨h.runs.keep hb ha.runs, h.raw.keep hb ha.raw, h.fewR, h.fewV⟩
/-- All points, in an array of its own. -/
def PtsIs (s : SegT) (B : Nat) (v : Value) (w : World) : Prop := w.ownsRow B 53 2 v (ptsL s).length (flatPts (ptsL s))
end Go.Proofs.YtpdhdjlhicceoaaGreatDoor
namespace Go.Proofs.YtpdhdjlhicceoaaGreatDoor
open Go.RowKit
end Go.Proofs.YtpdhdjlhicceoaaGreatDoor
namespace Go.Proofs.YtpdhdjlhicceoaaGreatDoor
open Go.RowKit

structure PtsIn (w : World) (p : Option Addr) (l : List (Int × Int)) : Prop where
  at' : ∀ (i : Nat) (x : Int × Int), l[i]? = some x → ∃ b o, p = some ⟨b, o, none⟩ ∧ w.cell? ⟨b, o + i * 2, none⟩ = some (.int .i64 x.1) ∧ w.cell? ⟨b, o + i * 2 + 1, none⟩ = some (.int .i64 x.2)
theorem PtsIn.below {w w' : World} {p : Option Addr} {l : List (Int × Int)} (h : PtsIn w p l) (hb : Below w.heap.size w w') : PtsIn w' p l := ⟨fun i r hr => by
  obtain ⟨b, o, e, h1, h2⟩ := h.at' i r hr
  exact ⟨b, o, e, (hb.cell (p := ⟨b, _, none⟩) (cell_lt h1)).trans h1, (hb.cell (p := ⟨b, _, none⟩) (cell_lt h1)).trans h2⟩⟩
theorem PtsIn.alloc {w : World} {p : Option Addr} {l : List (Int × Int)} (h : PtsIn w p l) (o : Obj) : PtsIn (w.alloc o) p l := h.below ((Below.refl _ _).alloc (Nat.le_refl _) o)
theorem PtsIn.calls {w w' : World} {p : Option Addr} {l : List (Int × Int)} (h : PtsIn w p l) (hb : Below w.heap.size w w') : PtsIn w' p l := h.below hb
theorem PtsIn.set' {w : World} {p : Option Addr} {o i : Nat} {v : Value} {l : List (Int × Int)} (h : PtsIn w p l) (hne : ∀ a, p = some a → a.block ≠ o) : PtsIn (w.setCell ⟨o, i, none⟩ v) p l := ⟨fun k r hr => by
  obtain ⟨b, y, e, h1, h2⟩ := h.at' k r hr
  have hc : ∀ z, (w.setCell ⟨o, i, none⟩ v).cell? ⟨b, z, none⟩ = w.cell? ⟨b, z, none⟩ := by
    intro z
    have := heap_setCell_other w ⟨o, i, none⟩ b v (hne _ e)
    simp only [World.cell?, this]
  exact ⟨b, y, e, (hc _).trans h1, (hc _).trans h2⟩⟩
theorem PtsIn.set {w : World} {g x o i : Nat} {v : Value} {l : List (Int × Int)} (h : PtsIn w (some ⟨g, x, none⟩) l) (hne : g ≠ o) : PtsIn (w.setCell ⟨o, i, none⟩ v) (some ⟨g, x, none⟩) l := h.set' fun a e => by cases e; exact hne
theorem PtsIn.drew {w : World} {p : Option Addr} {l : List (Int × Int)} (h : PtsIn w p l) : PtsIn w.drew p l := ⟨h.at'⟩
theorem PtsIn.rex {L : List Nat} {w w' : World} {p : Option Addr} {l : List (Int × Int)} (h : PtsIn w p l) (hr : Rex L w w') (hL : L = []) : PtsIn w' p l := by subst hL; exact h.below hr.below
/-- The values of the points from a to b. -/
def selB (a b : Int) (x : Int × Int) : Bool := decide (a ≤ x.1) && decide (x.1 ≤ b)
def selL (a b : Int) (l : List (Int × Int)) : List Int := (l.filter (selB a b)).map (·.2)
end Go.Proofs.YtpdhdjlhicceoaaGreatDoor
namespace Go.Proofs.YtpdhdjlhicceoaaGreatDoor
open Go.RowKit

/-- What a series says. -/
structure SerT where
  name : ByteArray
  eps : Int
  floor : Int
  last : Int
  scale : Int
  segs : List SegT
  opn : List (Int × Int)
def letterB (r : Nat) : Bool := decide (97 ≤ r ∧ r ≤ 122) || decide (48 ≤ r ∧ r ≤ 57)
def lettersB (s : ByteArray) : Nat → Nat → Bool
  | 0, _ => true
  | f + 1, pos => if pos < s.size then letterB (Utf8.decode s pos).1 && lettersB s f (pos + (Utf8.decode s pos).2) else true
def nameB (s : ByteArray) : Bool := decide (1 ≤ s.size ∧ s.size ≤ 12) && lettersB s s.size 0
def timesS (s : SerT) : List Int := s.segs.flatMap (fun x => timesL x.runs) ++ s.opn.map (·.1)
def btw (n lo hi : Int) : Bool := decide (lo ≤ n) && decide (n ≤ hi)
def numsB (s : SerT) : Bool := nameB s.name && (btw s.eps 0 1099511627776 && (btw s.scale (-40) 40 && (btw s.floor 0 281474976710656 && btw s.last (-1) 281474976710656)))
def rowB : Int → List SegT → Bool
  | _, [] => true
  | b, x :: l => segB x && (decide (b < firstT x.runs) && rowB (lastT x.runs) l)
def inSegB (eps floor : Int) (x : SegT) : Bool := decide (x.E ≤ eps) && decide (floor ≤ lastT x.runs)
def inOpnB (floor : Int) (p : Int × Int) : Bool := btw p.1 floor 281474976710656 && btw p.2 (-2305843009213693952) 2305843009213693952
def riseB : Int → List Int → Bool
  | _, [] => true
  | b, t :: l => decide (b < t) && riseB t l
def lastOr : Int → List Int → Int
  | b, [] => b
  | _, t :: l => lastOr t l
def keptN (s : SerT) : Nat := ((timesS s).filter fun t => decide (s.floor ≤ t)).length
def lastB (s : SerT) : Bool := decide (lastOr (-1) (timesS s) < 0) || (s.last == lastOr (-1) (timesS s))
def checkB (s : SerT) : Bool := numsB s && (rowB (-1) s.segs && (decide (s.opn.length < 32) && (s.segs.all (inSegB s.eps s.floor) && (s.opn.all (inOpnB s.floor) && (riseB (-1) (timesS s) && (lastB s && decide (keptN s ≤ 1024)))))))
def checkE (s : SerT) : Int := if checkB s = true then 0 else 340

/-- What is told of each kept time: the time, the value, how far. -/
def segBk (a b : Int) (x : SegT) : List (Int × Int × Int) := ((ptsL x).filter (selB a b)).map fun p => (p.1, p.2, x.E)
def opnBk (a b : Int) (l : List (Int × Int)) : List (Int × Int × Int) := (l.filter (selB a b)).map fun p => (p.1, p.2, 0)
def toldL (s : SerT) (a b : Int) : List (Int × Int × Int) := s.segs.flatMap (segBk (mx a s.floor) b) ++ opnBk (mx a s.floor) b s.opn
/-- .. piece by piece: some values, and how far. -/
def segPc (a b : Int) (x : SegT) : List (List Int × Int) := if selL a b (ptsL x) = [] then [] else [(selL a b (ptsL x), x.E)]
def opnPc (a b : Int) (l : List (Int × Int)) : List (List Int × Int) := (l.filter (selB a b)).map fun p => ([p.2], 0)
def pcsL (s : SerT) (a b : Int) : List (List Int × Int) := s.segs.flatMap (segPc (mx a s.floor) b) ++ opnPc (mx a s.floor) b s.opn
def pairs (g : List Int × Int) : List (Int × Int) := g.1.map fun v => (v, g.2)
def loL (l : List (Int × Int)) : List Int := l.map fun x => x.1 - x.2
def hiL (l : List (Int × Int)) : List Int := l.map fun x => x.1 + x.2
/-- The sheet of some values. -/
def shA (l : List (Int × Int)) : Array Value := #[.int .i64 l.length, .int .i64 (minL (loL l)), .int .i64 (minL (hiL l)), .int .i64 (maxL (loL l)), .int .i64 (maxL (hiL l)), .int .i64 (hiW (lsum (loL l))), .int .u64 (loW (lsum (loL l))), .int .i64 (hiW (lsum (hiL l))), .int .u64 (loW (lsum (hiL l)))]
def wholeL (s : SerT) (a b : Int) : List (Int × Int) := (toldL s a b).map (·.2)
def wholeE (s : SerT) (a b : Int) : Int := if checkB s = true then (if toldL s a b = [] then 9 else 0) else 340
def wholeV (s : SerT) (a b : Int) : List (Int × Int) := if checkB s = true then wholeL s a b else []
end Go.Proofs.YtpdhdjlhicceoaaGreatDoor
namespace Go.Proofs.YtpdhdjlhicceoaaGreatDoor
open Go.RowKit
def l0 : List RunT := [⟨10, 2, 4⟩]
def s0 : SegT := ⟨2, l0, 5, 0, 1, 2, [], 3⟩
end Go.Proofs.YtpdhdjlhicceoaaGreatDoor
namespace Go.Proofs.YtpdhdjlhicceoaaGreatDoor
open Go.RowKit
end Go.Proofs.YtpdhdjlhicceoaaGreatDoor
namespace Go.Proofs.YtpdhdjlhicceoaaGreatDoor
open Go.RowKit
/-- The block of a slice is one of a type. -/
def TyP (w : World) (p : Option Addr) (T : TypeId) : Prop := ∀ a, p = some a → ∃ cur fz, w.heap[a.block]? = some (.cells cur T fz)
theorem TyP.below {w w' : World} {p : Option Addr} {T : TypeId} (h : TyP w p T) (hb : Below w.heap.size w w') : TyP w' p T := fun a e => by
  obtain ⟨cur, fz, hh⟩ := h a e
  exact ⟨cur, fz, (hb.block a.block (Array.getElem?_eq_some_iff.1 hh).1).trans hh⟩
theorem TyP.alloc {w : World} {p : Option Addr} {T : TypeId} (h : TyP w p T) (o : Obj) : TyP (w.alloc o) p T := h.below ((Below.refl _ _).alloc (Nat.le_refl _) o)
theorem TyP.setCell {w : World} {p : Option Addr} {T : TypeId} (h : TyP w p T) (a : Addr) (v : Value) : TyP (w.setCell a v) p T := fun b e => by
  obtain ⟨cur, fz, hh⟩ := h b e
  by_cases hb : b.block = a.block
  · refine ⟨if a.spot.isSome then cur else cur.setIfInBounds a.off v, fz, ?_⟩
    simp only [World.setCell, Array.getElem?_modify]
    rw [if_pos hb.symm, hh]; rfl
  · exact ⟨cur, fz, (heap_setCell_other w a b.block v hb).trans hh⟩
theorem TyP.new {w : World} {cs : Array Value} {T : TypeId} {g : Nat} (h : w.heap.size = g) : TyP (w.alloc (.cells cs T)) (some ⟨g, 0, none⟩) T := fun a e => by
  subst h
  cases e
  exact ⟨cs, (0, 0), heap_alloc_new w _⟩
theorem RunsIn.take {w : World} {p : Option Addr} {l : List RunT} (h : RunsIn w p l) (k : Nat) : RunsIn w p (l.take k) := ⟨fun i r hr => h.at' i r (by
  rw [List.getElem?_take] at hr
  split at hr
  · exact hr
  · cases hr)⟩
theorem IntsIn.take {w : World} {p : Option Addr} {l : List Int} (h : IntsIn w p l) (k : Nat) : IntsIn w p (l.take k) := ⟨fun i r hr => h.at' i r (by
  rw [List.getElem?_take] at hr
  split at hr
  · exact hr
  · cases hr)⟩
end Go.Proofs.YtpdhdjlhicceoaaGreatDoor
namespace Go.Proofs.YtpdhdjlhicceoaaGreatDoor
open Go.RowKit
/-- A segment as it came in. -/
structure Came (w : World) (s : SegT) (p q : Option Addr) (cap vc : Nat) : Prop where
  runs : RunsIn w p s.runs
  raw : IntsIn w q s.raw
  nilR : p = none → s.runs = [] ∧ cap = 0
  nilV : q = none → s.raw = [] ∧ vc = 0
  capR : s.runs.length ≤ cap
  capV : s.raw.length ≤ vc
  maxR : s.runs.length ≤ 9223372036854775807
  maxV : s.raw.length ≤ 9223372036854775807
end Go.Proofs.YtpdhdjlhicceoaaGreatDoor
namespace Go.Proofs.YtpdhdjlhicceoaaGreatDoor
open Go.RowKit
def ownS (s : SegT) : SegT := ⟨s.K, s.runs.take 300, s.A, s.R, s.n, s.d, s.raw.take 300, s.E⟩
def OwnOut (s : SegT) (w : World) (e : Ending) (w' : World) : Prop := ∃ p' cap' q' vc', e = .returned (.agg (segA (ownS s) p' q' cap' vc')) ∧ Below w.heap.size w w' ∧ SegIn w' (ownS s) p' q' ∧ (ownS s).raw.length ≤ vc'
/-- The same, and of which types the rows' blocks are. -/
def OwnOutT (s : SegT) (w : World) (e : Ending) (w' : World) : Prop := ∃ p' cap' q' vc', e = .returned (.agg (segA (ownS s) p' q' cap' vc')) ∧ Below w.heap.size w w' ∧ SegIn w' (ownS s) p' q' ∧ (ownS s).raw.length ≤ vc' ∧ TyP w' p' 69 ∧ TyP w' q' 2
end Go.Proofs.YtpdhdjlhicceoaaGreatDoor
namespace Go.Proofs.YtpdhdjlhicceoaaGreatDoor
open Go.RowKit
structure SegP (w : World) (s : SegT) (p q : Option Addr) : Prop where
  seg : SegIn w s p q
theorem SegP.below {w w' : World} {s : SegT} {p q : Option Addr} (h : SegP w s p q) (hb : Below w.heap.size w w') : SegP w' s p q := ⟨h.seg.below hb⟩
theorem SegP.alloc {w : World} {s : SegT} {p q : Option Addr} (h : SegP w s p q) (o : Obj) : SegP (w.alloc o) s p q := h.below ((Below.refl _ _).alloc (Nat.le_refl _) o)
theorem SegP.rex {L : List Nat} {w w' : World} {s : SegT} {p q : Option Addr} (h : SegP w s p q) (hr : Rex L w w') (hL : L = []) : SegP w' s p q := by subst hL; exact h.below hr.below
theorem SegP.drew {w : World} {s : SegT} {p q : Option Addr} (h : SegP w s p q) : SegP w.drew s p q := ⟨⟨⟨h.seg.runs.at'⟩, ⟨h.seg.raw.at'⟩, h.seg.fewR, h.seg.fewV⟩⟩
structure PtsP (w : World) (b o : Nat) (l : List (Int × Int)) : Prop where
  pts : PtsIn w (some ⟨b, o, none⟩) l
theorem PtsP.below {w w' : World} {b o : Nat} {l : List (Int × Int)} (h : PtsP w b o l) (hb : Below w.heap.size w w') : PtsP w' b o l := ⟨h.pts.below hb⟩
theorem PtsP.rex {L : List Nat} {w w' : World} {b o : Nat} {l : List (Int × Int)} (h : PtsP w b o l) (hr : Rex L w w') (hL : L = []) : PtsP w' b o l := by subst hL; exact h.below hr.below
theorem PtsP.drew {w : World} {b o : Nat} {l : List (Int × Int)} (h : PtsP w b o l) : PtsP w.drew b o l := ⟨⟨h.pts.at'⟩⟩
theorem PtsP.cellAt {w : World} {b o : Nat} {l : List (Int × Int)} (h : PtsP w b o l) {i : Nat} {x : Int × Int} (hx : l[i]? = some x) : w.cell? ⟨b, o + i * 2, none⟩ = some (.int .i64 x.1) ∧ w.cell? ⟨b, o + i * 2 + 1, none⟩ = some (.int .i64 x.2) := by
  obtain ⟨b', o', e, h1, h2⟩ := h.pts.at' i x hx
  cases e
  exact ⟨h1, h2⟩
end Go.Proofs.YtpdhdjlhicceoaaGreatDoor
namespace Go.Proofs.YtpdhdjlhicceoaaGreatDoor
open Go.RowKit
def spE (a b : Int) : Int := if a ≤ b then 0 else 140
def spsE (l : List (Int × Int)) : Int := if l.all (fun x => decide (x.1 ≤ x.2)) = true then 0 else 140
def spcRel (w : World) (p : Option Addr) (cap : Nat) (l : List (Int × Int)) (a' : Act) (W : World) : Prop :=
  Below w.heap.size w W ∧ ∃ i : Nat, (∃ u : Nat → Value, a' = { tmps := #[.slice p l.length cap, u 1, u 2, u 3, u 4, u 5, .slice p l.length cap, .int .i64 (l.length : Int), .int .i64 (i : Int), u 9, u 10, u 11, u 12, u 13, u 14, u 15, u 16, u 17], defers := [] }) ∧ i ≤ l.length ∧ ∀ k x, k < i → l[k]? = some x → x.1 ≤ x.2
end Go.Proofs.YtpdhdjlhicceoaaGreatDoor
namespace Go.Proofs.YtpdhdjlhicceoaaGreatDoor
open Go.RowKit
set_option maxRecDepth 100000 in
set_option maxHeartbeats 2000000 in
theorem c_recLetter (r : Nat) (w : World) : Calls Tryz.prog 81 #[.int .i32 r] w fun e w' => e = .returned (.bool (letterB r)) ∧ Below w.heap.size w w' := by
  go_enter Tryz.func81, Tryz.ntmps81
  go_upto_region 1 with (fail)
  refine wp_cutB w (Bz) ?_
  rintro W1 hW z2 hL
  refine wp_regS 15 17 hW hL ?_
  iterate 3 refine dA ?_
  iterate 2 refine gA ?_
  refine pA ?_
  refine dA ?_
  iterate 3 refine gA ?_
  iterate 2 refine gB ?_
  refine pgA ?_
  refine pO ?_
  refine dA ?_
  clear hW hL
  rintro W3 hW z4 hL
  simp only [ndR]
  intros
  repeat (rename GDet _ _ _ _ => hgd; clear hgd)
  simp only [ndS]
  refine wpList_nil ?_
  obtain ⟨-⟩ := hL
  go_wp2
  refine bodyPost_ret (v := .bool ((decide (97 ≤ (r : Int)) && decide ((r : Int) ≤ 122)) || (decide (48 ≤ (r : Int)) && decide ((r : Int) ≤ 57)))) (by simp [results, Tryz.results81, go_sem]) rfl ⟨?_, by exact belowAny⟩
  congr 2
  unfold letterB
  rw [Bool.eq_iff_iff]
  simp only [Bool.or_eq_true, Bool.and_eq_true, decide_eq_true_eq]
  omega
set_option maxRecDepth 100000 in
set_option maxHeartbeats 2000000 in
theorem c_srBtw (n lo hi : Int) (w : World) : Calls Tryz.prog 37 #[.int .i64 n, .int .i64 lo, .int .i64 hi] w fun e w' => e = .returned (.bool (btw n lo hi)) ∧ Below w.heap.size w w' := by
  unfold btw
  go_enter Tryz.func37, Tryz.ntmps37
  go_upto_region 1 with (fail)
  refine wp_cutB w (Bz) ?_
  rintro W1 hW z2 hL
  refine wp_regS 9 15 hW hL ?_
  iterate 4 refine dA ?_
  iterate 3 refine gA ?_
  refine pA ?_
  refine dA ?_
  clear hW hL
  rintro W3 hW z4 hL
  simp only [ndR]
  intros
  repeat (rename GDet _ _ _ _ => hgd; clear hgd)
  simp only [ndS]
  refine wpList_nil ?_
  obtain ⟨-⟩ := hL
  go_wp2
  refine bodyPost_ret (by simp [results, Tryz.results37, go_sem]) rfl ⟨rfl, by exact belowAny⟩
set_option maxRecDepth 100000 in
set_option maxHeartbeats 2000000 in
theorem c_srScl (n : Int) (w : World) : Calls Tryz.prog 38 #[.int .i64 n] w fun e w' => e = .returned (.bool (btw n (-40) 40)) ∧ Below w.heap.size w w' := by
  unfold btw
  go_enter Tryz.func38, Tryz.ntmps38
  go_upto_region 1 with (fail)
  refine wp_cutB w (Bz) ?_
  rintro W1 hW z2 hL
  refine wp_regS 7 9 hW hL ?_
  iterate 3 refine dA ?_
  iterate 2 refine gA ?_
  refine pA ?_
  refine dA ?_
  clear hW hL
  rintro W3 hW z4 hL
  simp only [ndR]
  intros
  repeat (rename GDet _ _ _ _ => hgd; clear hgd)
  simp only [ndS]
  refine wpList_nil ?_
  obtain ⟨-⟩ := hL
  go_wp2
  refine bodyPost_ret (by simp [results, Tryz.results38, go_sem]) rfl ⟨rfl, by exact belowAny⟩
theorem width_pos (s : ByteArray) (pos : Nat) (h : pos < s.size) : 1 ≤ (Utf8.decode s pos).2 := by
  by_cases ha : (s[pos]'h).toNat < 128
  · rw [decode_ascii s pos h ha]
    exact Nat.le_refl _
  · exact (decode_high s pos h (by omega)).2
def nmRel (w : World) (s : ByteArray) (ok : Bool) (a' : Act) (W : World) : Prop :=
  Below w.heap.size w W ∧ ∃ pos f : Nat, (∃ u : Nat → Value, a' = { tmps := #[.string s, u 1, u 2, .bool ok, u 4, u 5, u 6, u 7, u 8, u 9, u 10, u 11, u 12, u 13, u 14, .pointer (some ⟨w.heap.size, 0, none⟩), u 16, u 17, u 18, u 19, u 20, u 21, u 22], defers := [] }) ∧ W.heap[w.heap.size]? = some (.stringIter s pos) ∧ s.size ≤ pos + f ∧ lettersB s f pos = lettersB s s.size 0
set_option maxRecDepth 100000 in
set_option maxHeartbeats 2000000 in
theorem c_recName (s : ByteArray) (w : World) : Calls Tryz.prog 36 #[.string s] w fun e w' => e = .returned (.bool (nameB s)) ∧ Below w.heap.size w w' := by
  go_enter Tryz.func36, Tryz.ntmps36
  go_upto_region 1 with (fail)
  refine wp_scope_straight (wp_seq ?_)
  refine wp_cutB w (Bz) ?_
  rintro W1 hW z2 hL
  refine wp_regS 9 23 hW hL ?_
  iterate 4 refine dA ?_
  iterate 3 refine gA ?_
  refine pA ?_
  refine dA ?_
  clear hW hL
  rintro W3 hW z4 hL
  simp only [ndR]
  intros
  repeat (rename GDet _ _ _ _ => hgd; clear hgd)
  simp only [ndS]
  refine wpList_nil ?_
  obtain ⟨-⟩ := hL
  have hok : (decide (1 ≤ (s.size : Int)) && decide ((s.size : Int) ≤ 12)) = decide (1 ≤ s.size ∧ s.size ≤ 12) := by
    rw [Bool.eq_iff_iff]
    simp only [Bool.and_eq_true, decide_eq_true_eq]
    omega
  rw [hok]
  obtain ⟨ok, ho⟩ : ∃ b, decide (1 ≤ s.size ∧ s.size ≤ 12) = b := ⟨_, rfl⟩
  rw [ho]
  replace ho := Lib.hid ho
  clear hok
  simp only [Exit.then]
  refine wp_seq (wp_label ?_)
  go_wp2
  refine wp_loop (nmRel W3 s ok) (fun _ W => s.size - W.iterPos W3.heap.size) ?_ ?_
  · unfold nmRel
    have hit := World.iter_heap W3 s 0
    exact ⟨(Below.refl _ _).alloc (Nat.le_refl _) _, 0, s.size, frame_ex rfl, by simpa using hit, by omega, rfl⟩
  · rintro a' W ⟨hW0, pos, f, ⟨u, rfl⟩, hit, hf, hlet⟩
    have hz := hW0.size
    have hlt := (Array.getElem?_eq_some_iff.1 hit).1
    by_cases hp : pos < s.size
    · have hnx : ∀ ty, (Instr.next (.pointer (some ⟨W3.heap.size, 0, none⟩)) true ty).run Tryz.prog W = _ := fun ty => Lib.run_next_any_at W W3.heap.size s pos ty hit hp
      have hwd := width_pos s pos hp
      have hit2 := Lib.iterAt_heap W W3.heap.size s pos (pos + (Utf8.decode s pos).2) hit
      have hbw2 := Lib.below_iterAt hW0 (k := W3.heap.size) (Nat.le_refl _) s (pos + (Utf8.decode s pos).2)
      obtain ⟨f, rfl⟩ : ∃ g, f = g + 1 := ⟨f - 1, by omega⟩
      have hst : lettersB s (f + 1) pos = (letterB (Utf8.decode s pos).1 && lettersB s f (pos + (Utf8.decode s pos).2)) := by simp [lettersB, hp]
      rw [hst] at hlet
      obtain ⟨r, hr⟩ : ∃ r, (Utf8.decode s pos).1 = r := ⟨_, rfl⟩
      obtain ⟨d, hd⟩ : ∃ d, (Utf8.decode s pos).2 = d := ⟨_, rfl⟩
      have hm : s.size - (pos + d) < s.size - W.iterPos W3.heap.size := by
        simp only [World.iterPos, hit]; omega
      rw [hd] at hit2 hbw2 hlet hwd
      rw [hr] at hlet
      simp only [hr, hd] at hnx
      obtain ⟨W4, hW4⟩ : ∃ W4, W.iterAt W3.heap.size s (pos + d) = W4 := ⟨_, rfl⟩
      rw [hW4] at hit2 hbw2
      simp only [hW4] at hnx
      have cl := fun W => c_recLetter r W
      clear hst hr hd hW4 hit hlt
      replace hit2 := Lib.hid hit2
      replace hm := Lib.hid hm
      cases hlb : letterB r with
      | true =>
        rw [hlb] at cl hlet
        replace cl := Lib.hid cl
        replace hlet := Lib.hid hlet
        clear hlb
        go_wp2_with fail
        refine (cl.out _).mono ?_
        rintro e w5 ⟨rfl, hb5⟩
        have hit5 := Lib.hid ((hb5.block _ (Array.getElem?_eq_some_iff.1 hit2.out).1).trans hit2.out)
        go_wp2
        refine ⟨?_, by simp only [World.iterPos, hit5.out]; exact hm.out⟩
        unfold nmRel
        exact ⟨hbw2.trans (hb5.mono hbw2.size), pos + d, f, frame_ex rfl, hit5.out, by omega, by rw [← hlet.out]; rfl⟩
      | false =>
        rw [hlb] at cl hlet
        replace cl := Lib.hid cl
        have hno := Lib.hid (show nameB s = false by unfold nameB; rw [← hlet]; simp)
        clear hlb hlet
        go_wp2_with fail
        refine (cl.out _).mono ?_
        rintro e w5 ⟨rfl, hb5⟩
        go_wp2
        simp only [Exit.noGoto]
        go_ret
        exact ⟨by rw [hno.out]; rfl, hW.trans ((hbw2.trans (hb5.mono hbw2.size)).mono hW.size)⟩
    · have hnx : ∀ ty, (Instr.next (.pointer (some ⟨W3.heap.size, 0, none⟩)) true ty).run Tryz.prog W = _ := fun ty => Lib.run_next_end_at W W3.heap.size s pos ty hit hp
      have hall := Lib.hid (show nameB s = ok by
        unfold nameB
        rw [← hlet, ho.out]
        cases f with
        | zero => simp [lettersB]
        | succ f => simp [lettersB, hp])
      clear hlet
      go_wp2
      simp only [Exit.noGoto]
      go_ret
      exact ⟨by rw [hall.out]; rfl, hW.trans (hW0.mono hW.size)⟩
end Go.Proofs.YtpdhdjlhicceoaaGreatDoor
namespace Go.Proofs.YtpdhdjlhicceoaaGreatDoor
open Go.RowKit
end Go.Proofs.YtpdhdjlhicceoaaGreatDoor
namespace Go.Proofs.YtpdhdjlhicceoaaGreatDoor
open Go.RowKit Go.Shelf
attribute [local go_sem] Oper.semAt_some
/-- A point of a segment, and one that is held against it. -/
def okZ (z : (Int × Int) × (Int × Int)) : Bool := (z.2.1 == z.1.1) && isBack z.2.2
def farStep (f : Int) (z : (Int × Int) × (Int × Int)) : Int := mx (mx f (wrap64 (z.2.2 - z.1.2))) (wrap64 (z.1.2 - z.2.2))
def farOf (l : List ((Int × Int) × (Int × Int))) : Int := l.foldl farStep 0
/-- What a round of the loop keeps for the points' sake: what lay below, and all cells from a block on. -/
structure KF (B0 n₀ : Nat) (A B : World) : Prop where
  below : Below B0 A B
  rest : ∀ (b : Nat) (cs : Array Value) (t : TypeId) (f : Nat × Nat), n₀ ≤ b → A.heap[b]? = some (.cells cs t f) → B.heap[b]? = some (.cells cs t f)
theorem KF.refl (B0 n₀ : Nat) (A : World) : KF B0 n₀ A A := ⟨Below.refl _ _, fun _ _ _ _ _ h => h⟩
theorem KF.trans {B0 n₀ : Nat} {A B C : World} (h : KF B0 n₀ A B) (k : KF B0 n₀ B C) : KF B0 n₀ A C := ⟨h.below.trans k.below, fun b cs t f hb ha => k.rest b cs t f hb (h.rest b cs t f hb ha)⟩
theorem KF.alloc {B0 n₀ : Nat} {A B : World} (h : KF B0 n₀ A B) (hB : B0 ≤ B.heap.size) (o : Obj) : KF B0 n₀ A (B.alloc o) := ⟨h.below.alloc hB o, fun b cs t f hb ha => (Below.heap_alloc B o b (lt_of_heap (h.rest b cs t f hb ha))).trans (h.rest b cs t f hb ha)⟩
theorem KF.set {B0 n₀ : Nat} {A B : World} (h : KF B0 n₀ A B) {g i : Nat} (h1 : B0 ≤ g) (h2 : g < n₀) (v : Value) : KF B0 n₀ A (B.setCell ⟨g, i, none⟩ v) := ⟨h.below.setCell (p := ⟨g, i, none⟩) h1 v, fun b cs t f hb ha => (Below.heap_setCell B ⟨g, i, none⟩ v b (by simp; omega)).trans (h.rest b cs t f hb ha)⟩
theorem KF.calls {B0 n₀ : Nat} {A B C : World} (h : KF B0 n₀ A B) (hb : Below B.heap.size B C) (hB : B0 ≤ B.heap.size) : KF B0 n₀ A C := ⟨h.below.trans (hb.mono hB), fun b cs t f hn ha => (hb.block b (lt_of_heap (h.rest b cs t f hn ha))).trans (h.rest b cs t f hn ha)⟩
theorem KF.putObj {B0 n₀ : Nat} {w : World} (hB : B0 ≤ w.heap.size) (W : World) (l : Nat) (o o' : Obj) (hl : w.heap.size ≤ l) (h : W.heap[l]? = some o) (h1 : o.isCells = false) (h2 : o.isWalk = false) : KF B0 n₀ W (W.putObj l o') :=
  ⟨belowK_b hB W l o o' hl h h1 h2, fun b cs t f _ ha => keepsT_putObj o' h h1 b cs f ha⟩
theorem KeepsOthers.calls {A B C : World} (h : KeepsOthers A B) (hb : Below B.heap.size B C) : KeepsOthers A C := ⟨Nat.le_trans h.size hb.size, fun k o hk ho => by
  have e := h.same k o hk ho
  exact (hb.block k (lt_of_heap (e))).trans e⟩
def farR (s : SegT) (pts : List (Int × Int)) : Int × Int := if pts.length = (ptsL s).length then (if ((ptsL s).zip pts).all okZ then (farOf ((ptsL s).zip pts), 0) else (0, 2)) else (0, 2)
def FarOut (s : SegT) (pts : List (Int × Int)) (w : World) (e : Ending) (w' : World) : Prop := e = .returned (.tuple #[.int .i64 (farR s pts).1, .int .i64 (farR s pts).2]) ∧ Below w.heap.size w w'
end Go.Proofs.YtpdhdjlhicceoaaGreatDoor
