/- Parts of the proof that follows: Layer model: the exact answer of some times (told). No condition. | Layer span: Has, Width, of a span that may be. | Layer model: whether a number lies in a span; a mixed number times a count. No condition but the numbers' bounds. | Layer model: a mixed number times a count. No condition but the numbers' bounds. | Layer model: whether a mean holds. No condition but the numbers' bounds. | Layer model, plainly: whether an answer holds of a raw series, and that one which was moved, made wider, or counts one more does not. No condition. | The laws of chapter 28: ModelStrict's walk. No condition. | Layer model: whether a sum holds. No condition but the numbers' bounds. -/
import Derived.Test.YtdeghcgakkhbmaaGreatTe16
set_option linter.unusedSimpArgs false
set_option linter.unusedVariables false
namespace Go.Proofs.YtdeghcgakkhbmaaGreat
open Go.RowKit Go.Shelf
attribute [local go_sem] Oper.semAt_some
theorem PtsIn.keep {w A B : World} {p : Option Addr} {l : List (Int × Int)} (h : PtsIn w p l) (hb : Below w.heap.size A B) (ha : PtsIn A p l) : PtsIn B p l := ⟨fun i r hr => by
  obtain ⟨b, o, e, k0, k1⟩ := ha.at' i r hr
  obtain ⟨b', o', e', q0, _⟩ := h.at' i r hr
  rw [e] at e'
  injection e' with e'
  injection e' with e1 e2
  subst e1
  have hlt := cell_lt q0
  exact ⟨b, o, e, (hb.cell (p := ⟨b, _, none⟩) hlt).trans k0, (hb.cell (p := ⟨b, _, none⟩) hlt).trans k1⟩⟩
/-- What the points of a row come to. -/
def toldsL (l : List (Int × Int)) : Int × (Int × Int) × Int := (l.map (·.2)).foldl gS (0, (0, 0), 0)
def ToldOut (r : RawT) (a b : Int) (w : World) (e : Ending) (w' : World) : Prop := e = .returned (.agg (exA (toldsL (tellG a b r.pts)))) ∧ Below w.heap.size w w'
end Go.Proofs.YtdeghcgakkhbmaaGreat
namespace Go.Proofs.YtdeghcgakkhbmaaGreat
open Go.RowKit
end Go.Proofs.YtdeghcgakkhbmaaGreat
namespace Go.Proofs.YtdeghcgakkhbmaaGreat
open Go.RowKit
/-- How wide a span is; 0: it is none. -/
def spW (x y : Int) : Int := if x ≤ y then y - x else 0
def liesB (x y v wd : Int) : Bool := (decide (x ≤ v) && decide (v ≤ y)) && decide (spW x y ≤ wd)
end Go.Proofs.YtdeghcgakkhbmaaGreat
namespace Go.Proofs.YtdeghcgakkhbmaaGreat
open Go.RowKit
end Go.Proofs.YtdeghcgakkhbmaaGreat
namespace Go.Proofs.YtdeghcgakkhbmaaGreat
open Go.RowKit
/-- Does a mean hold, of so many numbers that come to s? -/
def meanB (n s mc lw lr hw hr eps : Int) : Bool :=
  (decide (0 ≤ lr) && decide (lr < n)) && (decide (0 ≤ hr) && decide (hr < n)) && ((0 : Int) == 0) && (mc == n) && decide (cmpI (lw * n + lr) s ≤ 0) && decide (cmpI s (hw * n + hr) ≤ 0) && decide (cmpI (hw * n + hr - (lw * n + lr)) (2 * eps * n) ≤ 0)
end Go.Proofs.YtdeghcgakkhbmaaGreat
namespace Go.Proofs.YtdeghcgakkhbmaaGreat
open Go.RowKit
/-- An answer's numbers. -/
structure An9 where
  er : Int
  cn : Int
  lo : Int
  up : Int
  mc : Int
  lw : Int
  lr : Int
  hw : Int
  hr : Int
def An9.ok (y : An9) : Prop := I64 y.er ∧ I64 y.cn ∧ I64 y.lo ∧ I64 y.up ∧ I64 y.mc ∧ I64 y.lw ∧ I64 y.lr ∧ I64 y.hw ∧ I64 y.hr
def anA (y : An9) : Array Value := #[.int .i64 y.er, .int .i64 y.cn, .int .i64 y.lo, .int .i64 y.up, .int .i64 y.mc, .int .i64 y.lw, .int .i64 y.lr, .int .i64 y.hw, .int .i64 y.hr]
def eq9 (y : An9) (er cn : Int) : Bool := (y.er == er) && ((y.cn == cn) && ((y.lo == 0) && ((y.up == 0) && ((y.mc == 0) && ((y.lw == 0) && ((y.lr == 0) && ((y.hw == 0) && (y.hr == 0))))))))
def bareSpan (y : An9) : Bool := (y.cn == 0) && ((y.mc == 0) && ((y.lw == 0) && ((y.lr == 0) && ((y.hw == 0) && (y.hr == 0)))))
def bareMean (y : An9) : Bool := (y.cn == 0) && ((y.lo == 0) && (y.up == 0))
/-- Does a sum hold, of so many numbers that come to s? -/
def totalB (n s : Int) (y : An9) (eps : Int) : Bool :=
  if y.er = 5 then (y.lo == 0) && (y.up == 0) && ((we (inI (s - 2 * eps * n)) != 0) || (we (inI (s + 2 * eps * n)) != 0))
  else (y.er == 0) && (we (inI s) == 0) && liesB y.lo y.up (wv (inI s) s) (loW (2 * eps * n))
/-- Does an answer hold of points? -/
def holdsX (X : Int × (Int × Int) × Int) (eps what : Int) (y : An9) : Bool :=
  if what = 1 then eq9 y 0 X.1
  else if X.1 = 0 then eq9 y 9 0
  else if what = 5 then bareMean y && ((y.er == 0) && meanB X.1 X.2.2 y.mc y.lw y.lr y.hw y.hr eps)
  else bareSpan y && (if what = 4 then totalB X.1 X.2.2 y eps else (y.er == 0) && liesB y.lo y.up (if what = 2 then X.2.1.1 else X.2.1.2) (2 * eps))
def holdsB (r : RawT) (what a b : Int) (y : An9) : Bool := rawB r && (decide (1 ≤ what) && decide (what ≤ 5)) && holdsX (toldsL (tellG a b r.pts)) r.eps what y
end Go.Proofs.YtdeghcgakkhbmaaGreat
namespace Go.Proofs.YtdeghcgakkhbmaaGreat
open Go.RowKit
end Go.Proofs.YtdeghcgakkhbmaaGreat
namespace Go.Proofs.YtdeghcgakkhbmaaGreat
open Go.RowKit
end Go.Proofs.YtdeghcgakkhbmaaGreat
