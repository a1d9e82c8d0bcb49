/- Parts of the proof that follows: The document's lines: At. | The document's lines: At told. | Rows of a call's own, kept by steps that make memory. No condition. | The document's runs of times, plainly: that runs may be is just that their times rise, and that they are those of their times. No condition. | The document's times of runs: Times. | The document's times: Rising. | The document's runs of times: Of. | The document's runs of times: Same, Right. | The document's segments: Kind, Points walked. | Layer span: Least, Most. No condition but that there is a span, and that they may be. | Layer span: Plus, Around. No condition but that the spans may be. | Layers record and series: Name, and whether a series' numbers may be. No condition. | Layer seg: Check, Count told. | seg.Far$1, walked: how far a segment is from points. No condition. -/
import Derived.Lib.OthersKept
import Derived.Lib.RuneBytes
import Derived.Test.YtdeghcgakkhbmaaGreatDo6
set_option linter.unusedSimpArgs false
set_option linter.unusedVariables false
namespace Go.Proofs.YtdeghcgakkhbmaaGreat
open Go.RowKit
def DV (x y : Int) : Spec := fun v w => ∃ v1 v2, v = .tuple #[v1, v2] ∧ NumIs w v1 (x / y) ∧ NumIs w v2 (x % y)
theorem DV.closed (x y : Int) : Closed [] (DV x y) := fun _ _ _ hr ⟨v1, v2, e, h1, h2⟩ => ⟨v1, v2, e, h1.rex hr rfl, h2.rex hr rfl⟩
end Go.Proofs.YtdeghcgakkhbmaaGreat
namespace Go.Proofs.YtdeghcgakkhbmaaGreat
open Go.RowKit
end Go.Proofs.YtdeghcgakkhbmaaGreat
namespace Go.Proofs.YtdeghcgakkhbmaaGreat
open Go.RowKit
/-- A row of the call's own. -/
structure OwnR (W : World) (B : Nat) (e : TypeId) (s : Nat) (v : Value) (n : Nat) (xs : List Value) : Prop where
  own : W.ownsRow B e s v n xs
theorem OwnR.below {w w' : World} {B : Nat} {e : TypeId} {s : Nat} {v : Value} {n : Nat} {xs : List Value} (h : OwnR w B e s v n xs) (hb : Below w.heap.size w w') : OwnR w' B e s v n xs := by
  obtain ⟨h1, h2⟩ := h.own
  refine ⟨h1, ?_⟩
  rcases h2 with h2 | ⟨g, cap, cur, hv, hg, hh, rest⟩
  · exact .inl h2
  · exact .inr ⟨g, cap, cur, hv, hg, (hb.block g (Array.getElem?_eq_some_iff.1 hh).1).trans hh, rest⟩
theorem OwnR.rex {L : List Nat} {w w' : World} {B : Nat} {e : TypeId} {s : Nat} {v : Value} {n : Nat} {xs : List Value} (h : OwnR w B e s v n xs) (hr : Rex L w w') (hL : L = []) : OwnR w' B e s v n xs := by subst hL; exact h.below hr.below
theorem OwnR.drew {w : World} {B : Nat} {e : TypeId} {s : Nat} {v : Value} {n : Nat} {xs : List Value} (h : OwnR w B e s v n xs) : OwnR w.drew B e s v n xs := ⟨h.own⟩
theorem OwnR.mono {w : World} {B B' : Nat} {e : TypeId} {s : Nat} {v : Value} {n : Nat} {xs : List Value} (h : OwnR w B e s v n xs) (hB : B' ≤ B) : OwnR w B' e s v n xs := by
  obtain ⟨h1, h2⟩ := h.own
  refine ⟨h1, ?_⟩
  rcases h2 with h2 | ⟨g, cap, cur, hv, hg, rest⟩
  · exact .inl h2
  · exact .inr ⟨g, cap, cur, hv, Nat.le_trans hB hg, rest⟩
theorem OwnR.nil (W : World) (B : Nat) (e : TypeId) (s : Nat) : OwnR W B e s (.slice none 0 0) 0 [] := ⟨World.ownsRow_nil _ _ _ _⟩
/-- A block of another type is none of the row's. -/
theorem Blk.grown {W w1 : World} {B g : Nat} {cs : Array Value} {t e : TypeId} {s n : Nat} {v : Value} {xs : List Value} {o : Obj} (h : Blk W g cs t) (hown : W.ownsRow B e s v n xs) (ht : t ≠ e) (hgr : (W.alloc o).grownBy w1 v.ownBlock) : Blk w1 g cs t := by
  have hlt := h.lt
  have h' : (W.alloc o).heap[g]? = some (.cells cs t (0, 0)) := (h.alloc o : Blk (W.alloc o) g cs t)
  refine (hgr.block g (by simp; omega) fun e1 => ?_).trans h'
  rcases hown.2 with ⟨rfl, _⟩ | ⟨g', cap, cur, rfl, _, hb, _⟩
  · simp [Value.ownBlock] at e1
  · have : g = g' := by simpa [Value.ownBlock] using e1
    subst this
    unfold Blk at h
    rw [h] at hb
    injection hb with hb
    injection hb with _ h2 _
    exact ht h2
/-- What a row of one cell each reads as. -/
theorem OwnR.form {W : World} {B n : Nat} {e : TypeId} {s : Nat} {v : Value} {xs : List Value} (h : OwnR W B e s v n xs) : ∃ p cap, v = .slice p n cap ∧ n ≤ cap ∧ cap ≤ 9223372036854775807 ∧ (p = none → n = 0 ∧ cap = 0) ∧ (∀ a, p = some a → a = ⟨a.block, 0, none⟩ ∧ B ≤ a.block) := by
  rcases h.own.2 with ⟨rfl, h0⟩ | ⟨g, cap, cur, rfl, hg, hb, hn, hmx, _⟩
  · subst h0; exact ⟨none, 0, rfl, Nat.le_refl _, by omega, fun _ => ⟨rfl, rfl⟩, fun a e => by cases e⟩
  · exact ⟨some ⟨g, 0, none⟩, cap, rfl, hn, by unfold maxLen at hmx; omega, (fun e => by cases e), fun a e => by cases e; exact ⟨rfl, hg⟩⟩
theorem OwnR.ints {W : World} {B n : Nat} {e : TypeId} {p : Option Addr} {cap : Nat} {l : List Int} (h : OwnR W B e 1 (.slice p n cap) n (l.map (Value.int .i64))) : IntsIn W p l := by
  rcases h.own.2 with ⟨h1, h0⟩ | ⟨g, cap', cur, h1, hg, hb, hn, hmx, _, ht⟩
  · have := h.own.1
    simp at this
    subst h0
    have : l = [] := List.length_eq_zero_iff.1 this
    subst this
    exact ⟨fun i x hx => by simp at hx⟩
  · injection h1 with h2 _ _
    subst h2
    exact cloneInt_in hb (by simpa using ht)
theorem OwnR.runs {W : World} {B n : Nat} {e : TypeId} {p : Option Addr} {cap : Nat} {l : List RunT} (h : OwnR W B e 3 (.slice p n cap) n (flatCells l)) : RunsIn W p l := by
  rcases h.own.2 with ⟨h1, h0⟩ | ⟨g, cap', cur, h1, hg, hb, hn, hmx, _, ht⟩
  · have := h.own.1
    rw [length_flatCells] at this
    subst h0
    have : l = [] := List.length_eq_zero_iff.1 (by omega)
    subst this
    exact ⟨fun i x hx => by simp at hx⟩
  · injection h1 with h2 _ _
    subst h2
    exact cloneRun_in hb ht
/-- What numbers a slice has, kept by steps that make memory. -/
structure IntsP (w : World) (b o : Nat) (l : List Int) : Prop where
  ints : IntsIn w (some ⟨b, o, none⟩) l
theorem IntsP.below {w w' : World} {b o : Nat} {l : List Int} (h : IntsP w b o l) (hb : Below w.heap.size w w') : IntsP w' b o l := ⟨h.ints.below hb⟩
theorem IntsP.rex {L : List Nat} {w w' : World} {b o : Nat} {l : List Int} (h : IntsP w b o l) (hr : Rex L w w') (hL : L = []) : IntsP w' b o l := by subst hL; exact h.below hr.below
theorem IntsP.drew {w : World} {b o : Nat} {l : List Int} (h : IntsP w b o l) : IntsP w.drew b o l := ⟨⟨h.ints.at'⟩⟩
theorem IntsP.cellAt {w : World} {b o : Nat} {l : List Int} (h : IntsP w b o l) {i : Nat} {x : Int} (hx : l[i]? = some x) : w.cell? ⟨b, o + i, none⟩ = some (.int .i64 x) := by
  obtain ⟨b', o', e, h1⟩ := h.ints.at' i x hx
  cases e
  exact h1
end Go.Proofs.YtdeghcgakkhbmaaGreat
namespace Go.Proofs.YtdeghcgakkhbmaaGreat
open Go.RowKit

instance : DecidableEq RunT := fun a b =>
  if h : a.f = b.f ∧ a.s = b.s ∧ a.c = b.c then isTrue (by obtain ⟨a1, a2, a3⟩ := a; obtain ⟨b1, b2, b3⟩ := b; obtain ⟨h1, h2, h3⟩ := h; simp at h1 h2 h3; subst h1; subst h2; subst h3; rfl)
  else isFalse (fun e => h (by subst e; exact ⟨rfl, rfl, rfl⟩))
/-- How many more times follow in the same step. -/
def extn (s p : Int) : List Int → Nat
  | [] => 0
  | t :: l => if t - p = s then extn s t l + 1 else 0
/-- The runs of times: from each first one on as far as it goes. -/
def ofL : List Int → List RunT
  | [] => []
  | [t] => [⟨t, 0, 1⟩]
  | a :: b :: l => ⟨a, b - a, ((extn (b - a) b l + 2 : Nat) : Int)⟩ :: ofL (l.drop (extn (b - a) b l))
termination_by l => l.length
decreasing_by simp; omega
/-- Times that may be. -/
structure Rising (t : List Int) : Prop where
  up : t.Pairwise (· < ·)
  lo : ∀ x, x ∈ t → 0 ≤ x ∧ x ≤ 281474976710656
theorem Rising.tail {a : Int} {t : List Int} (h : Rising (a :: t)) : Rising t := ⟨(List.pairwise_cons.1 h.up).2, fun x hx => h.lo x (by simp [hx])⟩
theorem Rising.drop {t : List Int} (h : Rising t) (k : Nat) : Rising (t.drop k) := ⟨h.up.sublist (List.drop_sublist k t), fun x hx => h.lo x (List.mem_of_mem_drop hx)⟩
/-- May runs be told in times, one by one? -/
def fitR (r : RunT) : Bool := decide (1 ≤ r.c) && decide (r.c ≤ 256) && decide (0 ≤ r.s) && decide (r.s ≤ 281474976710656) && decide (0 ≤ r.f) && decide (r.f ≤ 281474976710656)
def fitL (l : List RunT) : Bool := l.all fitR && decide (cnt l ≤ 256)
def timesG (l : List RunT) : List Int := if fitL l then timesL l else []
def risingB (t : List Int) : Bool := decide (1 ≤ t.length) && decide (t.length ≤ 256) && decide (t.Pairwise (· < ·)) && t.all fun x => decide (0 ≤ x) && decide (x ≤ 281474976710656)
def rightR (l : List RunT) : Bool := risingB (timesG l) && decide (ofL (timesG l) = l)
end Go.Proofs.YtdeghcgakkhbmaaGreat
namespace Go.Proofs.YtdeghcgakkhbmaaGreat
open Go.RowKit
def tiRel (w : World) (p : Option Addr) (l : List RunT) (cap : Nat) (a' : Act) (W : World) : Prop :=
  Below w.heap.size w W ∧ ∃ (i : Nat) (T : List Int) (v : Value), (∃ u : Nat → Value, a' = { tmps := #[.slice p l.length cap, u 1, .slice none 0 0, v, .int .i64 (i : Int), u 5, u 6, u 7, u 8, u 9, u 10, u 11, u 12, u 13, u 14, u 15, u 16, u 17, u 18, u 19, u 20, u 21, u 22, u 23, u 24, u 25, u 26, u 27, u 28, u 29, u 30, u 31, u 32, u 33, u 34, u 35, u 36, u 37, u 38, u 39, u 40, u 41, u 42, u 43, u 44, u 45, u 46, u 47, u 48, u 49, u 50, u 51, u 52, u 53, u 54, u 55, u 56, u 57, u 58, u 59, u 60, u 61, u 62, u 63, u 64, u 65, u 66, u 67, u 68, u 69], defers := [] }) ∧
    OwnR W w.heap.size 2 1 v T.length (T.map (Value.int .i64)) ∧ T = timesL (l.take i) ∧ i ≤ l.length ∧ (∀ r, r ∈ l.take i → fitR r = true) ∧ cnt (l.take i) ≤ 256
def tjRel (w : World) (p : Option Addr) (l : List RunT) (cap i : Nat) (T : List Int) (r : RunT) (g : Nat) (a' : Act) (W : World) : Prop :=
  Below w.heap.size w W ∧ Blk W g #[.int .i64 r.f, .int .i64 r.s, .int .i64 r.c] 141 ∧ ∃ (k : Nat) (T1 : List Int) (v : Value), (∃ u : Nat → Value, a' = { tmps := #[.slice p l.length cap, u 1, .slice none 0 0, v, .int .i64 (i : Int), .pointer (some ⟨g, 0, none⟩), .int .i64 (k : Int), u 7, u 8, u 9, u 10, u 11, u 12, u 13, u 14, u 15, u 16, u 17, u 18, u 19, u 20, u 21, u 22, u 23, u 24, u 25, u 26, u 27, u 28, u 29, u 30, u 31, u 32, u 33, u 34, u 35, u 36, u 37, u 38, u 39, u 40, u 41, u 42, u 43, u 44, u 45, u 46, u 47, u 48, u 49, u 50, u 51, u 52, u 53, u 54, u 55, u 56, u 57, u 58, u 59, u 60, u 61, u 62, u 63, u 64, u 65, u 66, u 67, u 68, u 69], defers := [] }) ∧
    OwnR W w.heap.size 2 1 v T1.length (T1.map (Value.int .i64)) ∧ T1 = T ++ (List.range k).map (fun (j : Nat) => r.f + r.s * (j : Int)) ∧ (k : Int) ≤ r.c
end Go.Proofs.YtdeghcgakkhbmaaGreat
namespace Go.Proofs.YtdeghcgakkhbmaaGreat
open Go.RowKit
/-- The first n are times that may be, one above the other. -/
structure UpTo (T : List Int) (n : Nat) : Prop where
  lo : ∀ (k : Nat) (x : Int), k < n → T[k]? = some x → 0 ≤ x ∧ x ≤ 281474976710656
  up : ∀ (k : Nat) (x y : Int), k + 1 < n → T[k]? = some x → T[k + 1]? = some y → x < y
theorem UpTo.pair : ∀ {T : List Int}, UpTo T T.length → T.Pairwise (· < ·)
  | [], _ => List.Pairwise.nil
  | [a], _ => by simp
  | a :: b :: l, h => by
    have ht : UpTo (b :: l) (b :: l).length := ⟨fun k x hk hx => h.lo (k + 1) x (by simp at hk ⊢; omega) (by simpa using hx), fun k x y hk hx hy => h.up (k + 1) x y (by simp at hk ⊢; omega) (by simpa using hx) (by simpa using hy)⟩
    have ih := ht.pair
    have hab : a < b := h.up 0 a b (by simp) (by simp) (by simp)
    refine List.pairwise_cons.2 ⟨fun c hc => ?_, ih⟩
    rcases List.mem_cons.1 hc with rfl | hc
    · exact hab
    · have := (List.pairwise_cons.1 ih).1 c hc; omega
def risRel (w : World) (b o cap : Nat) (T : List Int) (a' : Act) (W : World) : Prop :=
  Below w.heap.size w W ∧ ∃ (i : Nat), (∃ u : Nat → Value, a' = { tmps := #[.slice (some ⟨b, o, none⟩) T.length cap, u 1, .bool false, .int .i64 (i : Int), u 4, u 5, u 6, u 7, u 8, u 9, u 10, u 11, u 12, u 13, u 14, u 15, u 16, u 17, u 18, u 19, u 20, u 21, u 22, u 23, u 24, u 25, u 26, u 27, u 28, u 29, u 30, u 31, u 32, u 33, u 34, u 35, u 36, u 37, u 38, u 39, u 40, u 41, u 42, u 43, u 44, u 45], defers := [] }) ∧ i ≤ T.length ∧ UpTo T i
end Go.Proofs.YtdeghcgakkhbmaaGreat
namespace Go.Proofs.YtdeghcgakkhbmaaGreat
open Go.RowKit
def ofRel (w : World) (b o cap : Nat) (T : List Int) (a' : Act) (W : World) : Prop :=
  Below w.heap.size w W ∧ ∃ (i : Nat) (L : List RunT) (v : Value), (∃ u : Nat → Value, a' = { tmps := #[.slice (some ⟨b, o, none⟩) T.length cap, u 1, .slice none 0 0, v, .int .i64 (i : Int), u 5, u 6, u 7, u 8, u 9, u 10, u 11, u 12, u 13, u 14, u 15, u 16, u 17, u 18, u 19, u 20, u 21, u 22, u 23, u 24, u 25, u 26, u 27, u 28, u 29, u 30, u 31, u 32, u 33, u 34, u 35, u 36, u 37, u 38, u 39, u 40, u 41, u 42, u 43, u 44, u 45, u 46, u 47, u 48, u 49, u 50, u 51, u 52, u 53, u 54, u 55, u 56, u 57, u 58, u 59, u 60, u 61, u 62, u 63, u 64, u 65, u 66, u 67, u 68, u 69, u 70, u 71, u 72, u 73, u 74, u 75, u 76, u 77, u 78, u 79, u 80], defers := [] }) ∧
    OwnR W w.heap.size 141 3 v L.length (flatCells L) ∧ ofL T = L ++ ofL (T.drop i) ∧ i ≤ T.length ∧ L.length ≤ i
def ojRel (w : World) (b o cap : Nat) (T : List Int) (i : Nat) (v : Value) (L : List RunT) (s x1 : Int) (a' : Act) (W : World) : Prop :=
  Below w.heap.size w W ∧ ∃ (j : Nat) (x : Int), (∃ u : Nat → Value, a' = { tmps := #[.slice (some ⟨b, o, none⟩) T.length cap, u 1, .slice none 0 0, v, .int .i64 (i : Int), .int .i64 (j : Int), u 6, u 7, u 8, u 9, u 10, u 11, u 12, u 13, u 14, u 15, u 16, u 17, u 18, u 19, u 20, u 21, u 22, u 23, u 24, u 25, u 26, u 27, u 28, u 29, u 30, u 31, u 32, u 33, u 34, u 35, u 36, u 37, u 38, u 39, u 40, u 41, u 42, u 43, u 44, u 45, u 46, u 47, u 48, u 49, u 50, u 51, u 52, u 53, u 54, u 55, u 56, u 57, u 58, u 59, u 60, u 61, u 62, u 63, u 64, u 65, u 66, u 67, u 68, u 69, u 70, u 71, u 72, u 73, u 74, u 75, u 76, u 77, u 78, u 79, u 80], defers := [] }) ∧
    OwnR W w.heap.size 141 3 v L.length (flatCells L) ∧ i + 1 ≤ j ∧ j < T.length ∧ T[j]? = some x ∧ extn s x1 (T.drop (i + 2)) = (j - i - 1) + extn s x (T.drop (j + 1))
end Go.Proofs.YtdeghcgakkhbmaaGreat
namespace Go.Proofs.YtdeghcgakkhbmaaGreat
open Go.RowKit
structure RunsP (w : World) (b o : Nat) (l : List RunT) : Prop where
  runs : RunsIn w (some ⟨b, o, none⟩) l
theorem RunsP.below {w w' : World} {b o : Nat} {l : List RunT} (h : RunsP w b o l) (hb : Below w.heap.size w w') : RunsP w' b o l := ⟨h.runs.below hb⟩
theorem RunsP.rex {L : List Nat} {w w' : World} {b o : Nat} {l : List RunT} (h : RunsP w b o l) (hr : Rex L w w') (hL : L = []) : RunsP w' b o l := by subst hL; exact h.below hr.below
theorem RunsP.drew {w : World} {b o : Nat} {l : List RunT} (h : RunsP w b o l) : RunsP w.drew b o l := ⟨⟨h.runs.at'⟩⟩
theorem RunsP.cellAt {w : World} {b o : Nat} {l : List RunT} (h : RunsP w b o l) {i : Nat} {r : RunT} (hx : l[i]? = some r) :
    w.cell? ⟨b, o + i * 3, none⟩ = some (.int .i64 r.f) ∧ w.cell? ⟨b, o + i * 3 + 1, none⟩ = some (.int .i64 r.s) ∧ w.cell? ⟨b, o + i * 3 + 2, none⟩ = some (.int .i64 r.c) := h.runs.cells hx
def smRel (w : World) (p : Option Addr) (cap : Nat) (p' : Option Addr) (cap' : Nat) (A B : List RunT) (a' : Act) (W : World) : Prop :=
  Below w.heap.size w W ∧ ∃ (i : Nat), (∃ u : Nat → Value, a' = { tmps := #[.slice p A.length cap, .slice p' A.length cap', u 2, u 3, .bool false, .int .i64 (i : Int), u 6, u 7, u 8, u 9, u 10, u 11, u 12, u 13, u 14, u 15, u 16, u 17, u 18, u 19, u 20, u 21, u 22, u 23, u 24, u 25], defers := [] }) ∧ i ≤ A.length ∧ ∀ k, k < i → A[k]? = B[k]?
end Go.Proofs.YtdeghcgakkhbmaaGreat
namespace Go.Proofs.YtdeghcgakkhbmaaGreat
open Go.RowKit
def ptRel (w1 : World) (g bt ot ct : Nat) (T V : List Int) (a' : Act) (W : World) : Prop :=
  Below w1.heap.size w1 W ∧ ∃ (i : Nat) (v : Value), (∃ u : Nat → Value, a' = { tmps := #[u 0, .pointer (some ⟨g, 0, none⟩), .slice none 0 0, .bool false, .slice (some ⟨bt, ot, none⟩) T.length ct, v, .int .i64 (i : Int), u 7, u 8, u 9, u 10, u 11, u 12, u 13, u 14, u 15, u 16, u 17, u 18, u 19, u 20, u 21, u 22, u 23, u 24, u 25, u 26, u 27, u 28, u 29, u 30, u 31, u 32, u 33, u 34, u 35, u 36, u 37, u 38, u 39, u 40, u 41, u 42, u 43, u 44, u 45, u 46, u 47, u 48, u 49, u 50, u 51, u 52, u 53, u 54, u 55, u 56, u 57, u 58, u 59], defers := [] }) ∧
    OwnR W w1.heap.size 58 2 v i (flatPts ((T.zip V).take i)) ∧ i ≤ T.length ∧ ∀ (k : Nat) (y : Int), k < i → V[k]? = some y → isBack y = true
def PtsPost (w : World) (T V : List Int) (e : Ending) (w' : World) : Prop :=
  Below w.heap.size w w' ∧ ((V.all isBack = true ∧ ∃ v, e = .returned (.tuple #[v, .bool true]) ∧ OwnR w' w.heap.size 58 2 v T.length (flatPts (T.zip V))) ∨ (V.all isBack = false ∧ e = .returned (.tuple #[.slice none 0 0, .bool false])))
end Go.Proofs.YtdeghcgakkhbmaaGreat
namespace Go.Proofs.YtdeghcgakkhbmaaGreat
open Go.RowKit
end Go.Proofs.YtdeghcgakkhbmaaGreat
namespace Go.Proofs.YtdeghcgakkhbmaaGreat
open Go.RowKit
def plS1 (i : Nat) (S : Int) : Int := if 1 ≤ i then S else 0
def plS2 (i : Nat) (S : Int) : Int := if 2 ≤ i then S else 0
def plusV (f : Bool) (S1 S2 : Int) : Array Value := if f = true then #[.int .i64 S1, .int .i64 S2] else #[.int .i64 0, .int .i64 0]
def plusE (f : Bool) : Int := if f = true then 0 else 5
def spA (l : List (Int × Int)) : Int := lsum (l.map (·.1))
def spB (l : List (Int × Int)) : Int := lsum (l.map (·.2))
end Go.Proofs.YtdeghcgakkhbmaaGreat
namespace Go.Proofs.YtdeghcgakkhbmaaGreat
open Go.RowKit
set_option maxRecDepth 100000 in
set_option maxHeartbeats 2000000 in
theorem c_recLetter (r : Nat) (w : World) : Calls Tryz.prog 118 #[.int .i32 r] w fun e w' => e = .returned (.bool (letterB r)) ∧ Below w.heap.size w w' := by
  go_enter Tryz.func118, Tryz.ntmps118
  go_upto_region 1 with (fail)
  refine wp_cutB w (Bz) ?_
  rintro W1 hW z2 hL
  refine wp_regS 15 17 hW hL ?_
  iterate 3 refine dA ?_
  iterate 2 refine gA ?_
  refine pA ?_
  refine dA ?_
  iterate 3 refine gA ?_
  iterate 2 refine gB ?_
  refine pgA ?_
  refine pO ?_
  refine dA ?_
  clear hW hL
  rintro W3 hW z4 hL
  simp only [ndR]
  intros
  repeat (rename GDet _ _ _ _ => hgd; clear hgd)
  simp only [ndS]
  refine wpList_nil ?_
  obtain ⟨-⟩ := hL
  go_wp2
  refine bodyPost_ret (v := .bool ((decide (97 ≤ (r : Int)) && decide ((r : Int) ≤ 122)) || (decide (48 ≤ (r : Int)) && decide ((r : Int) ≤ 57)))) (by simp [results, Tryz.results118, go_sem]) rfl ⟨?_, by exact belowAny⟩
  congr 2
  unfold letterB
  rw [Bool.eq_iff_iff]
  simp only [Bool.or_eq_true, Bool.and_eq_true, decide_eq_true_eq]
  omega
set_option maxRecDepth 100000 in
set_option maxHeartbeats 2000000 in
theorem c_srBtw (n lo hi : Int) (w : World) : Calls Tryz.prog 124 #[.int .i64 n, .int .i64 lo, .int .i64 hi] w fun e w' => e = .returned (.bool (btw n lo hi)) ∧ Below w.heap.size w w' := by
  unfold btw
  go_enter Tryz.func124, Tryz.ntmps124
  go_upto_region 1 with (fail)
  refine wp_cutB w (Bz) ?_
  rintro W1 hW z2 hL
  refine wp_regS 9 15 hW hL ?_
  iterate 4 refine dA ?_
  iterate 3 refine gA ?_
  refine pA ?_
  refine dA ?_
  clear hW hL
  rintro W3 hW z4 hL
  simp only [ndR]
  intros
  repeat (rename GDet _ _ _ _ => hgd; clear hgd)
  simp only [ndS]
  refine wpList_nil ?_
  obtain ⟨-⟩ := hL
  go_wp2
  refine bodyPost_ret (by simp [results, Tryz.results124, go_sem]) rfl ⟨rfl, by exact belowAny⟩
set_option maxRecDepth 100000 in
set_option maxHeartbeats 2000000 in
theorem c_srScl (n : Int) (w : World) : Calls Tryz.prog 144 #[.int .i64 n] w fun e w' => e = .returned (.bool (btw n (-40) 40)) ∧ Below w.heap.size w w' := by
  unfold btw
  go_enter Tryz.func144, Tryz.ntmps144
  go_upto_region 1 with (fail)
  refine wp_cutB w (Bz) ?_
  rintro W1 hW z2 hL
  refine wp_regS 7 9 hW hL ?_
  iterate 3 refine dA ?_
  iterate 2 refine gA ?_
  refine pA ?_
  refine dA ?_
  clear hW hL
  rintro W3 hW z4 hL
  simp only [ndR]
  intros
  repeat (rename GDet _ _ _ _ => hgd; clear hgd)
  simp only [ndS]
  refine wpList_nil ?_
  obtain ⟨-⟩ := hL
  go_wp2
  refine bodyPost_ret (by simp [results, Tryz.results144, go_sem]) rfl ⟨rfl, by exact belowAny⟩
theorem width_pos (s : ByteArray) (pos : Nat) (h : pos < s.size) : 1 ≤ (Utf8.decode s pos).2 := by
  by_cases ha : (s[pos]'h).toNat < 128
  · rw [decode_ascii s pos h ha]
    exact Nat.le_refl _
  · exact (decode_high s pos h (by omega)).2
def nmRel (w : World) (s : ByteArray) (ok : Bool) (a' : Act) (W : World) : Prop :=
  Below w.heap.size w W ∧ ∃ pos f : Nat, (∃ u : Nat → Value, a' = { tmps := #[.string s, u 1, u 2, .bool ok, u 4, u 5, u 6, u 7, u 8, u 9, u 10, u 11, u 12, u 13, u 14, .pointer (some ⟨w.heap.size, 0, none⟩), u 16, u 17, u 18, u 19, u 20, u 21, u 22], defers := [] }) ∧ W.heap[w.heap.size]? = some (.stringIter s pos) ∧ s.size ≤ pos + f ∧ lettersB s f pos = lettersB s s.size 0
set_option maxRecDepth 100000 in
set_option maxHeartbeats 2000000 in
theorem c_recName (s : ByteArray) (w : World) : Calls Tryz.prog 73 #[.string s] w fun e w' => e = .returned (.bool (nameB s)) ∧ Below w.heap.size w w' := by
  go_enter Tryz.func73, Tryz.ntmps73
  go_upto_region 1 with (fail)
  refine wp_scope_straight (wp_seq ?_)
  refine wp_cutB w (Bz) ?_
  rintro W1 hW z2 hL
  refine wp_regS 9 23 hW hL ?_
  iterate 4 refine dA ?_
  iterate 3 refine gA ?_
  refine pA ?_
  refine dA ?_
  clear hW hL
  rintro W3 hW z4 hL
  simp only [ndR]
  intros
  repeat (rename GDet _ _ _ _ => hgd; clear hgd)
  simp only [ndS]
  refine wpList_nil ?_
  obtain ⟨-⟩ := hL
  have hok : (decide (1 ≤ (s.size : Int)) && decide ((s.size : Int) ≤ 12)) = decide (1 ≤ s.size ∧ s.size ≤ 12) := by
    rw [Bool.eq_iff_iff]
    simp only [Bool.and_eq_true, decide_eq_true_eq]
    omega
  rw [hok]
  obtain ⟨ok, ho⟩ : ∃ b, decide (1 ≤ s.size ∧ s.size ≤ 12) = b := ⟨_, rfl⟩
  rw [ho]
  replace ho := Lib.hid ho
  clear hok
  simp only [Exit.then]
  refine wp_seq (wp_label ?_)
  go_wp2
  refine wp_loop (nmRel W3 s ok) (fun _ W => s.size - W.iterPos W3.heap.size) ?_ ?_
  · unfold nmRel
    have hit := World.iter_heap W3 s 0
    exact ⟨(Below.refl _ _).alloc (Nat.le_refl _) _, 0, s.size, frame_ex rfl, by simpa using hit, by omega, rfl⟩
  · rintro a' W ⟨hW0, pos, f, ⟨u, rfl⟩, hit, hf, hlet⟩
    have hz := hW0.size
    have hlt := (Array.getElem?_eq_some_iff.1 hit).1
    by_cases hp : pos < s.size
    · have hnx : ∀ ty, (Instr.next (.pointer (some ⟨W3.heap.size, 0, none⟩)) true ty).run Tryz.prog W = _ := fun ty => Lib.run_next_any_at W W3.heap.size s pos ty hit hp
      have hwd := width_pos s pos hp
      have hit2 := Lib.iterAt_heap W W3.heap.size s pos (pos + (Utf8.decode s pos).2) hit
      have hbw2 := Lib.below_iterAt hW0 (k := W3.heap.size) (Nat.le_refl _) s (pos + (Utf8.decode s pos).2)
      obtain ⟨f, rfl⟩ : ∃ g, f = g + 1 := ⟨f - 1, by omega⟩
      have hst : lettersB s (f + 1) pos = (letterB (Utf8.decode s pos).1 && lettersB s f (pos + (Utf8.decode s pos).2)) := by simp [lettersB, hp]
      rw [hst] at hlet
      obtain ⟨r, hr⟩ : ∃ r, (Utf8.decode s pos).1 = r := ⟨_, rfl⟩
      obtain ⟨d, hd⟩ : ∃ d, (Utf8.decode s pos).2 = d := ⟨_, rfl⟩
      have hm : s.size - (pos + d) < s.size - W.iterPos W3.heap.size := by
        simp only [World.iterPos, hit]; omega
      rw [hd] at hit2 hbw2 hlet hwd
      rw [hr] at hlet
      simp only [hr, hd] at hnx
      obtain ⟨W4, hW4⟩ : ∃ W4, W.iterAt W3.heap.size s (pos + d) = W4 := ⟨_, rfl⟩
      rw [hW4] at hit2 hbw2
      simp only [hW4] at hnx
      have cl := fun W => c_recLetter r W
      clear hst hr hd hW4 hit hlt
      replace hit2 := Lib.hid hit2
      replace hm := Lib.hid hm
      cases hlb : letterB r with
      | true =>
        rw [hlb] at cl hlet
        replace cl := Lib.hid cl
        replace hlet := Lib.hid hlet
        clear hlb
        go_wp2_with fail
        refine (cl.out _).mono ?_
        rintro e w5 ⟨rfl, hb5⟩
        have hit5 := Lib.hid ((hb5.block _ (Array.getElem?_eq_some_iff.1 hit2.out).1).trans hit2.out)
        go_wp2
        refine ⟨?_, by simp only [World.iterPos, hit5.out]; exact hm.out⟩
        unfold nmRel
        exact ⟨hbw2.trans (hb5.mono hbw2.size), pos + d, f, frame_ex rfl, hit5.out, by omega, by rw [← hlet.out]; rfl⟩
      | false =>
        rw [hlb] at cl hlet
        replace cl := Lib.hid cl
        have hno := Lib.hid (show nameB s = false by unfold nameB; rw [← hlet]; simp)
        clear hlb hlet
        go_wp2_with fail
        refine (cl.out _).mono ?_
        rintro e w5 ⟨rfl, hb5⟩
        go_wp2
        simp only [Exit.noGoto]
        go_ret
        exact ⟨by rw [hno.out]; rfl, hW.trans ((hbw2.trans (hb5.mono hbw2.size)).mono hW.size)⟩
    · have hnx : ∀ ty, (Instr.next (.pointer (some ⟨W3.heap.size, 0, none⟩)) true ty).run Tryz.prog W = _ := fun ty => Lib.run_next_end_at W W3.heap.size s pos ty hit hp
      have hall := Lib.hid (show nameB s = ok by
        unfold nameB
        rw [← hlet, ho.out]
        cases f with
        | zero => simp [lettersB]
        | succ f => simp [lettersB, hp])
      clear hlet
      go_wp2
      simp only [Exit.noGoto]
      go_ret
      exact ⟨by rw [hall.out]; rfl, hW.trans (hW0.mono hW.size)⟩
end Go.Proofs.YtdeghcgakkhbmaaGreat
namespace Go.Proofs.YtdeghcgakkhbmaaGreat
open Go.RowKit
end Go.Proofs.YtdeghcgakkhbmaaGreat
namespace Go.Proofs.YtdeghcgakkhbmaaGreat
open Go.RowKit Go.Shelf
attribute [local go_sem] Oper.semAt_some
/-- A point of a segment, and one that is held against it. -/
def okZ (z : (Int × Int) × (Int × Int)) : Bool := (z.2.1 == z.1.1) && isBack z.2.2
def farStep (f : Int) (z : (Int × Int) × (Int × Int)) : Int := mx (mx f (wrap64 (z.2.2 - z.1.2))) (wrap64 (z.1.2 - z.2.2))
def farOf (l : List ((Int × Int) × (Int × Int))) : Int := l.foldl farStep 0
/-- What a round of the loop keeps for the points' sake: what lay below, and all cells from a block on. -/
structure KF (B0 n₀ : Nat) (A B : World) : Prop where
  below : Below B0 A B
  rest : ∀ (b : Nat) (cs : Array Value) (t : TypeId) (f : Nat × Nat), n₀ ≤ b → A.heap[b]? = some (.cells cs t f) → B.heap[b]? = some (.cells cs t f)
theorem KF.refl (B0 n₀ : Nat) (A : World) : KF B0 n₀ A A := ⟨Below.refl _ _, fun _ _ _ _ _ h => h⟩
theorem KF.trans {B0 n₀ : Nat} {A B C : World} (h : KF B0 n₀ A B) (k : KF B0 n₀ B C) : KF B0 n₀ A C := ⟨h.below.trans k.below, fun b cs t f hb ha => k.rest b cs t f hb (h.rest b cs t f hb ha)⟩
theorem KF.alloc {B0 n₀ : Nat} {A B : World} (h : KF B0 n₀ A B) (hB : B0 ≤ B.heap.size) (o : Obj) : KF B0 n₀ A (B.alloc o) := ⟨h.below.alloc hB o, fun b cs t f hb ha => (Below.heap_alloc B o b (lt_of_heap (h.rest b cs t f hb ha))).trans (h.rest b cs t f hb ha)⟩
theorem KF.set {B0 n₀ : Nat} {A B : World} (h : KF B0 n₀ A B) {g i : Nat} (h1 : B0 ≤ g) (h2 : g < n₀) (v : Value) : KF B0 n₀ A (B.setCell ⟨g, i, none⟩ v) := ⟨h.below.setCell (p := ⟨g, i, none⟩) h1 v, fun b cs t f hb ha => (Below.heap_setCell B ⟨g, i, none⟩ v b (by simp; omega)).trans (h.rest b cs t f hb ha)⟩
theorem KF.calls {B0 n₀ : Nat} {A B C : World} (h : KF B0 n₀ A B) (hb : Below B.heap.size B C) (hB : B0 ≤ B.heap.size) : KF B0 n₀ A C := ⟨h.below.trans (hb.mono hB), fun b cs t f hn ha => (hb.block b (lt_of_heap (h.rest b cs t f hn ha))).trans (h.rest b cs t f hn ha)⟩
theorem KF.putObj {B0 n₀ : Nat} {w : World} (hB : B0 ≤ w.heap.size) (W : World) (l : Nat) (o o' : Obj) (hl : w.heap.size ≤ l) (h : W.heap[l]? = some o) (h1 : o.isCells = false) (h2 : o.isWalk = false) : KF B0 n₀ W (W.putObj l o') :=
  ⟨belowK_b hB W l o o' hl h h1 h2, fun b cs t f _ ha => keepsT_putObj o' h h1 b cs f ha⟩
theorem KeepsOthers.calls {A B C : World} (h : KeepsOthers A B) (hb : Below B.heap.size B C) : KeepsOthers A C := ⟨Nat.le_trans h.size hb.size, fun k o hk ho => by
  have e := h.same k o hk ho
  exact (hb.block k (lt_of_heap (e))).trans e⟩
def farR (s : SegT) (pts : List (Int × Int)) : Int × Int := if pts.length = (ptsL s).length then (if ((ptsL s).zip pts).all okZ then (farOf ((ptsL s).zip pts), 0) else (0, 2)) else (0, 2)
def FarOut (s : SegT) (pts : List (Int × Int)) (w : World) (e : Ending) (w' : World) : Prop := e = .returned (.tuple #[.int .i64 (farR s pts).1, .int .i64 (farR s pts).2]) ∧ Below w.heap.size w w'
end Go.Proofs.YtdeghcgakkhbmaaGreat
