/- Parts of the proof that follows: Segments, plainly: the values, and what some of them come to. No condition. | Layer seg: linePart, rawPart, told. | Layer seg: rawPart, told; the closure in Part. | Layer seg: Part. | Layer seg: value, At. | slices.Clone of runs, and of numbers. | Layer seg: Kind, Of. -/
import Derived.Laws.EntriesVeiled
import Derived.Laws.AppendOwn
import Derived.Test.YtbanjolokkghdaaGreatDoorWz10
set_option linter.unusedSimpArgs false
set_option linter.unusedVariables false
namespace Go.Proofs.YtbanjolokkghdaaGreatDoor
open Go.RowKit

def lsum : List Int → Int
  | [] => 0
  | x :: l => x + lsum l
/-- The places from i on, below j. -/
def slice (l : List Int) (i j : Nat) : List Int := (l.take j).drop i
theorem timesL_append (a b : List RunT) : timesL (a ++ b) = timesL a ++ timesL b := by
  induction a with
  | nil => rfl
  | cons r a ih => simp [timesL, ih]
end Go.Proofs.YtbanjolokkghdaaGreatDoor
namespace Go.Proofs.YtbanjolokkghdaaGreatDoor
open Go.RowKit
def valAt (s : SegT) (t : Int) : Int := lineVal s.A s.R s.n s.d (t - firstT s.runs)
def vals (s : SegT) : List Int := if s.K = 4 then s.raw else (timesL s.runs).map (valAt s)
/-- What some numbers come to. -/
def partA (W : List Int) : Array Value := #[.int .i64 W.length, .int .i64 (minL W), .int .i64 (maxL W), .int .i64 (hiW (lsum W)), .int .u64 (loW (lsum W))]
theorem isBack_iff {v : Int} : isBack v = true ↔ -2305844108725321728 ≤ v ∧ v ≤ 2305844108725321728 := by unfold isBack; simp
theorem lineVal_up {A R n d t t' : Int} (hd : 1 ≤ d) (hn : 0 ≤ n) (h : t ≤ t') : lineVal A R n d t ≤ lineVal A R n d t' := by
  unfold lineVal
  have := Int.mul_le_mul_of_nonneg_left h hn
  have := Int.ediv_le_ediv (show 0 < d by omega) (show n * t + R ≤ n * t' + R by omega)
  omega
theorem lineVal_down {A R n d t t' : Int} (hd : 1 ≤ d) (hn : n ≤ 0) (h : t ≤ t') : lineVal A R n d t' ≤ lineVal A R n d t := by
  unfold lineVal
  have := Int.mul_le_mul_of_nonpos_left hn h
  have := Int.ediv_le_ediv (show 0 < d by omega) (show n * t' + R ≤ n * t + R by omega)
  omega
theorem lineVal_between {A R n d a t b : Int} (hd : 1 ≤ d) (h1 : a ≤ t) (h2 : t ≤ b) :
    min (lineVal A R n d a) (lineVal A R n d b) ≤ lineVal A R n d t ∧ lineVal A R n d t ≤ max (lineVal A R n d a) (lineVal A R n d b) := by
  rcases Int.le_total 0 n with hn | hn
  · have := lineVal_up (A := A) (R := R) hd hn h1
    have := lineVal_up (A := A) (R := R) hd hn h2
    omega
  · have := lineVal_down (A := A) (R := R) hd hn h1
    have := lineVal_down (A := A) (R := R) hd hn h2
    omega
/-- A segment with a line that may be. -/
structure LineSeg (s : SegT) : Prop where
  runs : RunsOk s.runs
  line : LineOk s.A s.R s.n s.d
  ends : endsOk s.A s.R s.n s.d 0 (lastT s.runs - firstT s.runs) = true
theorem at_times {l : List RunT} (h : RunsOk l) {k : Nat} (hk : (k : Int) < cnt l) : (timesL l)[k]? = some (atV l k) := by
  obtain ⟨v, e, _, e', _⟩ := atL_some h (show (0 : Int) ≤ k by omega) hk
  rw [atL_eq l k fun r hr => by have := (h.each r hr).c0; omega] at e
  rw [e, e']
theorem length_times {l : List RunT} (h : RunsOk l) : ((timesL l).length : Int) = cnt l := length_timesL l fun r hr => by have := (h.each r hr).c0; omega
theorem mem_times {l : List RunT} (h : RunsOk l) {t : Int} (ht : t ∈ timesL l) : firstT l ≤ t ∧ t ≤ lastT l ∧ 0 ≤ t ∧ t ≤ 281474976710656 := by
  obtain ⟨k, hk⟩ := List.getElem?_of_mem ht
  have hlt : k < (timesL l).length := by rw [List.getElem?_eq_some_iff] at hk; exact hk.1
  have hl := length_times h
  rw [at_times h (by omega)] at hk
  simp only [Option.some.injEq] at hk
  subst hk
  have := at_in h (show (0 : Int) ≤ k by omega) (by omega)
  exact ⟨at_mono h (by omega) (by omega) (by omega), at_mono h (by omega) (by omega) (by omega), this.1, this.2⟩
theorem first_in {l : List RunT} (h : RunsOk l) : 0 ≤ firstT l ∧ firstT l ≤ 281474976710656 := at_in h (by omega) (by have := cnt_pos h; omega)
theorem LineSeg.back {s : SegT} (h : LineSeg s) {t : Int} (h1 : firstT s.runs ≤ t) (h2 : t ≤ lastT s.runs) : isBack (valAt s t) = true := by
  have e := h.ends
  unfold endsOk at e
  simp only [Bool.and_eq_true, isBack_iff] at e
  have := lineVal_between (A := s.A) (R := s.R) (n := s.n) (d := s.d) h.line.d0 (show 0 ≤ t - firstT s.runs by omega) (show t - firstT s.runs ≤ lastT s.runs - firstT s.runs by omega)
  rw [isBack_iff]
  unfold valAt
  omega

def sumP (s : SegT) (P : List RunT) : Int := lsum ((timesL P).map (valAt s))
end Go.Proofs.YtbanjolokkghdaaGreatDoor
namespace Go.Proofs.YtbanjolokkghdaaGreatDoor
open Go.RowKit
end Go.Proofs.YtbanjolokkghdaaGreatDoor
namespace Go.Proofs.YtbanjolokkghdaaGreatDoor
open Go.RowKit
/-- What Part tells. -/
def partOut (s : SegT) (a b : Int) : Array Value × Int :=
  if segB s then
    if clipI s.runs a < clipJ s.runs a b then (partA (slice (vals s) (clipI s.runs a).toNat (clipJ s.runs a b).toNat), 0)
    else (#[.int .i64 0, .int .i64 0, .int .i64 0, .int .i64 0, .int .u64 0], 9)
  else (#[.int .i64 0, .int .i64 0, .int .i64 0, .int .i64 0, .int .u64 0], 210)
theorem segB_runs {s : SegT} (h : segB s = true) : RunsOk s.runs := by
  unfold segB at h
  rw [Bool.and_eq_true] at h
  exact (risesB_iff _).1 h.1
end Go.Proofs.YtbanjolokkghdaaGreatDoor
namespace Go.Proofs.YtbanjolokkghdaaGreatDoor
open Go.RowKit
def valI (s : SegT) (i : Int) : Int := ((vals s)[i.toNat]?).getD 0
def segAtV (s : SegT) (t : Int) : Int := if segB s then ((findL s.runs t).map (valI s)).getD 0 else 0
def segAtE (s : SegT) (t : Int) : Int := if segB s then (if (findL s.runs t).isSome then 0 else 4) else 210
end Go.Proofs.YtbanjolokkghdaaGreatDoor
namespace Go.Proofs.YtbanjolokkghdaaGreatDoor
open Go.RowKit
/-- A copy in a block of its own, or nil. -/
def CloneR (w : World) (p : Option Addr) (l : List RunT) (e : Ending) (w' : World) : Prop := ∃ p' cap', e = .returned (.slice p' l.length cap') ∧ Below w.heap.size w w' ∧ RunsIn w' p' l ∧ l.length ≤ cap' ∧ ∀ a, p' = some a → w.heap.size ≤ a.block
def CloneI (w : World) (p : Option Addr) (l : List Int) (e : Ending) (w' : World) : Prop := ∃ p' cap', e = .returned (.slice p' l.length cap') ∧ Below w.heap.size w w' ∧ IntsIn w' p' l ∧ l.length ≤ cap' ∧ ∀ a, p' = some a → w.heap.size ≤ a.block
theorem ints_flat {w : World} {a : Addr} {l : List Int} (h : IntsIn w (some a) l) (j : Nat) (u : Value) (hu : (l.map (Value.int .i64))[j]? = some u) : w.cell? (a.add j) = some u := by
  simp only [List.getElem?_map, Option.map_eq_some_iff] at hu
  obtain ⟨x, hx, rfl⟩ := hu
  obtain ⟨b, o, e, hc⟩ := h.at' j x hx
  simp at e
  subst e
  have hadd : (⟨b, o, none⟩ : Addr).add j = ⟨b, o + j, none⟩ := by unfold Addr.add; split <;> simp_all
  rw [hadd]; exact hc
theorem row_take {cur : Array Value} {xs : List Value} {k : Nat} (h : cur.toList.take k = xs) {j : Nat} {u : Value} (hu : xs[j]? = some u) : cur[j]? = some u := by
  rw [← h, List.getElem?_take] at hu
  split at hu
  · simpa using hu
  · cases hu
theorem cloneRun_in {w : World} {g k : Nat} {t : TypeId} {cur : Array Value} {l : List RunT} (hb : w.heap[g]? = some (.cells cur t (0, 0))) (ht : cur.toList.take k = flatCells l) : RunsIn w (some ⟨g, 0, none⟩) l := ⟨fun i r hr => by
  obtain ⟨a, b, c⟩ := flat_at l i r hr
  have k : ∀ z, w.cell? ⟨g, z, none⟩ = cur[z]? := fun z => cell_of_row w g z cur t (0, 0) hb
  refine ⟨g, 0, rfl, ?_, ?_, ?_⟩
  · rw [k, Nat.zero_add]; exact row_take ht a
  · rw [k, Nat.zero_add]; exact row_take ht b
  · rw [k, Nat.zero_add]; exact row_take ht c⟩
theorem cloneInt_in {w : World} {g k : Nat} {t : TypeId} {cur : Array Value} {l : List Int} (hb : w.heap[g]? = some (.cells cur t (0, 0))) (ht : cur.toList.take k = l.map (Value.int .i64)) : IntsIn w (some ⟨g, 0, none⟩) l := ⟨fun i x hx => by
  refine ⟨g, 0, rfl, ?_⟩
  rw [cell_of_row w g _ cur t (0, 0) hb, Nat.zero_add]
  exact row_take ht (by simp [hx])⟩
end Go.Proofs.YtbanjolokkghdaaGreatDoor
namespace Go.Proofs.YtbanjolokkghdaaGreatDoor
open Go.RowKit
def kindL (A R n d : Int) : Int := if isLine A R n d = true then (if n = 0 then 1 else if R = 0 then 2 else 3) else 0
theorem RunsIn.set' {w : World} {p : Option Addr} {o i : Nat} {v : Value} {l : List RunT} (h : RunsIn w p l) (hne : ∀ a, p = some a → a.block ≠ o) : RunsIn (w.setCell ⟨o, i, none⟩ v) p l := ⟨fun k r hr => by
  obtain ⟨b, y, e, h1, h2, h3⟩ := h.at' k r hr
  have hc : ∀ z, (w.setCell ⟨o, i, none⟩ v).cell? ⟨b, z, none⟩ = w.cell? ⟨b, z, none⟩ := by
    intro z
    have := heap_setCell_other w ⟨o, i, none⟩ b v (hne _ e)
    simp only [World.cell?, this]
  exact ⟨b, y, e, (hc _).trans h1, (hc _).trans h2, (hc _).trans h3⟩⟩
theorem IntsIn.set' {w : World} {p : Option Addr} {o i : Nat} {v : Value} {l : List Int} (h : IntsIn w p l) (hne : ∀ a, p = some a → a.block ≠ o) : IntsIn (w.setCell ⟨o, i, none⟩ v) p l := ⟨fun k r hr => by
  obtain ⟨b, y, e, h1⟩ := h.at' k r hr
  have hc : ∀ z, (w.setCell ⟨o, i, none⟩ v).cell? ⟨b, z, none⟩ = w.cell? ⟨b, z, none⟩ := by
    intro z
    have := heap_setCell_other w ⟨o, i, none⟩ b v (hne _ e)
    simp only [World.cell?, this]
  exact ⟨b, y, e, (hc _).trans h1⟩⟩
theorem IntsIn.rex {w w' : World} {p : Option Addr} {l : List Int} (h : IntsIn w p l) (hr : Rex [] w w') : IntsIn w' p l := h.below hr.below
def CR (B : Nat) (l : List RunT) : Spec := fun v w => ∃ p' cap', v = .slice p' l.length cap' ∧ RunsIn w p' l ∧ l.length ≤ cap' ∧ ∀ a, p' = some a → B ≤ a.block
def CI (B : Nat) (l : List Int) : Spec := fun v w => ∃ p' cap', v = .slice p' l.length cap' ∧ IntsIn w p' l ∧ l.length ≤ cap' ∧ ∀ a, p' = some a → B ≤ a.block
theorem CR.closed (B : Nat) (l : List RunT) : Closed [] (CR B l) := fun _ _ _ hr ⟨p', c', e, h, k⟩ => ⟨p', c', e, h.rex hr rfl, k⟩
theorem CI.closed (B : Nat) (l : List Int) : Closed [] (CI B l) := fun _ _ _ hr ⟨p', c', e, h, k⟩ => ⟨p', c', e, h.rex hr, k⟩
end Go.Proofs.YtbanjolokkghdaaGreatDoor
