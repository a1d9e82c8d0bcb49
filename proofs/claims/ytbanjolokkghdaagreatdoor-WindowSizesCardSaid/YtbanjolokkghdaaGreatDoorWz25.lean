/- Parts of the proof that follows: References 13, 14, 18, 24: what a name, a bound, a scale, a time, a point may be; a segment's last time; which segment begins behind another. No condition but that the segments may be. | Layer merge: a bound for segments; the document's. No condition. | Layer span: Least, Most. No condition but that there is a span, and that they may be. | Layer span: Plus, Around. No condition but that the spans may be. | Layer wide: Sub. | Layer answer: a sheet takes a piece. No condition but that the numbers are in their bounds. | A region that draws its order, in the open fence: all but a tail is walked once, in the order of the text; the tail, behind all of it, may call a range's body. No condition. | answer.pieces: what is asked, piece by piece. No condition but that the series may be. | answer.whole: the sheet of all that is asked. No condition. | answer.whole, and what asks for it alone: At, Count, Sheet, Least, Most. No condition. | answer.whole at a series; and what asks for it alone: At, Count, Sheet, Least, Most. No condition. | answer.Mean. No condition. | What answer says of a series, plainly: whole, At, Count, Sheet, Least, Most, Sum, Mean. No condition. | The laws of chapter 25: some, wakes. No condition. | A copy of its own of a row, by append; rows of segments as they came in. No condition. -/
import Derived.RegionTactic
import Derived.ChangeAlike
import Derived.Laws.AppendOwnNone
import Derived.Test.YtbanjolokkghdaaGreatDoorWz24
set_option linter.unusedSimpArgs false
set_option linter.unusedVariables false
namespace Go.Proofs.YtbanjolokkghdaaGreatDoor
open Go.RowKit
def nm18Rel (w : World) (s : ByteArray) (a' : Act) (W : World) : Prop :=
  Below w.heap.size w W ∧ ∃ i f : Nat, (∃ u : Nat → Value, a' = { tmps := #[.string s, u 1, u 2, u 3, .string s, .int .i64 (s.size : Int), .int .i64 (i : Int), u 7, u 8, u 9, u 10, u 11, u 12, u 13, u 14, u 15, u 16, u 17, u 18, u 19, u 20, u 21, u 22], defers := [] }) ∧ s.size ≤ i + f ∧ lettersB s f i = lettersB s s.size 0 ∧ i ≤ s.size
end Go.Proofs.YtbanjolokkghdaaGreatDoor
namespace Go.Proofs.YtbanjolokkghdaaGreatDoor
open Go.RowKit
/-- Is a number a bound for segments? -/
def boundB (eps : Int) (l : List SegT) : Bool := btw eps 0 1099511627776 && l.all fun s => decide (s.E ≤ eps)
def ibRel (w : World) (p : Option Addr) (cap : Nat) (l : List SegT) (o6 : Nat) (eps : Int) (a' : Act) (W : World) : Prop :=
  Below w.heap.size w W ∧ Blk W o6 #[.int .i64 eps] 2 ∧ ∃ i : Nat, (∃ u : Nat → Value, a' = { tmps := #[.slice p l.length cap, .func (.func 72) #[] #[.pointer (some ⟨o6, 0, none⟩)], u 2, u 3, .int .i64 0, u 5, .slice p l.length cap, .int .i64 (l.length : Int), .int .i64 (i : Int), u 9, u 10, u 11, u 12, u 13, u 14, u 15, u 16, u 17, u 18], defers := [] }) ∧ (l.take i).all (fun x => decide (x.E ≤ eps)) = true ∧ i ≤ l.length
end Go.Proofs.YtbanjolokkghdaaGreatDoor
namespace Go.Proofs.YtbanjolokkghdaaGreatDoor
open Go.RowKit
end Go.Proofs.YtbanjolokkghdaaGreatDoor
namespace Go.Proofs.YtbanjolokkghdaaGreatDoor
open Go.RowKit
def plS1 (i : Nat) (S : Int) : Int := if 1 ≤ i then S else 0
def plS2 (i : Nat) (S : Int) : Int := if 2 ≤ i then S else 0
def plusV (f : Bool) (S1 S2 : Int) : Array Value := if f = true then #[.int .i64 S1, .int .i64 S2] else #[.int .i64 0, .int .i64 0]
def plusE (f : Bool) : Int := if f = true then 0 else 5
def spA (l : List (Int × Int)) : Int := lsum (l.map (·.1))
def spB (l : List (Int × Int)) : Int := lsum (l.map (·.2))
end Go.Proofs.YtbanjolokkghdaaGreatDoor
namespace Go.Proofs.YtbanjolokkghdaaGreatDoor
open Go.RowKit
end Go.Proofs.YtbanjolokkghdaaGreatDoor
namespace Go.Proofs.YtbanjolokkghdaaGreatDoor
open Go.RowKit
section
variable {P : Program} {ops : Array Oper} {C : World → Prop} {X : List (Nat × Nat)} {a0 : Act} {Fin : List (Option Tmp × Spec) → Prop} {i : Nat} {o : Oper} {rest : List Oper} {acc : List (Option Tmp × Spec)}
end
/-- A slice of two spans. -/
def SPV (l : List (Int × Int)) : Spec := fun v w => ∃ k, v = .slice (some ⟨k, 0, none⟩) 2 2 ∧ PtsIn w (some ⟨k, 0, none⟩) l
theorem SPV.closed (l : List (Int × Int)) : Closed [] (SPV l) := fun _ _ _ hr ⟨k, e, h⟩ => ⟨k, e, h.rex hr rfl⟩
/-- A piece: some values, and how far. -/
def pcA (vs : List Int) (far : Int) : Array Value := #[.int .i64 vs.length, .int .i64 (minL vs), .int .i64 (maxL vs), .int .i64 (hiW (lsum vs)), .int .u64 (loW (lsum vs)), .int .i64 far]
end Go.Proofs.YtbanjolokkghdaaGreatDoor
namespace Go.Proofs.YtbanjolokkghdaaGreatDoor
open Go.RowKit
attribute [local go_sem] Oper.semAt_some
section
variable {P : Program} {ops : Array Oper} {C : World → Prop} {X : List (Nat × Nat)} {a0 : Act} {n nn : Nat} {Q : Exit → Act → World → Prop}
/-- Each of the first n operations stands ahead of each later one. -/
def allFirstB (ops : Array Oper) (n : Nat) : Bool := (List.range n).all fun i => (List.range ops.size).all fun t => decide (t < n) || ancB ops 8 t i
end
end Go.Proofs.YtbanjolokkghdaaGreatDoor
namespace Go.Proofs.YtbanjolokkghdaaGreatDoor
open Go.RowKit Go.Shelf
attribute [local go_sem] Oper.semAt_some
end Go.Proofs.YtbanjolokkghdaaGreatDoor
namespace Go.Proofs.YtbanjolokkghdaaGreatDoor
open Go.RowKit Go.Shelf
attribute [local go_sem] Oper.semAt_some
/-- What a piece is. -/
def PcOk (x : List Int × Int) : Prop := x.1 ≠ [] ∧ x.1.length ≤ 256 ∧ 0 ≤ x.2 ∧ x.2 ≤ 1099511627776 ∧ ∀ v, v ∈ x.1 → -2305844108725321728 ≤ v ∧ v ≤ 2305844108725321728
def WholeOut (s : SerT) (a b : Int) (e : Ending) : Prop := e = .returned (.tuple #[.agg (shA ((pcsL s a b).flatMap pairs)), .int .i64 (if (pcsL s a b).flatMap pairs = [] then 9 else 0)])
end Go.Proofs.YtbanjolokkghdaaGreatDoor
namespace Go.Proofs.YtbanjolokkghdaaGreatDoor
open Go.RowKit
end Go.Proofs.YtbanjolokkghdaaGreatDoor
namespace Go.Proofs.YtbanjolokkghdaaGreatDoor
open Go.RowKit
end Go.Proofs.YtbanjolokkghdaaGreatDoor
namespace Go.Proofs.YtbanjolokkghdaaGreatDoor
open Go.RowKit
end Go.Proofs.YtbanjolokkghdaaGreatDoor
namespace Go.Proofs.YtbanjolokkghdaaGreatDoor
open Go.RowKit
/-- What is told is in its bounds. -/
def TellOk (l : List (Int × Int)) : Prop := (∀ x, x ∈ l → -2305844108725321728 ≤ x.1 ∧ x.1 ≤ 2305844108725321728 ∧ 0 ≤ x.2 ∧ x.2 ≤ 1099511627776) ∧ l.length ≤ 100000
def sumV (l : List (Int × Int)) : Array Value := if inI (lsum (loL l)) && inI (lsum (hiL l)) then #[.int .i64 (lsum (loL l)), .int .i64 (lsum (hiL l))] else #[.int .i64 0, .int .i64 0]
def sumE (l : List (Int × Int)) (e : Int) : Int := if e = 0 then (if inI (lsum (loL l)) && inI (lsum (hiL l)) then 0 else 5) else e
def meanV (l : List (Int × Int)) : Array Value := #[.int .i64 l.length, .int .i64 (lsum (loL l) / l.length), .int .i64 (lsum (loL l) % l.length), .int .i64 (lsum (hiL l) / l.length), .int .i64 (lsum (hiL l) % l.length)]
def minA (l : List (Int × Int)) : Array Value := #[.int .i64 (minL (loL l)), .int .i64 (minL (hiL l))]
def maxA (l : List (Int × Int)) : Array Value := #[.int .i64 (maxL (loL l)), .int .i64 (maxL (hiL l))]
end Go.Proofs.YtbanjolokkghdaaGreatDoor
namespace Go.Proofs.YtbanjolokkghdaaGreatDoor
open Go.RowKit
def some0 : SerT := ⟨⟨#[97]⟩, 2, 3, 12, 0, [⟨1, [⟨0, 2, 4⟩], 10, 0, 0, 1, [], 1⟩], [(9, 20), (12, 5)]⟩
theorem SerIn.alloc {w : World} {s : SerT} {ps po : Option Addr} (h : SerIn w s ps po) (o : Obj) : SerIn (w.alloc o) s ps po := h.below ((Below.refl _ _).alloc (Nat.le_refl _) o)
end Go.Proofs.YtbanjolokkghdaaGreatDoor
namespace Go.Proofs.YtbanjolokkghdaaGreatDoor
open Go.RowKit
theorem app_own {P : Program} {W : World} {g : Nat} {p : Option Addr} {m c : Nat} {news : List Value} (t ty e : TypeId) (i : TypeInfo) (z : Value) (size bytes : Nat) (ht : P.underlying t = some (.slice e)) (hi : P.info? e = some i) (hz : i.zero = some z)
    (hsize : i.size = size) (hby : i.bytes = bytes) (hzs : z.cells.size = size) (hsz : 0 < size) (hg : Blk W g #[] e)
    (hnil : p = none → m = 0 ∧ c = 0) (hl : news.length = m * size) (hnews : ∀ a, p = some a → ∀ j u, news[j]? = some u → W.cell? (a.add j) = some u) (h1 : ∀ u ∈ news, u.oneCell' = true) (hm : m ≤ 100000) (hb : bytes ≤ 1000) :
    ∃ v' w', (Builtin.append_ #[t, t] ty #[.slice (some ⟨g, 0, none⟩) 0 0, .slice p m c]).run P W = .ok v' w' ∧ Below W.heap.size W w' ∧ ∃ g' cap' cur, v' = .slice (some ⟨g', 0, none⟩) m cap' ∧ g ≤ g' ∧ Blk w' g' cur e ∧ m ≤ cap' ∧ m * size ≤ cur.size ∧ cur.toList.take (m * size) = news := by
  have hglt := hg.lt
  have hbm : m * bytes ≤ 100000000 := Nat.le_trans (Nat.mul_le_mul hm hb) (by decide)
  have hown : W.ownsRow g e size (.slice (some ⟨g, 0, none⟩) 0 0) 0 [] := ⟨by simp, .inr ⟨g, 0, #[], rfl, Nat.le_refl _, hg, Nat.le_refl _, Nat.zero_le _, by simp, by simp⟩⟩
  cases p with
  | none =>
    obtain ⟨rfl, rfl⟩ := hnil rfl
    obtain rfl : news = [] := List.eq_nil_of_length_eq_zero (by simpa using hl)
    exact ⟨_, _, run_append_owned_none (P := P) (w := W) g t ty e i size ht hi _ 0 [] hown, Below.refl _ _, g, 0, #[], rfl, Nat.le_refl _, hg, Nat.le_refl _, by simp, by simp⟩
  | some a =>
    obtain ⟨v', w', hr, ho, hgr, hn⟩ := run_append_own (P := P) W g t ty e i z size bytes ht hi hz hsize hby hzs hsz _ 0 [] hown a m c news hl (hnews a rfl) h1 (by simp only [maxLen]; omega) (by rw [Nat.zero_add]; omega) (by omega)
    have hBel : Below W.heap.size W w' := by
      refine ⟨hgr.os, hgr.tape, hgr.output, hgr.size, fun k hk => ?_⟩
      by_cases hkg : k = g
      · subst hkg
        by_cases hm0 : m = 0
        · subst hm0
          obtain rfl : news = [] := List.eq_nil_of_length_eq_zero (by simpa using hl)
          have hr2 := run_append_room (P := P) W t ty e i ht hi k 0 0 #[] hg a 0 c [] (by simp) (fun j u h => by simp at h) (fun u h => by simp at h) (by omega) (by simp)
          rw [hr2] at hr
          injection hr with _ hr
          subst hr
          rw [setRow_heap W k #[] _ e _ hg]
          have hg2 := hg
          unfold Blk at hg2
          simpa using hg2.symm
        · have hr2 := run_append_grow (P := P) W t ty e i z ht hi hz ⟨k, 0, none⟩ 0 0 [] (by simp) (fun j u h => by simp at h) a m c news (by rw [hl, hsize]) (hnews a rfl) (by omega) (by omega) (by rw [hby]; exact growslice_fits (by omega) (by rw [Nat.zero_add]; omega))
          rw [hr2] at hr
          injection hr with _ hr
          subst hr
          exact Below.heap_alloc W.drew _ k hk
      · exact hgr.block k hk (by simp [Value.ownBlock]; omega)
    rw [Nat.zero_add, List.nil_append] at ho
    obtain ⟨hlen, h2 | ⟨g', cap', cur, rfl, hgg, hb', hnc, hcm, hcs, htk⟩⟩ := ho
    · exact absurd (hn.1 h2.1).1 (by simp)
    · refine ⟨_, _, hr, hBel, g', cap', cur, rfl, hgg, hb', hnc, ?_, ?_⟩
      · rw [hcs]; exact Nat.mul_le_mul_right _ hnc
      · exact htk
def MadeV (B : Nat) (e : TypeId) : Spec := fun v w => ∃ g, v = .slice (some ⟨g, 0, none⟩) 0 0 ∧ B ≤ g ∧ Blk w g #[] e
theorem MadeV.closed (B : Nat) (e : TypeId) : Closed [] (MadeV B e) := fun _ _ _ hr ⟨g, e1, h1, h⟩ => ⟨g, e1, h1, h.rex hr (by simp)⟩
def AppV (B : Nat) (e : TypeId) (n k : Nat) (news : List Value) : Spec := fun v w => ∃ g cap cur, v = .slice (some ⟨g, 0, none⟩) n cap ∧ B ≤ g ∧ Blk w g cur e ∧ n ≤ cap ∧ k ≤ cur.size ∧ cur.toList.take k = news
theorem AppV.closed (B : Nat) (e : TypeId) (n k : Nat) (news : List Value) : Closed [] (AppV B e n k news) := fun _ _ _ hr ⟨g, c, cur, e1, h1, h, h2, h3, h4⟩ => ⟨g, c, cur, e1, h1, h.rex hr (by simp), h2, h3, h4⟩
/-- A segment in memory: what it says, and where its rows are. -/
structure SegR where
  s : SegT
  p : Option Addr
  q : Option Addr
  cap : Nat
  vc : Nat
def segRA (r : SegR) : Array Value := segA r.s r.p r.q r.cap r.vc
def flatSegs (l : List SegR) : List Value := l.flatMap fun r => (segRA r).toList
theorem segRA_len (r : SegR) : (segRA r).toList.length = 8 := rfl
theorem flat_of {α : Type} (f : α → List Value) (K : Nat) (hK : 0 < K) (hf : ∀ x, (f x).length = K) : ∀ (l : List α) (j : Nat) (u : Value), (l.flatMap f)[j]? = some u → ∃ i x k, l[i]? = some x ∧ k < K ∧ j = i * K + k ∧ (f x)[k]? = some u
  | [], j, u, h => by simp at h
  | x :: l, j, u, h => by
    rw [List.flatMap_cons] at h
    rcases Nat.lt_or_ge j K with hlt | hge
    · rw [List.getElem?_append_left (by rw [hf]; exact hlt)] at h
      exact ⟨0, x, j, rfl, hlt, by omega, h⟩
    · rw [List.getElem?_append_right (by rw [hf]; exact hge), hf] at h
      obtain ⟨i, y, k, h1, h2, h3, h4⟩ := flat_of f K hK hf l (j - K) u h
      exact ⟨i + 1, y, k, h1, h2, by rw [Nat.add_mul]; omega, h4⟩
theorem flat_to {α : Type} (f : α → List Value) (K : Nat) (hf : ∀ x, (f x).length = K) : ∀ (l : List α) (i : Nat) (x : α) (k : Nat) (u : Value), l[i]? = some x → (f x)[k]? = some u → (l.flatMap f)[i * K + k]? = some u
  | [], i, x, k, u, h, _ => by simp at h
  | y :: l, i, x, k, u, h, hu => by
    have hk : k < K := by have := (List.getElem?_eq_some_iff.1 hu).1; rw [hf] at this; exact this
    rw [List.flatMap_cons]
    cases i with
    | zero =>
      obtain rfl : y = x := by simpa using h
      rw [List.getElem?_append_left (by rw [hf]; omega)]
      simpa using hu
    | succ i =>
      rw [List.getElem?_append_right (by rw [hf, Nat.add_mul]; omega), hf, show (i + 1) * K + k - K = i * K + k by rw [Nat.add_mul]; omega]
      exact flat_to f K hf l i x k u (by simpa using h) hu
/-- Rows of segments as they came in. -/
def SegsCame (w : World) (p : Option Addr) (l : List SegR) : Prop := ∀ (i : Nat) (r : SegR), l[i]? = some r → ∃ b o, p = some ⟨b, o, none⟩ ∧ (∀ j v, (segRA r)[j]? = some v → w.cell? ⟨b, o + i * 8 + j, none⟩ = some v) ∧ Came w r.s r.p r.q r.cap r.vc
theorem Came.below {w w' : World} {s : SegT} {p q : Option Addr} {cap vc : Nat} (h : Came w s p q cap vc) (hb : Below w.heap.size w w') : Came w' s p q cap vc := ⟨h.runs.below hb, h.raw.below hb, h.nilR, h.nilV, h.capR, h.capV, h.maxR, h.maxV⟩
theorem SegsCame.below {w w' : World} {p : Option Addr} {l : List SegR} (h : SegsCame w p l) (hb : Below w.heap.size w w') : SegsCame w' p l := fun i r hr => by
  obtain ⟨b, o, e, h1, h2⟩ := h i r hr
  exact ⟨b, o, e, fun j v hv => (hb.cell (p := ⟨b, _, none⟩) (cell_lt (h1 j v hv))).trans (h1 j v hv), h2.below hb⟩
theorem SegsCame.take {w : World} {p : Option Addr} {l : List SegR} (h : SegsCame w p l) (k : Nat) : SegsCame w p (l.take k) := fun i r hr => h i r (by
  rw [List.getElem?_take] at hr
  split at hr
  · exact hr
  · cases hr)
theorem SegsCame.flat {w : World} {p : Option Addr} {l : List SegR} (h : SegsCame w p l) (a : Addr) (ha : p = some a) (j : Nat) (u : Value) (hu : (flatSegs l)[j]? = some u) : w.cell? (a.add j) = some u := by
  obtain ⟨i, r, k, h1, h2, rfl, h3⟩ := flat_of _ 8 (by omega) segRA_len l j u hu
  obtain ⟨b, o, e, h4, _⟩ := h i r h1
  rw [ha] at e
  injection e with e
  subst e
  have := h4 k u (by simpa using h3)
  rw [show (⟨b, o, none⟩ : Addr).add (i * 8 + k) = ⟨b, o + i * 8 + k, none⟩ by unfold Addr.add; split <;> simp_all <;> omega]
  exact this
/-- A block's cells are those of segments. -/
def SegCells (cur : Array Value) (l : List SegR) : Prop := ∀ (i : Nat) (r : SegR), l[i]? = some r → ∀ k v, (segRA r)[k]? = some v → cur[i * 8 + k]? = some v
theorem SegCells.set {cur : Array Value} {l : List SegR} (h : SegCells cur l) {i k : Nat} {r r' : SegR} (hr : l[i]? = some r) (hk : k < 8) {v : Value} (he : segRA r' = (segRA r).setIfInBounds k v) : SegCells (cur.setIfInBounds (i * 8 + k) v) (l.set i r') := fun i2 r2 hr2 k2 v2 hv2 => by
  have hk2 : k2 < 8 := by have := (Array.getElem?_eq_some_iff.1 hv2).1; rw [show (segRA r2).size = 8 from rfl] at this; exact this
  rw [List.getElem?_set] at hr2
  split at hr2
  · rename_i e
    subst e
    split at hr2
    · injection hr2 with hr2
      subst hr2
      rw [he, Array.getElem?_setIfInBounds] at hv2
      split at hv2
      · rename_i ek
        subst ek
        split at hv2
        · have hb : i * 8 + k < cur.size := by
            have h0 := h i r hr k ((segRA r)[k]'(by rw [show (segRA r).size = 8 from rfl]; exact hk)) (Array.getElem?_eq_getElem _)
            exact (Array.getElem?_eq_some_iff.1 h0).1
          rw [Array.getElem?_setIfInBounds, if_pos rfl, if_pos hb]
          exact hv2
        · cases hv2
      · rename_i ek
        rw [Array.getElem?_setIfInBounds, if_neg (by omega)]
        exact h i r hr k2 v2 hv2
    · cases hr2
  · rename_i e
    rw [Array.getElem?_setIfInBounds, if_neg (by omega)]
    exact h i2 r2 hr2 k2 v2 hv2
end Go.Proofs.YtbanjolokkghdaaGreatDoor
