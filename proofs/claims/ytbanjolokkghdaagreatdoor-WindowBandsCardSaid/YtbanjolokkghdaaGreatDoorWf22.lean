/- Parts of the proof that follows: A region that draws its order, in the open fence: all but a tail is walked once, in the order of the text; the tail, behind all of it, may call a range's body. No condition. | answer.pieces: what is asked, piece by piece. No condition but that the series may be. | answer.whole: the sheet of all that is asked. No condition. | answer.whole, and what asks for it alone: At, Count, Sheet, Least, Most. No condition. | answer.whole at a series; and what asks for it alone: At, Count, Sheet, Least, Most. No condition. | answer.Mean. No condition. | What answer says of a series, plainly: whole, At, Count, Sheet, Least, Most, Sum, Mean. No condition. | The laws of chapter 25: some, wakes. No condition. | A copy of its own of a row, by append; rows of segments as they came in. No condition. | The laws of chapter 25: own. No condition. | Reference 25: ends, Total. No condition but that there is one at least, or that they are few. | The document's segments: Right, Points told. | Reference 25: Total. No condition but that they are few. | Append to a row of one's own: the row stays in its block or is in a new one. No condition. -/
import Derived.Laws.AppendOwnNone
import Derived.Test.YtbanjolokkghdaaGreatDoorWf21
set_option linter.unusedSimpArgs false
set_option linter.unusedVariables false
namespace Go.Proofs.YtbanjolokkghdaaGreatDoor
open Go.RowKit
attribute [local go_sem] Oper.semAt_some
section
variable {P : Program} {ops : Array Oper} {C : World → Prop} {X : List (Nat × Nat)} {a0 : Act} {n nn : Nat} {Q : Exit → Act → World → Prop}
/-- Each of the first n operations stands ahead of each later one. -/
def allFirstB (ops : Array Oper) (n : Nat) : Bool := (List.range n).all fun i => (List.range ops.size).all fun t => decide (t < n) || ancB ops 8 t i
end
end Go.Proofs.YtbanjolokkghdaaGreatDoor
namespace Go.Proofs.YtbanjolokkghdaaGreatDoor
open Go.RowKit Go.Shelf
attribute [local go_sem] Oper.semAt_some
end Go.Proofs.YtbanjolokkghdaaGreatDoor
namespace Go.Proofs.YtbanjolokkghdaaGreatDoor
open Go.RowKit Go.Shelf
attribute [local go_sem] Oper.semAt_some
/-- What a piece is. -/
def PcOk (x : List Int × Int) : Prop := x.1 ≠ [] ∧ x.1.length ≤ 256 ∧ 0 ≤ x.2 ∧ x.2 ≤ 1099511627776 ∧ ∀ v, v ∈ x.1 → -2305844108725321728 ≤ v ∧ v ≤ 2305844108725321728
def WholeOut (s : SerT) (a b : Int) (e : Ending) : Prop := e = .returned (.tuple #[.agg (shA ((pcsL s a b).flatMap pairs)), .int .i64 (if (pcsL s a b).flatMap pairs = [] then 9 else 0)])
end Go.Proofs.YtbanjolokkghdaaGreatDoor
namespace Go.Proofs.YtbanjolokkghdaaGreatDoor
open Go.RowKit
end Go.Proofs.YtbanjolokkghdaaGreatDoor
namespace Go.Proofs.YtbanjolokkghdaaGreatDoor
open Go.RowKit
end Go.Proofs.YtbanjolokkghdaaGreatDoor
namespace Go.Proofs.YtbanjolokkghdaaGreatDoor
open Go.RowKit
end Go.Proofs.YtbanjolokkghdaaGreatDoor
namespace Go.Proofs.YtbanjolokkghdaaGreatDoor
open Go.RowKit
/-- What is told is in its bounds. -/
def TellOk (l : List (Int × Int)) : Prop := (∀ x, x ∈ l → -2305844108725321728 ≤ x.1 ∧ x.1 ≤ 2305844108725321728 ∧ 0 ≤ x.2 ∧ x.2 ≤ 1099511627776) ∧ l.length ≤ 100000
def sumV (l : List (Int × Int)) : Array Value := if inI (lsum (loL l)) && inI (lsum (hiL l)) then #[.int .i64 (lsum (loL l)), .int .i64 (lsum (hiL l))] else #[.int .i64 0, .int .i64 0]
def sumE (l : List (Int × Int)) (e : Int) : Int := if e = 0 then (if inI (lsum (loL l)) && inI (lsum (hiL l)) then 0 else 5) else e
def meanV (l : List (Int × Int)) : Array Value := #[.int .i64 l.length, .int .i64 (lsum (loL l) / l.length), .int .i64 (lsum (loL l) % l.length), .int .i64 (lsum (hiL l) / l.length), .int .i64 (lsum (hiL l) % l.length)]
def minA (l : List (Int × Int)) : Array Value := #[.int .i64 (minL (loL l)), .int .i64 (minL (hiL l))]
def maxA (l : List (Int × Int)) : Array Value := #[.int .i64 (maxL (loL l)), .int .i64 (maxL (hiL l))]
end Go.Proofs.YtbanjolokkghdaaGreatDoor
namespace Go.Proofs.YtbanjolokkghdaaGreatDoor
open Go.RowKit
def some0 : SerT := ⟨⟨#[97]⟩, 2, 3, 12, 0, [⟨1, [⟨0, 2, 4⟩], 10, 0, 0, 1, [], 1⟩], [(9, 20), (12, 5)]⟩
theorem SerIn.alloc {w : World} {s : SerT} {ps po : Option Addr} (h : SerIn w s ps po) (o : Obj) : SerIn (w.alloc o) s ps po := h.below ((Below.refl _ _).alloc (Nat.le_refl _) o)
end Go.Proofs.YtbanjolokkghdaaGreatDoor
namespace Go.Proofs.YtbanjolokkghdaaGreatDoor
open Go.RowKit
def MadeV (B : Nat) (e : TypeId) : Spec := fun v w => ∃ g, v = .slice (some ⟨g, 0, none⟩) 0 0 ∧ B ≤ g ∧ Blk w g #[] e
theorem MadeV.closed (B : Nat) (e : TypeId) : Closed [] (MadeV B e) := fun _ _ _ hr ⟨g, e1, h1, h⟩ => ⟨g, e1, h1, h.rex hr (by simp)⟩
def AppV (B : Nat) (e : TypeId) (n k : Nat) (news : List Value) : Spec := fun v w => ∃ g cap cur, v = .slice (some ⟨g, 0, none⟩) n cap ∧ B ≤ g ∧ Blk w g cur e ∧ n ≤ cap ∧ k ≤ cur.size ∧ cur.toList.take k = news
theorem AppV.closed (B : Nat) (e : TypeId) (n k : Nat) (news : List Value) : Closed [] (AppV B e n k news) := fun _ _ _ hr ⟨g, c, cur, e1, h1, h, h2, h3, h4⟩ => ⟨g, c, cur, e1, h1, h.rex hr (by simp), h2, h3, h4⟩
/-- A segment in memory: what it says, and where its rows are. -/
structure SegR where
  s : SegT
  p : Option Addr
  q : Option Addr
  cap : Nat
  vc : Nat
def segRA (r : SegR) : Array Value := segA r.s r.p r.q r.cap r.vc
def flatSegs (l : List SegR) : List Value := l.flatMap fun r => (segRA r).toList
theorem flat_of {α : Type} (f : α → List Value) (K : Nat) (hK : 0 < K) (hf : ∀ x, (f x).length = K) : ∀ (l : List α) (j : Nat) (u : Value), (l.flatMap f)[j]? = some u → ∃ i x k, l[i]? = some x ∧ k < K ∧ j = i * K + k ∧ (f x)[k]? = some u
  | [], j, u, h => by simp at h
  | x :: l, j, u, h => by
    rw [List.flatMap_cons] at h
    rcases Nat.lt_or_ge j K with hlt | hge
    · rw [List.getElem?_append_left (by rw [hf]; exact hlt)] at h
      exact ⟨0, x, j, rfl, hlt, by omega, h⟩
    · rw [List.getElem?_append_right (by rw [hf]; exact hge), hf] at h
      obtain ⟨i, y, k, h1, h2, h3, h4⟩ := flat_of f K hK hf l (j - K) u h
      exact ⟨i + 1, y, k, h1, h2, by rw [Nat.add_mul]; omega, h4⟩
/-- Rows of segments as they came in. -/
def SegsCame (w : World) (p : Option Addr) (l : List SegR) : Prop := ∀ (i : Nat) (r : SegR), l[i]? = some r → ∃ b o, p = some ⟨b, o, none⟩ ∧ (∀ j v, (segRA r)[j]? = some v → w.cell? ⟨b, o + i * 8 + j, none⟩ = some v) ∧ Came w r.s r.p r.q r.cap r.vc
theorem Came.below {w w' : World} {s : SegT} {p q : Option Addr} {cap vc : Nat} (h : Came w s p q cap vc) (hb : Below w.heap.size w w') : Came w' s p q cap vc := ⟨h.runs.below hb, h.raw.below hb, h.nilR, h.nilV, h.capR, h.capV, h.maxR, h.maxV⟩
theorem SegsCame.below {w w' : World} {p : Option Addr} {l : List SegR} (h : SegsCame w p l) (hb : Below w.heap.size w w') : SegsCame w' p l := fun i r hr => by
  obtain ⟨b, o, e, h1, h2⟩ := h i r hr
  exact ⟨b, o, e, fun j v hv => (hb.cell (p := ⟨b, _, none⟩) (cell_lt (h1 j v hv))).trans (h1 j v hv), h2.below hb⟩
theorem SegsCame.take {w : World} {p : Option Addr} {l : List SegR} (h : SegsCame w p l) (k : Nat) : SegsCame w p (l.take k) := fun i r hr => h i r (by
  rw [List.getElem?_take] at hr
  split at hr
  · exact hr
  · cases hr)
/-- A block's cells are those of segments. -/
def SegCells (cur : Array Value) (l : List SegR) : Prop := ∀ (i : Nat) (r : SegR), l[i]? = some r → ∀ k v, (segRA r)[k]? = some v → cur[i * 8 + k]? = some v
theorem SegCells.set {cur : Array Value} {l : List SegR} (h : SegCells cur l) {i k : Nat} {r r' : SegR} (hr : l[i]? = some r) (hk : k < 8) {v : Value} (he : segRA r' = (segRA r).setIfInBounds k v) : SegCells (cur.setIfInBounds (i * 8 + k) v) (l.set i r') := fun i2 r2 hr2 k2 v2 hv2 => by
  have hk2 : k2 < 8 := by have := (Array.getElem?_eq_some_iff.1 hv2).1; rw [show (segRA r2).size = 8 from rfl] at this; exact this
  rw [List.getElem?_set] at hr2
  split at hr2
  · rename_i e
    subst e
    split at hr2
    · injection hr2 with hr2
      subst hr2
      rw [he, Array.getElem?_setIfInBounds] at hv2
      split at hv2
      · rename_i ek
        subst ek
        split at hv2
        · have hb : i * 8 + k < cur.size := by
            have h0 := h i r hr k ((segRA r)[k]'(by rw [show (segRA r).size = 8 from rfl]; exact hk)) (Array.getElem?_eq_getElem _)
            exact (Array.getElem?_eq_some_iff.1 h0).1
          rw [Array.getElem?_setIfInBounds, if_pos rfl, if_pos hb]
          exact hv2
        · cases hv2
      · rename_i ek
        rw [Array.getElem?_setIfInBounds, if_neg (by omega)]
        exact h i r hr k2 v2 hv2
    · cases hr2
  · rename_i e
    rw [Array.getElem?_setIfInBounds, if_neg (by omega)]
    exact h i2 r2 hr2 k2 v2 hv2
end Go.Proofs.YtbanjolokkghdaaGreatDoor
namespace Go.Proofs.YtbanjolokkghdaaGreatDoor
open Go.RowKit
def ownG (s : SegT) : SegT := ⟨s.K, s.runs.take 300, s.A, s.R, s.n, s.d, s.raw.take 300, s.E⟩
theorem RunsIn.rex1 {w w' : World} {p : Option Addr} {l : List RunT} {g : Nat} {L : List Nat} (h : RunsIn w p l) (hL : ∀ x, x ∈ L → x ≤ g) (hg : ∀ a, p = some a → g < a.block) (hr : Rex L w w') : RunsIn w' p l := ⟨fun i r hi => by
  obtain ⟨b, o, e, h1, h2, h3⟩ := h.at' i r hi
  have hb := hg _ e
  have key : ∀ z v, w.cell? ⟨b, z, none⟩ = some v → w'.cell? ⟨b, z, none⟩ = some v := fun z v hv => (World.cell?_of_block (hr.block b (cell_lt hv) (fun hx => by have := hL _ hx; simp at hb; omega))).trans hv
  exact ⟨b, o, e, key _ _ h1, key _ _ h2, key _ _ h3⟩⟩
theorem IntsIn.rex1 {w w' : World} {p : Option Addr} {l : List Int} {g : Nat} {L : List Nat} (h : IntsIn w p l) (hL : ∀ x, x ∈ L → x ≤ g) (hg : ∀ a, p = some a → g < a.block) (hr : Rex L w w') : IntsIn w' p l := ⟨fun i r hi => by
  obtain ⟨b, o, e, h1⟩ := h.at' i r hi
  have hb := hg _ e
  exact ⟨b, o, e, (World.cell?_of_block (hr.block b (cell_lt h1) (fun hx => by have := hL _ hx; simp at hb; omega))).trans h1⟩⟩
/-- A segment of one's own. -/
structure OwnSeg (W : World) (g : Nat) (r0 r : SegR) : Prop where
  says : r.s = ownG r0.s
  runs : RunsIn W r.p r.s.runs
  raw : IntsIn W r.q r.s.raw
  capV : r.s.raw.length ≤ r.vc
  farR : ∀ a, r.p = some a → g < a.block
  farV : ∀ a, r.q = some a → g < a.block
theorem OwnSeg.rex {W W' : World} {g : Nat} {r0 r : SegR} {L : List Nat} (h : OwnSeg W g r0 r) (hL : ∀ x, x ∈ L → x ≤ g) (hr : Rex L W W') : OwnSeg W' g r0 r := ⟨h.says, h.runs.rex1 hL h.farR hr, h.raw.rex1 hL h.farV hr, h.capV, h.farR, h.farV⟩
structure OwnTo (W : World) (g : Nat) (rows R : List SegR) (i : Nat) : Prop where
  len : R.length = rows.length
  rest : ∀ k, i ≤ k → R[k]? = rows[k]?
  own : ∀ k, k < i → ∀ r, R[k]? = some r → ∃ r0, rows[k]? = some r0 ∧ OwnSeg W g r0 r
theorem OwnTo.rex {W W' : World} {g i : Nat} {rows R : List SegR} {L : List Nat} (h : OwnTo W g rows R i) (hL : ∀ x, x ∈ L → x ≤ g) (hr : Rex L W W') : OwnTo W' g rows R i := ⟨h.len, h.rest, fun k hk r hR => by
  obtain ⟨r0, h1, h2⟩ := h.own k hk r hR
  exact ⟨r0, h1, h2.rex hL hr⟩⟩
theorem OwnTo.step {W : World} {g i : Nat} {rows R : List SegR} {r0 r1 : SegR} (h : OwnTo W g rows R i) (h0 : rows[i]? = some r0) (h1 : OwnSeg W g r0 r1) : OwnTo W g rows (R.set i r1) (i + 1) := ⟨by rw [List.length_set]; exact h.len, fun k hk => by rw [List.getElem?_set_ne (by omega)]; exact h.rest k (by omega), fun k hk r hR => by
  rw [List.getElem?_set] at hR
  split at hR
  · rename_i e
    subst e
    split at hR
    · injection hR with hR
      subst hR
      exact ⟨r0, h0, h1⟩
    · cases hR
  · exact h.own k (by omega) r hR⟩
theorem Tryz.infoPt : (Tryz.prog.info? 56).map (fun i => (i.zero, i.size, i.bytes)) = some (some (.agg #[.int .i64 0, .int .i64 0]), 2, 16) := by kernel_rfl
theorem flatPts_len9 : ∀ l : List (Int × Int), (flatPts l).length = l.length * 2
  | [] => rfl
  | x :: l => by
    rw [show flatPts (x :: l) = [.int .i64 x.1, .int .i64 x.2] ++ flatPts l from rfl, List.length_append, flatPts_len9 l]
    simp only [List.length_cons, List.length_nil]
    omega
theorem flatPts_one9 : ∀ (l : List (Int × Int)) (u : Value), u ∈ flatPts l → u.oneCell' = true
  | [], u, h => by simp [flatPts] at h
  | x :: l, u, h => by
    rw [show flatPts (x :: l) = [.int .i64 x.1, .int .i64 x.2] ++ flatPts l from rfl] at h
    simp only [List.mem_append, List.mem_cons, List.not_mem_nil, or_false] at h
    rcases h with (rfl | rfl) | h
    · rfl
    · rfl
    · exact flatPts_one9 l u h
theorem flatPts_flat : ∀ l : List (Int × Int), flatPts l = l.flatMap fun x => [.int .i64 x.1, .int .i64 x.2]
  | [] => rfl
  | x :: l => by rw [List.flatMap_cons, ← flatPts_flat l]; rfl
theorem pts_flat9 {w : World} {a : Addr} {l : List (Int × Int)} (h : PtsIn w (some a) l) (j : Nat) (u : Value) (hu : (flatPts l)[j]? = some u) : w.cell? (a.add j) = some u := by
  rw [flatPts_flat] at hu
  obtain ⟨i, x, k, h1, h2, rfl, h3⟩ := flat_of _ 2 (by omega) (fun _ => rfl) l j u hu
  obtain ⟨b, o, e, c0, c1⟩ := h.at' i x h1
  injection e with e
  subst e
  rw [show (⟨b, o, none⟩ : Addr).add (i * 2 + k) = ⟨b, o + i * 2 + k, none⟩ by unfold Addr.add; split <;> simp_all <;> omega]
  match k, h2, h3 with
  | 0, _, h3 => simp at h3; subst h3; exact c0
  | 1, _, h3 => simp at h3; subst h3; exact c1
theorem PtsIn.take9 {w : World} {p : Option Addr} {l : List (Int × Int)} (h : PtsIn w p l) (k : Nat) : PtsIn w p (l.take k) := ⟨fun i r hr => h.at' i r (by
  rw [List.getElem?_take] at hr
  split at hr
  · exact hr
  · cases hr)⟩
end Go.Proofs.YtbanjolokkghdaaGreatDoor
namespace Go.Proofs.YtbanjolokkghdaaGreatDoor
open Go.RowKit
def IntsF (w : World) (p : Option Addr) (l : List Int) : Prop := IntsIn w p l
theorem IntsF.rex {L : List Nat} {w w' : World} {p : Option Addr} {l : List Int} (h : IntsF w p l) (hr : Rex L w w') (hL : L = []) : IntsF w' p l := by subst hL; exact IntsIn.below h hr.below
def enRel (w : World) (p : Option Addr) (l : List Int) (cap : Nat) (x0 : Int) (a' : Act) (W : World) : Prop :=
  Below w.heap.size w W ∧ ∃ i : Nat, (∃ u : Nat → Value, a' = { tmps := #[.slice p l.length cap, u 1, u 2, u 3, .int .i64 (minL (x0 :: l.take i)), .int .i64 (maxL (x0 :: l.take i)), .int .i64 (i : Int), u 7, u 8, u 9, u 10, u 11, u 12, u 13, u 14, u 15, u 16, u 17, u 18, u 19, u 20, u 21, u 22, u 23, u 24, u 25, u 26, u 27, u 28, u 29, u 30, u 31, u 32, u 33, u 34, u 35, u 36, u 37, u 38, u 39, u 40], defers := [] }) ∧ i ≤ l.length
end Go.Proofs.YtbanjolokkghdaaGreatDoor
namespace Go.Proofs.YtbanjolokkghdaaGreatDoor
open Go.RowKit
/-- The segments of which points are told. -/
def PtsDom (s : SegT) : Prop := (s.K = 4 ∧ (s.raw.length : Int) = cnt s.runs) ∨ (s.K ≠ 4 ∧ isLine s.A s.R s.n s.d = true)
end Go.Proofs.YtbanjolokkghdaaGreatDoor
namespace Go.Proofs.YtbanjolokkghdaaGreatDoor
open Go.RowKit
def toRel (w : World) (gs : Nat) (p : Option Addr) (cap : Nat) (l : List Int) (a' : Act) (W : World) : Prop :=
  Below w.heap.size w W ∧ ∃ (i : Nat) (S : Int) (ps : Option Addr) (ls cs : Nat), (∃ u : Nat → Value, a' = { tmps := #[.slice p l.length cap, u 1, .pointer (some ⟨w.heap.size, 0, none⟩), .pointer (some ⟨gs, 0, none⟩), .int .i64 (i : Int), u 5, u 6, u 7, u 8, u 9, u 10, u 11, u 12, u 13, u 14, u 15, u 16, u 17, u 18, u 19], defers := [] }) ∧ S = lsum (l.take i) ∧ i ≤ l.length ∧ Blk W w.heap.size #[.bool false, .slice none 0 0] 140 ∧ Blk W gs #[.bool (decide (S < 0)), .slice ps ls cs] 140 ∧ Bits W (.slice ps ls cs) S.natAbs
end Go.Proofs.YtbanjolokkghdaaGreatDoor
namespace Go.Proofs.YtbanjolokkghdaaGreatDoor
open Go.RowKit
section
variable {P : Program} {w : World}
theorem run_append_own2 (base : Nat) (t ty e : TypeId) (i : TypeInfo) (z : Value) (size bytes : Nat) (ht : P.underlying t = some (.slice e)) (hi : P.info? e = some i) (hz : i.zero = some z)
    (hsize : i.size = size) (hby : i.bytes = bytes) (hzs : z.cells.size = size) (hsz : 0 < size)
    (v : Value) (n : Nat) (xs : List Value) (hown : w.ownsRow base e size v n xs)
    (a : Addr) (m c : Nat) (news : List Value) (hl : news.length = m * size) (hnews : ∀ j u, news[j]? = some u → w.cell? (a.add j) = some u) (h1 : ∀ u ∈ news, u.oneCell' = true)
    (h63 : n + m ≤ maxLen) (hbytes : (n + m) * bytes ≤ 140737488355328) (hbase : base ≤ w.heap.size) :
    ∃ v' w', (Builtin.append_ #[t, t] ty #[v, .slice (some a) m c]).run P w = .ok v' w' ∧ w'.ownsRow base e size v' (n + m) (xs ++ news) ∧ w.grownBy w' v.ownBlock ∧
      (v' = .slice none 0 0 ↔ v = .slice none 0 0 ∧ m = 0) ∧ (v'.ownBlock = v.ownBlock ∨ v'.ownBlock = some w.heap.size) := by
  obtain ⟨v', w', hr, h2, h3, h4⟩ := run_append_own (P := P) w base t ty e i z size bytes ht hi hz hsize hby hzs hsz v n xs hown a m c news hl hnews h1 h63 hbytes hbase
  refine ⟨v', w', hr, h2, h3, h4, ?_⟩
  subst hsize
  subst hby
  have hsmall : n + m ≤ 9223372036854775807 := by simp only [maxLen] at h63; omega
  rcases hown.2 with ⟨rfl, rfl⟩ | ⟨g, cap, cur, rfl, hbg, hg, hnc, hcm, hcs, htake⟩
  · by_cases hm : m = 0
    · left
      rw [h4.2 ⟨rfl, hm⟩]
    · have hr2 := run_append_nil (P := P) w t ty e i z ht hi hz a m c news hl hnews (by omega) (by omega) (by have hb := hbytes; simp only [Nat.zero_add] at hb; omega)
      rw [hr2] at hr
      injection hr with hr _
      subst hr
      right; rfl
  · by_cases hroom : n + m ≤ cap
    · have hfit : n * i.size + news.length ≤ cur.size := by rw [hl, hcs, ← Nat.add_mul]; exact Nat.mul_le_mul_right _ hroom
      have hr2 := run_append_room (P := P) w t ty e i ht hi g n cap cur hg a m c news hl hnews h1 hroom hfit
      rw [hr2] at hr
      injection hr with hr _
      subst hr
      left; rfl
    · have holds : ∀ j u, xs[j]? = some u → w.cell? ((⟨g, 0, none⟩ : Addr).add j) = some u := hown.cells (g := g) rfl
      have hr2 := run_append_grow (P := P) w t ty e i z ht hi hz ⟨g, 0, none⟩ n cap xs hown.1 holds a m c news hl hnews (by omega) (by omega) (growslice_fits (by omega) hbytes)
      rw [hr2] at hr
      injection hr with hr _
      subst hr
      right; rfl
theorem wpList_append_own2 {ops : Array Oper} {rest : List Oper} {o : Oper} {a : Act} {Q : Exit → Act → World → Prop} (hgd : o.guard = none) (s x : Operand) (t : TypeId)
    (ho : o.op = .call { callee := .builtin .append, args := #[s, x], argTypes := #[t, t] })
    (base : Nat) (e : TypeId) (i : TypeInfo) (z : Value) (size bytes : Nat) (ht : P.underlying t = some (.slice e)) (hi : P.info? e = some i) (hz : i.zero = some z)
    (hsize : i.size = size) (hby : i.bytes = bytes) (hzs : z.cells.size = size) (hsz : 0 < size)
    (v : Value) (n : Nat) (xs : List Value) (hs : a.eval s = v) (hown : w.ownsRow base e size v n xs)
    (ad : Addr) (m c : Nat) (news : List Value) (hx : a.eval x = .slice (some ad) m c) (hl : news.length = m * size) (hnews : ∀ j u, news[j]? = some u → w.cell? (ad.add j) = some u) (h1 : ∀ u ∈ news, u.oneCell' = true)
    (h63 : n + m ≤ maxLen) (hbytes : (n + m) * bytes ≤ 140737488355328) (hbase : base ≤ w.heap.size)
    (h : ∀ v' w', w'.ownsRow base e size v' (n + m) (xs ++ news) → w.grownBy w' v.ownBlock → (v'.ownBlock = v.ownBlock ∨ v'.ownBlock = some w.heap.size) → wpList P ops Q rest (a.put o.dst v') w') : wpList P ops Q (o :: rest) a w := by
  refine wpList_plain hgd fun K hK => ?_
  obtain ⟨v', w', hr, h2, h3, _, h4⟩ := run_append_own2 (P := P) (w := w) base t o.type e i z size bytes ht hi hz hsize hby hzs hsz v n xs hown ad m c news hl hnews h1 h63 hbytes hbase
  unfold Oper.wp
  simp [execOp, ho, resolve, invoke, builtin, hs, hx, hr, Result.andThen]
  exact hK _ _ (h v' w' h2 h3 h4)
end
end Go.Proofs.YtbanjolokkghdaaGreatDoor
