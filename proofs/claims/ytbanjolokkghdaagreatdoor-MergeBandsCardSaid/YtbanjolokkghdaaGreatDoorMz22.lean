/- Parts of the proof that follows: Layer answer: a sheet takes a piece. No condition but that the numbers are in their bounds. | A range over a function whose iterator writes a variable of its own ahead of the first round, and whose body never leaves: one law. No condition. | A region that draws its order, in the open fence: all but a tail is walked once, in the order of the text; the tail, behind all of it, may call a range's body. No condition. | answer.pieces: what is asked, piece by piece. No condition but that the series may be. | answer.whole: the sheet of all that is asked. No condition. | answer.whole, and what asks for it alone: At, Count, Sheet, Least, Most. No condition. | answer.whole at a series; and what asks for it alone: At, Count, Sheet, Least, Most. No condition. | answer.Mean. No condition. | What answer says of a series, plainly: whole, At, Count, Sheet, Least, Most, Sum, Mean. No condition. | The laws of chapter 25: some, wakes. No condition. | A copy of its own of a row, by append; rows of segments as they came in. No condition. | The laws of chapter 25: own. No condition. | A raw series and a model, plainly: which may be, what is told of some times. No condition. -/
import Derived.RegionTactic
import Derived.ChangeAlike
import Derived.Laws.AppendOwnNone
import Derived.Test.YtbanjolokkghdaaGreatDoorMz21
set_option maxRecDepth 100000
set_option maxHeartbeats 8000000
set_option linter.unusedSimpArgs false
set_option linter.unusedVariables false
namespace Go.Proofs.YtbanjolokkghdaaGreatDoor
open Go.RowKit
section
variable {P : Program} {ops : Array Oper} {C : World -> Prop} {X : List (Nat × Nat)} {a0 : Act} {Fin : List (Option Tmp × Spec) -> Prop} {i : Nat} {o : Oper} {rest : List Oper} {acc : List (Option Tmp × Spec)}
end
def SPV (l : List (Int × Int)) : Spec := fun v w => ∃ k, v = .slice (some ⟨k, 0, none⟩) 2 2 /\ PtsIn w (some ⟨k, 0, none⟩) l
theorem SPV.closed (l : List (Int × Int)) : Closed [] (SPV l) := fun _ _ _ hr ⟨k, e, h⟩ => ⟨k, e, h.rex hr rfl⟩
def pcA (vs : List Int) (far : Int) : Array Value := #[.int .i64 vs.length, .int .i64 (minL vs), .int .i64 (maxL vs), .int .i64 (hiW (lsum vs)), .int .u64 (loW (lsum vs)), .int .i64 far]
end Go.Proofs.YtbanjolokkghdaaGreatDoor
namespace Go.Proofs.YtbanjolokkghdaaGreatDoor
open Go.RowKit Go.Shelf
attribute [local go_sem] Oper.semAt_some
def SeqWr {α : Type} (F : Fence) (n : Nat) (P : Program) (g : Nat) (lb : Array Value) (encs : α -> Array Value) (Kp : World -> World -> Prop) (xs : List α) (Ba : Nat) (w : World) : Prop :=
 ∀ (l : Nat) (J : List α -> World -> Prop) (W : World), Below w.heap.size w W -> AbidesFrom W.heap.size J -> (∀ pre W1 v, J pre W1 -> J pre (W1.setCell ⟨Ba, 0, none⟩ v)) ->
  (∀ pre x W1, J pre W1 -> pre ++ [x] <+: xs -> YieldAt F (n - 1) P l (encs x) W1 fun e W' => e = .returned (.bool true) /\ J (pre ++ [x]) W' /\ Kp W1 W') ->
  J [] W -> CallsIn F n P g (#[.func (.yield l) #[] #[]] ++ lb) W fun e W' => (∃ v, e = .returned v) /\ J xs W'
def goesOn {α : Type} (B : Nat) (Kp : World -> World -> Prop) (I : List α -> World -> Prop) (pre : List α) (W : World) : Exit -> Act -> World -> Prop
 | .normal, _, W' => KeepsFrom B W W' /\ Kp W W' /\ I pre W'
 | _, _, _ => False
end Go.Proofs.YtbanjolokkghdaaGreatDoor
namespace Go.Proofs.YtbanjolokkghdaaGreatDoor
open Go.RowKit
attribute [local go_sem] Oper.semAt_some
section
variable {P : Program} {ops : Array Oper} {C : World -> Prop} {X : List (Nat × Nat)} {a0 : Act} {n nn : Nat} {Q : Exit -> Act -> World -> Prop}
def allFirstB (ops : Array Oper) (n : Nat) : Bool := (List.range n).all fun i => (List.range ops.size).all fun t => decide (t < n) || ancB ops 8 t i
end
end Go.Proofs.YtbanjolokkghdaaGreatDoor
namespace Go.Proofs.YtbanjolokkghdaaGreatDoor
open Go.RowKit Go.Shelf
attribute [local go_sem] Oper.semAt_some

def PcOk (x : List Int × Int) : Prop := x.1 ≠ [] /\ x.1.length <= 256 /\ 0 <= x.2 /\ x.2 <= 1099511627776 /\ ∀ v, v ∈ x.1 -> -2305844108725321728 <= v /\ v <= 2305844108725321728
def WholeOut (s : SerT) (a b : Int) (e : Ending) : Prop := e = .returned (.tuple #[.agg (shA ((pcsL s a b).flatMap pairs)), .int .i64 (if (pcsL s a b).flatMap pairs = [] then 9 else 0)])
end Go.Proofs.YtbanjolokkghdaaGreatDoor
namespace Go.Proofs.YtbanjolokkghdaaGreatDoor
open Go.RowKit



def TellOk (l : List (Int × Int)) : Prop := (∀ x, x ∈ l -> -2305844108725321728 <= x.1 /\ x.1 <= 2305844108725321728 /\ 0 <= x.2 /\ x.2 <= 1099511627776) /\ l.length <= 100000
def sumV (l : List (Int × Int)) : Array Value := if inI (lsum (loL l)) && inI (lsum (hiL l)) then #[.int .i64 (lsum (loL l)), .int .i64 (lsum (hiL l))] else #[.int .i64 0, .int .i64 0]
def sumE (l : List (Int × Int)) (e : Int) : Int := if e = 0 then (if inI (lsum (loL l)) && inI (lsum (hiL l)) then 0 else 5) else e
def meanV (l : List (Int × Int)) : Array Value := #[.int .i64 l.length, .int .i64 (lsum (loL l) / l.length), .int .i64 (lsum (loL l) % l.length), .int .i64 (lsum (hiL l) / l.length), .int .i64 (lsum (hiL l) % l.length)]
def minA (l : List (Int × Int)) : Array Value := #[.int .i64 (minL (loL l)), .int .i64 (minL (hiL l))]
def maxA (l : List (Int × Int)) : Array Value := #[.int .i64 (maxL (loL l)), .int .i64 (maxL (hiL l))]
def some0 : SerT := ⟨⟨#[97]⟩, 2, 3, 12, 0, [⟨1, [⟨0, 2, 4⟩], 10, 0, 0, 1, [], 1⟩], [(9, 20), (12, 5)]⟩
theorem SerIn.alloc {w : World} {s : SerT} {ps po : Option Addr} (h : SerIn w s ps po) (o : Obj) : SerIn (w.alloc o) s ps po := h.below ((Below.refl _ _).alloc (Nat.le_refl _) o)
def MadeV (B : Nat) (e : TypeId) : Spec := fun v w => ∃ g, v = .slice (some ⟨g, 0, none⟩) 0 0 /\ B <= g /\ Blk w g #[] e
theorem MadeV.closed (B : Nat) (e : TypeId) : Closed [] (MadeV B e) := fun _ _ _ hr ⟨g, e1, h1, h⟩ => ⟨g, e1, h1, h.rex hr (by simp)⟩
def AppV (B : Nat) (e : TypeId) (n k : Nat) (news : List Value) : Spec := fun v w => ∃ g cap cur, v = .slice (some ⟨g, 0, none⟩) n cap /\ B <= g /\ Blk w g cur e /\ n <= cap /\ k <= cur.size /\ cur.toList.take k = news
theorem AppV.closed (B : Nat) (e : TypeId) (n k : Nat) (news : List Value) : Closed [] (AppV B e n k news) := fun _ _ _ hr ⟨g, c, cur, e1, h1, h, h2, h3, h4⟩ => ⟨g, c, cur, e1, h1, h.rex hr (by simp), h2, h3, h4⟩
structure SegR where
 s : SegT
 p : Option Addr
 q : Option Addr
 cap : Nat
 vc : Nat
def segRA (r : SegR) : Array Value := segA r.s r.p r.q r.cap r.vc
def flatSegs (l : List SegR) : List Value := l.flatMap fun r => (segRA r).toList
theorem segRA_len (r : SegR) : (segRA r).toList.length = 8 := rfl
theorem flat_of {α : Type} (f : α -> List Value) (K : Nat) (hK : 0 < K) (hf : ∀ x, (f x).length = K) : ∀ (l : List α) (j : Nat) (u : Value), (l.flatMap f)[j]? = some u -> ∃ i x k, l[i]? = some x /\ k < K /\ j = i * K + k /\ (f x)[k]? = some u
 | [], j, u, h => by simp at h
 | x :: l, j, u, h => by
  rw [List.flatMap_cons] at h
  rcases Nat.lt_or_ge j K with hlt | hge
  ·rw [List.getElem?_append_left (by rw [hf]; exact hlt)] at h
   exact ⟨0, x, j, rfl, hlt, by omega, h⟩
  ·rw [List.getElem?_append_right (by rw [hf]; exact hge), hf] at h
   obtain ⟨i, y, k, h1, h2, h3, h4⟩ := flat_of f K hK hf l (j - K) u h
   exact ⟨i + 1, y, k, h1, h2, by rw [Nat.add_mul]; omega, h4⟩
theorem flat_to {α : Type} (f : α -> List Value) (K : Nat) (hf : ∀ x, (f x).length = K) : ∀ (l : List α) (i : Nat) (x : α) (k : Nat) (u : Value), l[i]? = some x -> (f x)[k]? = some u -> (l.flatMap f)[i * K + k]? = some u
 | [], i, x, k, u, h, _ => by simp at h
 | y :: l, i, x, k, u, h, hu => by
  have hk : k < K := by have := (List.getElem?_eq_some_iff.1 hu).1; rw [hf] at this; exact this
  rw [List.flatMap_cons]
  cases i with
  | zero =>
   obtain rfl : y = x := by simpa using h
   rw [List.getElem?_append_left (by rw [hf]; omega)]
   simpa using hu
  | succ i =>
   rw [List.getElem?_append_right (by rw [hf, Nat.add_mul]; omega), hf, show (i + 1) * K + k - K = i * K + k by rw [Nat.add_mul]; omega]
   exact flat_to f K hf l i x k u (by simpa using h) hu
def SegsCame (w : World) (p : Option Addr) (l : List SegR) : Prop := ∀ (i : Nat) (r : SegR), l[i]? = some r -> ∃ b o, p = some ⟨b, o, none⟩ /\ (∀ j v, (segRA r)[j]? = some v -> w.cell? ⟨b, o + i * 8 + j, none⟩ = some v) /\ Came w r.s r.p r.q r.cap r.vc
theorem Came.below {w w' : World} {s : SegT} {p q : Option Addr} {cap vc : Nat} (h : Came w s p q cap vc) (hb : Below w.heap.size w w') : Came w' s p q cap vc := ⟨h.runs.below hb, h.raw.below hb, h.nilR, h.nilV, h.capR, h.capV, h.maxR, h.maxV⟩
theorem SegsCame.below {w w' : World} {p : Option Addr} {l : List SegR} (h : SegsCame w p l) (hb : Below w.heap.size w w') : SegsCame w' p l := fun i r hr => by
 obtain ⟨b, o, e, h1, h2⟩ := h i r hr
 exact ⟨b, o, e, fun j v hv => (hb.cell (p := ⟨b, _, none⟩) (cell_lt (h1 j v hv))).trans (h1 j v hv), h2.below hb⟩
theorem SegsCame.take {w : World} {p : Option Addr} {l : List SegR} (h : SegsCame w p l) (k : Nat) : SegsCame w p (l.take k) := fun i r hr => h i r (by
 rw [List.getElem?_take] at hr
 split at hr
 ·exact hr
 ·cases hr)
theorem SegsCame.flat {w : World} {p : Option Addr} {l : List SegR} (h : SegsCame w p l) (a : Addr) (ha : p = some a) (j : Nat) (u : Value) (hu : (flatSegs l)[j]? = some u) : w.cell? (a.add j) = some u := by
 obtain ⟨i, r, k, h1, h2, rfl, h3⟩ := flat_of _ 8 (by omega) segRA_len l j u hu
 obtain ⟨b, o, e, h4, _⟩ := h i r h1
 rw [ha] at e
 injection e with e
 subst e
 have := h4 k u (by simpa using h3)
 rw [show (⟨b, o, none⟩ : Addr).add (i * 8 + k) = ⟨b, o + i * 8 + k, none⟩ by unfold Addr.add; split <;> simp_all <;> omega]
 exact this
def SegCells (cur : Array Value) (l : List SegR) : Prop := ∀ (i : Nat) (r : SegR), l[i]? = some r -> ∀ k v, (segRA r)[k]? = some v -> cur[i * 8 + k]? = some v
theorem SegCells.set {cur : Array Value} {l : List SegR} (h : SegCells cur l) {i k : Nat} {r r' : SegR} (hr : l[i]? = some r) (hk : k < 8) {v : Value} (he : segRA r' = (segRA r).setIfInBounds k v) : SegCells (cur.setIfInBounds (i * 8 + k) v) (l.set i r') := fun i2 r2 hr2 k2 v2 hv2 => by
 have hk2 : k2 < 8 := by have := (Array.getElem?_eq_some_iff.1 hv2).1; rw [show (segRA r2).size = 8 from rfl] at this; exact this
 rw [List.getElem?_set] at hr2
 split at hr2
 ·rename_i e
  subst e
  split at hr2
  ·injection hr2 with hr2
   subst hr2
   rw [he, Array.getElem?_setIfInBounds] at hv2
   split at hv2
   ·rename_i ek
    subst ek
    split at hv2
    ·have hb : i * 8 + k < cur.size := by
      have h0 := h i r hr k ((segRA r)[k]'(by rw [show (segRA r).size = 8 from rfl]; exact hk)) (Array.getElem?_eq_getElem _)
      exact (Array.getElem?_eq_some_iff.1 h0).1
     rw [Array.getElem?_setIfInBounds, if_pos rfl, if_pos hb]
     exact hv2
    ·cases hv2
   ·rename_i ek
    rw [Array.getElem?_setIfInBounds, if_neg (by omega)]
    exact h i r hr k2 v2 hv2
  ·cases hr2
 ·rename_i e
  rw [Array.getElem?_setIfInBounds, if_neg (by omega)]
  exact h i2 r2 hr2 k2 v2 hv2
theorem Tryz.infoSeg : (Tryz.prog.info? 29).map (fun i => (i.zero, i.size, i.bytes)) = some (some (.agg #[.int .i64 0, .slice none 0 0, .int .i64 0, .int .i64 0, .int .i64 0, .int .i64 0, .slice none 0 0, .int .i64 0]), 8, 96) := by kernel_rfl
theorem add_zero_map (p : Option Addr) : (Option.map (fun x : Addr => x) p) = p := by cases p <;> rfl
theorem flatSegs_len (l : List SegR) : (flatSegs l).length = l.length * 8 := by
 unfold flatSegs
 induction l with
 | nil => rfl
 | cons x l ih => rw [List.flatMap_cons, List.length_append, ih, segRA_len, List.length_cons]; omega
def ownG (s : SegT) : SegT := ⟨s.K, s.runs.take 300, s.A, s.R, s.n, s.d, s.raw.take 300, s.E⟩
theorem RunsIn.rex1 {w w' : World} {p : Option Addr} {l : List RunT} {g : Nat} {L : List Nat} (h : RunsIn w p l) (hL : ∀ x, x ∈ L -> x <= g) (hg : ∀ a, p = some a -> g < a.block) (hr : Rex L w w') : RunsIn w' p l := ⟨fun i r hi => by
 obtain ⟨b, o, e, h1, h2, h3⟩ := h.at' i r hi
 have hb := hg _ e
 have key : ∀ z v, w.cell? ⟨b, z, none⟩ = some v -> w'.cell? ⟨b, z, none⟩ = some v := fun z v hv => (World.cell?_of_block (hr.block b (cell_lt hv) (fun hx => by have := hL _ hx; simp at hb; omega))).trans hv
 exact ⟨b, o, e, key _ _ h1, key _ _ h2, key _ _ h3⟩⟩
theorem IntsIn.rex1 {w w' : World} {p : Option Addr} {l : List Int} {g : Nat} {L : List Nat} (h : IntsIn w p l) (hL : ∀ x, x ∈ L -> x <= g) (hg : ∀ a, p = some a -> g < a.block) (hr : Rex L w w') : IntsIn w' p l := ⟨fun i r hi => by
 obtain ⟨b, o, e, h1⟩ := h.at' i r hi
 have hb := hg _ e
 exact ⟨b, o, e, (World.cell?_of_block (hr.block b (cell_lt h1) (fun hx => by have := hL _ hx; simp at hb; omega))).trans h1⟩⟩
structure OwnSeg (W : World) (g : Nat) (r0 r : SegR) : Prop where
 says : r.s = ownG r0.s
 runs : RunsIn W r.p r.s.runs
 raw : IntsIn W r.q r.s.raw
 capV : r.s.raw.length <= r.vc
 farR : ∀ a, r.p = some a -> g < a.block
 farV : ∀ a, r.q = some a -> g < a.block
theorem OwnSeg.rex {W W' : World} {g : Nat} {r0 r : SegR} {L : List Nat} (h : OwnSeg W g r0 r) (hL : ∀ x, x ∈ L -> x <= g) (hr : Rex L W W') : OwnSeg W' g r0 r := ⟨h.says, h.runs.rex1 hL h.farR hr, h.raw.rex1 hL h.farV hr, h.capV, h.farR, h.farV⟩
structure OwnTo (W : World) (g : Nat) (rows R : List SegR) (i : Nat) : Prop where
 len : R.length = rows.length
 rest : ∀ k, i <= k -> R[k]? = rows[k]?
 own : ∀ k, k < i -> ∀ r, R[k]? = some r -> ∃ r0, rows[k]? = some r0 /\ OwnSeg W g r0 r
theorem OwnTo.start (W : World) (g : Nat) (rows : List SegR) : OwnTo W g rows rows 0 := ⟨rfl, fun _ _ => rfl, fun k h => by omega⟩
theorem OwnTo.rex {W W' : World} {g i : Nat} {rows R : List SegR} {L : List Nat} (h : OwnTo W g rows R i) (hL : ∀ x, x ∈ L -> x <= g) (hr : Rex L W W') : OwnTo W' g rows R i := ⟨h.len, h.rest, fun k hk r hR => by
 obtain ⟨r0, h1, h2⟩ := h.own k hk r hR
 exact ⟨r0, h1, h2.rex hL hr⟩⟩
theorem OwnTo.step {W : World} {g i : Nat} {rows R : List SegR} {r0 r1 : SegR} (h : OwnTo W g rows R i) (h0 : rows[i]? = some r0) (h1 : OwnSeg W g r0 r1) : OwnTo W g rows (R.set i r1) (i + 1) := ⟨by rw [List.length_set]; exact h.len, fun k hk => by rw [List.getElem?_set_ne (by omega)]; exact h.rest k (by omega), fun k hk r hR => by
 rw [List.getElem?_set] at hR
 split at hR
 ·rename_i e
  subst e
  split at hR
  ·injection hR with hR
   subst hR
   exact ⟨r0, h0, h1⟩
  ·cases hR
 ·exact h.own k (by omega) r hR⟩
structure RawT where
 name : ByteArray
 eps : Int
 floor : Int
 last : Int
 scale : Int
 pts : List (Int × Int)
def ptB (p : Int × Int) : Bool := btw p.1 0 281474976710656 && btw p.2 (-2305843009213693952) 2305843009213693952
def rawPtsB (fl : Int) : Int -> List (Int × Int) -> Bool
 | _, [] => true
 | b, p :: l => (ptB p && (decide (fl <= p.1) && decide (b < p.1))) && rawPtsB fl p.1 l
def rawNumsB (r : RawT) : Bool := nameB r.name && (btw r.eps 0 1099511627776 && (btw r.scale (-40) 40 && (btw r.floor 0 281474976710656 && (btw r.last (-1) 281474976710656 && decide (r.pts.length <= 1024)))))
def rawB (r : RawT) : Bool := rawNumsB r && (rawPtsB r.floor (-1) r.pts && (r.pts.isEmpty || r.last == lastOr (-1) (r.pts.map (·.1))))
def someL (r : RawT) (a b : Int) : List (Int × Int) := r.pts.filter fun p => decide (a <= p.1) && decide (p.1 <= b)
def someV (r : RawT) (a b : Int) : List Int := (someL r a b).map (·.2)
end Go.Proofs.YtbanjolokkghdaaGreatDoor
