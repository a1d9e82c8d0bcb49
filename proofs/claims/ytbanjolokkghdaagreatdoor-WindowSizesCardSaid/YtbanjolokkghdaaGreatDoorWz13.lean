/- Parts of the proof that follows: All points of a segment, collected. No condition. | seg.Points, told. No condition. | Points in memory; which of them lie within a span, plainly. No condition. | Binary digits, plainly, from the lowest on. No condition. | The references' numbers: Size, power. | The references' numbers: trim. | The references' numbers: plus. -/
import Derived.Test.YtbanjolokkghdaaGreatDoorWz12
set_option linter.unusedSimpArgs false
set_option linter.unusedVariables false
namespace Go.Proofs.YtbanjolokkghdaaGreatDoor
open Go.RowKit Go.Shelf
attribute [local go_sem] Oper.semAt_some
def flatPts (l : List (Int × Int)) : List Value := l.flatMap fun x => [.int .i64 x.1, .int .i64 x.2]
theorem flatPts_snoc (l : List (Int × Int)) (x : Int × Int) : flatPts (l ++ [x]) = flatPts l ++ [.int .i64 x.1, .int .i64 x.2] := by simp [flatPts]
theorem Tryz.infoPoint : (Tryz.prog.info? 56).map (fun i => (i.zero, i.size, i.bytes)) = some (some (.agg #[.int .i64 0, .int .i64 0]), 2, 16) := by kernel_rfl
theorem cell_two_new (W : World) (a b : Value) (t : TypeId) (j : Nat) (u : Value) (h : [a, b][j]? = some u) : (W.alloc (.cells #[a, b] t)).cell? ((⟨W.heap.size, 0, none⟩ : Addr).add j) = some u := by
  have hb : Blk (W.alloc (.cells #[a, b] t)) W.heap.size #[a, b] t := Blk.new' rfl
  have hadd : (⟨W.heap.size, 0, none⟩ : Addr).add j = ⟨W.heap.size, j, none⟩ := by unfold Addr.add; split <;> simp_all
  rw [hadd, hb.cell]
  simpa using h
theorem blk_own {β : Type} (B : Nat) (t : TypeId) (f : β → Array Value) : Own (fun s W => Blk W B (f s) t) := fun s X Y row hs hg hrow => by
  refine (hg.block B hs.lt fun e => ?_).trans hs
  obtain ⟨o, ho, hc⟩ := hrow B e.symm
  rw [show X.heap[B]? = _ from hs] at ho; cases ho; cases hc
theorem RunsIn.keep {w A B : World} {p : Option Addr} {l : List RunT} (h : RunsIn w p l) (hb : Below w.heap.size A B) (ha : RunsIn A p l) : RunsIn B p l := ⟨fun i r hr => by
  obtain ⟨b, o, e, k0, k1, k2⟩ := ha.at' i r hr
  obtain ⟨b', o', e', q0, _⟩ := h.at' i r hr
  rw [e] at e'
  injection e' with e'
  injection e' with e1 e2
  subst e1
  have hlt := cell_lt q0
  exact ⟨b, o, e, (hb.cell (p := ⟨b, _, none⟩) hlt).trans k0, (hb.cell (p := ⟨b, _, none⟩) hlt).trans k1, (hb.cell (p := ⟨b, _, none⟩) hlt).trans k2⟩⟩
theorem IntsIn.keep {w A B : World} {p : Option Addr} {l : List Int} (h : IntsIn w p l) (hb : Below w.heap.size A B) (ha : IntsIn A p l) : IntsIn B p l := ⟨fun i r hr => by
  obtain ⟨b, o, e, k0⟩ := ha.at' i r hr
  obtain ⟨b', o', e', q0⟩ := h.at' i r hr
  rw [e] at e'
  injection e' with e'
  injection e' with e1 e2
  subst e1
  exact ⟨b, o, e, (hb.cell (p := ⟨b, _, none⟩) (cell_lt q0)).trans k0⟩⟩
theorem SegIn.keep {w A B : World} {s : SegT} {p q : Option Addr} (h : SegIn w s p q) (hb : Below w.heap.size A B) (ha : SegIn A s p q) : SegIn B s p q := ⟨h.runs.keep hb ha.runs, h.raw.keep hb ha.raw, h.fewR, h.fewV⟩
/-- All points, in an array of its own. -/
def PtsIs (s : SegT) (B : Nat) (v : Value) (w : World) : Prop := w.ownsRow B 56 2 v (ptsL s).length (flatPts (ptsL s))
end Go.Proofs.YtbanjolokkghdaaGreatDoor
namespace Go.Proofs.YtbanjolokkghdaaGreatDoor
open Go.RowKit
end Go.Proofs.YtbanjolokkghdaaGreatDoor
namespace Go.Proofs.YtbanjolokkghdaaGreatDoor
open Go.RowKit

structure PtsIn (w : World) (p : Option Addr) (l : List (Int × Int)) : Prop where
  at' : ∀ (i : Nat) (x : Int × Int), l[i]? = some x → ∃ b o, p = some ⟨b, o, none⟩ ∧ w.cell? ⟨b, o + i * 2, none⟩ = some (.int .i64 x.1) ∧ w.cell? ⟨b, o + i * 2 + 1, none⟩ = some (.int .i64 x.2)
theorem PtsIn.below {w w' : World} {p : Option Addr} {l : List (Int × Int)} (h : PtsIn w p l) (hb : Below w.heap.size w w') : PtsIn w' p l := ⟨fun i r hr => by
  obtain ⟨b, o, e, h1, h2⟩ := h.at' i r hr
  exact ⟨b, o, e, (hb.cell (p := ⟨b, _, none⟩) (cell_lt h1)).trans h1, (hb.cell (p := ⟨b, _, none⟩) (cell_lt h1)).trans h2⟩⟩
theorem PtsIn.alloc {w : World} {p : Option Addr} {l : List (Int × Int)} (h : PtsIn w p l) (o : Obj) : PtsIn (w.alloc o) p l := h.below ((Below.refl _ _).alloc (Nat.le_refl _) o)
theorem PtsIn.calls {w w' : World} {p : Option Addr} {l : List (Int × Int)} (h : PtsIn w p l) (hb : Below w.heap.size w w') : PtsIn w' p l := h.below hb
theorem PtsIn.set' {w : World} {p : Option Addr} {o i : Nat} {v : Value} {l : List (Int × Int)} (h : PtsIn w p l) (hne : ∀ a, p = some a → a.block ≠ o) : PtsIn (w.setCell ⟨o, i, none⟩ v) p l := ⟨fun k r hr => by
  obtain ⟨b, y, e, h1, h2⟩ := h.at' k r hr
  have hc : ∀ z, (w.setCell ⟨o, i, none⟩ v).cell? ⟨b, z, none⟩ = w.cell? ⟨b, z, none⟩ := by
    intro z
    have := heap_setCell_other w ⟨o, i, none⟩ b v (hne _ e)
    simp only [World.cell?, this]
  exact ⟨b, y, e, (hc _).trans h1, (hc _).trans h2⟩⟩
theorem PtsIn.set {w : World} {g x o i : Nat} {v : Value} {l : List (Int × Int)} (h : PtsIn w (some ⟨g, x, none⟩) l) (hne : g ≠ o) : PtsIn (w.setCell ⟨o, i, none⟩ v) (some ⟨g, x, none⟩) l := h.set' fun a e => by cases e; exact hne
theorem PtsIn.drew {w : World} {p : Option Addr} {l : List (Int × Int)} (h : PtsIn w p l) : PtsIn w.drew p l := ⟨h.at'⟩
theorem PtsIn.rex {L : List Nat} {w w' : World} {p : Option Addr} {l : List (Int × Int)} (h : PtsIn w p l) (hr : Rex L w w') (hL : L = []) : PtsIn w' p l := by subst hL; exact h.below hr.below
theorem flatPts_at : ∀ (l : List (Int × Int)) (i : Nat) (x : Int × Int), l[i]? = some x → (flatPts l)[i * 2]? = some (.int .i64 x.1) ∧ (flatPts l)[i * 2 + 1]? = some (.int .i64 x.2)
  | [], i, x, h => by simp at h
  | y :: l, 0, x, h => by
    simp at h
    subst h
    exact ⟨rfl, rfl⟩
  | y :: l, i + 1, x, h => by
    obtain ⟨a, b⟩ := flatPts_at l i x (by simpa using h)
    have e : flatPts (y :: l) = .int .i64 y.1 :: .int .i64 y.2 :: flatPts l := rfl
    rw [e, show (i + 1) * 2 = i * 2 + 1 + 1 by omega]
    exact ⟨by simpa using a, by simpa using b⟩
theorem pts_in {w : World} {g n : Nat} {t : TypeId} {cur : Array Value} {l : List (Int × Int)} (hb : Blk w g cur t) (ht : cur.toList.take n = flatPts l) : PtsIn w (some ⟨g, 0, none⟩) l := ⟨fun i x hx => by
  obtain ⟨a, b⟩ := flatPts_at l i x hx
  refine ⟨g, 0, rfl, ?_, ?_⟩
  · rw [hb.cell, Nat.zero_add]; exact row_take ht a
  · rw [hb.cell, Nat.zero_add]; exact row_take ht b⟩

/-- The values of the points from a to b. -/
def selB (a b : Int) (x : Int × Int) : Bool := decide (a ≤ x.1) && decide (x.1 ≤ b)
def selL (a b : Int) (l : List (Int × Int)) : List Int := (l.filter (selB a b)).map (·.2)
end Go.Proofs.YtbanjolokkghdaaGreatDoor
namespace Go.Proofs.YtbanjolokkghdaaGreatDoor
open Go.RowKit

theorem pow_lt2 (j k : Nat) (h : j < k) : (2 : Nat) ^ j < 2 ^ k := Nat.pow_lt_pow_right (by omega) h
theorem lt_pow2 {a : Nat} (j k : Nat) (h : a < 2 ^ j) (hjk : j ≤ k) : a < 2 ^ k := Nat.lt_of_lt_of_le h (Nat.pow_le_pow_right (by omega) hjk)
theorem twice_pow {a : Nat} (j k : Nat) (h : a < 2 ^ j) (hjk : j + 1 ≤ k) : 2 * a < 2 ^ k :=
  Nat.lt_of_lt_of_le (Nat.mul_lt_mul_of_pos_left h (by omega)) (by rw [← Nat.pow_succ']; exact Nat.pow_le_pow_right (by omega) hjk)
def valD : List Int → Nat
  | [] => 0
  | d :: l => d.toNat + 2 * valD l
def Dig (l : List Int) : Prop := ∀ d, d ∈ l → d = 0 ∨ d = 1
/-- No noughts at the end. -/
def Canon (l : List Int) : Prop := l = [] ∨ 2 ^ (l.length - 1) ≤ valD l
theorem Dig.nil : Dig [] := fun d h => by simp at h
theorem Dig.snoc {l : List Int} {d : Int} (h : Dig l) (hd : d = 0 ∨ d = 1) : Dig (l ++ [d]) := fun x hx => by
  rcases List.mem_append.1 hx with h1 | h1
  · exact h x h1
  · simp at h1; subst h1; exact hd
theorem Dig.cons {l : List Int} {d : Int} (h : Dig l) (hd : d = 0 ∨ d = 1) : Dig (d :: l) := fun x hx => by
  rcases List.mem_cons.1 hx with h1 | h1
  · subst h1; exact hd
  · exact h x h1
theorem Dig.take {l : List Int} (h : Dig l) (k : Nat) : Dig (l.take k) := fun x hx => h x (List.mem_of_mem_take hx)
theorem Dig.drop {l : List Int} (h : Dig l) (k : Nat) : Dig (l.drop k) := fun x hx => h x (List.mem_of_mem_drop hx)
theorem Dig.at {l : List Int} (h : Dig l) {k : Nat} {d : Int} (hk : l[k]? = some d) : d = 0 ∨ d = 1 := h d (List.mem_of_getElem? hk)
theorem valD_append : ∀ (a b : List Int), valD (a ++ b) = valD a + 2 ^ a.length * valD b
  | [], b => by simp [valD]
  | d :: a, b => by
    simp only [List.cons_append, valD, List.length_cons, valD_append a b]
    rw [Nat.pow_succ, Nat.mul_add, Nat.mul_comm (2 ^ a.length) 2, Nat.mul_assoc]
    omega
theorem valD_snoc (a : List Int) (d : Int) : valD (a ++ [d]) = valD a + 2 ^ a.length * d.toNat := by rw [valD_append]; simp [valD]
theorem valD_take {l : List Int} {k : Nat} {d : Int} (hk : l[k]? = some d) : valD (l.take (k + 1)) = valD (l.take k) + 2 ^ k * d.toNat := by
  have hlt := (List.getElem?_eq_some_iff.1 hk).1
  rw [List.take_add_one, hk]
  show valD (l.take k ++ [d]) = _
  rw [valD_snoc, List.length_take, Nat.min_eq_left (by omega)]
theorem valD_lt : ∀ (l : List Int), Dig l → valD l < 2 ^ l.length
  | [], _ => by simp [valD]
  | d :: l, h => by
    have ih := valD_lt l fun x hx => h x (by simp [hx])
    have hd := h d (by simp)
    simp only [valD, List.length_cons, Nat.pow_succ]
    rcases hd with rfl | rfl <;> simp <;> omega
theorem valD_all (l : List Int) {k : Nat} (h : l.length ≤ k) : valD (l.take k) = valD l := by rw [List.take_of_length_le h]
theorem Canon.nil : Canon [] := .inl rfl
/-- A digit list that ends in 1 has no noughts at the end. -/
theorem canon_snoc_one (l : List Int) : Canon (l ++ [1]) := .inr (by rw [valD_snoc]; simp)
theorem canon_pos {l : List Int} (h : Canon l) (hl : l ≠ []) : 2 ^ (l.length - 1) ≤ valD l := by
  rcases h with h | h
  · exact absurd h hl
  · exact h
/-- Which is less, told by the lengths. -/
theorem less_len {a b : List Int} (ha : Dig a) (hb : Canon b) (h : a.length < b.length) : valD a < valD b := by
  have h1 := valD_lt a ha
  have h2 := canon_pos hb (by rintro rfl; simp at h)
  have h3 : 2 ^ a.length ≤ 2 ^ (b.length - 1) := Nat.pow_le_pow_right (by omega) (by omega)
  omega
theorem valD_split {l : List Int} {k : Nat} (hk : k ≤ l.length) : valD l = valD (l.take k) + 2 ^ k * valD (l.drop k) := by
  conv => lhs; rw [← List.take_append_drop k l]
  rw [valD_append, List.length_take, Nat.min_eq_left hk]
/-- Which is less, told by the highest place at which they part. -/
theorem less_at {a b : List Int} (ha : Dig a) (hb : Dig b) (hl : a.length = b.length) {k : Nat} {x y : Int} (hx : a[k]? = some x) (hy : b[k]? = some y) (hd : a.drop (k + 1) = b.drop (k + 1)) (h : x < y) : valD a < valD b := by
  have hk := (List.getElem?_eq_some_iff.1 hx).1
  have e1 := valD_split (l := a) (k := k + 1) (by omega)
  have e2 := valD_split (l := b) (k := k + 1) (by omega)
  rw [hd] at e1
  have t1 := valD_take hx
  have t2 := valD_take hy
  have b1 := valD_lt (a.take k) (ha.take k)
  rw [List.length_take, Nat.min_eq_left (by omega)] at b1
  have dx := ha.at hx
  have dy := hb.at hy
  have x0 : x = 0 := by omega
  have y1 : y = 1 := by omega
  subst x0; subst y1
  simp at t1 t2
  omega
/-- What numbers a slice of int has; its block is one of int. -/
structure DigsIn (w : World) (p : Option Addr) (l : List Int) : Prop where
  at' : ∀ (i : Nat) (x : Int), l[i]? = some x → ∃ b o, p = some ⟨b, o, none⟩ ∧ w.cell? ⟨b, o + i, none⟩ = some (.int .i64 x)
  typ : ∀ a, p = some a → ∃ cur fz, w.heap[a.block]? = some (.cells cur 3 fz)
theorem DigsIn.below {w w' : World} {p : Option Addr} {l : List Int} (h : DigsIn w p l) (hb : Below w.heap.size w w') : DigsIn w' p l :=
  ⟨((⟨h.at'⟩ : IntsIn w p l).below hb).at', fun a e => by
    obtain ⟨cur, fz, hh⟩ := h.typ a e
    exact ⟨cur, fz, (hb.block a.block (Array.getElem?_eq_some_iff.1 hh).1).trans hh⟩⟩
theorem DigsIn.take {w : World} {p : Option Addr} {l : List Int} (h : DigsIn w p l) (k : Nat) : DigsIn w p (l.take k) := ⟨fun i r hr => h.at' i r (by
  rw [List.getElem?_take] at hr
  split at hr
  · exact hr
  · cases hr), h.typ⟩
theorem clone_digs {w : World} {g k : Nat} {cur : Array Value} {l : List Int} (hb : w.heap[g]? = some (.cells cur 3 (0, 0))) (ht : cur.toList.take k = l.map (Value.int .i64)) : DigsIn w (some ⟨g, 0, none⟩) l :=
  ⟨(cloneInt_in hb ht).at', fun a e => by cases e; exact ⟨cur, (0, 0), hb⟩⟩
/-- A slice of digits: a number, without noughts at the end. -/
def Bits (w : World) (v : Value) (n : Nat) : Prop := ∃ p l cap, v = .slice p l.length cap ∧ l.length ≤ cap ∧ l.length ≤ 1000 ∧ (p = none → l = [] ∧ cap = 0) ∧ DigsIn w p l ∧ Dig l ∧ Canon l ∧ valD l = n
theorem Bits.below {w w' : World} {v : Value} {n : Nat} (h : Bits w v n) (hb : Below w.heap.size w w') : Bits w' v n := by
  obtain ⟨p, l, cap, h1, h2, h3, h4, h5, h6⟩ := h
  exact ⟨p, l, cap, h1, h2, h3, h4, h5.below hb, h6⟩
theorem Bits.rex {L : List Nat} {w w' : World} {v : Value} {n : Nat} (h : Bits w v n) (hr : Rex L w w') (hL : L = []) : Bits w' v n := by subst hL; exact h.below hr.below
theorem Bits.drew {w : World} {v : Value} {n : Nat} (h : Bits w v n) : Bits w.drew v n := by
  obtain ⟨p, l, cap, h1, h2, h3, h4, h5, h6⟩ := h
  exact ⟨p, l, cap, h1, h2, h3, h4, ⟨h5.at', h5.typ⟩, h6⟩
theorem Bits.zero (w : World) : Bits w (.slice none 0 0) 0 := ⟨none, [], 0, rfl, by simp, by simp, fun _ => ⟨rfl, rfl⟩, ⟨fun i x h => by simp at h, fun a e => by cases e⟩, Dig.nil, Canon.nil, rfl⟩
theorem bits_own {w : World} {base n : Nat} {v : Value} {l : List Int} (h : w.ownsRow base 3 1 v n (l.map (Value.int .i64))) (hn : n = l.length) (hl : l.length ≤ 1000) (h1 : Dig l) (h2 : Canon l) : Bits w v (valD l) := by
  subst hn
  obtain ⟨_, h2' | ⟨g, cap', cur, rfl, hg, hb, hn, _, hc, ht⟩⟩ := h
  · obtain ⟨rfl, h0⟩ := h2'
    have : l = [] := List.length_eq_zero_iff.1 h0
    subst this
    exact Bits.zero w
  · exact ⟨some ⟨g, 0, none⟩, l, cap', rfl, by simpa using hn, hl, (fun e => by cases e), clone_digs hb (by simpa using ht), h1, h2, rfl⟩
end Go.Proofs.YtbanjolokkghdaaGreatDoor
namespace Go.Proofs.YtbanjolokkghdaaGreatDoor
open Go.RowKit
theorem Tryz.infoI : (Tryz.prog.info? 3).map (fun i => (i.zero, i.size, i.bytes)) = some (some (.int .i64 0), 1, 8) := by kernel_rfl
theorem below_append {w0 W w1 : World} {B : Nat} {e : TypeId} {s k : Nat} {v : Value} {xs : List Value} {tmp : Obj} (hW : Below B w0 W) (hB : B ≤ W.heap.size) (hrow : W.ownsRow B e s v k xs) (hgr : (W.alloc tmp).grownBy w1 v.ownBlock) : Below B w0 w1 := by
  refine (hW.alloc hB tmp).grown hgr (by simp; omega) fun j ej => ?_
  rcases hrow.2 with ⟨rfl, _⟩ | ⟨g, cap, cur, rfl, hb, _, _⟩
  · simp [Value.ownBlock] at ej
  · obtain rfl : g = j := by simpa [Value.ownBlock] using ej
    exact hb
def sizeRel (u0 : Nat) (w : World) (a' : Act) (W : World) : Prop :=
  Below w.heap.size w W ∧ ∃ (l : List Int) (u : Nat) (v : Value), (∃ x : Nat → Value, a' = { tmps := #[.int .u64 (u : Int), x 1, x 2, v, x 4, x 5, x 6, x 7, x 8, x 9, x 10, x 11, x 12, x 13, x 14], defers := [] }) ∧
    W.ownsRow w.heap.size 3 1 v l.length (l.map (Value.int .i64)) ∧ Dig l ∧ valD l + 2 ^ l.length * u = u0 ∧ l.length ≤ 64 ∧ u < 2 ^ (64 - l.length) ∧ (u = 0 → Canon l)
set_option maxRecDepth 100000 in
set_option maxHeartbeats 4000000 in
theorem c_Size (u0 : Nat) (w : World) (h0 : u0 < 18446744073709551616) :
    Calls Tryz.prog 118 #[.int .u64 (u0 : Int)] w fun e w' => ∃ v, e = .returned v ∧ Bits w' v u0 ∧ Below w.heap.size w w' := by
  obtain ⟨i0, hi, hz0, hz1, hz2⟩ := info_parts Tryz.infoI
  go_enter Tryz.func118, Tryz.ntmps118
  go_wp2
  refine wp_loop (sizeRel u0 w) (fun a' _ => (intAt (a'.tmps.getD 0 undef)).toNat) ?_ ?_
  · unfold sizeRel
    exact ⟨Below.refl _ _, [], u0, _, frame_ex rfl, World.ownsRow_nil _ _ _ _, Dig.nil, by simp [valD], by simp, by simpa using h0, fun _ => Canon.nil⟩
  · rintro a' W ⟨hW, l, u, v, ⟨x, rfl⟩, hown, hd, hv, hl, hu, hcn⟩
    have hz := hW.size
    replace hv := Lib.hid hv
    replace hu := Lib.hid hu
    replace hcn := Lib.hid hcn
    by_cases h : u = 0
    · subst h
      have hC := Lib.hid (hcn.out rfl)
      have hn := Lib.hid (show valD l = u0 by have := hv.out; omega)
      clear hcn hv hu
      go_wp2
      go_ret
      exact ⟨v, rfl, hn.out ▸ bits_own hown rfl (by omega) hd hC.out, hW⟩
    · have hpos : 0 < u := by omega
      have hp : 0 < (u : Int) := by omega
      have hlt : l.length < 64 := by
        have := hu.out
        rcases Nat.lt_or_ge l.length 64 with h1 | h1
        · exact h1
        · have : 64 - l.length = 0 := by omega
          rw [this] at hu
          have := hu.out
          simp at this
          omega
      have hu64 : u < 18446744073709551616 := by have := hu.out; have := Nat.pow_le_pow_right (n := 2) (by omega) (show 64 - l.length ≤ 64 by omega); omega
      go_wp2_with (at_builtin; refine wpList_append_own _ rfl (.tmp 6) (.tmp 10) 132 rfl w.heap.size 3 i0 (.int .i64 0) 1 8 (by kernel_rfl) hi hz0 hz1 hz2 rfl (by decide) _ _ _ rfl (hown.alloc _) ⟨W.heap.size, 0, none⟩ 1 1 [.int .i64 (u % 2 : Int)] rfl rfl (cell_one_new _ _ _) (by simp [Value.oneCell']) (by simp [maxLen]; omega) (by omega) (by simp; omega) ?_)
      intro v' w1 hown' hgr _
      have hB := Lib.hid (below_append hW hz hown hgr)
      replace hown' := Lib.hid hown'
      clear hgr hown
      go_wp2
      rw [show (u : Int) / 2 = ((u / 2 : Nat) : Int) by omega]
      refine ⟨?_, by simp [intAt]; omega⟩
      unfold sizeRel
      have e2 : ((u : Int) % 2).toNat = u % 2 := by omega
      refine ⟨hB.out, l ++ [(u : Int) % 2], u / 2, v', frame_ex rfl, by simpa using hown'.out, hd.snoc (by omega), ?_, by simp; omega, ?_, fun h2 => ?_⟩
      · have := hv.out
        rw [valD_snoc, e2, List.length_append, List.length_singleton, Nat.pow_succ, Nat.mul_assoc, Nat.add_assoc, ← Nat.mul_add, show u % 2 + 2 * (u / 2) = u by omega]
        exact this
      · have := hu.out
        rw [List.length_append, List.length_singleton]
        have e : 2 ^ (64 - l.length) = 2 * 2 ^ (64 - (l.length + 1)) := by rw [show 64 - l.length = (64 - (l.length + 1)) + 1 by omega, Nat.pow_succ]; omega
        omega
      · have : u = 1 := by omega
        subst this
        exact canon_snoc_one l
theorem valD_noughts : ∀ n : Nat, valD (List.replicate n 0) = 0
  | 0 => rfl
  | n + 1 => by simp [List.replicate_succ, valD, valD_noughts n]
theorem dig_noughts (n : Nat) : Dig (List.replicate n 0) := fun d h => .inl (List.eq_of_mem_replicate h)
def powRel (n : Nat) (w : World) (a' : Act) (W : World) : Prop :=
  Below w.heap.size w W ∧ ∃ (k : Nat) (v : Value), (∃ x : Nat → Value, a' = { tmps := #[.int .i64 (n : Int), x 1, x 2, v, .int .i64 (k : Int), x 5, x 6, x 7, x 8, x 9, x 10, x 11, x 12, x 13, x 14, x 15], defers := [] }) ∧
    W.ownsRow w.heap.size 3 1 v k ((List.replicate k (0 : Int)).map (Value.int .i64)) ∧ k ≤ n
set_option maxRecDepth 100000 in
set_option maxHeartbeats 4000000 in
theorem c_power (n : Nat) (w : World) (hn : n ≤ 900) :
    Calls Tryz.prog 122 #[.int .i64 (n : Int)] w fun e w' => ∃ v, e = .returned v ∧ Bits w' v (2 ^ n) ∧ Below w.heap.size w w' := by
  obtain ⟨i0, hi, hz0, hz1, hz2⟩ := info_parts Tryz.infoI
  go_enter Tryz.func122, Tryz.ntmps122
  go_wp2
  refine wp_loop (powRel n w) (fun a' _ => n - (intAt (a'.tmps.getD 4 undef)).toNat) ?_ ?_
  · unfold powRel
    exact ⟨Below.refl _ _, 0, _, frame_ex rfl, World.ownsRow_nil _ _ _ _, Nat.zero_le _⟩
  · rintro a' W ⟨hW, k, v, ⟨x, rfl⟩, hown, hk⟩
    have hz := hW.size
    rcases Nat.lt_or_ge k n with hlt | hge
    · go_wp2_with (at_builtin; refine wpList_append_own _ rfl (.tmp 10) (.tmp 11) 132 rfl w.heap.size 3 i0 (.int .i64 0) 1 8 (by kernel_rfl) hi hz0 hz1 hz2 rfl (by decide) _ _ _ rfl (hown.alloc _) ⟨W.heap.size, 0, none⟩ 1 1 [.int .i64 0] rfl rfl (cell_one_new _ _ _) (by simp [Value.oneCell']) (by simp [maxLen]; omega) (by omega) (by simp; omega) ?_)
      intro v' w1 hown' hgr _
      have hB := Lib.hid (below_append hW hz hown hgr)
      replace hown' := Lib.hid hown'
      clear hgr hown
      go_wp2
      rw [show (k : Int) + 1 = ((k + 1 : Nat) : Int) by omega]
      refine ⟨?_, by simp [intAt]; omega⟩
      unfold powRel
      exact ⟨hB.out, k + 1, v', frame_ex rfl, by rw [List.replicate_succ', List.map_append, List.map_replicate]; exact hown'.out, hlt⟩
    · obtain rfl : k = n := by omega
      go_wp2_with (at_builtin; refine wpList_append_own _ rfl (.tmp 13) (.tmp 14) 132 rfl w.heap.size 3 i0 (.int .i64 0) 1 8 (by kernel_rfl) hi hz0 hz1 hz2 rfl (by decide) _ _ _ rfl (hown.alloc _) ⟨W.heap.size, 0, none⟩ 1 1 [.int .i64 1] rfl rfl (cell_one_new _ _ _) (by simp [Value.oneCell']) (by simp [maxLen]; omega) (by omega) (by simp; omega) ?_)
      intro v' w1 hown' hgr _
      have hB := Lib.hid (below_append hW hz hown hgr)
      have hv : valD (List.replicate k (0 : Int) ++ [1]) = 2 ^ k := by rw [valD_snoc, valD_noughts]; simp
      have hb : Bits w1 v' (valD (List.replicate k (0 : Int) ++ [1])) := bits_own (n := k + 1) (by rw [List.map_append, List.map_replicate]; exact hown') (by simp) (by simp; omega) ((dig_noughts k).snoc (.inr rfl)) (canon_snoc_one _)
      rw [hv] at hb
      replace hb := Lib.hid hb
      clear hgr hown hown' hv
      go_wp2
      go_ret
      exact ⟨v', rfl, hb.out, hB.out⟩
end Go.Proofs.YtbanjolokkghdaaGreatDoor
namespace Go.Proofs.YtbanjolokkghdaaGreatDoor
open Go.RowKit
theorem DigsIn.taken {w : World} {p : Option Addr} {l : List Int} (h : DigsIn w p l) (k : Nat) : DigsIn w p (l.take k) := h.take k
def trimRel (w : World) (b o cap : Nat) (l : List Int) (a' : Act) (W : World) : Prop :=
  Below w.heap.size w W ∧ ∃ k : Nat, (∃ u : Nat → Value, a' = { tmps := #[.slice (some ⟨b, o, none⟩) l.length cap, u 1, u 2, .int .i64 (k : Int), u 4, u 5, u 6, u 7, u 8, u 9, u 10, u 11, u 12, u 13, u 14, u 15, u 16, u 17, u 18, u 19, u 20], defers := [] }) ∧ k ≤ l.length ∧ valD (l.take k) = valD l
set_option maxRecDepth 100000 in
set_option maxHeartbeats 4000000 in
theorem trim_some (b o cap : Nat) (l : List Int) (w : World) (h : DigsIn w (some ⟨b, o, none⟩) l) (hc : l.length ≤ cap) (hcm : cap ≤ 9223372036854775807) (hl : l.length ≤ 1000) (hd : Dig l) :
    Calls Tryz.prog 173 #[.slice (some ⟨b, o, none⟩) l.length cap] w fun e w' => ∃ v, e = .returned v ∧ Bits w' v (valD l) ∧ Below w.heap.size w w' := by
  go_enter Tryz.func173, Tryz.ntmps173
  go_wp2
  refine wp_loop (trimRel w b o cap l) (fun a' _ => (intAt (a'.tmps.getD 3 undef)).toNat) ?_ ?_
  · unfold trimRel
    exact ⟨Below.refl _ _, l.length, frame_ex rfl, Nat.le_refl _, by rw [List.take_length]⟩
  · rintro a' W ⟨hW, k, ⟨u, rfl⟩, hk, hv⟩
    replace hv := Lib.hid hv
    rcases Nat.eq_zero_or_pos k with rfl | hpos
    · go_wp2
      go_ret
      refine ⟨_, rfl, ⟨some ⟨b, o, none⟩, l.take 0, cap, by simp, by simp, by simp, (fun e => by cases e), (h.below hW).taken 0, by simpa using Dig.nil, by simpa using Canon.nil, hv.out⟩, hW⟩
    · obtain ⟨j, rfl⟩ : ∃ j, k = j + 1 := ⟨k - 1, by omega⟩
      obtain ⟨d, hdj⟩ : ∃ d, l[j]? = some d := ⟨l[j], List.getElem?_eq_getElem (by omega)⟩
      obtain ⟨b', o', e, q0⟩ := (h.below hW).at' j d hdj
      cases e
      have e1 : ((j + 1 : Nat) : Int) - 1 = (j : Int) := by omega
      have ht := Lib.hid (valD_take hdj)
      have hdd := hd.at hdj
      have hcan := Lib.hid (show d = 1 → Canon (l.take (j + 1)) from fun e => by rw [List.take_add_one, hdj, e]; exact canon_snoc_one _)
      clear hdj
      replace e1 := Lib.hid e1
      rcases hdd with rfl | rfl
      · go_wp2
        refine ⟨?_, by simp [intAt]⟩
        unfold trimRel
        exact ⟨hW, j, frame_ex rfl, by omega, by have := ht.out; have := hv.out; simp at *; omega⟩
      · go_wp2
        go_ret
        exact ⟨_, rfl, ⟨some ⟨b, o, none⟩, l.take (j + 1), cap, by rw [List.length_take, Nat.min_eq_left hk]; rfl, by rw [List.length_take]; omega, by rw [List.length_take]; omega, (fun e => by cases e), (h.below hW).taken _, hd.take _, hcan.out trivial, hv.out⟩, hW⟩
set_option maxRecDepth 100000 in
set_option maxHeartbeats 4000000 in
theorem trim_nil (p : Option Addr) (cap : Nat) (w : World) (hd : DigsIn w p []) (hn : p = none → cap = 0) (hcm : cap ≤ 9223372036854775807) :
    Calls Tryz.prog 173 #[.slice p 0 cap] w fun e w' => ∃ v, e = .returned v ∧ Bits w' v 0 ∧ Below w.heap.size w w' := by
  cases p with
  | none =>
    obtain rfl := hn rfl
    go_enter Tryz.func173, Tryz.ntmps173
    go_wp2
    refine wp_loop (fun a' W => W = w ∧ ∃ u : Nat → Value, a' = { tmps := #[.slice none 0 0, u 1, u 2, .int .i64 0, u 4, u 5, u 6, u 7, u 8, u 9, u 10, u 11, u 12, u 13, u 14, u 15, u 16, u 17, u 18, u 19, u 20], defers := [] }) (fun _ _ => 0) ⟨rfl, frame_ex rfl⟩ ?_
    rintro a' W ⟨rfl, u, rfl⟩
    go_wp2
    go_ret
    exact ⟨_, rfl, Bits.zero _, Below.refl _ _⟩
  | some a =>
    go_enter Tryz.func173, Tryz.ntmps173
    go_wp2
    refine wp_loop (fun a' W => W = w ∧ ∃ u : Nat → Value, a' = { tmps := #[.slice (some a) 0 cap, u 1, u 2, .int .i64 0, u 4, u 5, u 6, u 7, u 8, u 9, u 10, u 11, u 12, u 13, u 14, u 15, u 16, u 17, u 18, u 19, u 20], defers := [] }) (fun _ _ => 0) ⟨rfl, frame_ex rfl⟩ ?_
    rintro a' W ⟨rfl, u, rfl⟩
    go_wp2
    go_ret
    exact ⟨_, rfl, ⟨_, [], cap, rfl, by simp, by simp, (fun e => by cases e), hd, Dig.nil, Canon.nil, rfl⟩, Below.refl _ _⟩
theorem c_trim (p : Option Addr) (cap : Nat) (l : List Int) (w : World) (h : DigsIn w p l) (hn : p = none → l = [] ∧ cap = 0) (hc : l.length ≤ cap) (hcm : cap ≤ 9223372036854775807) (hl : l.length ≤ 1000) (hd : Dig l) :
    Calls Tryz.prog 173 #[.slice p l.length cap] w fun e w' => ∃ v, e = .returned v ∧ Bits w' v (valD l) ∧ Below w.heap.size w w' := by
  cases l with
  | nil => exact trim_nil p cap w h (fun e => (hn e).2) hcm
  | cons d l =>
    obtain ⟨b, o, rfl, _⟩ := h.at' 0 d rfl
    exact trim_some b o cap (d :: l) w h hc hcm hl hd
end Go.Proofs.YtbanjolokkghdaaGreatDoor
namespace Go.Proofs.YtbanjolokkghdaaGreatDoor
open Go.RowKit
def plusRel (w : World) (p q : Option Addr) (a b : List Int) (ca cb : Nat) (a' : Act) (W : World) : Prop :=
  Below w.heap.size w W ∧ ∃ (l : List Int) (c : Int) (v : Value), (∃ u : Nat → Value, a' = { tmps := #[.slice p a.length ca, .slice q b.length cb, u 2, u 3, u 4, v, .int .i64 c, .int .i64 (l.length : Int), u 8, u 9, u 10, u 11, u 12, u 13, u 14, u 15, u 16, u 17, u 18, u 19, u 20, u 21, u 22, u 23, u 24, u 25, u 26, u 27, u 28, u 29, u 30, u 31, u 32, u 33, u 34, u 35, u 36, u 37, u 38, u 39, u 40, u 41, u 42, u 43, u 44, u 45, u 46, u 47, u 48, u 49, u 50, u 51, u 52, u 53], defers := [] }) ∧
    W.ownsRow w.heap.size 3 1 v l.length (l.map (Value.int .i64)) ∧ Dig l ∧ (0 ≤ c ∧ c ≤ 1) ∧ valD l + 2 ^ l.length * c.toNat = valD (a.take l.length) + valD (b.take l.length) ∧
    ((l.length : Int) + c ≤ a.length + 1 ∨ (l.length : Int) + c ≤ b.length + 1) ∧ (l.length = 0 ∨ l.length ≤ a.length ∨ l.length ≤ b.length ∨ 2 ^ (l.length - 1) ≤ valD l)
set_option maxRecDepth 100000 in
set_option maxHeartbeats 20000000 in
theorem plus_w (p q : Option Addr) (a b : List Int) (ca cb : Nat) (w : World) (ha : DigsIn w p a) (hb : DigsIn w q b) (hda : Dig a) (hdb : Dig b) (hca : Canon a) (hcb : Canon b) (hla : a.length ≤ 950) (hlb : b.length ≤ 950) :
    Calls Tryz.prog 117 #[.slice p a.length ca, .slice q b.length cb] w fun e w' => ∃ v, e = .returned v ∧ Bits w' v (valD a + valD b) ∧ Below w.heap.size w w' := by
  obtain ⟨i0, hi, hz0, hz1, hz2⟩ := info_parts Tryz.infoI
  go_enter Tryz.func117, Tryz.ntmps117
  go_wp2
  refine wp_loop (plusRel w p q a b ca cb) (fun a' _ => 2000 - (intAt (a'.tmps.getD 7 undef)).toNat) ?_ ?_
  · unfold plusRel
    exact ⟨Below.refl _ _, [], 0, _, frame_ex rfl, World.ownsRow_nil _ _ _ _, Dig.nil, by omega, by simp [valD], by simp; omega, .inl rfl⟩
  · rintro a' W ⟨hW, l, c, v, ⟨u, rfl⟩, hown, hd, hc, hv, hM, hcn⟩
    have hz := hW.size
    replace hv := Lib.hid hv
    replace hcn := Lib.hid hcn
    have hl9 : l.length ≤ 951 := by omega
    by_cases hia : l.length < a.length
    · by_cases hib : l.length < b.length
      ·
        obtain ⟨x, hx⟩ : ∃ x, a[l.length]? = some x := ⟨a[l.length], List.getElem?_eq_getElem hia⟩
        obtain ⟨ga, oa, rfl, qa⟩ := (ha.below hW).at' _ x hx
        have bx : 0 ≤ x ∧ x ≤ 1 := by have := hda.at hx; omega
        have ta := valD_take hx
        obtain ⟨y, hy⟩ : ∃ y, b[l.length]? = some y := ⟨b[l.length], List.getElem?_eq_getElem hib⟩
        obtain ⟨gb, ob, rfl, qb⟩ := (hb.below hW).at' _ y hy
        have by' : 0 ≤ y ∧ y ≤ 1 := by have := hdb.at hy; omega
        have tb := valD_take hy
        replace ta := Lib.hid ta
        replace tb := Lib.hid tb
        clear hx
        clear hy
        go_wp2_with (at_builtin; refine wpList_append_own _ rfl (.tmp 46) (.tmp 49) 132 rfl w.heap.size 3 i0 (.int .i64 0) 1 8 (by kernel_rfl) hi hz0 hz1 hz2 rfl (by decide) _ _ _ rfl (hown.alloc _) ⟨W.heap.size, 0, none⟩ 1 1 [.int .i64 ((c + x + y) % 2)] rfl rfl (cell_one_new _ _ _) (by simp [Value.oneCell']) (by simp [maxLen]; omega) (by omega) (by simp; omega) ?_)
        intro v' w1 hown' hgr _
        have hB := Lib.hid (below_append hW hz hown hgr)
        replace hown' := Lib.hid hown'
        clear hgr hown
        go_wp2
        refine ⟨?_, by simp [intAt]; omega⟩
        have ee : ((l.length : Int) + 1) = (((l ++ [(c + x + y) % 2]).length : Nat) : Int) := by simp
        rw [ee]
        unfold plusRel
        refine ⟨hB.out, l ++ [(c + x + y) % 2], (c + x + y) / 2, v', frame_ex rfl, by simpa using hown'.out, hd.snoc (by omega), by omega, ?_, by simp; omega, ?_⟩
        · have := hv.out
          have e1 : ((c + x + y) % 2).toNat + 2 * ((c + x + y) / 2).toNat = c.toNat + x.toNat + y.toNat := by omega
          rw [valD_snoc, List.length_append, List.length_singleton, Nat.pow_succ, Nat.mul_assoc, Nat.add_assoc, ← Nat.mul_add, e1, ta.out, tb.out]
          try simp only [Nat.mul_add]
          omega
        · exact .inr (.inl (by simp; omega))
      ·
        obtain ⟨x, hx⟩ : ∃ x, a[l.length]? = some x := ⟨a[l.length], List.getElem?_eq_getElem hia⟩
        obtain ⟨ga, oa, rfl, qa⟩ := (ha.below hW).at' _ x hx
        have bx : 0 ≤ x ∧ x ≤ 1 := by have := hda.at hx; omega
        have ta := valD_take hx
        have tb : valD (b.take (l.length + 1)) = valD (b.take l.length) := by rw [valD_all b (by omega), valD_all b (by omega)]
        replace ta := Lib.hid ta
        replace tb := Lib.hid tb
        clear hx
        go_wp2_with (at_builtin; refine wpList_append_own _ rfl (.tmp 46) (.tmp 49) 132 rfl w.heap.size 3 i0 (.int .i64 0) 1 8 (by kernel_rfl) hi hz0 hz1 hz2 rfl (by decide) _ _ _ rfl (hown.alloc _) ⟨W.heap.size, 0, none⟩ 1 1 [.int .i64 ((c + x) % 2)] rfl rfl (cell_one_new _ _ _) (by simp [Value.oneCell']) (by simp [maxLen]; omega) (by omega) (by simp; omega) ?_)
        intro v' w1 hown' hgr _
        have hB := Lib.hid (below_append hW hz hown hgr)
        replace hown' := Lib.hid hown'
        clear hgr hown
        go_wp2
        refine ⟨?_, by simp [intAt]; omega⟩
        have ee : ((l.length : Int) + 1) = (((l ++ [(c + x) % 2]).length : Nat) : Int) := by simp
        rw [ee]
        unfold plusRel
        refine ⟨hB.out, l ++ [(c + x) % 2], (c + x) / 2, v', frame_ex rfl, by simpa using hown'.out, hd.snoc (by omega), by omega, ?_, by simp; omega, ?_⟩
        · have := hv.out
          have e1 : ((c + x) % 2).toNat + 2 * ((c + x) / 2).toNat = c.toNat + x.toNat := by omega
          rw [valD_snoc, List.length_append, List.length_singleton, Nat.pow_succ, Nat.mul_assoc, Nat.add_assoc, ← Nat.mul_add, e1, ta.out, tb.out]
          try simp only [Nat.mul_add]
          omega
        · exact .inr (.inl (by simp; omega))
    · by_cases hib : l.length < b.length
      ·
        have ta : valD (a.take (l.length + 1)) = valD (a.take l.length) := by rw [valD_all a (by omega), valD_all a (by omega)]
        obtain ⟨y, hy⟩ : ∃ y, b[l.length]? = some y := ⟨b[l.length], List.getElem?_eq_getElem hib⟩
        obtain ⟨gb, ob, rfl, qb⟩ := (hb.below hW).at' _ y hy
        have by' : 0 ≤ y ∧ y ≤ 1 := by have := hdb.at hy; omega
        have tb := valD_take hy
        replace ta := Lib.hid ta
        replace tb := Lib.hid tb
        clear hy
        go_wp2_with (at_builtin; refine wpList_append_own _ rfl (.tmp 46) (.tmp 49) 132 rfl w.heap.size 3 i0 (.int .i64 0) 1 8 (by kernel_rfl) hi hz0 hz1 hz2 rfl (by decide) _ _ _ rfl (hown.alloc _) ⟨W.heap.size, 0, none⟩ 1 1 [.int .i64 ((c + y) % 2)] rfl rfl (cell_one_new _ _ _) (by simp [Value.oneCell']) (by simp [maxLen]; omega) (by omega) (by simp; omega) ?_)
        intro v' w1 hown' hgr _
        have hB := Lib.hid (below_append hW hz hown hgr)
        replace hown' := Lib.hid hown'
        clear hgr hown
        go_wp2
        refine ⟨?_, by simp [intAt]; omega⟩
        have ee : ((l.length : Int) + 1) = (((l ++ [(c + y) % 2]).length : Nat) : Int) := by simp
        rw [ee]
        unfold plusRel
        refine ⟨hB.out, l ++ [(c + y) % 2], (c + y) / 2, v', frame_ex rfl, by simpa using hown'.out, hd.snoc (by omega), by omega, ?_, by simp; omega, ?_⟩
        · have := hv.out
          have e1 : ((c + y) % 2).toNat + 2 * ((c + y) / 2).toNat = c.toNat + y.toNat := by omega
          rw [valD_snoc, List.length_append, List.length_singleton, Nat.pow_succ, Nat.mul_assoc, Nat.add_assoc, ← Nat.mul_add, e1, ta.out, tb.out]
          try simp only [Nat.mul_add]
          omega
        · exact .inr (.inr (.inl (by simp; omega)))
      · by_cases hc0 : 0 < c
        ·
          have ta : valD (a.take (l.length + 1)) = valD (a.take l.length) := by rw [valD_all a (by omega), valD_all a (by omega)]
          have tb : valD (b.take (l.length + 1)) = valD (b.take l.length) := by rw [valD_all b (by omega), valD_all b (by omega)]
          replace ta := Lib.hid ta
          replace tb := Lib.hid tb
          go_wp2_with (at_builtin; refine wpList_append_own _ rfl (.tmp 46) (.tmp 49) 132 rfl w.heap.size 3 i0 (.int .i64 0) 1 8 (by kernel_rfl) hi hz0 hz1 hz2 rfl (by decide) _ _ _ rfl (hown.alloc _) ⟨W.heap.size, 0, none⟩ 1 1 [.int .i64 ((c) % 2)] rfl rfl (cell_one_new _ _ _) (by simp [Value.oneCell']) (by simp [maxLen]; omega) (by omega) (by simp; omega) ?_)
          intro v' w1 hown' hgr _
          have hB := Lib.hid (below_append hW hz hown hgr)
          replace hown' := Lib.hid hown'
          clear hgr hown
          go_wp2
          refine ⟨?_, by simp [intAt]; omega⟩
          have ee : ((l.length : Int) + 1) = (((l ++ [(c) % 2]).length : Nat) : Int) := by simp
          rw [ee]
          unfold plusRel
          refine ⟨hB.out, l ++ [(c) % 2], (c) / 2, v', frame_ex rfl, by simpa using hown'.out, hd.snoc (by omega), by omega, ?_, by simp; omega, ?_⟩
          · have := hv.out
            have e1 : ((c) % 2).toNat + 2 * ((c) / 2).toNat = c.toNat := by omega
            rw [valD_snoc, List.length_append, List.length_singleton, Nat.pow_succ, Nat.mul_assoc, Nat.add_assoc, ← Nat.mul_add, e1, ta.out, tb.out]
            try simp only [Nat.mul_add]
            omega
          · have hc1 : c = 1 := by omega
            subst hc1
            exact .inr (.inr (.inr (by rw [valD_snoc]; simp)))
        · have hc1 : c = 0 := by omega
          subst hc1
          have hsum := Lib.hid (show valD l = valD a + valD b by
            have := hv.out
            rw [valD_all a (by omega), valD_all b (by omega)] at this
            simpa using this)
          have hcan : Canon l := by
            by_cases h0 : l = []
            · exact .inl h0
            · refine .inr ?_
              have hne : l.length ≠ 0 := fun e => h0 (List.length_eq_zero_iff.1 e)
              have hs := hsum.out
              rcases hcn.out with h1 | h1 | h1 | h1
              · omega
              · have e : l.length = a.length := by omega
                have := canon_pos hca (by rintro rfl; simp at e; exact h0 e)
                rw [← e] at this
                omega
              · have e : l.length = b.length := by omega
                have := canon_pos hcb (by rintro rfl; simp at e; exact h0 e)
                rw [← e] at this
                omega
              · exact h1
          have hbits := Lib.hid (bits_own hown rfl (by omega) hd hcan)
          clear hcn hv hcan hown
          go_wp2
          go_ret
          exact ⟨v, rfl, hsum.out ▸ hbits.out, hW⟩
end Go.Proofs.YtbanjolokkghdaaGreatDoor
