/- Parts of the proof that follows: Binary digits, plainly, from the lowest on. No condition. | The references' numbers: Size, power. | The references' numbers: trim. | The references' numbers: plus. | The references' numbers: minus. | The references' numbers: plus, minus told; less. -/
import Derived.Test.YtbanjolokkghdaaGreatDoorWf13
set_option linter.unusedSimpArgs false
set_option linter.unusedVariables false
namespace Go.Proofs.YtbanjolokkghdaaGreatDoor
open Go.RowKit

def valD : List Int → Nat
  | [] => 0
  | d :: l => d.toNat + 2 * valD l
def Dig (l : List Int) : Prop := ∀ d, d ∈ l → d = 0 ∨ d = 1
/-- No noughts at the end. -/
def Canon (l : List Int) : Prop := l = [] ∨ 2 ^ (l.length - 1) ≤ valD l
theorem Dig.nil : Dig [] := fun d h => by simp at h
theorem Dig.cons {l : List Int} {d : Int} (h : Dig l) (hd : d = 0 ∨ d = 1) : Dig (d :: l) := fun x hx => by
  rcases List.mem_cons.1 hx with h1 | h1
  · subst h1; exact hd
  · exact h x h1
theorem Dig.take {l : List Int} (h : Dig l) (k : Nat) : Dig (l.take k) := fun x hx => h x (List.mem_of_mem_take hx)
theorem Dig.drop {l : List Int} (h : Dig l) (k : Nat) : Dig (l.drop k) := fun x hx => h x (List.mem_of_mem_drop hx)
theorem Dig.at {l : List Int} (h : Dig l) {k : Nat} {d : Int} (hk : l[k]? = some d) : d = 0 ∨ d = 1 := h d (List.mem_of_getElem? hk)
theorem Canon.nil : Canon [] := .inl rfl
/-- What numbers a slice of int has; its block is one of int. -/
structure DigsIn (w : World) (p : Option Addr) (l : List Int) : Prop where
  at' : ∀ (i : Nat) (x : Int), l[i]? = some x → ∃ b o, p = some ⟨b, o, none⟩ ∧ w.cell? ⟨b, o + i, none⟩ = some (.int .i64 x)
  typ : ∀ a, p = some a → ∃ cur fz, w.heap[a.block]? = some (.cells cur 3 fz)
theorem DigsIn.below {w w' : World} {p : Option Addr} {l : List Int} (h : DigsIn w p l) (hb : Below w.heap.size w w') : DigsIn w' p l :=
  ⟨((⟨h.at'⟩ : IntsIn w p l).below hb).at', fun a e => by
    obtain ⟨cur, fz, hh⟩ := h.typ a e
    exact ⟨cur, fz, (hb.block a.block (Array.getElem?_eq_some_iff.1 hh).1).trans hh⟩⟩
theorem DigsIn.take {w : World} {p : Option Addr} {l : List Int} (h : DigsIn w p l) (k : Nat) : DigsIn w p (l.take k) := ⟨fun i r hr => h.at' i r (by
  rw [List.getElem?_take] at hr
  split at hr
  · exact hr
  · cases hr), h.typ⟩
/-- A slice of digits: a number, without noughts at the end. -/
def Bits (w : World) (v : Value) (n : Nat) : Prop := ∃ p l cap, v = .slice p l.length cap ∧ l.length ≤ cap ∧ l.length ≤ 1000 ∧ (p = none → l = [] ∧ cap = 0) ∧ DigsIn w p l ∧ Dig l ∧ Canon l ∧ valD l = n
theorem Bits.below {w w' : World} {v : Value} {n : Nat} (h : Bits w v n) (hb : Below w.heap.size w w') : Bits w' v n := by
  obtain ⟨p, l, cap, h1, h2, h3, h4, h5, h6⟩ := h
  exact ⟨p, l, cap, h1, h2, h3, h4, h5.below hb, h6⟩
theorem Bits.rex {L : List Nat} {w w' : World} {v : Value} {n : Nat} (h : Bits w v n) (hr : Rex L w w') (hL : L = []) : Bits w' v n := by subst hL; exact h.below hr.below
theorem Bits.drew {w : World} {v : Value} {n : Nat} (h : Bits w v n) : Bits w.drew v n := by
  obtain ⟨p, l, cap, h1, h2, h3, h4, h5, h6⟩ := h
  exact ⟨p, l, cap, h1, h2, h3, h4, ⟨h5.at', h5.typ⟩, h6⟩
theorem Bits.zero (w : World) : Bits w (.slice none 0 0) 0 := ⟨none, [], 0, rfl, by simp, by simp, fun _ => ⟨rfl, rfl⟩, ⟨fun i x h => by simp at h, fun a e => by cases e⟩, Dig.nil, Canon.nil, rfl⟩
end Go.Proofs.YtbanjolokkghdaaGreatDoor
namespace Go.Proofs.YtbanjolokkghdaaGreatDoor
open Go.RowKit
theorem below_append {w0 W w1 : World} {B : Nat} {e : TypeId} {s k : Nat} {v : Value} {xs : List Value} {tmp : Obj} (hW : Below B w0 W) (hB : B ≤ W.heap.size) (hrow : W.ownsRow B e s v k xs) (hgr : (W.alloc tmp).grownBy w1 v.ownBlock) : Below B w0 w1 := by
  refine (hW.alloc hB tmp).grown hgr (by simp; omega) fun j ej => ?_
  rcases hrow.2 with ⟨rfl, _⟩ | ⟨g, cap, cur, rfl, hb, _, _⟩
  · simp [Value.ownBlock] at ej
  · obtain rfl : g = j := by simpa [Value.ownBlock] using ej
    exact hb
def sizeRel (u0 : Nat) (w : World) (a' : Act) (W : World) : Prop :=
  Below w.heap.size w W ∧ ∃ (l : List Int) (u : Nat) (v : Value), (∃ x : Nat → Value, a' = { tmps := #[.int .u64 (u : Int), x 1, x 2, v, x 4, x 5, x 6, x 7, x 8, x 9, x 10, x 11, x 12, x 13, x 14], defers := [] }) ∧
    W.ownsRow w.heap.size 3 1 v l.length (l.map (Value.int .i64)) ∧ Dig l ∧ valD l + 2 ^ l.length * u = u0 ∧ l.length ≤ 64 ∧ u < 2 ^ (64 - l.length) ∧ (u = 0 → Canon l)
def powRel (n : Nat) (w : World) (a' : Act) (W : World) : Prop :=
  Below w.heap.size w W ∧ ∃ (k : Nat) (v : Value), (∃ x : Nat → Value, a' = { tmps := #[.int .i64 (n : Int), x 1, x 2, v, .int .i64 (k : Int), x 5, x 6, x 7, x 8, x 9, x 10, x 11, x 12, x 13, x 14, x 15], defers := [] }) ∧
    W.ownsRow w.heap.size 3 1 v k ((List.replicate k (0 : Int)).map (Value.int .i64)) ∧ k ≤ n
end Go.Proofs.YtbanjolokkghdaaGreatDoor
namespace Go.Proofs.YtbanjolokkghdaaGreatDoor
open Go.RowKit
theorem DigsIn.taken {w : World} {p : Option Addr} {l : List Int} (h : DigsIn w p l) (k : Nat) : DigsIn w p (l.take k) := h.take k
def trimRel (w : World) (b o cap : Nat) (l : List Int) (a' : Act) (W : World) : Prop :=
  Below w.heap.size w W ∧ ∃ k : Nat, (∃ u : Nat → Value, a' = { tmps := #[.slice (some ⟨b, o, none⟩) l.length cap, u 1, u 2, .int .i64 (k : Int), u 4, u 5, u 6, u 7, u 8, u 9, u 10, u 11, u 12, u 13, u 14, u 15, u 16, u 17, u 18, u 19, u 20], defers := [] }) ∧ k ≤ l.length ∧ valD (l.take k) = valD l
end Go.Proofs.YtbanjolokkghdaaGreatDoor
namespace Go.Proofs.YtbanjolokkghdaaGreatDoor
open Go.RowKit
def plusRel (w : World) (p q : Option Addr) (a b : List Int) (ca cb : Nat) (a' : Act) (W : World) : Prop :=
  Below w.heap.size w W ∧ ∃ (l : List Int) (c : Int) (v : Value), (∃ u : Nat → Value, a' = { tmps := #[.slice p a.length ca, .slice q b.length cb, u 2, u 3, u 4, v, .int .i64 c, .int .i64 (l.length : Int), u 8, u 9, u 10, u 11, u 12, u 13, u 14, u 15, u 16, u 17, u 18, u 19, u 20, u 21, u 22, u 23, u 24, u 25, u 26, u 27, u 28, u 29, u 30, u 31, u 32, u 33, u 34, u 35, u 36, u 37, u 38, u 39, u 40, u 41, u 42, u 43, u 44, u 45, u 46, u 47, u 48, u 49, u 50, u 51, u 52, u 53], defers := [] }) ∧
    W.ownsRow w.heap.size 3 1 v l.length (l.map (Value.int .i64)) ∧ Dig l ∧ (0 ≤ c ∧ c ≤ 1) ∧ valD l + 2 ^ l.length * c.toNat = valD (a.take l.length) + valD (b.take l.length) ∧
    ((l.length : Int) + c ≤ a.length + 1 ∨ (l.length : Int) + c ≤ b.length + 1) ∧ (l.length = 0 ∨ l.length ≤ a.length ∨ l.length ≤ b.length ∨ 2 ^ (l.length - 1) ≤ valD l)
end Go.Proofs.YtbanjolokkghdaaGreatDoor
namespace Go.Proofs.YtbanjolokkghdaaGreatDoor
open Go.RowKit
def mnsRel (w : World) (p q : Option Addr) (a b : List Int) (ca cb : Nat) (a' : Act) (W : World) : Prop :=
  Below w.heap.size w W ∧ ∃ (l : List Int) (c : Int) (v : Value), (∃ u : Nat → Value, a' = { tmps := #[.slice p a.length ca, .slice q b.length cb, u 2, u 3, u 4, v, .int .i64 c, .int .i64 (l.length : Int), u 8, u 9, u 10, u 11, u 12, u 13, u 14, u 15, u 16, u 17, u 18, u 19, u 20, u 21, u 22, u 23, u 24, u 25, u 26, u 27, u 28, u 29, u 30, u 31, u 32, u 33, u 34, u 35, u 36, u 37, u 38, u 39, u 40], defers := [] }) ∧
    W.ownsRow w.heap.size 3 1 v l.length (l.map (Value.int .i64)) ∧ Dig l ∧ (0 ≤ c ∧ c ≤ 1) ∧ valD l + valD (b.take l.length) = valD (a.take l.length) + 2 ^ l.length * c.toNat ∧ l.length ≤ a.length
end Go.Proofs.YtbanjolokkghdaaGreatDoor
namespace Go.Proofs.YtbanjolokkghdaaGreatDoor
open Go.RowKit
structure CellAt (w : World) (g o : Nat) (v : Value) : Prop where
  cell : w.cell? ⟨g, o, none⟩ = some v
theorem CellAt.rex {L : List Nat} {w w' : World} {g o : Nat} {v : Value} (h : CellAt w g o v) (hr : Rex L w w') (hL : L = []) : CellAt w' g o v := by
  subst hL
  exact ⟨(hr.below.cell (p := ⟨g, o, none⟩) (cell_lt h.cell)).trans h.cell⟩
theorem CellAt.drew {w : World} {g o : Nat} {v : Value} (h : CellAt w g o v) : CellAt w.drew g o v := ⟨h.cell⟩
def lessRel (w : World) (p q : Option Addr) (a b : List Int) (ca cb : Nat) (a' : Act) (W : World) : Prop :=
  Below w.heap.size w W ∧ ∃ k : Nat, (∃ u : Nat → Value, a' = { tmps := #[.slice p a.length ca, .slice q b.length cb, u 2, u 3, u 4, .int .i64 ((k : Int) - 1), u 6, u 7, u 8, u 9, u 10, u 11, u 12, u 13, u 14, u 15, u 16, u 17, u 18, u 19, u 20, u 21, u 22, u 23, u 24, u 25, u 26, u 27, u 28, u 29, u 30, u 31, u 32, u 33, u 34, u 35, u 36, u 37, u 38, u 39, u 40], defers := [] }) ∧ k ≤ a.length ∧ a.drop k = b.drop k
end Go.Proofs.YtbanjolokkghdaaGreatDoor
