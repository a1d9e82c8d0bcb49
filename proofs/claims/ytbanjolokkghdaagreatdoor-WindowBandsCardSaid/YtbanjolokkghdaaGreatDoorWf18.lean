/- Parts of the proof that follows: The document's lines: At told. | Rows of a call's own, kept by steps that make memory. No condition. | The document's runs of times, plainly: that runs may be is just that their times rise, and that they are those of their times. No condition. | The document's times of runs: Times. | The document's times: Rising. -/
import Derived.Test.YtbanjolokkghdaaGreatDoorWf17
set_option linter.unusedSimpArgs false
set_option linter.unusedVariables false
namespace Go.Proofs.YtbanjolokkghdaaGreatDoor
open Go.RowKit
end Go.Proofs.YtbanjolokkghdaaGreatDoor
namespace Go.Proofs.YtbanjolokkghdaaGreatDoor
open Go.RowKit
/-- A row of the call's own. -/
structure OwnR (W : World) (B : Nat) (e : TypeId) (s : Nat) (v : Value) (n : Nat) (xs : List Value) : Prop where
  own : W.ownsRow B e s v n xs
theorem OwnR.below {w w' : World} {B : Nat} {e : TypeId} {s : Nat} {v : Value} {n : Nat} {xs : List Value} (h : OwnR w B e s v n xs) (hb : Below w.heap.size w w') : OwnR w' B e s v n xs := by
  obtain ⟨h1, h2⟩ := h.own
  refine ⟨h1, ?_⟩
  rcases h2 with h2 | ⟨g, cap, cur, hv, hg, hh, rest⟩
  · exact .inl h2
  · exact .inr ⟨g, cap, cur, hv, hg, (hb.block g (Array.getElem?_eq_some_iff.1 hh).1).trans hh, rest⟩
theorem OwnR.rex {L : List Nat} {w w' : World} {B : Nat} {e : TypeId} {s : Nat} {v : Value} {n : Nat} {xs : List Value} (h : OwnR w B e s v n xs) (hr : Rex L w w') (hL : L = []) : OwnR w' B e s v n xs := by subst hL; exact h.below hr.below
theorem OwnR.drew {w : World} {B : Nat} {e : TypeId} {s : Nat} {v : Value} {n : Nat} {xs : List Value} (h : OwnR w B e s v n xs) : OwnR w.drew B e s v n xs := ⟨h.own⟩
theorem OwnR.mono {w : World} {B B' : Nat} {e : TypeId} {s : Nat} {v : Value} {n : Nat} {xs : List Value} (h : OwnR w B e s v n xs) (hB : B' ≤ B) : OwnR w B' e s v n xs := by
  obtain ⟨h1, h2⟩ := h.own
  refine ⟨h1, ?_⟩
  rcases h2 with h2 | ⟨g, cap, cur, hv, hg, rest⟩
  · exact .inl h2
  · exact .inr ⟨g, cap, cur, hv, Nat.le_trans hB hg, rest⟩
theorem OwnR.nil (W : World) (B : Nat) (e : TypeId) (s : Nat) : OwnR W B e s (.slice none 0 0) 0 [] := ⟨World.ownsRow_nil _ _ _ _⟩
/-- A block of another type is none of the row's. -/
theorem Blk.grown {W w1 : World} {B g : Nat} {cs : Array Value} {t e : TypeId} {s n : Nat} {v : Value} {xs : List Value} {o : Obj} (h : Blk W g cs t) (hown : W.ownsRow B e s v n xs) (ht : t ≠ e) (hgr : (W.alloc o).grownBy w1 v.ownBlock) : Blk w1 g cs t := by
  have hlt := h.lt
  have h' : (W.alloc o).heap[g]? = some (.cells cs t (0, 0)) := (h.alloc o : Blk (W.alloc o) g cs t)
  refine (hgr.block g (by simp; omega) fun e1 => ?_).trans h'
  rcases hown.2 with ⟨rfl, _⟩ | ⟨g', cap, cur, rfl, _, hb, _⟩
  · simp [Value.ownBlock] at e1
  · have : g = g' := by simpa [Value.ownBlock] using e1
    subst this
    unfold Blk at h
    rw [h] at hb
    injection hb with hb
    injection hb with _ h2 _
    exact ht h2
/-- What a row of one cell each reads as. -/
theorem OwnR.form {W : World} {B n : Nat} {e : TypeId} {s : Nat} {v : Value} {xs : List Value} (h : OwnR W B e s v n xs) : ∃ p cap, v = .slice p n cap ∧ n ≤ cap ∧ cap ≤ 9223372036854775807 ∧ (p = none → n = 0 ∧ cap = 0) ∧ (∀ a, p = some a → a = ⟨a.block, 0, none⟩ ∧ B ≤ a.block) := by
  rcases h.own.2 with ⟨rfl, h0⟩ | ⟨g, cap, cur, rfl, hg, hb, hn, hmx, _⟩
  · subst h0; exact ⟨none, 0, rfl, Nat.le_refl _, by omega, fun _ => ⟨rfl, rfl⟩, fun a e => by cases e⟩
  · exact ⟨some ⟨g, 0, none⟩, cap, rfl, hn, by unfold maxLen at hmx; omega, (fun e => by cases e), fun a e => by cases e; exact ⟨rfl, hg⟩⟩
theorem OwnR.ints {W : World} {B n : Nat} {e : TypeId} {p : Option Addr} {cap : Nat} {l : List Int} (h : OwnR W B e 1 (.slice p n cap) n (l.map (Value.int .i64))) : IntsIn W p l := by
  rcases h.own.2 with ⟨h1, h0⟩ | ⟨g, cap', cur, h1, hg, hb, hn, hmx, _, ht⟩
  · have := h.own.1
    simp at this
    subst h0
    have : l = [] := List.length_eq_zero_iff.1 this
    subst this
    exact ⟨fun i x hx => by simp at hx⟩
  · injection h1 with h2 _ _
    subst h2
    exact cloneInt_in hb (by simpa using ht)
theorem OwnR.runs {W : World} {B n : Nat} {e : TypeId} {p : Option Addr} {cap : Nat} {l : List RunT} (h : OwnR W B e 3 (.slice p n cap) n (flatCells l)) : RunsIn W p l := by
  rcases h.own.2 with ⟨h1, h0⟩ | ⟨g, cap', cur, h1, hg, hb, hn, hmx, _, ht⟩
  · have := h.own.1
    rw [length_flatCells] at this
    subst h0
    have : l = [] := List.length_eq_zero_iff.1 (by omega)
    subst this
    exact ⟨fun i x hx => by simp at hx⟩
  · injection h1 with h2 _ _
    subst h2
    exact cloneRun_in hb ht
/-- What numbers a slice has, kept by steps that make memory. -/
structure IntsP (w : World) (b o : Nat) (l : List Int) : Prop where
  ints : IntsIn w (some ⟨b, o, none⟩) l
theorem IntsP.below {w w' : World} {b o : Nat} {l : List Int} (h : IntsP w b o l) (hb : Below w.heap.size w w') : IntsP w' b o l := ⟨h.ints.below hb⟩
theorem IntsP.rex {L : List Nat} {w w' : World} {b o : Nat} {l : List Int} (h : IntsP w b o l) (hr : Rex L w w') (hL : L = []) : IntsP w' b o l := by subst hL; exact h.below hr.below
theorem IntsP.drew {w : World} {b o : Nat} {l : List Int} (h : IntsP w b o l) : IntsP w.drew b o l := ⟨⟨h.ints.at'⟩⟩
theorem IntsP.cellAt {w : World} {b o : Nat} {l : List Int} (h : IntsP w b o l) {i : Nat} {x : Int} (hx : l[i]? = some x) : w.cell? ⟨b, o + i, none⟩ = some (.int .i64 x) := by
  obtain ⟨b', o', e, h1⟩ := h.ints.at' i x hx
  cases e
  exact h1
end Go.Proofs.YtbanjolokkghdaaGreatDoor
namespace Go.Proofs.YtbanjolokkghdaaGreatDoor
open Go.RowKit

instance : DecidableEq RunT := fun a b =>
  if h : a.f = b.f ∧ a.s = b.s ∧ a.c = b.c then isTrue (by obtain ⟨a1, a2, a3⟩ := a; obtain ⟨b1, b2, b3⟩ := b; obtain ⟨h1, h2, h3⟩ := h; simp at h1 h2 h3; subst h1; subst h2; subst h3; rfl)
  else isFalse (fun e => h (by subst e; exact ⟨rfl, rfl, rfl⟩))
/-- How many more times follow in the same step. -/
def extn (s p : Int) : List Int → Nat
  | [] => 0
  | t :: l => if t - p = s then extn s t l + 1 else 0
/-- The runs of times: from each first one on as far as it goes. -/
def ofL : List Int → List RunT
  | [] => []
  | [t] => [⟨t, 0, 1⟩]
  | a :: b :: l => ⟨a, b - a, ((extn (b - a) b l + 2 : Nat) : Int)⟩ :: ofL (l.drop (extn (b - a) b l))
termination_by l => l.length
decreasing_by simp; omega
/-- Times that may be. -/
structure Rising (t : List Int) : Prop where
  up : t.Pairwise (· < ·)
  lo : ∀ x, x ∈ t → 0 ≤ x ∧ x ≤ 281474976710656
theorem Rising.tail {a : Int} {t : List Int} (h : Rising (a :: t)) : Rising t := ⟨(List.pairwise_cons.1 h.up).2, fun x hx => h.lo x (by simp [hx])⟩
theorem Rising.drop {t : List Int} (h : Rising t) (k : Nat) : Rising (t.drop k) := ⟨h.up.sublist (List.drop_sublist k t), fun x hx => h.lo x (List.mem_of_mem_drop hx)⟩
/-- May runs be told in times, one by one? -/
def fitR (r : RunT) : Bool := decide (1 ≤ r.c) && decide (r.c ≤ 256) && decide (0 ≤ r.s) && decide (r.s ≤ 281474976710656) && decide (0 ≤ r.f) && decide (r.f ≤ 281474976710656)
def fitL (l : List RunT) : Bool := l.all fitR && decide (cnt l ≤ 256)
def timesG (l : List RunT) : List Int := if fitL l then timesL l else []
def risingB (t : List Int) : Bool := decide (1 ≤ t.length) && decide (t.length ≤ 256) && decide (t.Pairwise (· < ·)) && t.all fun x => decide (0 ≤ x) && decide (x ≤ 281474976710656)
def rightR (l : List RunT) : Bool := risingB (timesG l) && decide (ofL (timesG l) = l)
end Go.Proofs.YtbanjolokkghdaaGreatDoor
namespace Go.Proofs.YtbanjolokkghdaaGreatDoor
open Go.RowKit
def tiRel (w : World) (p : Option Addr) (l : List RunT) (cap : Nat) (a' : Act) (W : World) : Prop :=
  Below w.heap.size w W ∧ ∃ (i : Nat) (T : List Int) (v : Value), (∃ u : Nat → Value, a' = { tmps := #[.slice p l.length cap, u 1, .slice none 0 0, v, .int .i64 (i : Int), u 5, u 6, u 7, u 8, u 9, u 10, u 11, u 12, u 13, u 14, u 15, u 16, u 17, u 18, u 19, u 20, u 21, u 22, u 23, u 24, u 25, u 26, u 27, u 28, u 29, u 30, u 31, u 32, u 33, u 34, u 35, u 36, u 37, u 38, u 39, u 40, u 41, u 42, u 43, u 44, u 45, u 46, u 47, u 48, u 49, u 50, u 51, u 52, u 53, u 54, u 55, u 56, u 57, u 58, u 59, u 60, u 61, u 62, u 63, u 64, u 65, u 66, u 67, u 68, u 69], defers := [] }) ∧
    OwnR W w.heap.size 2 1 v T.length (T.map (Value.int .i64)) ∧ T = timesL (l.take i) ∧ i ≤ l.length ∧ (∀ r, r ∈ l.take i → fitR r = true) ∧ cnt (l.take i) ≤ 256
def tjRel (w : World) (p : Option Addr) (l : List RunT) (cap i : Nat) (T : List Int) (r : RunT) (g : Nat) (a' : Act) (W : World) : Prop :=
  Below w.heap.size w W ∧ Blk W g #[.int .i64 r.f, .int .i64 r.s, .int .i64 r.c] 94 ∧ ∃ (k : Nat) (T1 : List Int) (v : Value), (∃ u : Nat → Value, a' = { tmps := #[.slice p l.length cap, u 1, .slice none 0 0, v, .int .i64 (i : Int), .pointer (some ⟨g, 0, none⟩), .int .i64 (k : Int), u 7, u 8, u 9, u 10, u 11, u 12, u 13, u 14, u 15, u 16, u 17, u 18, u 19, u 20, u 21, u 22, u 23, u 24, u 25, u 26, u 27, u 28, u 29, u 30, u 31, u 32, u 33, u 34, u 35, u 36, u 37, u 38, u 39, u 40, u 41, u 42, u 43, u 44, u 45, u 46, u 47, u 48, u 49, u 50, u 51, u 52, u 53, u 54, u 55, u 56, u 57, u 58, u 59, u 60, u 61, u 62, u 63, u 64, u 65, u 66, u 67, u 68, u 69], defers := [] }) ∧
    OwnR W w.heap.size 2 1 v T1.length (T1.map (Value.int .i64)) ∧ T1 = T ++ (List.range k).map (fun (j : Nat) => r.f + r.s * (j : Int)) ∧ (k : Int) ≤ r.c
end Go.Proofs.YtbanjolokkghdaaGreatDoor
namespace Go.Proofs.YtbanjolokkghdaaGreatDoor
open Go.RowKit
/-- The first n are times that may be, one above the other. -/
structure UpTo (T : List Int) (n : Nat) : Prop where
  lo : ∀ (k : Nat) (x : Int), k < n → T[k]? = some x → 0 ≤ x ∧ x ≤ 281474976710656
  up : ∀ (k : Nat) (x y : Int), k + 1 < n → T[k]? = some x → T[k + 1]? = some y → x < y
theorem UpTo.pair : ∀ {T : List Int}, UpTo T T.length → T.Pairwise (· < ·)
  | [], _ => List.Pairwise.nil
  | [a], _ => by simp
  | a :: b :: l, h => by
    have ht : UpTo (b :: l) (b :: l).length := ⟨fun k x hk hx => h.lo (k + 1) x (by simp at hk ⊢; omega) (by simpa using hx), fun k x y hk hx hy => h.up (k + 1) x y (by simp at hk ⊢; omega) (by simpa using hx) (by simpa using hy)⟩
    have ih := ht.pair
    have hab : a < b := h.up 0 a b (by simp) (by simp) (by simp)
    refine List.pairwise_cons.2 ⟨fun c hc => ?_, ih⟩
    rcases List.mem_cons.1 hc with rfl | hc
    · exact hab
    · have := (List.pairwise_cons.1 ih).1 c hc; omega
def risRel (w : World) (b o cap : Nat) (T : List Int) (a' : Act) (W : World) : Prop :=
  Below w.heap.size w W ∧ ∃ (i : Nat), (∃ u : Nat → Value, a' = { tmps := #[.slice (some ⟨b, o, none⟩) T.length cap, u 1, .bool false, .int .i64 (i : Int), u 4, u 5, u 6, u 7, u 8, u 9, u 10, u 11, u 12, u 13, u 14, u 15, u 16, u 17, u 18, u 19, u 20, u 21, u 22, u 23, u 24, u 25, u 26, u 27, u 28, u 29, u 30, u 31, u 32, u 33, u 34, u 35, u 36, u 37, u 38, u 39, u 40, u 41, u 42, u 43, u 44, u 45], defers := [] }) ∧ i ≤ T.length ∧ UpTo T i
end Go.Proofs.YtbanjolokkghdaaGreatDoor
