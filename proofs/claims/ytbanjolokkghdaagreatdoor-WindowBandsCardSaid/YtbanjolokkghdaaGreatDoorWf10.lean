/- Parts of the proof that follows: Layer seg: is. | Layer seg: what a segment is; is, told. | Layer seg: linePart, walked. | Layer seg: rawPart, walked. -/
import Derived.Test.YtbanjolokkghdaaGreatDoorWf9
set_option linter.unusedSimpArgs false
set_option linter.unusedVariables false
namespace Go.Proofs.YtbanjolokkghdaaGreatDoor
open Go.RowKit
end Go.Proofs.YtbanjolokkghdaaGreatDoor
namespace Go.Proofs.YtbanjolokkghdaaGreatDoor
open Go.RowKit
/-- What a segment says. -/
structure SegT where
  K : Int
  runs : List RunT
  A : Int
  R : Int
  n : Int
  d : Int
  raw : List Int
  E : Int
def segA (s : SegT) (p q : Option Addr) (cap vc : Nat) : Array Value := #[.int .i64 s.K, .slice p s.runs.length cap, .int .i64 s.A, .int .i64 s.R, .int .i64 s.n, .int .i64 s.d, .slice q s.raw.length vc, .int .i64 s.E]
structure SegIn (w : World) (s : SegT) (p q : Option Addr) : Prop where
  runs : RunsIn w p s.runs
  raw : IntsIn w q s.raw
  fewR : s.runs.length ≤ 300
  fewV : s.raw.length ≤ 300
theorem SegIn.below {w w' : World} {s : SegT} {p q : Option Addr} (h : SegIn w s p q) (hb : Below w.heap.size w w') : SegIn w' s p q := ⟨h.runs.below hb, h.raw.below hb, h.fewR, h.fewV⟩
def firstT (l : List RunT) : Int := atV l 0
def lastT (l : List RunT) : Int := atV l (cnt l - 1)
def lineIsB (s : SegT) : Bool := isLine s.A s.R s.n s.d && endsOk s.A s.R s.n s.d 0 (lastT s.runs - firstT s.runs) && s.raw.isEmpty
def kindB (s : SegT) : Bool :=
  if s.K = 1 then s.n == 0 && lineIsB s
  else if s.K = 2 then s.n != 0 && (s.R == 0 && lineIsB s)
  else if s.K = 3 then s.R != 0 && lineIsB s
  else if s.K = 4 then lineZ s.A s.R s.n s.d && (s.raw.length : Int) == cnt s.runs && s.raw.all isBack
  else false
def segB (s : SegT) : Bool := risesB s.runs && (decide (0 ≤ s.E) && decide (s.E ≤ 1099511627776) && kindB s)

end Go.Proofs.YtbanjolokkghdaaGreatDoor
namespace Go.Proofs.YtbanjolokkghdaaGreatDoor
open Go.RowKit
theorem RunsIn.alloc {w : World} {p : Option Addr} {l : List RunT} (h : RunsIn w p l) (o : Obj) : RunsIn (w.alloc o) p l := h.below ((Below.refl _ _).alloc (Nat.le_refl _) o)
theorem RunsIn.calls {w w' : World} {p : Option Addr} {l : List RunT} (h : RunsIn w p l) (hb : Below w.heap.size w w') : RunsIn w' p l := h.below hb
theorem RunsIn.set {w : World} {g x o i : Nat} {v : Value} {l : List RunT} (h : RunsIn w (some ⟨g, x, none⟩) l) (hne : g ≠ o) : RunsIn (w.setCell ⟨o, i, none⟩ v) (some ⟨g, x, none⟩) l := ⟨fun k r hr => by
  obtain ⟨b, y, e, h1, h2, h3⟩ := h.at' k r hr
  cases e
  have hc : ∀ z, (w.setCell ⟨o, i, none⟩ v).cell? ⟨g, z, none⟩ = w.cell? ⟨g, z, none⟩ := by
    intro z
    have := heap_setCell_other w ⟨o, i, none⟩ g v hne
    simp only [World.cell?, this]
  exact ⟨g, x, rfl, (hc _).trans h1, (hc _).trans h2, (hc _).trans h3⟩⟩
def lpRel (K A R n d E : Int) (p q : Option Addr) (len cap m vc : Nat) (w : World) (i j x lo hi : Int) (P : List RunT) (SS : Nat → Int) (g o : Nat) (a' : Act) (W : World) : Prop :=
  Below w.heap.size w W ∧ Blk W w.heap.size #[.int .i64 K, .slice p len cap, .int .i64 A, .int .i64 R, .int .i64 n, .int .i64 d, .slice q m vc, .int .i64 E] 113 ∧ Blk W (w.heap.size + 1) #[.int .i64 0, .int .i64 0, .int .i64 0, .int .i64 0, .int .u64 0] 271 ∧ RunsIn W (some ⟨g, 0, none⟩) P ∧ ∃ k : Nat, (∃ u : Nat → Value, a' = { tmps := #[u 0, u 1, u 2, .pointer (some ⟨w.heap.size, 0, none⟩), u 4, u 5, .pointer (some ⟨w.heap.size + 1, 0, none⟩), .int .i64 x, u 8, u 9, u 10, u 11, u 12, u 13, u 14, .pointer (some ⟨o, 0, none⟩), u 16, u 17, u 18, u 19, u 20, u 21, u 22, u 23, u 24, u 25, u 26, u 27, u 28, u 29, u 30, u 31, u 32, u 33, u 34, u 35, u 36, u 37, u 38, u 39, u 40, u 41, u 42, u 43, u 44, u 45, u 46, u 47, u 48, u 49, u 50, u 51, u 52, u 53, u 54, u 55, u 56, u 57, u 58, u 59, u 60, u 61, u 62, u 63, u 64, u 65, u 66, u 67, u 68, u 69, u 70, u 71, u 72, u 73, .slice (some ⟨g, 0, none⟩) P.length P.length, .int .i64 (P.length : Int), .int .i64 (k : Int), u 77, u 78, u 79, u 80, u 81, u 82, u 83, u 84, u 85, u 86, u 87, u 88, u 89, u 90, u 91, u 92, u 93, u 94, u 95, u 96, u 97, u 98, u 99, u 100, u 101, u 102, u 103, u 104], defers := [] }) ∧ k ≤ P.length ∧ Blk W o #[.int .i64 (j - i), .int .i64 lo, .int .i64 hi, .int .i64 (hiW (SS k)), .int .u64 (loW (SS k))] 271
end Go.Proofs.YtbanjolokkghdaaGreatDoor
namespace Go.Proofs.YtbanjolokkghdaaGreatDoor
open Go.RowKit
theorem IntsIn.part {w : World} {vb vo i n : Nat} {raw : List Int} (h : IntsIn w (some ⟨vb, vo, none⟩) raw) (k : Nat) (v : Value) (hv : (((raw.drop i).take n).map (Value.int .i64))[k]? = some v) : w.cell? ((⟨vb, vo + i, none⟩ : Addr).add k) = some v := by
  have hadd : (⟨vb, vo + i, none⟩ : Addr).add k = ⟨vb, vo + i + k, none⟩ := by unfold Addr.add; split <;> simp_all
  rw [hadd]
  simp only [List.getElem?_map, Option.map_eq_some_iff] at hv
  obtain ⟨x, hx, rfl⟩ := hv
  have hx' : raw[i + k]? = some x := by
    rw [List.getElem?_take] at hx
    split at hx
    · rwa [List.getElem?_drop] at hx
    · cases hx
  obtain ⟨b, y, e, hc⟩ := h.at' _ x hx'
  cases e
  rw [Nat.add_assoc]; exact hc
def rpRel (w : World) (i j : Nat) (lo hi : Int) (V : List Int) (SS : Nat → Int) (o : Nat) (a' : Act) (W : World) : Prop :=
  Below w.heap.size w W ∧ Blk W (w.heap.size + 1) #[.int .i64 0, .int .i64 0, .int .i64 0, .int .i64 0, .int .u64 0] 271 ∧ Blk W (w.heap.size + 1 + 1) (V.map (Value.int .i64)).toArray 2 ∧ ∃ k : Nat, (∃ u : Nat → Value, a' = { tmps := #[u 0, u 1, u 2, u 3, u 4, u 5, .pointer (some ⟨w.heap.size + 1, 0, none⟩), u 7, .pointer (some ⟨o, 0, none⟩), u 9, u 10, u 11, u 12, u 13, u 14, u 15, u 16, u 17, u 18, u 19, u 20, u 21, u 22, u 23, u 24, u 25, u 26, u 27, u 28, u 29, u 30, .slice (some ⟨w.heap.size + 1 + 1, 0, none⟩) V.length V.length, .int .i64 (V.length : Int), .int .i64 (k : Int), u 34, u 35, u 36, u 37, u 38, u 39, u 40, u 41, u 42, u 43, u 44, u 45, u 46, u 47], defers := [] }) ∧ k ≤ V.length ∧ Blk W o #[.int .i64 ((j : Int) - (i : Int)), .int .i64 lo, .int .i64 hi, .int .i64 (hiW (SS k)), .int .u64 (loW (SS k))] 271
end Go.Proofs.YtbanjolokkghdaaGreatDoor
