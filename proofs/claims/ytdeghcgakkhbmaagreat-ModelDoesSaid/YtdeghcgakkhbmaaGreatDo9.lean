/- Parts of the proof that follows: A region that draws its order, in which one step writes into a block of the call's own, and what that block holds is told before and behind: the step may stand ahead of some that only read. No condition. | The laws of chapter 26: own. No condition. | A raw series and a model, plainly: which may be, what is told of some times. No condition. | Layer model: whether a number is between two, whether a point, whether a raw series may be. No condition. | The laws of chapter 28: a raw series in memory of its own. No condition but that its points can be read. | Reference 25: ends, Total. No condition but that there is one at least, or that they are few. | The document's segments: Kind, Right walked. | The document's segments: Right, Points told. | Reference 25: Total. No condition but that they are few. | Append to a row of one's own: the row stays in its block or is in a new one. No condition. | Reference 25: Bounds. No condition but that they are few. | The laws of chapter 28: a model in memory of its own. No condition but that it can be read. | References 13, 14, 18, 24: what a name, a bound, a scale, a time, a point may be; a segment's last time; which segment begins behind another. No condition but that the segments may be. -/
import Derived.Deep.RegionLaw
import Derived.Deep.AppendLies
import Derived.Deep.DrawnRows
import Derived.Test.YtdeghcgakkhbmaaGreatDo8
set_option linter.unusedSimpArgs false
set_option linter.unusedVariables false
namespace Go.Proofs.YtdeghcgakkhbmaaGreat
open Go.RowKit
section
variable {P : Program} {ops : Array Oper} {C : World → Prop} {X : List (Nat × Nat)} {a0 : Act} {n : Nat} {Q : Exit → Act → World → Prop}
end
end Go.Proofs.YtdeghcgakkhbmaaGreat
namespace Go.Proofs.YtdeghcgakkhbmaaGreat
open Go.RowKit
/-- A row in a block of its own. -/
def RowS (B : Nat) (e : TypeId) (n k : Nat) (news : List Value) : Spec := fun v w => ∃ g cap cur, v = .slice (some ⟨g, 0, none⟩) n cap ∧ B ≤ g ∧ Blk w g cur e ∧ n ≤ cap ∧ cur.toList.take k = news
theorem RowS.closed (B : Nat) (e : TypeId) (n k : Nat) (news : List Value) : Closed [] (RowS B e n k news) := fun _ _ _ hr ⟨g, c, cur, e1, h1, h, h2, h3⟩ => ⟨g, c, cur, e1, h1, h.rex hr (by simp), h2, h3⟩
/-- Points in a block of their own, or nil. -/
def PtS (B N : Nat) (l : List (Int × Int)) : Spec := fun v w => (v = .slice none 0 0 ∧ l = [] ∧ N = 0) ∨ RowS B 58 N (N * 2) (flatPts l) v w
theorem PtS.closed (B N : Nat) (l : List (Int × Int)) : Closed [] (PtS B N l) := fun _ _ _ hr h => by
  rcases h with h | h
  · exact .inl h
  · exact .inr (RowS.closed _ _ _ _ _ _ _ _ hr h)
def ownK (s : SegT) : SegT := ⟨s.K, s.runs.take 257, s.A, s.R, s.n, s.d, s.raw.take 257, s.E⟩
/-- A segment of one's own. -/
structure OwnSegK (W : World) (g : Nat) (r0 r : SegR) : Prop where
  says : r.s = ownK r0.s
  runs : RunsIn W r.p r.s.runs
  raw : IntsIn W r.q r.s.raw
  capV : r.s.raw.length ≤ r.vc
  farR : ∀ a, r.p = some a → g < a.block
  farV : ∀ a, r.q = some a → g < a.block
theorem OwnSegK.rex {W W' : World} {g : Nat} {r0 r : SegR} {L : List Nat} (h : OwnSegK W g r0 r) (hL : ∀ x, x ∈ L → x ≤ g) (hr : Rex L W W') : OwnSegK W' g r0 r := ⟨h.says, h.runs.rex1 hL h.farR hr, h.raw.rex1 hL h.farV hr, h.capV, h.farR, h.farV⟩
structure OwnToK (W : World) (g : Nat) (rows R : List SegR) (i : Nat) : Prop where
  len : R.length = rows.length
  rest : ∀ k, i ≤ k → R[k]? = rows[k]?
  own : ∀ k, k < i → ∀ r, R[k]? = some r → ∃ r0, rows[k]? = some r0 ∧ OwnSegK W g r0 r
theorem OwnToK.rex {W W' : World} {g i : Nat} {rows R : List SegR} {L : List Nat} (h : OwnToK W g rows R i) (hL : ∀ x, x ∈ L → x ≤ g) (hr : Rex L W W') : OwnToK W' g rows R i := ⟨h.len, h.rest, fun k hk r hR => by
  obtain ⟨r0, h1, h2⟩ := h.own k hk r hR
  exact ⟨r0, h1, h2.rex hL hr⟩⟩
theorem OwnToK.step {W : World} {g i : Nat} {rows R : List SegR} {r0 r1 : SegR} (h : OwnToK W g rows R i) (h0 : rows[i]? = some r0) (h1 : OwnSegK W g r0 r1) : OwnToK W g rows (R.set i r1) (i + 1) := ⟨by rw [List.length_set]; exact h.len, fun k hk => by rw [List.getElem?_set_ne (by omega)]; exact h.rest k (by omega), fun k hk r hR => by
  rw [List.getElem?_set] at hR
  split at hR
  · rename_i e
    subst e
    split at hR
    · injection hR with hR
      subst hR
      exact ⟨r0, h0, h1⟩
    · cases hR
  · exact h.own k (by omega) r hR⟩
structure PtRow (w : World) (B : Nat) (p : Option Addr) (l : List (Int × Int)) : Prop where
  at' : (p = none ∧ l = []) ∨ ∃ g cur k, p = some ⟨g, 0, none⟩ ∧ B ≤ g ∧ Blk w g cur 58 ∧ cur.toList.take k = flatPts l
theorem PtRow.pts {w : World} {B : Nat} {p : Option Addr} {l : List (Int × Int)} (h : PtRow w B p l) : PtsIn w p l := by
  rcases h.at' with ⟨rfl, rfl⟩ | ⟨g, cur, k, rfl, _, hb, ht⟩
  · exact ⟨fun i r hr => by simp at hr⟩
  · exact pts_in hb ht
theorem PtRow.keep {w w' : World} {B : Nat} {p : Option Addr} {l : List (Int × Int)} (h : PtRow w B p l) (hk : ∀ g cs, B ≤ g → Blk w g cs 58 → Blk w' g cs 58) : PtRow w' B p l := by
  rcases h.at' with h | ⟨g, cur, k, e, hB, hb, ht⟩
  · exact ⟨.inl h⟩
  · exact ⟨.inr ⟨g, cur, k, e, hB, hk g cur hB hb, ht⟩⟩
theorem PtRow.below {w w' : World} {B : Nat} {p : Option Addr} {l : List (Int × Int)} (h : PtRow w B p l) (hb : Below w.heap.size w w') : PtRow w' B p l := h.keep fun _ _ _ h => h.below hb
theorem PtRow.mono {w : World} {B B' : Nat} {p : Option Addr} {l : List (Int × Int)} (h : PtRow w B p l) (hB : B' ≤ B) : PtRow w B' p l := by
  rcases h.at' with h | ⟨g, cur, k, e, h1, hb, ht⟩
  · exact ⟨.inl h⟩
  · exact ⟨.inr ⟨g, cur, k, e, Nat.le_trans hB h1, hb, ht⟩⟩
theorem PtRow.setO {w : World} {B o : Nat} {p : Option Addr} {l : List (Int × Int)} (h : PtRow w B p l) (ho : o < B) (i : Nat) (v : Value) : PtRow (w.setCell ⟨o, i, none⟩ v) B p l := h.keep fun g _ hg h => h.setO (by omega) i v
/-- What holds, whatever is written into blocks below B. -/
def Lasts (B : Nat) (w : World) (F : World → Prop) : Prop := ∀ L W, (∀ x, x ∈ L → x < B) → Rex L w W → F W
theorem Lasts.now {B : Nat} {w : World} {F : World → Prop} (h : Lasts B w F) : F w := h [] w (fun x hx => by cases hx) (Rex.refl _ _)
theorem PtRow.rex {w w' : World} {B gS : Nat} {cs : Array Value} {p : Option Addr} {l : List (Int × Int)} (h : PtRow w B p l) (hS : Blk w gS cs 135) (hr : Rex [gS] w w') : PtRow w' B p l := h.keep fun g c _ hg => hg.rex hr (by
  simp
  rintro rfl
  unfold Blk at hg hS
  rw [hS] at hg
  injection hg with hg
  injection hg with _ h2 _
  revert h2
  decide)
theorem PtS.form {B N : Nat} {l : List (Int × Int)} {v : Value} {w : World} (h : PtS B N l v w) : ∃ p cap, v = .slice p N cap ∧ PtRow w B p l ∧ N ≤ cap := by
  rcases h with ⟨rfl, rfl, rfl⟩ | ⟨g, cap, cur, rfl, hg, hb, hc, ht⟩
  · exact ⟨none, 0, rfl, ⟨.inl ⟨rfl, rfl⟩⟩, Nat.le_refl _⟩
  · exact ⟨_, cap, rfl, ⟨.inr ⟨g, cur, _, rfl, hg, hb, ht⟩⟩, hc⟩
/-- A copy of runs, of numbers, in a block of its own. -/
def RunC (B K : Nat) (l : List RunT) : Spec := fun v w => ∃ p c, v = .slice p K c ∧ RunsIn w p l ∧ K ≤ c ∧ ∀ a, p = some a → B ≤ a.block
theorem RunC.closed (B K : Nat) (l : List RunT) : Closed [] (RunC B K l) := fun _ _ _ hr ⟨p, c, e, h, h2⟩ => ⟨p, c, e, h.rex hr rfl, h2⟩
def IntC (B K : Nat) (l : List Int) : Spec := fun v w => ∃ p c, v = .slice p K c ∧ IntsIn w p l ∧ K ≤ c ∧ ∀ a, p = some a → B ≤ a.block
theorem IntC.closed (B K : Nat) (l : List Int) : Closed [] (IntC B K l) := fun _ _ _ hr ⟨p, c, e, h, h2⟩ => ⟨p, c, e, h.below hr.below, h2⟩
def own26Rel (w : World) (nm9 : ByteArray) (ep fl la sc : Int) (pP : Option Addr) (capP N : Nat) (rows : List SegR) (pts : List (Int × Int)) (M gS capS : Nat) (a' : Act) (W : World) : Prop :=
  Below w.heap.size w W ∧ Blk W w.heap.size #[.string nm9, .int .i64 ep, .int .i64 fl, .int .i64 la, .int .i64 sc, .slice (some ⟨gS, 0, none⟩) M capS, .slice pP N capP] 79 ∧ Blk W (w.heap.size + 1) #[.string .empty, .int .i64 0, .int .i64 0, .int .i64 0, .int .i64 0, .slice none 0 0, .slice none 0 0] 79 ∧ PtRow W (w.heap.size + 1 + 1) pP pts ∧ ∃ (i : Nat) (cur : Array Value) (R : List SegR), Blk W gS cur 135 ∧ SegCells cur R ∧ OwnToK W gS rows R i ∧ (∃ u : Nat → Value, a' = { tmps := #[u 0, .pointer (some ⟨w.heap.size, 0, none⟩), .pointer (some ⟨w.heap.size + 1, 0, none⟩), u 3, u 4, u 5, u 6, u 7, u 8, u 9, u 10, u 11, u 12, u 13, u 14, u 15, u 16, u 17, u 18, u 19, u 20, u 21, u 22, u 23, u 24, u 25, u 26, u 27, u 28, u 29, u 30, u 31, .slice (some ⟨gS, 0, none⟩) M capS, .int .i64 (M : Int), .int .i64 (i : Int), u 35, u 36, u 37, u 38, u 39, u 40, u 41, u 42, u 43, u 44, u 45, u 46, u 47, u 48, u 49, u 50, u 51, u 52, u 53, u 54, u 55, u 56, u 57, u 58, u 59, u 60, u 61, u 62, u 63, u 64, u 65, u 66], defers := [] }) ∧ i ≤ M
def ownNRel (w : World) (nm9 : ByteArray) (ep fl la sc : Int) (pP : Option Addr) (capP N : Nat) (pts : List (Int × Int)) (a' : Act) (W : World) : Prop :=
  Below w.heap.size w W ∧ Blk W w.heap.size #[.string nm9, .int .i64 ep, .int .i64 fl, .int .i64 la, .int .i64 sc, .slice none 0 0, .slice pP N capP] 79 ∧ Blk W (w.heap.size + 1) #[.string .empty, .int .i64 0, .int .i64 0, .int .i64 0, .int .i64 0, .slice none 0 0, .slice none 0 0] 79 ∧ PtRow W (w.heap.size + 1 + 1) pP pts ∧ (∃ u : Nat → Value, a' = { tmps := #[u 0, .pointer (some ⟨w.heap.size, 0, none⟩), .pointer (some ⟨w.heap.size + 1, 0, none⟩), u 3, u 4, u 5, u 6, u 7, u 8, u 9, u 10, u 11, u 12, u 13, u 14, u 15, u 16, u 17, u 18, u 19, u 20, u 21, u 22, u 23, u 24, u 25, u 26, u 27, u 28, u 29, u 30, u 31, .slice none 0 0, .int .i64 0, .int .i64 0, u 35, u 36, u 37, u 38, u 39, u 40, u 41, u 42, u 43, u 44, u 45, u 46, u 47, u 48, u 49, u 50, u 51, u 52, u 53, u 54, u 55, u 56, u 57, u 58, u 59, u 60, u 61, u 62, u 63, u 64, u 65, u 66], defers := [] })
end Go.Proofs.YtdeghcgakkhbmaaGreat
namespace Go.Proofs.YtdeghcgakkhbmaaGreat
open Go.RowKit
/-- What a raw series says. -/
structure RawT where
  name : ByteArray
  eps : Int
  floor : Int
  last : Int
  scale : Int
  pts : List (Int × Int)
def ptB (p : Int × Int) : Bool := btw p.1 0 281474976710656 && btw p.2 (-2305843009213693952) 2305843009213693952
def rawPtsB (fl : Int) : Int → List (Int × Int) → Bool
  | _, [] => true
  | b, p :: l => (ptB p && (decide (fl ≤ p.1) && decide (b < p.1))) && rawPtsB fl p.1 l
def rawNumsB (r : RawT) : Bool := nameB r.name && (btw r.eps 0 1099511627776 && (btw r.scale (-40) 40 && (btw r.floor 0 281474976710656 && (btw r.last (-1) 281474976710656 && decide (r.pts.length ≤ 1024)))))
def rawB (r : RawT) : Bool := rawNumsB r && (rawPtsB r.floor (-1) r.pts && (r.pts.isEmpty || r.last == lastOr (-1) (r.pts.map (·.1))))
theorem rawPtsB_snoc (fl : Int) : ∀ (l : List (Int × Int)) (b : Int) (p : Int × Int), rawPtsB fl b (l ++ [p]) = (rawPtsB fl b l && (ptB p && (decide (fl ≤ p.1) && decide (lastOr b (l.map (·.1)) < p.1))))
  | [], b, p => by simp [rawPtsB, lastOr]
  | q :: l, b, p => by
    simp only [List.cons_append, rawPtsB, List.map_cons, lastOr]
    rw [rawPtsB_snoc fl l]
    simp only [Bool.and_assoc]
/-- The points of some times. -/
def someL (r : RawT) (a b : Int) : List (Int × Int) := r.pts.filter fun p => decide (a ≤ p.1) && decide (p.1 ≤ b)
def someV (r : RawT) (a b : Int) : List Int := (someL r a b).map (·.2)
end Go.Proofs.YtdeghcgakkhbmaaGreat
namespace Go.Proofs.YtdeghcgakkhbmaaGreat
open Go.RowKit
/-- a raw series as a value -/
def rawA (r : RawT) (p : Option Addr) (cap : Nat) : Array Value := #[.string r.name, .int .i64 r.eps, .int .i64 r.floor, .int .i64 r.last, .int .i64 r.scale, .slice p r.pts.length cap]
/-- behind so many points: may all be so far, and the time of the last one -/
def goR (r : RawT) (i : Nat) : Bool × Int := (rawNumsB r && rawPtsB r.floor (-1) (r.pts.take i), lastOr (-1) ((r.pts.take i).map (·.1)))
theorem goR_step (r : RawT) {i : Nat} {t v : Int} {ok : Bool} {ah : Int} (h : goR r i = (ok, ah)) (hi : r.pts[i]? = some (t, v)) : goR r (i + 1) = (ok && (ptB (t, v) && (decide (r.floor ≤ t) && decide (ah < t))), t) := by
  have e : r.pts.take (i + 1) = r.pts.take i ++ [(t, v)] := by rw [List.take_add_one, hi]; rfl
  unfold goR at h ⊢
  injection h with h1 h2
  rw [e, rawPtsB_snoc, List.map_append, List.map_cons, List.map_nil, lastOr_snoc, h2, ← h1, Bool.and_assoc]
theorem goR_end (r : RawT) {ok : Bool} {ah : Int} (h : goR r r.pts.length = (ok, ah)) : rawB r = (ok && (r.pts.isEmpty || r.last == ah)) := by
  unfold goR at h
  injection h with h1 h2
  rw [List.take_of_length_le (Nat.le_refl _)] at h1 h2
  unfold rawB
  rw [h2, ← h1, Bool.and_assoc]
theorem goR_zero (r : RawT) : goR r 0 = (nameB r.name && btw r.eps 0 1099511627776 && btw r.scale (-40) 40 && btw r.floor 0 281474976710656 && btw r.last (-1) 281474976710656 && decide ((r.pts.length : Int) ≤ 1024), -1) := by
  have e : decide ((r.pts.length : Int) ≤ 1024) = decide (r.pts.length ≤ 1024) := by congr 1; simp only [eq_iff_iff]; omega
  unfold goR rawNumsB
  rw [e]
  simp [rawPtsB, lastOr, Bool.and_assoc]
set_option maxRecDepth 100000 in
set_option maxHeartbeats 2000000 in
theorem c_mdBtw (n lo hi : Int) (w : World) : Calls Tryz.prog 69 #[.int .i64 n, .int .i64 lo, .int .i64 hi] w fun e w' => e = .returned (.bool (btw n lo hi)) ∧ Below w.heap.size w w' := by
  unfold btw
  go_enter Tryz.func69, Tryz.ntmps69
  go_upto_region 1 with (fail)
  refine wp_cutB w (Bz) ?_
  rintro W1 hW z2 hL
  refine wp_regS 9 15 hW hL ?_
  iterate 4 refine dA ?_
  iterate 3 refine gA ?_
  refine pA ?_
  refine dA ?_
  clear hW hL
  rintro W3 hW z4 hL
  simp only [ndR]
  intros
  repeat (rename GDet _ _ _ _ => hgd; clear hgd)
  simp only [ndS]
  refine wpList_nil ?_
  obtain ⟨-⟩ := hL
  go_wp2
  refine bodyPost_ret (by simp [results, Tryz.results69, go_sem]) rfl ⟨rfl, by exact belowAny⟩
set_option maxRecDepth 100000 in
set_option maxHeartbeats 2000000 in
theorem c_mdPoint (t v : Int) (w : World) : Calls Tryz.prog 74 #[.agg #[.int .i64 t, .int .i64 v]] w fun e w' => e = .returned (.bool (ptB (t, v))) ∧ Below w.heap.size w w' := by
  unfold ptB
  go_enter Tryz.func74, Tryz.ntmps74
  go_upto_region 1 with (fail)
  refine wp_cutB w (Bc w.heap.size #[.int .i64 t, .int .i64 v] 58 <| Bz) ?_
  rintro W1 hW z2 hL
  refine wp_regS 9 11 hW hL ?_
  iterate 2 refine dA ?_
  refine cA (fun W' hC => c_mdBtw t 0 281474976710656 W') ?_
  refine dA ?_
  iterate 2 refine gA ?_
  refine cG (fun hp hx W' hC => c_mdBtw v (-2305843009213693952) 2305843009213693952 W') ?_
  refine pA ?_
  refine dA ?_
  clear hW hL
  rintro W3 hW z4 hL
  simp only [ndR]
  intros
  repeat (rename GDet _ _ _ _ => hgd; clear hgd)
  simp only [ndS]
  refine wpList_nil ?_
  obtain ⟨⟨b1, yb1, k1, f1⟩, -⟩ := hL
  go_wp2
  refine bodyPost_ret (by simp [results, Tryz.results74, go_sem, k1, f1, yb1]) rfl ⟨rfl, by exact belowAny⟩
def crRel (w : World) (r : RawT) (p : Option Addr) (cap : Nat) (a' : Act) (W : World) : Prop :=
  Below w.heap.size w W ∧ Blk W w.heap.size #[.string r.name, .int .i64 r.eps, .int .i64 r.floor, .int .i64 r.last, .int .i64 r.scale, .slice p r.pts.length cap] 35 ∧ ∃ (i : Nat) (ok : Bool) (ah : Int), (∃ u : Nat → Value, a' = { tmps := #[.agg #[.string r.name, .int .i64 r.eps, .int .i64 r.floor, .int .i64 r.last, .int .i64 r.scale, .slice p r.pts.length cap], .pointer (some ⟨w.heap.size, 0, none⟩), .int .i64 0, .bool ok, .int .i64 ah, u 5, u 6, u 7, u 8, u 9, u 10, u 11, u 12, u 13, u 14, u 15, u 16, u 17, u 18, u 19, u 20, u 21, u 22, u 23, u 24, u 25, u 26, u 27, u 28, u 29, u 30, u 31, u 32, u 33, u 34, u 35, u 36, .slice p r.pts.length cap, .int .i64 (r.pts.length : Int), .int .i64 (i : Int), u 40, u 41, u 42, u 43, u 44, u 45, u 46, u 47, u 48, u 49, u 50, u 51, u 52, u 53, u 54, u 55, u 56, u 57, u 58, u 59, u 60, u 61, u 62, u 63, u 64, u 65, u 66, u 67, u 68, u 69, u 70, u 71, u 72, u 73, u 74, u 75, u 76, u 77], defers := [] }) ∧ i ≤ r.pts.length ∧ goR r i = (ok, ah)
set_option maxRecDepth 100000 in
set_option maxHeartbeats 2000000 in
theorem c_mdCheckRaw (r : RawT) (p : Option Addr) (cap : Nat) (w : World) (hp : PtsIn w p r.pts) (hl : r.pts.length ≤ 2000) :
    Calls Tryz.prog 32 #[.agg (rawA r p cap)] w fun e w' => e = .returned (.int .i64 (if rawB r = true then 0 else 380)) ∧ Below w.heap.size w w' := by
  unfold rawA
  obtain ⟨E, hE⟩ : ∃ E : Int, (if rawB r = true then 0 else 380) = E := ⟨_, rfl⟩
  rw [hE]
  replace hE := Lib.hid hE
  go_enter Tryz.func32, Tryz.ntmps32
  go_upto_region 1 with (fail)
  refine wp_cutB w (Bc w.heap.size #[.string r.name, .int .i64 r.eps, .int .i64 r.floor, .int .i64 r.last, .int .i64 r.scale, .slice p r.pts.length cap] 35 <| Bz) ?_
  rintro W1 hW z2 hL
  refine wp_regS 30 78 hW hL ?_
  iterate 2 refine dA ?_
  refine cA (fun W' hC => c_recName r.name W') ?_
  refine dA ?_
  iterate 2 refine gA ?_
  refine cG (fun hp hx W' hC => c_mdBtw r.eps 0 1099511627776 W') ?_
  refine pA ?_
  refine dA ?_
  iterate 2 refine gA ?_
  refine cG (fun hp hx W' hC => c_mdBtw r.scale (-40) 40 W') ?_
  refine pA ?_
  refine dA ?_
  iterate 2 refine gA ?_
  refine cG (fun hp hx W' hC => c_mdBtw r.floor 0 281474976710656 W') ?_
  refine pA ?_
  refine dA ?_
  iterate 2 refine gA ?_
  refine cG (fun hp hx W' hC => c_mdBtw r.last (-1) 281474976710656 W') ?_
  refine pA ?_
  refine dA ?_
  iterate 4 refine gA ?_
  refine pA ?_
  refine dA ?_
  clear hW hL
  rintro W3 hW z4 hL
  simp only [ndR]
  intros
  repeat (rename GDet _ _ _ _ => hgd; clear hgd)
  simp only [ndS]
  refine wpList_nil ?_
  obtain ⟨⟨b1, yb1, k1, f1⟩, -⟩ := hL
  have h0 := goR_zero r
  obtain ⟨ok, hok⟩ : ∃ ok, (nameB r.name && btw r.eps 0 1099511627776 && btw r.scale (-40) 40 && btw r.floor 0 281474976710656 && btw r.last (-1) 281474976710656 && decide ((r.pts.length : Int) ≤ 1024)) = ok := ⟨_, rfl⟩
  rw [hok] at h0 ⊢
  replace h0 := Lib.hid h0
  clear hok
  go_wp2
  refine wp_loop (crRel w r p cap) (fun a' _ => r.pts.length - (intAt (a'.tmps.getD 39 undef)).toNat) ?_ ?_
  · unfold crRel
    exact ⟨hW, b1, 0, ok, -1, frame_ex rfl, Nat.zero_le _, h0.out⟩
  clear b1 hW h0 k1
  rintro a' W ⟨hW0, b1, i, ok, ah, ⟨u, rfl⟩, hi', hgo⟩
  have hz := hW0.size
  have zb1 := b1.lt
  rcases Nat.lt_or_ge i r.pts.length with hlt | hge
  · obtain ⟨⟨t, v⟩, tr⟩ : ∃ x, r.pts[i]? = some x := ⟨r.pts[i]'(by omega), List.getElem?_eq_getElem (by omega)⟩
    obtain ⟨b, o, rfl, q0, q1⟩ := (hp.below hW0).at' i _ tr
    simp only at q0 q1
    have hgo2 := Lib.hid (goR_step r hgo tr)
    have c5 := fun W => c_mdPoint t v W
    obtain ⟨B5, hB5⟩ : ∃ B, ptB (t, v) = B := ⟨_, rfl⟩
    rw [hB5] at c5 hgo2
    replace c5 := Lib.hid c5
    clear hgo tr hB5
    have k1 := b1.cell
    have f1 := b1.frozen
    go_upto_region 6 with (fail)
    clear k1 f1
    refine wp_cutB W (Bc w.heap.size #[.string r.name, .int .i64 r.eps, .int .i64 r.floor, .int .i64 r.last, .int .i64 r.scale, .slice (some ⟨b, o, none⟩) r.pts.length cap] 35 <| Bc W.heap.size #[.int .i64 t, .int .i64 v] 58 <| Bz) ?_
    clear b1
    rintro W21 hW z22 hL
    refine wp_regS 19 78 hW hL ?_
    iterate 2 refine dA ?_
    refine gA ?_
    refine cG (fun hp hx W' hC => c5.out W') ?_
    refine pA ?_
    refine dA ?_
    iterate 5 refine gA ?_
    refine pA ?_
    refine dA ?_
    iterate 4 refine gA ?_
    refine pA ?_
    refine dA ?_
    clear hW hL
    rintro W23 hW z24 hL
    simp only [ndR]
    intros
    repeat (rename GDet _ _ _ _ => hgd; clear hgd)
    simp only [ndS]
    refine wpList_nil ?_
    obtain ⟨⟨b1, yb1, k1, f1⟩, ⟨b2, yb2, k2, f2⟩, -⟩ := hL
    go_wp2
    refine ⟨?_, by simp [intAt]; omega⟩
    unfold crRel
    exact ⟨hW0.trans (hW.mono hz), b1, i + 1, _, _, frame_ex rfl, by omega, by rw [hgo2.out, Bool.and_assoc, Bool.and_assoc]⟩
  · obtain rfl : i = r.pts.length := by omega
    have he := goR_end r hgo
    clear hgo
    have k1 := b1.cell
    have f1 := b1.frozen
    have hn0 : (0 : Int) ≤ r.pts.length := by omega
    cases ok with
    | false =>
      have hv := Lib.hid (show E = 380 by rw [← hE.out, he]; rfl)
      clear he
      go_wp2
      go_ret
      exact ⟨by rw [hv.out]; rfl, belowAny⟩
    | true =>
      by_cases h0 : r.pts.length = 0
      · have h1 : ¬ (0 < (r.pts.length : Int)) := by omega
        have h2 : r.pts.isEmpty = true := by rw [List.isEmpty_iff_length_eq_zero]; exact h0
        have hv := Lib.hid (show E = 0 by rw [← hE.out, he, h2]; rfl)
        clear h0 h2 he
        go_wp2
        go_ret
        exact ⟨by rw [hv.out]; rfl, belowAny⟩
      · have h1 : 0 < (r.pts.length : Int) := by omega
        have h2 : r.pts.isEmpty = false := by
          cases hh : r.pts with
          | nil => rw [hh] at h0; exact absurd rfl h0
          | cons _ _ => rfl
        by_cases hl : r.last = ah
        · subst hl
          have hv := Lib.hid (show E = 0 by rw [← hE.out, he, h2]; simp)
          clear h0 h2 he
          go_wp2
          go_ret
          exact ⟨by rw [hv.out]; rfl, belowAny⟩
        · have hne : (r.last != ah) = true := by simpa using hl
          have hbe : (r.last == ah) = false := by simpa using hl
          have hv := Lib.hid (show E = 380 by rw [← hE.out, he, h2, hbe]; rfl)
          clear h0 h2 he hbe
          go_wp2
          go_ret
          exact ⟨by rw [hv.out]; rfl, belowAny⟩
end Go.Proofs.YtdeghcgakkhbmaaGreat
namespace Go.Proofs.YtdeghcgakkhbmaaGreat
open Go.RowKit
set_option maxRecDepth 100000 in
set_option maxHeartbeats 2000000 in
theorem clonePtB_some (a : Addr) (cap : Nat) (l : List (Int × Int)) (w : World) (hl : l.length ≤ 2000) (h : PtsIn w (some a) l) : Calls Tryz.prog 41 #[.slice (some a) l.length cap] w fun e w' => ∃ v, e = .returned v ∧ Below w.heap.size w w' ∧ RowOwn w 58 l.length (l.length * 2) (flatPts l) v w' := by
  have hnil : ∀ W, (binOp .eql 33 (.slice (some a) l.length cap) (.slice none 0 0)).run Tryz.prog W = .ok (.bool false) W := fun W => Lib.run_eql_slice_nil W 33 58 _ _ _ _ _ (by kernel_rfl)
  go_enter Tryz.func41, Tryz.ntmps41
  go_upto_region 3 with (fail)
  clear hnil
  have hmk : ∀ W, (Instr.buildSlice 33 0 #[]).run Tryz.prog W = .ok (.slice (some ⟨W.heap.size, 0, none⟩) 0 0) (W.alloc (.cells #[] 58)) := fun W => by kernel_rfl
  obtain ⟨i, hi, hz0, hz1, hz2⟩ := info_parts Tryz.infoPt
  have hW : Below w.heap.size w (w.alloc (.cells #[] 58)) := belowAny
  have hown0 := World.ownsRow_made (e := 58) (size := 2) (base := w.heap.size) w #[] 0 (Nat.le_refl _) (by simp [maxLen]) (by simp)
  go_wp2_with (at_builtin; refine wpList_append_own _ rfl (.tmp 5) (.tmp 6) 33 rfl w.heap.size 58 i _ 2 16 (by kernel_rfl) hi hz0 hz1 hz2 rfl (by omega) _ 0 [] rfl hown0 a l.length cap (flatPts l) rfl (by rw [flatPts_len9]) (fun j u hu => pts_flat9 (h.below hW) j u hu) (fun v hv => flatPts_one9 l v hv) (by simp [maxLen]; omega) (by omega) (by simp) ?_)
  intro v' w' hown hgr hvn
  have hB := Lib.hid (clone_below hgr)
  replace hown := Lib.hid hown
  replace hvn := Lib.hid hvn
  clear hgr
  go_wp2
  go_ret
  obtain ⟨_, h2 | ⟨g, cap', cur, rfl, hg, hb, hn, _, hc, ht⟩⟩ := hown.out
  · exact (hvn.out h2.1).elim
  · exact ⟨_, rfl, hB.out, g, cap', cur, by simp, hg, hb, by omega, by simpa using ht⟩
theorem PtS.form9 {B N : Nat} {l : List (Int × Int)} {v : Value} {w : World} (h : PtS B N l v w) : ∃ p cap, v = .slice p N cap ∧ PtRow w B p l ∧ N ≤ cap ∧ (p = none → cap = 0) := by
  obtain ⟨p, cap, rfl, h1, h2⟩ := h.form
  refine ⟨p, cap, rfl, h1, h2, ?_⟩
  rcases h with ⟨h, _, _⟩ | ⟨g, c, cur, h, _⟩
  · injection h with _ _ h
    exact fun _ => h
  · injection h with h _ _
    rw [h]
    intro e
    cases e
set_option maxRecDepth 100000 in
set_option maxHeartbeats 2000000 in
theorem raw28_w9 (nm : ByteArray) (ep fl la sc : Int) (po : Option Addr) (co : Nat) (pts : List (Int × Int)) (w : World) (N : Nat)
    (hpts : PtsIn w po pts) (hnilP : po = none → pts.length = 0 ∧ co = 0) (hcapP : pts.length ≤ co)
    (hN : N ≤ 1025) (hNr : N ≤ pts.length) (EN : Hid ((if (1025 : Int) < (pts.length : Int) then (1025 : Int) else pts.length) = (N : Int))) (hNc : (N : Int) ≤ co) (hN0 : 0 ≤ (N : Int)) (nm9 : ByteArray) (hnm : Hid ((nm.extract 0 (mn (nm.size : Int) 20).toNat) = nm9)) :
    Calls Tryz.prog 14 #[.agg #[.string nm, .int .i64 ep, .int .i64 fl, .int .i64 la, .int .i64 sc, .slice po pts.length co]] w fun e w' => ∃ pP capP, e = .returned (.agg #[.string nm9, .int .i64 ep, .int .i64 fl, .int .i64 la, .int .i64 sc, .slice pP N capP]) ∧ Below w.heap.size w w' ∧ PtRow w' w.heap.size pP (pts.take N) ∧ N ≤ capP ∧ (pP = none → capP = 0) := by
  have cQ := Lib.hid (fun W B (hW : Below w.heap.size w W) (hBW : B ≤ W.heap.size) => (show Calls Tryz.prog 41 #[.slice po N co] W fun e w' => ∃ v, e = .returned v ∧ Below W.heap.size W w' ∧ PtS B N (pts.take N) v w' from by
    have hl : (pts.take N).length = N := by rw [List.length_take]; omega
    cases hpo : po with
    | none =>
      obtain ⟨h1, h2⟩ := hnilP hpo
      have e : N = 0 := by omega
      subst e
      subst h2
      refine (clonePt_nil W).mono ?_
      rintro e w' ⟨rfl, hB⟩
      exact ⟨_, rfl, hB, .inl ⟨rfl, rfl, rfl⟩⟩
    | some a9 =>
      have t := clonePtB_some a9 co (pts.take N) W (by omega) (hpo ▸ (hpts.take9 N).below hW)
      rw [hl] at t
      refine t.mono ?_
      rintro e w' ⟨v, rfl, hB, g, c, cur, rfl, hg, h⟩
      exact ⟨_, rfl, hB, .inr ⟨g, c, cur, rfl, Nat.le_trans hBW hg, h⟩⟩))
  go_enter Tryz.func14, Tryz.ntmps14
  have hmin : ∀ ts t x y w, (Builtin.min_ ts t #[.int .i64 x, .int .i64 y]).run Tryz.prog w = .ok (.int .i64 (mn x y)) w := fun ts t x y w => by simp [Builtin.min_, Builtin.min2, mn]
  have hm0 := mn_spec (nm.size : Int) 20
  have hm1 : 0 ≤ mn (nm.size : Int) 20 := by omega
  have hm2 : mn (nm.size : Int) 20 ≤ (nm.size : Int) := hm0.1
  clear hm0
  go_upto_region 2 with (fail)
  refine wp_cutB w (Bc w.heap.size #[.string (nm.extract 0 (mn (nm.size : Int) 20).toNat), .int .i64 ep, .int .i64 fl, .int .i64 la, .int .i64 sc, .slice po pts.length co] 35 <| Bc (w.heap.size + 1) #[.string .empty, .int .i64 0, .int .i64 0, .int .i64 0, .int .i64 0, .slice none 0 0] 35 <| Bz) ?_
  rintro W1 hW z2 ⟨⟨b1, yb1, k1, f1⟩, ⟨b2, yb2, k2, f2⟩, -⟩
  clear hmin hm1 hm2
  rw [hnm.out] at b1
  go_upto_region 2 with (fail)
  clear k1 f1 k2 f2
  refine wp_cutB w (Bc w.heap.size #[.string nm9, .int .i64 ep, .int .i64 fl, .int .i64 la, .int .i64 sc, .slice po pts.length co] 35 <| Bc (w.heap.size + 1) #[.string .empty, .int .i64 0, .int .i64 0, .int .i64 0, .int .i64 0, .slice none 0 0] 35 <| Bz) ?_
  clear b1 b2 hW
  rintro W3 hW z4 hL
  obtain ⟨⟨b1, yb1, k1, f1⟩, ⟨b2, yb2, k2, f2⟩, -⟩ := id hL
  clear k1 f1 k2 f2
  refine wp_regS 8 21 hW hL ?_
  iterate 5 refine dA ?_
  apply nd_det (.int .i64 ((N : Nat) : Int)) (hg := rfl) (hal := rfl)
  · intro a' W' hC hE
    simp [Oper.looksAt, Op.operands, Call.operands, envOf, Det] at hE
    simp [go_sem, Act.eval, hE, EN.out]
  apply nd_det (.slice po N co) (hg := rfl) (hal := rfl)
  · intro a' W' hC hE
    simp [Oper.looksAt, Op.operands, Call.operands, envOf, Det] at hE
    simp [go_sem, Act.eval, hE, hNc, hN0, add_zero_map]
  apply nd_call (PtS W3.heap.size N (pts.take N)) (hg := rfl) (hal := rfl)
  · exact PtS.closed _ _ _
  · intro a' W' hC hE
    simp [Oper.looksAt, Op.operands, Call.operands, envOf, Det] at hE
    refine ⟨_, _, ?_, (cQ.out W' W3.heap.size (hW.trans (hC.1.of_priv hW.size)) hC.1.size).mono ?_⟩
    · simp [go_sem, Act.eval, hE]
      try rfl
    · rintro e w' ⟨v, rfl, hB, hv⟩
      exact ⟨v, rfl, hB, hv⟩
  clear hW hL b1 b2
  rintro W5 hW z6 hL
  simp only [ndR]
  intros
  simp only [ndS]
  obtain ⟨⟨b1, yb1, k1, f1⟩, ⟨b2, yb2, k2, f2⟩, -⟩ := hL
  have z7 := hW.size
  rename PtS _ _ _ _ _ => hp
  obtain ⟨pP, capP, rfl, hP, hcP, hnP⟩ := hp.form9
  clear hp
  go_upto_region 3 with (fail)
  clear k1 f1 k2 f2
  refine wp_cutB w (Bc w.heap.size #[.string nm9, .int .i64 ep, .int .i64 fl, .int .i64 la, .int .i64 sc, .slice pP N capP] 35 <| Bc (w.heap.size + 1) #[.string .empty, .int .i64 0, .int .i64 0, .int .i64 0, .int .i64 0, .slice none 0 0] 35 <| Rc (fun W' => PtRow W' (w.heap.size + 1 + 1) pP (pts.take N)) <| Bz) ?_ (hI := by exact belowAny) (hR := (Bc.mk (by exact blkAny2) <| Bc.mk (by exact blkAny2) <| Rc.mk (by exact (hP.mono (by omega)).setO (by omega) _ _) <| trivial))
  clear b1 b2 hW
  rintro W8 hW z9 ⟨⟨b1, yb1, k1, f1⟩, ⟨b2, yb2, k2, f2⟩, b3, -⟩
  have hP := b3
  clear b3
  go_wp2
  have d2 : Blk ((((((W8.setCell ⟨w.heap.size + 1, 0, none⟩ (.string nm9)).setCell ⟨w.heap.size + 1, 1, none⟩ (.int .i64 ep)).setCell ⟨w.heap.size + 1, 2, none⟩ (.int .i64 fl)).setCell ⟨w.heap.size + 1, 3, none⟩ (.int .i64 la)).setCell ⟨w.heap.size + 1, 4, none⟩ (.int .i64 sc)).setCell ⟨w.heap.size + 1, 5, none⟩ (.slice pP N capP)) (w.heap.size + 1) #[.string nm9, .int .i64 ep, .int .i64 fl, .int .i64 la, .int .i64 sc, .slice pP N capP] 35 := blkAny2
  have hB9 : Below w.heap.size w ((((((W8.setCell ⟨w.heap.size + 1, 0, none⟩ (.string nm9)).setCell ⟨w.heap.size + 1, 1, none⟩ (.int .i64 ep)).setCell ⟨w.heap.size + 1, 2, none⟩ (.int .i64 fl)).setCell ⟨w.heap.size + 1, 3, none⟩ (.int .i64 la)).setCell ⟨w.heap.size + 1, 4, none⟩ (.int .i64 sc)).setCell ⟨w.heap.size + 1, 5, none⟩ (.slice pP N capP)) := belowAny
  have hP9 : PtRow ((((((W8.setCell ⟨w.heap.size + 1, 0, none⟩ (.string nm9)).setCell ⟨w.heap.size + 1, 1, none⟩ (.int .i64 ep)).setCell ⟨w.heap.size + 1, 2, none⟩ (.int .i64 fl)).setCell ⟨w.heap.size + 1, 3, none⟩ (.int .i64 la)).setCell ⟨w.heap.size + 1, 4, none⟩ (.int .i64 sc)).setCell ⟨w.heap.size + 1, 5, none⟩ (.slice pP N capP)) (w.heap.size + 1 + 1) pP (pts.take N) := ((((((hP.setO (by omega) 0 _).setO (by omega) 1 _).setO (by omega) 2 _).setO (by omega) 3 _).setO (by omega) 4 _).setO (by omega) 5 _)
  obtain ⟨W9, hW9⟩ : ∃ W9, W9 = ((((((W8.setCell ⟨w.heap.size + 1, 0, none⟩ (.string nm9)).setCell ⟨w.heap.size + 1, 1, none⟩ (.int .i64 ep)).setCell ⟨w.heap.size + 1, 2, none⟩ (.int .i64 fl)).setCell ⟨w.heap.size + 1, 3, none⟩ (.int .i64 la)).setCell ⟨w.heap.size + 1, 4, none⟩ (.int .i64 sc)).setCell ⟨w.heap.size + 1, 5, none⟩ (.slice pP N capP)) := ⟨_, rfl⟩
  rw [← hW9] at d2 hB9 hP9 ⊢
  clear hW9 b1 b2 hP k1 f1 k2 f2
  have k2 := d2.cell
  have f2 := d2.frozen
  have y_2 := d2.lt
  refine bodyPost_ret (v := .agg #[.string nm9, .int .i64 ep, .int .i64 fl, .int .i64 la, .int .i64 sc, .slice pP N capP]) (by simp [results, Tryz.results14, go_sem, k2, f2, y_2]) rfl ⟨pP, capP, rfl, hB9, hP9.mono (by omega), hcP, hnP⟩
/-- A raw series that came in. -/
structure RawCame (w : World) (r : RawT) (p : Option Addr) (cap : Nat) : Prop where
  pts : PtsIn w p r.pts
  nil : p = none → r.pts.length = 0 ∧ cap = 0
  cap : r.pts.length ≤ cap
theorem RawCame.below {w W : World} {r : RawT} {p : Option Addr} {cap : Nat} (h : RawCame w r p cap) (hb : Below w.heap.size w W) : RawCame W r p cap := ⟨h.pts.below hb, h.nil, h.cap⟩
/-- What is left of it. -/
def rawOf (r : RawT) : RawT := ⟨r.name.extract 0 (mn (r.name.size : Int) 20).toNat, r.eps, r.floor, r.last, r.scale, r.pts.take (min r.pts.length 1025)⟩
theorem rawOf_len (r : RawT) : (rawOf r).pts.length ≤ 1025 := by
  show (r.pts.take (min r.pts.length 1025)).length ≤ 1025
  rw [List.length_take]; omega
theorem rawOf_name (r : RawT) : (rawOf r).name.size ≤ 20 := by
  have := mn_spec (r.name.size : Int) 20
  show (r.name.extract 0 (mn (r.name.size : Int) 20).toNat).size ≤ 20
  rw [ByteArray.size_extract]
  omega
theorem c_raw28N (r : RawT) (p : Option Addr) (cap : Nat) (w : World) (h : RawCame w r p cap) :
    Calls Tryz.prog 14 #[.agg (rawA r p cap)] w fun e w' => ∃ p' cap', e = .returned (.agg (rawA (rawOf r) p' cap')) ∧ Below w.heap.size w w' ∧ PtRow w' w.heap.size p' (rawOf r).pts ∧ (rawOf r).pts.length ≤ cap' ∧ (p' = none → cap' = 0) := by
  have hl : (r.pts.take (min r.pts.length 1025)).length = min r.pts.length 1025 := by rw [List.length_take]; omega
  have h1 := h.cap
  refine (raw28_w9 r.name r.eps r.floor r.last r.scale p cap r.pts w (min r.pts.length 1025) h.pts h.nil h.cap (by omega) (by omega) (Lib.hid (by split <;> omega)) (by omega) (by omega) _ (Lib.hid rfl)).mono ?_
  rintro e w' ⟨pP, capP, rfl, hB, hP, hc, hn⟩
  refine ⟨pP, capP, ?_, hB, hP, ?_, hn⟩
  · unfold rawA rawOf
    simp only [hl]
  · show (r.pts.take (min r.pts.length 1025)).length ≤ capP
    omega
end Go.Proofs.YtdeghcgakkhbmaaGreat
namespace Go.Proofs.YtdeghcgakkhbmaaGreat
open Go.RowKit
def IntsF (w : World) (p : Option Addr) (l : List Int) : Prop := IntsIn w p l
theorem IntsF.rex {L : List Nat} {w w' : World} {p : Option Addr} {l : List Int} (h : IntsF w p l) (hr : Rex L w w') (hL : L = []) : IntsF w' p l := by subst hL; exact IntsIn.below h hr.below
def enRel (w : World) (p : Option Addr) (l : List Int) (cap : Nat) (x0 : Int) (a' : Act) (W : World) : Prop :=
  Below w.heap.size w W ∧ ∃ i : Nat, (∃ u : Nat → Value, a' = { tmps := #[.slice p l.length cap, u 1, u 2, u 3, .int .i64 (minL (x0 :: l.take i)), .int .i64 (maxL (x0 :: l.take i)), .int .i64 (i : Int), u 7, u 8, u 9, u 10, u 11, u 12, u 13, u 14, u 15, u 16, u 17, u 18, u 19, u 20, u 21, u 22, u 23, u 24, u 25, u 26, u 27, u 28, u 29, u 30, u 31, u 32, u 33, u 34, u 35, u 36, u 37, u 38, u 39, u 40], defers := [] }) ∧ i ≤ l.length
end Go.Proofs.YtdeghcgakkhbmaaGreat
namespace Go.Proofs.YtdeghcgakkhbmaaGreat
open Go.RowKit
/-- An operation behind a guard that holds. -/
theorem nd_on {P : Program} {ops : Array Oper} {C : World → Prop} {X : List (Nat × Nat)} {a0 : Act} {Fin : List (Option Tmp × Spec) → Prop} {i : Nat} {o : Oper} {rest : List Oper} {acc : List (Option Tmp × Spec)}
    (Φ : Spec) (want : Bool) (k : Nat) (d : Tmp) (hcl : Closed (others X i) Φ) (hg : o.guard = some (k, want)) (hd : wrOf ops k = some d) (hx : ∀ v w, envOf a0 acc d v w → v = .bool want)
    (h : ∀ (a : Act) (w : World), C w → (∀ s ∈ o.looksAt ops, envOf a0 acc s (a.tmps.getD s undef) w) → runND P o (priv X i) Φ w ((execOp a.eval o).run P w))
    (hr : ndWalk P ops C X a0 Fin (i + 1) rest ((o.dst, Φ) :: acc)) : ndWalk P ops C X a0 Fin i (o :: rest) acc := by
  refine ⟨Φ, hcl, fun a w hC hE => ?_, hr⟩
  have hin : d ∈ o.looksAt ops := by
    unfold wrOf at hd
    simp [Oper.looksAt, hg, hd]
  have hv := hx _ _ (hE d hin)
  have hw := wanted_some (o := o) hg hd hv
  refine ⟨fun _ => h a w hC hE, fun e => ?_⟩
  rw [hw] at e
  simp at e
theorem nd_oncall {P : Program} {ops : Array Oper} {C : World → Prop} {X : List (Nat × Nat)} {a0 : Act} {Fin : List (Option Tmp × Spec) → Prop} {i : Nat} {o : Oper} {rest : List Oper} {acc : List (Option Tmp × Spec)}
    (Φ : Spec) {want : Bool} {k : Nat} {d : Tmp} (hcl : Closed (others X i) Φ) (hg : o.guard = some (k, want)) (hd : wrOf ops k = some d) (hal : isAlloc o = false) (hx : ∀ v w, envOf a0 acc d v w → v = .bool want)
    (h : ∀ (a : Act) (w : World), C w → (∀ s ∈ o.looksAt ops, envOf a0 acc s (a.tmps.getD s undef) w) → ∃ f args, (execOp a.eval o).run P w = .ok (.enter f args) w ∧ Calls P f args w fun e w' => ∃ u, e = .returned u ∧ Below w.heap.size w w' ∧ Φ u w')
    (hr : ndWalk P ops C X a0 Fin (i + 1) rest ((o.dst, Φ) :: acc)) : ndWalk P ops C X a0 Fin i (o :: rest) acc :=
  nd_on Φ want k d hcl hg hd hx (fun a w hC hE => by
    obtain ⟨f, args, h1, h2⟩ := h a w hC hE
    rw [h1]
    exact ⟨rfl, hal, h2.mono fun e w' ⟨u, he, hb, hΦ⟩ => ⟨u, he, Rex.of_below hb, hΦ⟩⟩) hr
theorem nd_onval {P : Program} {ops : Array Oper} {C : World → Prop} {X : List (Nat × Nat)} {a0 : Act} {Fin : List (Option Tmp × Spec) → Prop} {i : Nat} {o : Oper} {rest : List Oper} {acc : List (Option Tmp × Spec)}
    (Φ : Spec) {want : Bool} {k : Nat} {d : Tmp} (hcl : Closed (others X i) Φ) (hg : o.guard = some (k, want)) (hd : wrOf ops k = some d) (hal : isAlloc o = false) (hx : ∀ v w, envOf a0 acc d v w → v = .bool want)
    (h : ∀ (a : Act) (w : World), C w → (∀ s ∈ o.looksAt ops, envOf a0 acc s (a.tmps.getD s undef) w) → ∃ v, (execOp a.eval o).run P w = .ok (.value v) w ∧ Φ v w)
    (hr : ndWalk P ops C X a0 Fin (i + 1) rest ((o.dst, Φ) :: acc)) : ndWalk P ops C X a0 Fin i (o :: rest) acc :=
  nd_on Φ want k d hcl hg hd hx (fun a w hC hE => by
    obtain ⟨v, h1, h2⟩ := h a w hC hE
    rw [h1]
    exact ⟨Rex.refl _ _, h2, fun e => by rw [hal] at e; cases e⟩) hr
/-- A row of numbers of its own, as a drawn step's value. -/
def OV (B : Nat) (T : List Int) : Spec := fun v w => OwnR w B 2 1 v T.length (T.map (Value.int .i64))
theorem OV.closed (B : Nat) (T : List Int) : Closed [] (OV B T) := fun _ _ _ hr h => OwnR.rex h hr rfl
def kindR (R n : Int) : Int := if n = 0 then 1 else if R = 0 then 2 else 3
end Go.Proofs.YtdeghcgakkhbmaaGreat
namespace Go.Proofs.YtdeghcgakkhbmaaGreat
open Go.RowKit
/-- The segments of which points are told. -/
def PtsDom (s : SegT) : Prop := (s.K = 4 ∧ (s.raw.length : Int) = cnt s.runs) ∨ (s.K ≠ 4 ∧ isLine s.A s.R s.n s.d = true)
end Go.Proofs.YtdeghcgakkhbmaaGreat
namespace Go.Proofs.YtdeghcgakkhbmaaGreat
open Go.RowKit
def toRel (w : World) (gs : Nat) (p : Option Addr) (cap : Nat) (l : List Int) (a' : Act) (W : World) : Prop :=
  Below w.heap.size w W ∧ ∃ (i : Nat) (S : Int) (ps : Option Addr) (ls cs : Nat), (∃ u : Nat → Value, a' = { tmps := #[.slice p l.length cap, u 1, .pointer (some ⟨w.heap.size, 0, none⟩), .pointer (some ⟨gs, 0, none⟩), .int .i64 (i : Int), u 5, u 6, u 7, u 8, u 9, u 10, u 11, u 12, u 13, u 14, u 15, u 16, u 17, u 18, u 19], defers := [] }) ∧ S = lsum (l.take i) ∧ i ≤ l.length ∧ Blk W w.heap.size #[.bool false, .slice none 0 0] 115 ∧ Blk W gs #[.bool (decide (S < 0)), .slice ps ls cs] 115 ∧ Bits W (.slice ps ls cs) S.natAbs
end Go.Proofs.YtdeghcgakkhbmaaGreat
namespace Go.Proofs.YtdeghcgakkhbmaaGreat
open Go.RowKit
section
variable {P : Program} {w : World}
end
end Go.Proofs.YtdeghcgakkhbmaaGreat
namespace Go.Proofs.YtdeghcgakkhbmaaGreat
open Go.RowKit
def OneV (B : Nat) (d : Int) : Spec := fun v w => ∃ g, v = .slice (some ⟨g, 0, none⟩) 1 1 ∧ B ≤ g ∧ Blk w g #[.int .i64 d] 2
theorem OneV.closed (B : Nat) (d : Int) : Closed [] (OneV B d) := fun _ _ _ hr ⟨g, e1, h1, h⟩ => ⟨g, e1, h1, h.rex hr (by simp)⟩
def Apart2 (v1 v2 : Value) : Prop := ∀ g, v1.ownBlock = some g → v2.ownBlock = some g → False
theorem Apart2.symm {v1 v2 : Value} (h : Apart2 v1 v2) : Apart2 v2 v1 := fun g a b => h g b a
def loB (x : RunT) : Int := x.s - x.c
def hiB (x : RunT) : Int := x.s + x.c
def boRel (w : World) (p : Option Addr) (cap : Nat) (l : List RunT) (a' : Act) (W : World) : Prop :=
  Below w.heap.size w W ∧ ∃ (i : Nat) (v1 v2 : Value), (∃ u : Nat → Value, a' = { tmps := #[.slice p l.length cap, u 1, .slice none 0 0, .slice none 0 0, v1, v2, .int .i64 (i : Int), u 7, u 8, u 9, u 10, u 11, u 12, u 13, u 14, u 15, u 16, u 17, u 18, u 19, u 20, u 21, u 22, u 23, u 24, u 25, u 26, u 27, u 28, u 29, u 30, u 31, u 32, u 33, u 34, u 35, u 36, u 37, u 38, u 39, u 40, u 41, u 42], defers := [] }) ∧ i ≤ l.length ∧
    OwnR W w.heap.size 2 1 v1 i (((l.take i).map loB).map (Value.int .i64)) ∧ OwnR W w.heap.size 2 1 v2 i (((l.take i).map hiB).map (Value.int .i64)) ∧ Apart2 v1 v2
end Go.Proofs.YtdeghcgakkhbmaaGreat
namespace Go.Proofs.YtdeghcgakkhbmaaGreat
open Go.RowKit
attribute [local go_sem ↓] Go.wp_at_zero Go.wp_at_succ
/-- A raw series in memory: what it says, and where its points are. -/
structure RawR where
  r : RawT
  p : Option Addr
  cap : Nat
def rawRA (x : RawR) : Array Value := rawA x.r x.p x.cap
def flatRaws (l : List RawR) : List Value := l.flatMap fun x => (rawRA x).toList
theorem rawRA_len (x : RawR) : (rawRA x).toList.length = 6 := rfl
theorem flatRaws_len (l : List RawR) : (flatRaws l).length = l.length * 6 := by
  unfold flatRaws
  induction l with
  | nil => rfl
  | cons x l ih => rw [List.flatMap_cons, List.length_append, ih, rawRA_len, List.length_cons]; omega
theorem flatRaws_snoc (l : List RawR) (x : RawR) : flatRaws (l ++ [x]) = flatRaws l ++ (rawRA x).toList := by
  unfold flatRaws
  rw [List.flatMap_append]
  simp
theorem flatRaws_get : ∀ (l : List RawR) (i : Nat) (x : RawR) (k : Nat) (u : Value), l[i]? = some x → (rawRA x)[k]? = some u → (flatRaws l)[i * 6 + k]? = some u
  | [], i, x, k, u, h, _ => by simp at h
  | y :: l, 0, x, k, u, h, hk => by
    have e : y = x := by simpa using h
    subst e
    have hlt : k < 6 := by
      rcases Array.getElem?_eq_some_iff.1 hk with ⟨h1, _⟩
      exact h1
    rw [flatRaws, List.flatMap_cons, Nat.zero_mul, Nat.zero_add, List.getElem?_append_left (by rw [rawRA_len]; exact hlt), Array.getElem?_toList]
    exact hk
  | y :: l, i + 1, x, k, u, h, hk => by
    have h1 := flatRaws_get l i x k u (by simpa using h) hk
    rw [flatRaws, List.flatMap_cons, List.getElem?_append_right (by rw [rawRA_len]; omega), rawRA_len, show (i + 1) * 6 + k - 6 = i * 6 + k by omega]
    exact h1
/-- Raw series in memory: a row, and the points of each of them. -/
structure RawsIn (w : World) (p : Option Addr) (rows : List RawT) : Prop where
  at' : ∀ (i : Nat) (r : RawT), rows[i]? = some r → ∃ b o p' cap', p = some ⟨b, o, none⟩ ∧ (∀ j v, (rawA r p' cap')[j]? = some v → w.cell? ⟨b, o + i * 6 + j, none⟩ = some v) ∧ PtsIn w p' r.pts ∧ r.pts.length ≤ cap' ∧ (p' = none → cap' = 0)
theorem RawsIn.below {w W : World} {p : Option Addr} {rows : List RawT} (h : RawsIn w p rows) (hb : Below w.heap.size w W) : RawsIn W p rows := ⟨fun i r hr => by
  obtain ⟨b, o, p', cap', e, hc, hr, hp⟩ := h.at' i r hr
  exact ⟨b, o, p', cap', e, fun j v hv => ((bcell hb).1 b _ (cell_lt (hc j v hv))).trans (hc j v hv), hr.below hb, hp⟩⟩
/-- The points of raw series, each in a block of its own from B on. -/
structure PtRows (w : World) (B : Nat) (l : List RawR) : Prop where
  at' : ∀ x, x ∈ l → PtRow w B x.p x.r.pts ∧ x.r.pts.length ≤ x.cap ∧ (x.p = none → x.cap = 0)
theorem PtRows.below {w w' : World} {B : Nat} {l : List RawR} (h : PtRows w B l) (hb : Below w.heap.size w w') : PtRows w' B l := ⟨fun x hx => ⟨(h.at' x hx).1.below hb, (h.at' x hx).2⟩⟩
theorem OwnR.raws {W : World} {B n : Nat} {e : TypeId} {p : Option Addr} {cap : Nat} {RL : List RawR} (h : OwnR W B e 6 (.slice p n cap) n (flatRaws RL)) (hP : PtRows W B RL) : RawsIn W p (RL.map (·.r)) := by
  rcases h.own.2 with ⟨h1, h0⟩ | ⟨g, cap', cur, h1, hg, hb, hn, hmx, _, ht⟩
  · have h2 := h.own.1
    rw [flatRaws_len, h0] at h2
    have : RL = [] := List.length_eq_zero_iff.1 (by omega)
    subst this
    exact ⟨fun i r hr => by simp at hr⟩
  · injection h1 with h2 _ _
    subst h2
    refine ⟨fun i r hr => ?_⟩
    rw [List.getElem?_map] at hr
    obtain ⟨x, hx, rfl⟩ := Option.map_eq_some_iff.1 hr
    have hm := hP.at' x (List.mem_of_getElem? hx)
    refine ⟨g, 0, x.p, x.cap, rfl, fun j v hv => ?_, hm.1.pts, hm.2⟩
    have h3 := flatRaws_get RL i x j v hx hv
    rw [cell_of_row W g _ cur e (0, 0) hb, Nat.zero_add]
    exact row_take ht h3
/-- Raw series that came in. -/
structure RawsCame (w : World) (p : Option Addr) (rows : List RawT) : Prop where
  at' : ∀ (i : Nat) (r : RawT), rows[i]? = some r → ∃ b o p' cap', p = some ⟨b, o, none⟩ ∧ (∀ j v, (rawA r p' cap')[j]? = some v → w.cell? ⟨b, o + i * 6 + j, none⟩ = some v) ∧ RawCame w r p' cap'
theorem RawsCame.below {w W : World} {p : Option Addr} {rows : List RawT} (h : RawsCame w p rows) (hb : Below w.heap.size w W) : RawsCame W p rows := ⟨fun i r hr => by
  obtain ⟨b, o, p', cap', e, hc, hr⟩ := h.at' i r hr
  exact ⟨b, o, p', cap', e, fun j v hv => ((bcell hb).1 b _ (cell_lt (hc j v hv))).trans (hc j v hv), hr.below hb⟩⟩
theorem Tryz.infoRaw : (Tryz.prog.info? 35).map (fun i => (i.zero, i.size, i.bytes)) = some (some (.agg #[.string .empty, .int .i64 0, .int .i64 0, .int .i64 0, .int .i64 0, .slice none 0 0]), 6, 72) := by kernel_rfl
theorem own_apart {W : World} {B g s n : Nat} {e t : TypeId} {v : Value} {xs : List Value} {cs : Array Value} (h : W.ownsRow B e s v n xs) (hb : Blk W g cs t) (hne : t ≠ e) : v.ownBlock ≠ some g := fun hv => by
  rcases h.2 with ⟨rfl, _⟩ | ⟨g', cap, cur, rfl, _, hg, _⟩
  · simp [Value.ownBlock] at hv
  · simp [Value.ownBlock] at hv
    subst hv
    rw [show W.heap[g']? = some (.cells cs t (0, 0)) from hb] at hg
    injection hg with hg
    injection hg with _ h2 _
    exact hne h2
/-- A row of another type stands, whatever is written into a block that is none of it. -/
theorem OwnR.setX {w : World} {B o j n s : Nat} {e : TypeId} {v u : Value} {xs : List Value} (h : OwnR w B e s v n xs) (hne : v.ownBlock ≠ some o) : OwnR (w.setCell ⟨o, j, none⟩ u) B e s v n xs := by
  refine ⟨h.own.1, ?_⟩
  rcases h.own.2 with h0 | ⟨g, cap, cur, rfl, hB, hg, h1, h2, h3, h4⟩
  · exact .inl h0
  · refine .inr ⟨g, cap, cur, rfl, hB, ?_, h1, h2, h3, h4⟩
    exact (Below.heap_setCell _ _ _ _ (by rintro rfl; exact hne rfl)).trans hg
theorem PtRow.other {w : World} {B o j : Nat} {cs : Array Value} {t : TypeId} {u : Value} {p : Option Addr} {l : List (Int × Int)} (h : PtRow w B p l) (hb : Blk w o cs t) (ht : t ≠ 58) : PtRow (w.setCell ⟨o, j, none⟩ u) B p l := h.keep fun g c _ hg => Blk.setO hg (g := o) (by
  rintro rfl
  have h1 : w.heap[g]? = some (.cells c 58 (0, 0)) := hg
  have h2 : w.heap[g]? = some (.cells cs t (0, 0)) := hb
  rw [h1] at h2
  injection h2 with h2
  injection h2 with _ h3 _
  exact ht h3.symm) _ _
theorem own28_round {w W w2 w9 : World} {RL : List RawR} {vp p' : Option Addr} {vc cap' gg cp : Nat} {r : RawT} {A Bq : Array Value} {o : Obj} (hb : Below w.heap.size w W) (b1 : Blk W w.heap.size A 27) (b2 : Blk W (w.heap.size + 1) Bq 27)
    (b3 : Blk W (w.heap.size + 1 + 1) #[.slice vp RL.length vc] 27) (b5 : OwnR W w.heap.size 35 6 (.slice vp RL.length vc) RL.length (flatRaws RL)) (b6 : PtRows W w.heap.size RL) (hz : w.heap.size ≤ W.heap.size)
    (hB2 : Below W.heap.size W w2) (hPt : PtRow w2 W.heap.size p' r.pts) (hcp : r.pts.length ≤ cap' ∧ (p' = none → cap' = 0))
    (hown1 : w9.ownsRow w.heap.size 35 6 (.slice (some ⟨gg, 0, none⟩) (RL.length + 1) cp) (RL.length + 1) (flatRaws RL ++ (rawA r p' cap').toList))
    (hgrow : (w2.alloc o).grownBy w9 (Value.slice vp RL.length vc).ownBlock) :
    Below w.heap.size w (w9.setCell ⟨(w.heap.size + 1 + 1), 0, none⟩ (.slice (some ⟨gg, 0, none⟩) (RL.length + 1) cp)) ∧ Blk (w9.setCell ⟨(w.heap.size + 1 + 1), 0, none⟩ (.slice (some ⟨gg, 0, none⟩) (RL.length + 1) cp)) w.heap.size A 27 ∧ Blk (w9.setCell ⟨(w.heap.size + 1 + 1), 0, none⟩ (.slice (some ⟨gg, 0, none⟩) (RL.length + 1) cp)) (w.heap.size + 1) Bq 27 ∧
      Blk (w9.setCell ⟨(w.heap.size + 1 + 1), 0, none⟩ (.slice (some ⟨gg, 0, none⟩) (RL.length + 1) cp)) (w.heap.size + 1 + 1) #[.slice (some ⟨gg, 0, none⟩) (RL.length + 1) cp] 27 ∧
      OwnR (w9.setCell ⟨(w.heap.size + 1 + 1), 0, none⟩ (.slice (some ⟨gg, 0, none⟩) (RL.length + 1) cp)) w.heap.size 35 6 (.slice (some ⟨gg, 0, none⟩) (RL.length + 1) cp) (RL ++ [(⟨r, p', cap'⟩ : RawR)]).length (flatRaws (RL ++ [(⟨r, p', cap'⟩ : RawR)])) ∧
      PtRows (w9.setCell ⟨(w.heap.size + 1 + 1), 0, none⟩ (.slice (some ⟨gg, 0, none⟩) (RL.length + 1) cp)) w.heap.size (RL ++ [(⟨r, p', cap'⟩ : RawR)]) := by
  have ho0 := (b5.below hB2).own
  have ho : (w2.alloc o).ownsRow w.heap.size 35 6 (.slice vp RL.length vc) RL.length (flatRaws RL) := ho0.alloc _
  have hs := hB2.size
  have hbl : Below w.heap.size w w9 := Below.grown ((hb.trans (hB2.mono hz)).alloc (by omega) o) hgrow (by (have : (w2.alloc o).heap.size = w2.heap.size + 1 := Array.size_push _); omega) (fun k hk => by
    rcases ho.2 with ⟨e, _⟩ | ⟨g', c9, cur, e, hge, _⟩
    · injection e with e _ _; subst e; simp [Value.ownBlock] at hk
    · injection e with e _ _; subst e; simp [Value.ownBlock] at hk; omega)
  have q1 := Blk.grown (b1.below hB2) ho0 (by decide) hgrow
  have q2 := Blk.grown (b2.below hB2) ho0 (by decide) hgrow
  have q3 := Blk.grown (b3.below hB2) ho0 (by decide) hgrow
  have kp : ∀ {p : Option Addr} {l : List (Int × Int)}, PtRow w2 w.heap.size p l → PtRow w9 w.heap.size p l := fun h => h.keep fun g c _ hg => Blk.grown hg ho0 (by decide) hgrow
  have hR : OwnR w9 w.heap.size 35 6 (.slice (some ⟨gg, 0, none⟩) (RL.length + 1) cp) (RL ++ [(⟨r, p', cap'⟩ : RawR)]).length (flatRaws (RL ++ [(⟨r, p', cap'⟩ : RawR)])) := by
    rw [flatRaws_snoc, List.length_append]
    exact ⟨hown1⟩
  refine ⟨hbl.setCell (by simp; omega) _, q1.setO (by omega) _ _, q2.setO (by omega) _ _, q3.set2 (by rfl), hR.setX (own_apart hR.own q3 (by decide)), ⟨fun x hx => ?_⟩⟩
  rcases List.mem_append.1 hx with h1 | h1
  · exact ⟨(kp ((b6.below hB2).at' x h1).1).other q3 (by decide), (b6.at' x h1).2⟩
  · rw [List.mem_singleton.1 h1]
    exact ⟨(kp (hPt.mono hz)).other q3 (by decide), hcp⟩
theorem own28_take {rows : List RawT} {RL : List RawR} {i : Nat} {r0 : RawT} {p' : Option Addr} {cap' : Nat} (h : RL.map (·.r) = (rows.take (min i 9)).map rawOf) (hr : rows[i]? = some r0) (hi : i ≤ 8) :
    (RL ++ [(⟨rawOf r0, p', cap'⟩ : RawR)]).map (·.r) = (rows.take (min (i + 1) 9)).map rawOf := by
  rw [List.map_append, h, show min i 9 = i by omega, show min (i + 1) 9 = i + 1 by omega, List.take_add_one, hr, List.map_append]
  rfl
theorem own28_more {rows : List RawT} {RL : List RawR} {i : Nat} (h : RL.map (·.r) = (rows.take (min i 9)).map rawOf) (hi : ¬i ≤ 8) : RL.map (·.r) = (rows.take (min (i + 1) 9)).map rawOf := by
  rw [h, show min i 9 = 9 by omega, show min (i + 1) 9 = 9 by omega]
theorem own28_all {rows : List RawT} {RL : List RawR} {i : Nat} (h : RL.map (·.r) = (rows.take (min i 9)).map rawOf) (hi : rows.length ≤ i) : RL.map (·.r) = (rows.take 9).map rawOf := by
  rw [h]
  rcases Nat.le_total i 9 with h1 | h1
  · rw [show min i 9 = i by omega, List.take_of_length_le (by omega), List.take_of_length_le (by omega)]
  · rw [show min i 9 = 9 by omega]
def owmRel (w : World) (p : Option Addr) (cap : Nat) (rows : List RawT) (a' : Act) (W : World) : Prop :=
  Below w.heap.size w W ∧ Blk W w.heap.size #[.slice p rows.length cap] 27 ∧ Blk W (w.heap.size + 1) #[.slice none 0 0] 27 ∧ ∃ (i : Nat) (v : Value) (RL : List RawR), (∃ u : Nat → Value, a' = { tmps := #[u 0, .pointer (some ⟨w.heap.size, 0, none⟩), .pointer (some ⟨(w.heap.size + 1), 0, none⟩), .pointer (some ⟨(w.heap.size + 1 + 1), 0, none⟩), u 4, u 5, u 6, .slice p rows.length cap, .int .i64 (rows.length : Int), .int .i64 (i : Int), u 10, u 11, u 12, u 13, u 14, u 15, u 16, u 17, u 18, u 19, u 20, u 21, u 22, u 23, u 24], defers := [] }) ∧ Blk W (w.heap.size + 1 + 1) #[v] 27 ∧
    OwnR W w.heap.size 35 6 v RL.length (flatRaws RL) ∧ PtRows W w.heap.size RL ∧ RL.map (·.r) = (rows.take (min i 9)).map rawOf ∧ i ≤ rows.length
/-- A model in memory of its own: its row and its points are in blocks from B on. -/
def OwnM (B : Nat) (rows : List RawT) : Spec := fun v w => ∃ (p : Option Addr) (c : Nat) (RL : List RawR), v = .agg #[.slice p rows.length c] ∧ OwnR w B 35 6 (.slice p rows.length c) rows.length (flatRaws RL) ∧ PtRows w B RL ∧ RL.map (·.r) = rows
theorem OwnM.below {B : Nat} {rows : List RawT} {v : Value} {w w' : World} (h : OwnM B rows v w) (hb : Below w.heap.size w w') : OwnM B rows v w' := by
  obtain ⟨p, c, RL, e, h1, h2, h3⟩ := h
  exact ⟨p, c, RL, e, h1.below hb, h2.below hb, h3⟩
theorem OwnM.closed (B : Nat) (rows : List RawT) : Closed [] (OwnM B rows) := fun _ _ _ hr h => h.below hr.below
theorem OwnM.rex {L : List Nat} {B : Nat} {rows : List RawT} {v : Value} {w w' : World} (h : OwnM B rows v w) (hr : Rex L w w') (hL : L = []) : OwnM B rows v w' := by subst hL; exact h.below hr.below
theorem OwnM.drew {B : Nat} {rows : List RawT} {v : Value} {w : World} (h : OwnM B rows v w) : OwnM B rows v w.drew := h.below (Below.drew (Below.refl _ w))
theorem OwnM.mono {B B' : Nat} {rows : List RawT} {v : Value} {w : World} (h : OwnM B rows v w) (hB : B' ≤ B) : OwnM B' rows v w := by
  obtain ⟨p, c, RL, e, h1, h2, h3⟩ := h
  exact ⟨p, c, RL, e, h1.mono hB, ⟨fun x hx => ⟨(h2.at' x hx).1.mono hB, (h2.at' x hx).2⟩⟩, h3⟩
/-- Whatever is stored into a block of neither type leaves it as it was. -/
theorem OwnM.store {B o j : Nat} {rows : List RawT} {v u : Value} {w : World} {cs : Array Value} {t : TypeId} (h : OwnM B rows v w) (hb : Blk w o cs t) (h1 : t ≠ 35) (h2 : t ≠ 58) : OwnM B rows v (w.setCell ⟨o, j, none⟩ u) := by
  obtain ⟨p, c, RL, e, g1, g2, g3⟩ := h
  exact ⟨p, c, RL, e, g1.setX (own_apart g1.own hb h1), ⟨fun x hx => ⟨(g2.at' x hx).1.other hb h2, (g2.at' x hx).2⟩⟩, g3⟩
theorem OwnM.form {B : Nat} {rows : List RawT} {v : Value} {w : World} (h : OwnM B rows v w) : ∃ (p : Option Addr) (c : Nat), v = .agg #[.slice p rows.length c] ∧ RawsIn w p rows ∧ (p = none → c = 0) := by
  obtain ⟨p, c, RL, e, h1, h2, h3⟩ := h
  have h4 := h1.raws h2
  rw [h3] at h4
  obtain ⟨p2, c2, e2, -, -, hn, -⟩ := h1.form
  injection e2 with e3 _ e4
  exact ⟨p, c, e, h4, fun e5 => by rw [e4]; exact (hn (e3 ▸ e5)).2⟩
set_option maxRecDepth 100000 in
set_option maxHeartbeats 2000000 in
theorem c_own28M (p : Option Addr) (cap : Nat) (rows : List RawT) (w : World) (h : RawsCame w p rows) (hmx : rows.length ≤ 9223372036854775807) :
    Calls Tryz.prog 9 #[.agg #[.slice p rows.length cap]] w fun e w' => ∃ v, e = .returned v ∧ Below w.heap.size w w' ∧ OwnM w.heap.size ((rows.take 9).map rawOf) v w' := by
  obtain ⟨i0, hi0, hz0, hz1, hz2⟩ := info_parts Tryz.infoRaw
  go_enter Tryz.func9, Tryz.ntmps9
  go_upto_region 2 with (fail)
  refine wp_cutB w (Bc w.heap.size #[.slice p rows.length cap] 27 <| Bc (w.heap.size + 1) #[.slice none 0 0] 27 <| Bc (w.heap.size + 1 + 1) #[.slice none 0 0] 27 <| Bz) ?_
  rintro W1 hW z2 ⟨⟨b1, yb1, k1, f1⟩, ⟨b2, yb2, k2, f2⟩, ⟨b3, yb3, k3, f3⟩, -⟩
  go_wp2
  clear k1 f1 k2 f2 k3 f3
  refine wp_loop (owmRel w p cap rows) (fun a' _ => rows.length - (intAt (a'.tmps.getD 9 undef)).toNat) ?_ ?_
  · unfold owmRel
    exact ⟨hW, b1, b2, 0, _, [], frame_ex rfl, b3, OwnR.nil _ _ _ _, ⟨fun x hx => by cases hx⟩, by simp, Nat.zero_le _⟩
  clear b1 b2 b3 hW
  rintro a' W ⟨hW, b1, b2, i, v, RL, ⟨u, rfl⟩, b3, hown, hrows, hRL, hi'⟩
  have hz := hW.size
  have yb1 := b1.lt
  have yb2 := b2.lt
  have yb3 := b3.lt
  have hlR : RL.length ≤ 9 := by
    have e := congrArg List.length hRL
    rw [List.length_map, List.length_map, List.length_take] at e
    omega
  rcases Nat.lt_or_ge i rows.length with hlt | hge
  · obtain ⟨r0, tr⟩ : ∃ x, rows[i]? = some x := ⟨rows[i]'(by omega), List.getElem?_eq_getElem (by omega)⟩
    obtain ⟨b0, o0, p0, c0, rfl, hcs, hcm⟩ := (h.below hW).at' i _ tr
    have q0 : W.cell? ⟨b0, o0 + i * 6, none⟩ = some (.string r0.name) := hcs 0 _ rfl
    have q1 : W.cell? ⟨b0, o0 + i * 6 + 1, none⟩ = some (.int .i64 r0.eps) := hcs 1 _ rfl
    have q2 : W.cell? ⟨b0, o0 + i * 6 + 2, none⟩ = some (.int .i64 r0.floor) := hcs 2 _ rfl
    have q3 : W.cell? ⟨b0, o0 + i * 6 + 3, none⟩ = some (.int .i64 r0.last) := hcs 3 _ rfl
    have q4 : W.cell? ⟨b0, o0 + i * 6 + 4, none⟩ = some (.int .i64 r0.scale) := hcs 4 _ rfl
    have q5 : W.cell? ⟨b0, o0 + i * 6 + 5, none⟩ = some (.slice p0 r0.pts.length c0) := hcs 5 _ rfl
    have zq := cell_lt q0
    try simp only at zq
    clear hcs
    by_cases h9 : i ≤ 8
    ·
      have k1 := b1.cell
      have f1 := b1.frozen
      have k2 := b2.cell
      have f2 := b2.frozen
      have k3 := b3.cell
      have f3 := b3.frozen
      have hneA : v.ownBlock ≠ some (w.heap.size + 1 + 1) := own_apart hown.own b3 (by decide)
      have hneB : v.ownBlock ≠ some W.heap.size := fun e => by have := (hown.own.lt _ e).2; omega
      go_upto_region 6 with (fail)
      clear k1 f1 k2 f2 k3 f3
      refine wp_cutB w (Bc w.heap.size #[.slice (some ⟨b0, o0, none⟩) rows.length cap] 27 <| Bc (w.heap.size + 1) #[.slice none 0 0] 27 <| Bc (w.heap.size + 1 + 1) #[v] 27 <| Bc W.heap.size #[.string r0.name, .int .i64 r0.eps, .int .i64 r0.floor, .int .i64 r0.last, .int .i64 r0.scale, .slice p0 r0.pts.length c0] 35 <| Rc (fun W' => OwnR W' w.heap.size 35 6 v RL.length (flatRaws RL)) <| Rc (fun W' => PtRows W' w.heap.size RL) <| Rc (fun W' => RawCame W' r0 p0 c0) <| Bz) ?_ (hI := by exact belowAny) (hR := (Bc.mk (by exact blkAny2) <| Bc.mk (by exact blkAny2) <| Bc.mk (by exact blkAny2) <| Bc.mk (by exact blkAny2) <| Rc.mk (by exact hown.below (by exact belowAny)) <| Rc.mk (by exact hrows.below (by exact belowAny)) <| Rc.mk (by exact hcm.below (by exact belowAny)) <| trivial))
      clear b1 b2 b3 hW
      rintro W21 hW z22 ⟨⟨b1, yb1, k1, f1⟩, ⟨b2, yb2, k2, f2⟩, ⟨b3, yb3, k3, f3⟩, ⟨b4, yb4, k4, f4⟩, b5, b6, b7, -⟩
      obtain ⟨vp, vc, rfl, -, -, -, -⟩ := b5.form
      have g0 := k3 0
      have gf := f3 0
      have g1 := k4 0
      have g2 := k4 1
      have g3 := k4 2
      have g4 := k4 3
      have g5 := k4 4
      have g6 := k4 5
      simp only [List.getElem?_toArray, List.getElem?_cons_zero, List.getElem?_cons_succ] at g0 g1 g2 g3 g4 g5 g6
      clear k1 k2 k3 k4 f1 f2 f3 f4
      have c2' := Lib.hid (fun X (hX : Below W21.heap.size W21 X) => c_raw28N r0 p0 c0 X (b7.below hX))
      unfold rawA at c2'
      clear q0 q1 q2 q3 q4 q5 hcm h b7
      go_region_law
        (first
          | (refine step_append_lies _ (by rfl) _ _ _ (by rfl) w.heap.size 35 i0 _ 6 72 (by kernel_rfl) hi0 hz0 hz1 hz2 rfl (by omega) _ RL.length (flatRaws RL) (by rfl) (((b5.below (Below.drew (Below.refl _ W21))).below hB2).own.alloc _) ⟨w2.heap.size, 0, none⟩ 1 1 (rawA (rawOf r0) p' cap').toList (by rfl) (by rfl) (World.news_of_block (cs := rawA (rawOf r0) p' cap') (t := 35) (fr := (0, 0)) (heap_alloc_new w2 _)) (by simp [Value.oneCell', rawA]) (by omega) (by simp [maxLen]; omega) (by omega) (by simp; omega) (w2.heap.size + 1) (by simp) ?_; intro gg cp w9 hown1 hgrow hat hlt9; have gk9 := hgrow.cell_far ⟨w.heap.size + 1 + 1, 0, none⟩ (by simp; omega) (by first | exact Ne.symm hneA | exact Ne.symm hneB); have gf9 := hgrow.frozen_far ⟨w.heap.size + 1 + 1, 0, none⟩ (by simp; omega) (by first | exact Ne.symm hneA | exact Ne.symm hneB); rw [World.cell?_alloc_lt _ _ _ (by simp; omega), gk0] at gk9; rw [World.frozen?_alloc_past _ _ _ (by omega)] at gf9; rw [gkf] at gf9)
          | (go_simp; go_wp2_with (go_at_call 14; refine (c2'.out _ (by first | exact Below.refl _ _ | exact Below.drew (Below.refl _ _) | exact belowAny)).mono ?_; rintro e w2 ⟨p', cap', rfl, hB2, hPt, hcp⟩; have hz2' := hB2.size; try simp at hz2'); have gk0 := ((bcell hB2).1 _ _ (by simp; omega)).trans g0; have gkf := ((bcell hB2).2 _ _ (by simp; omega)).trans gf; have gka := fun (o : Obj) => (World.cell?_alloc_lt w2 o ⟨w.heap.size + 1 + 1, 0, none⟩ (by simp; omega)).trans gk0))
      all_goals (
        clear hneA hneB hown
        obtain ⟨e1, e2, e3, e4, e5, e6⟩ := own28_round (W := W21.drew) (Below.drew hW) b1 b2 b3 b5.drew (b6.below (Below.drew (Below.refl _ W21))) (Below.drew hW).size hB2 hPt hcp hown1 hgrow
        have e7 := e1.size
        clear hown1 hgrow gk9 gf9 hB2 hPt hcp b1 b2 b3 b4 b5 b6 hW gka gk0 gkf
        generalize w9.setCell _ _ = W9 at e1 e2 e3 e4 e5 e6 e7 ⊢
        go_wp2
        refine ⟨?_, by simp [intAt]; omega⟩
        unfold owmRel
        exact ⟨e1, e2, e3, i + 1, _, RL ++ [(⟨rawOf r0, p', cap'⟩ : RawR)], frame_ex rfl, e4, e5, e6, own28_take hRL tr (by omega), hlt⟩)
    ·
      have k1 := b1.cell
      have f1 := b1.frozen
      have k2 := b2.cell
      have f2 := b2.frozen
      have k3 := b3.cell
      have f3 := b3.frozen
      have hr0 := Lib.hid hRL
      clear hRL h hcm
      go_upto_region 5 with (fail)
      clear k1 f1 k2 f2 k3 f3
      refine wp_cutB w (Bc w.heap.size #[.slice (some ⟨b0, o0, none⟩) rows.length cap] 27 <| Bc (w.heap.size + 1) #[.slice none 0 0] 27 <| Bc (w.heap.size + 1 + 1) #[v] 27 <| Rc (fun W' => OwnR W' w.heap.size 35 6 v RL.length (flatRaws RL)) <| Rc (fun W' => PtRows W' w.heap.size RL) <| Bz) ?_ (hI := by exact belowAny) (hR := (Bc.mk (by exact blkAny2) <| Bc.mk (by exact blkAny2) <| Bc.mk (by exact blkAny2) <| Rc.mk (by exact hown.below (by exact belowAny)) <| Rc.mk (by exact hrows.below (by exact belowAny)) <| trivial))
      clear b1 b2 b3 hW
      rintro W21 hW z22 ⟨⟨b1, yb1, k1, f1⟩, ⟨b2, yb2, k2, f2⟩, ⟨b3, yb3, k3, f3⟩, b4, b5, -⟩
      clear k1 f1 k2 f2 k3 f3
      go_wp2
      have hw1 : wrap64 ((i : Int) + 1) = (i : Int) + 1 := by simp only [wrap64_eq]; omega
      try simp only [hw1]
      clear hmx hw1
      refine ⟨?_, by simp [intAt]; omega⟩
      unfold owmRel
      exact ⟨hW, b1, b2, i + 1, v, RL, frame_ex rfl, b3, b4, b5, own28_more hr0.out (by omega), hlt⟩
  · have hlen : rows.length ≤ i := by omega
    obtain ⟨vp, vc, rfl, -, -, -, -⟩ := hown.form
    have k1 := b1.cell
    have f1 := b1.frozen
    have k2 := b2.cell
    have f2 := b2.frozen
    have k3 := b3.cell
    have f3 := b3.frozen
    go_wp2
    have d1 : Below w.heap.size w (W.setCell ⟨w.heap.size + 1, 0, none⟩ (.slice vp RL.length vc)) := belowAny
    have d2 : Blk (W.setCell ⟨w.heap.size + 1, 0, none⟩ (.slice vp RL.length vc)) (w.heap.size + 1) #[.slice vp RL.length vc] 27 := b2.set2 (by rfl)
    have d3 : OwnR (W.setCell ⟨w.heap.size + 1, 0, none⟩ (.slice vp RL.length vc)) w.heap.size 35 6 (.slice vp RL.length vc) RL.length (flatRaws RL) := hown.setX (own_apart hown.own b2 (by decide))
    have d4 : PtRows (W.setCell ⟨w.heap.size + 1, 0, none⟩ (.slice vp RL.length vc)) w.heap.size RL := ⟨fun x hx => ⟨(hrows.at' x hx).1.other b2 (by decide), (hrows.at' x hx).2⟩⟩
    have d6 : ((rows.take 9).map rawOf).length = RL.length := by rw [← own28_all hRL hlen, List.length_map]
    have d0 := d2.cell 0
    simp only [List.getElem?_toArray, List.getElem?_cons_zero] at d0
    refine bodyPost_ret (v := .agg #[.slice vp RL.length vc]) (by simp [results, Tryz.results9, go_sem, d0]) rfl ⟨_, rfl, d1, vp, vc, RL, by rw [d6], by rw [d6]; exact d3, d4, own28_all hRL hlen⟩
end Go.Proofs.YtdeghcgakkhbmaaGreat
namespace Go.Proofs.YtdeghcgakkhbmaaGreat
open Go.RowKit
set_option maxRecDepth 100000 in
set_option maxHeartbeats 2000000 in
theorem c_r18Letter (r : Nat) (w : World) : Calls Tryz.prog 103 #[.int .u8 r] w fun e w' => e = .returned (.bool (letterB r)) ∧ Below w.heap.size w w' := by
  go_enter Tryz.func103, Tryz.ntmps103
  go_upto_region 1 with (fail)
  refine wp_cutB w (Bz) ?_
  rintro W1 hW z2 hL
  refine wp_regS 15 17 hW hL ?_
  iterate 3 refine dA ?_
  iterate 2 refine gA ?_
  refine pA ?_
  refine dA ?_
  iterate 3 refine gA ?_
  iterate 2 refine gB ?_
  refine pgA ?_
  refine pO ?_
  refine dA ?_
  clear hW hL
  rintro W3 hW z4 hL
  simp only [ndR]
  intros
  repeat (rename GDet _ _ _ _ => hgd; clear hgd)
  simp only [ndS]
  refine wpList_nil ?_
  obtain ⟨-⟩ := hL
  go_wp2
  refine bodyPost_ret (v := .bool ((decide (97 ≤ (r : Int)) && decide ((r : Int) ≤ 122)) || (decide (48 ≤ (r : Int)) && decide ((r : Int) ≤ 57)))) (by simp [results, Tryz.results103, go_sem]) rfl ⟨?_, by exact belowAny⟩
  congr 2
  unfold letterB
  rw [Bool.eq_iff_iff]
  simp only [Bool.or_eq_true, Bool.and_eq_true, decide_eq_true_eq]
  omega
set_option maxRecDepth 100000 in
set_option maxHeartbeats 2000000 in
theorem c_r18Time (n : Int) (w : World) : Calls Tryz.prog 55 #[.int .i64 n] w fun e w' => e = .returned (.bool (btw n (0) 281474976710656)) ∧ Below w.heap.size w w' := by
  unfold btw
  go_enter Tryz.func55, Tryz.ntmps55
  go_upto_region 1 with (fail)
  refine wp_cutB w (Bz) ?_
  rintro W1 hW z2 hL
  refine wp_regS 7 9 hW hL ?_
  iterate 3 refine dA ?_
  iterate 2 refine gA ?_
  refine pA ?_
  refine dA ?_
  clear hW hL
  rintro W3 hW z4 hL
  simp only [ndR]
  intros
  repeat (rename GDet _ _ _ _ => hgd; clear hgd)
  simp only [ndS]
  refine wpList_nil ?_
  obtain ⟨-⟩ := hL
  go_wp2
  refine bodyPost_ret (by simp [results, Tryz.results55, go_sem]) rfl ⟨rfl, by exact belowAny⟩
set_option maxRecDepth 100000 in
set_option maxHeartbeats 2000000 in
theorem c_r13Eps (n : Int) (w : World) : Calls Tryz.prog 57 #[.int .i64 n] w fun e w' => e = .returned (.bool (btw n (0) 1099511627776)) ∧ Below w.heap.size w w' := by
  unfold btw
  go_enter Tryz.func57, Tryz.ntmps57
  go_upto_region 1 with (fail)
  refine wp_cutB w (Bz) ?_
  rintro W1 hW z2 hL
  refine wp_regS 7 9 hW hL ?_
  iterate 3 refine dA ?_
  iterate 2 refine gA ?_
  refine pA ?_
  refine dA ?_
  clear hW hL
  rintro W3 hW z4 hL
  simp only [ndR]
  intros
  repeat (rename GDet _ _ _ _ => hgd; clear hgd)
  simp only [ndS]
  refine wpList_nil ?_
  obtain ⟨-⟩ := hL
  go_wp2
  refine bodyPost_ret (by simp [results, Tryz.results57, go_sem]) rfl ⟨rfl, by exact belowAny⟩
set_option maxRecDepth 100000 in
set_option maxHeartbeats 2000000 in
theorem c_r24Scale (n : Int) (w : World) : Calls Tryz.prog 58 #[.int .i64 n] w fun e w' => e = .returned (.bool (btw n (-40) 40)) ∧ Below w.heap.size w w' := by
  unfold btw
  go_enter Tryz.func58, Tryz.ntmps58
  go_upto_region 1 with (fail)
  refine wp_cutB w (Bz) ?_
  rintro W1 hW z2 hL
  refine wp_regS 7 9 hW hL ?_
  iterate 3 refine dA ?_
  iterate 2 refine gA ?_
  refine pA ?_
  refine dA ?_
  clear hW hL
  rintro W3 hW z4 hL
  simp only [ndR]
  intros
  repeat (rename GDet _ _ _ _ => hgd; clear hgd)
  simp only [ndS]
  refine wpList_nil ?_
  obtain ⟨-⟩ := hL
  go_wp2
  refine bodyPost_ret (by simp [results, Tryz.results58, go_sem]) rfl ⟨rfl, by exact belowAny⟩
set_option maxRecDepth 100000 in
set_option maxHeartbeats 2000000 in
theorem c_r13Point (t v : Int) (w : World) : Calls Tryz.prog 59 #[.agg #[.int .i64 t, .int .i64 v]] w fun e w' => e = .returned (.bool (btw t 0 281474976710656 && btw v (-2305843009213693952) 2305843009213693952)) ∧ Below w.heap.size w w' := by
  unfold btw
  rw [← Bool.and_assoc]
  go_enter Tryz.func59, Tryz.ntmps59
  go_upto_region 1 with (fail)
  refine wp_cutB w (Bc w.heap.size #[.int .i64 t, .int .i64 v] 58 <| Bz) ?_
  rintro W1 hW z2 hL
  refine wp_regS 19 21 hW hL ?_
  iterate 4 refine dA ?_
  iterate 3 refine gA ?_
  refine pA ?_
  refine dA ?_
  iterate 3 refine gA ?_
  refine pA ?_
  refine dA ?_
  iterate 3 refine gA ?_
  refine pA ?_
  refine dA ?_
  clear hW hL
  rintro W3 hW z4 hL
  simp only [ndR]
  intros
  repeat (rename GDet _ _ _ _ => hgd; clear hgd)
  simp only [ndS]
  refine wpList_nil ?_
  obtain ⟨⟨b1, yb1, k1, f1⟩, -⟩ := hL
  go_wp2
  refine bodyPost_ret (by simp [results, Tryz.results59, go_sem, k1, f1, yb1]) rfl ⟨rfl, by exact belowAny⟩
theorem let_step (s : ByteArray) (f pos : Nat) (h : pos < s.size) : lettersB s (f + 1) pos = (letterB (s[pos]'h).toNat && lettersB s f (pos + 1)) := by
  have e : lettersB s (f + 1) pos = (letterB (Utf8.decode s pos).1 && lettersB s f (pos + (Utf8.decode s pos).2)) := by simp [lettersB, h]
  rw [e]
  by_cases ha : (s[pos]'h).toNat < 128
  · rw [decode_ascii s pos h ha]
  · have h1 := (decode_high s pos h (by omega)).1
    have n1 : letterB (Utf8.decode s pos).1 = false := by unfold letterB; simp; omega
    have n2 : letterB (s[pos]'h).toNat = false := by unfold letterB; simp; omega
    rw [n1, n2, Bool.false_and, Bool.false_and]
def nm18Rel (w : World) (s : ByteArray) (a' : Act) (W : World) : Prop :=
  Below w.heap.size w W ∧ ∃ i f : Nat, (∃ u : Nat → Value, a' = { tmps := #[.string s, u 1, u 2, u 3, .string s, .int .i64 (s.size : Int), .int .i64 (i : Int), u 7, u 8, u 9, u 10, u 11, u 12, u 13, u 14, u 15, u 16, u 17, u 18, u 19, u 20, u 21, u 22], defers := [] }) ∧ s.size ≤ i + f ∧ lettersB s f i = lettersB s s.size 0 ∧ i ≤ s.size
set_option maxRecDepth 100000 in
set_option maxHeartbeats 2000000 in
theorem c_r18Name (s : ByteArray) (w : World) (hs9 : s.size ≤ 1000) : Calls Tryz.prog 56 #[.string s] w fun e w' => e = .returned (.bool (nameB s)) ∧ Below w.heap.size w w' := by
  go_enter Tryz.func56, Tryz.ntmps56
  go_wp2
  refine wp_loop (nm18Rel w s) (fun a' _ => s.size - (intAt (a'.tmps.getD 6 undef)).toNat) ?_ ?_
  · unfold nm18Rel
    exact ⟨Below.refl _ _, 0, s.size, frame_ex rfl, by omega, rfl, by omega⟩
  · rintro a' W ⟨hW, i, f, ⟨u, rfl⟩, hf, hlet, hi⟩
    have hz := hW.size
    rcases Nat.lt_or_ge i s.size with hlt | hge
    · obtain ⟨f, rfl⟩ : ∃ g, f = g + 1 := ⟨f - 1, by omega⟩
      rw [let_step s f i hlt] at hlet
      obtain ⟨c, hc⟩ : ∃ c, (s[i]'hlt).toNat = c := ⟨_, rfl⟩
      have hix : ∀ W, (Instr.index 9 (.string s) (.int .i64 (i : Int))).run Tryz.prog W = .ok (.int .u8 (c : Int)) W := fun W => by
        rw [run_index_string _ _ _ _ _ (by kernel_rfl), dif_pos (by omega)]
        simp only [Int.toNat_natCast, hc]
      rw [hc] at hlet
      have cl := fun W => c_r18Letter c W
      obtain ⟨b, hb⟩ : ∃ b, letterB c = b := ⟨_, rfl⟩
      rw [hb] at cl hlet
      clear hc hb
      replace cl := Lib.hid cl
      replace hlet := Lib.hid hlet
      cases b with
      | true =>
        go_wp2_with fail
        refine (cl.out _).mono ?_
        rintro e w5 ⟨rfl, hb5⟩
        go_wp2
        rw [show (i : Int) + 1 = ((i + 1 : Nat) : Int) by omega]
        refine ⟨?_, by simp [intAt]; omega⟩
        unfold nm18Rel
        exact ⟨hW.trans (hb5.mono hz), i + 1, f, frame_ex rfl, by omega, by rw [← hlet.out]; rfl, by omega⟩
      | false =>
        have hno := Lib.hid (show nameB s = false by unfold nameB; rw [← hlet.out]; simp)
        go_wp2_with fail
        refine (cl.out _).mono ?_
        rintro e w5 ⟨rfl, hb5⟩
        go_wp2
        go_ret
        exact ⟨by rw [hno.out]; rfl, hW.trans (hb5.mono hz)⟩
    · have hall : lettersB s s.size 0 = true := by
        rw [← hlet]
        cases f with
        | zero => rfl
        | succ f => simp [lettersB, Nat.not_lt.2 hge]
      clear hlet
      have hnm : nameB s = (decide (1 ≤ (s.size : Int)) && decide ((s.size : Int) ≤ 12)) := by
        unfold nameB
        rw [hall, Bool.and_true, Bool.eq_iff_iff]
        simp only [Bool.and_eq_true, decide_eq_true_eq]
        omega
      replace hnm := Lib.hid hnm
      clear hall
      go_upto_region 7 with (fail)
      refine wp_cutB w (Bz) ?_
      clear hW
      rintro W21 hW z22 hL
      refine wp_regS 9 23 hW hL ?_
      iterate 4 refine dA ?_
      iterate 3 refine gA ?_
      refine pA ?_
      refine dA ?_
      clear hW hL
      rintro W23 hW z24 hL
      simp only [ndR]
      intros
      repeat (rename GDet _ _ _ _ => hgd; clear hgd)
      simp only [ndS]
      refine wpList_nil ?_
      obtain ⟨-⟩ := hL
      go_wp2
      refine bodyPost_ret (v := .bool (decide (1 ≤ (s.size : Int)) && decide ((s.size : Int) ≤ 12))) (by simp [results, Tryz.results56, go_sem]) rfl ⟨by rw [hnm.out], by exact belowAny⟩
end Go.Proofs.YtdeghcgakkhbmaaGreat
