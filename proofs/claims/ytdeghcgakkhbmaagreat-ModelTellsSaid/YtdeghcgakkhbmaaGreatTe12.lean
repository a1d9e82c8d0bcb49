/- Parts of the proof that follows: slices.Clone, of segments and points, and of runs and numbers that may be nil. No condition. | A region that draws its order, in which one step writes into a block of the call's own, and what that block holds is told before and behind: the step may stand ahead of some that only read. No condition. | The laws of chapter 26: own. No condition. | A raw series and a model, plainly: which may be, what is told of some times. No condition. | Layer model: whether a number is between two, whether a point, whether a raw series may be. No condition. | The laws of chapter 28: a raw series in memory of its own. No condition but that its points can be read. | Reference 25: ends, Total. No condition but that there is one at least, or that they are few. | The document's segments: Kind, Right walked. | The document's segments: Right, Points told. | Reference 25: Total. No condition but that they are few. -/
import Derived.Test.YtdeghcgakkhbmaaGreatTe11
set_option linter.unusedSimpArgs false
set_option linter.unusedVariables false
namespace Go.Proofs.YtdeghcgakkhbmaaGreat
open Go.RowKit
/-- A row that lies in a block of its own. -/
def RowOwn (w : World) (e : TypeId) (n k : Nat) (news : List Value) (v : Value) (w' : World) : Prop := ∃ g cap' cur, v = .slice (some ⟨g, 0, none⟩) n cap' ∧ w.heap.size ≤ g ∧ Blk w' g cur e ∧ n ≤ cap' ∧ cur.toList.take k = news
set_option maxRecDepth 100000 in
set_option maxHeartbeats 2000000 in
theorem clonePt_nil (w : World) : Calls Tryz.prog 41 #[.slice none 0 0] w fun e w' => e = .returned (.slice none 0 0) ∧ Below w.heap.size w w' := by
  go_enter Tryz.func41, Tryz.ntmps41
  have hnil : ∀ W, (binOp .eql 33 (.slice none 0 0) (.slice none 0 0)).run Tryz.prog W = .ok (.bool true) W := fun W => by kernel_rfl
  go_wp2
  go_ret
  exact ⟨rfl, belowAny⟩
end Go.Proofs.YtdeghcgakkhbmaaGreat
namespace Go.Proofs.YtdeghcgakkhbmaaGreat
open Go.RowKit
section
variable {P : Program} {ops : Array Oper} {C : World → Prop} {X : List (Nat × Nat)} {a0 : Act} {n : Nat} {Q : Exit → Act → World → Prop}
end
end Go.Proofs.YtdeghcgakkhbmaaGreat
namespace Go.Proofs.YtdeghcgakkhbmaaGreat
open Go.RowKit
/-- A row in a block of its own. -/
def RowS (B : Nat) (e : TypeId) (n k : Nat) (news : List Value) : Spec := fun v w => ∃ g cap cur, v = .slice (some ⟨g, 0, none⟩) n cap ∧ B ≤ g ∧ Blk w g cur e ∧ n ≤ cap ∧ cur.toList.take k = news
theorem RowS.closed (B : Nat) (e : TypeId) (n k : Nat) (news : List Value) : Closed [] (RowS B e n k news) := fun _ _ _ hr ⟨g, c, cur, e1, h1, h, h2, h3⟩ => ⟨g, c, cur, e1, h1, h.rex hr (by simp), h2, h3⟩
/-- Points in a block of their own, or nil. -/
def PtS (B N : Nat) (l : List (Int × Int)) : Spec := fun v w => (v = .slice none 0 0 ∧ l = [] ∧ N = 0) ∨ RowS B 58 N (N * 2) (flatPts l) v w
theorem PtS.closed (B N : Nat) (l : List (Int × Int)) : Closed [] (PtS B N l) := fun _ _ _ hr h => by
  rcases h with h | h
  · exact .inl h
  · exact .inr (RowS.closed _ _ _ _ _ _ _ _ hr h)
def ownK (s : SegT) : SegT := ⟨s.K, s.runs.take 257, s.A, s.R, s.n, s.d, s.raw.take 257, s.E⟩
/-- A segment of one's own. -/
structure OwnSegK (W : World) (g : Nat) (r0 r : SegR) : Prop where
  says : r.s = ownK r0.s
  runs : RunsIn W r.p r.s.runs
  raw : IntsIn W r.q r.s.raw
  capV : r.s.raw.length ≤ r.vc
  farR : ∀ a, r.p = some a → g < a.block
  farV : ∀ a, r.q = some a → g < a.block
theorem OwnSegK.rex {W W' : World} {g : Nat} {r0 r : SegR} {L : List Nat} (h : OwnSegK W g r0 r) (hL : ∀ x, x ∈ L → x ≤ g) (hr : Rex L W W') : OwnSegK W' g r0 r := ⟨h.says, h.runs.rex1 hL h.farR hr, h.raw.rex1 hL h.farV hr, h.capV, h.farR, h.farV⟩
structure OwnToK (W : World) (g : Nat) (rows R : List SegR) (i : Nat) : Prop where
  len : R.length = rows.length
  rest : ∀ k, i ≤ k → R[k]? = rows[k]?
  own : ∀ k, k < i → ∀ r, R[k]? = some r → ∃ r0, rows[k]? = some r0 ∧ OwnSegK W g r0 r
theorem OwnToK.rex {W W' : World} {g i : Nat} {rows R : List SegR} {L : List Nat} (h : OwnToK W g rows R i) (hL : ∀ x, x ∈ L → x ≤ g) (hr : Rex L W W') : OwnToK W' g rows R i := ⟨h.len, h.rest, fun k hk r hR => by
  obtain ⟨r0, h1, h2⟩ := h.own k hk r hR
  exact ⟨r0, h1, h2.rex hL hr⟩⟩
theorem OwnToK.step {W : World} {g i : Nat} {rows R : List SegR} {r0 r1 : SegR} (h : OwnToK W g rows R i) (h0 : rows[i]? = some r0) (h1 : OwnSegK W g r0 r1) : OwnToK W g rows (R.set i r1) (i + 1) := ⟨by rw [List.length_set]; exact h.len, fun k hk => by rw [List.getElem?_set_ne (by omega)]; exact h.rest k (by omega), fun k hk r hR => by
  rw [List.getElem?_set] at hR
  split at hR
  · rename_i e
    subst e
    split at hR
    · injection hR with hR
      subst hR
      exact ⟨r0, h0, h1⟩
    · cases hR
  · exact h.own k (by omega) r hR⟩
structure PtRow (w : World) (B : Nat) (p : Option Addr) (l : List (Int × Int)) : Prop where
  at' : (p = none ∧ l = []) ∨ ∃ g cur k, p = some ⟨g, 0, none⟩ ∧ B ≤ g ∧ Blk w g cur 58 ∧ cur.toList.take k = flatPts l
theorem PtRow.pts {w : World} {B : Nat} {p : Option Addr} {l : List (Int × Int)} (h : PtRow w B p l) : PtsIn w p l := by
  rcases h.at' with ⟨rfl, rfl⟩ | ⟨g, cur, k, rfl, _, hb, ht⟩
  · exact ⟨fun i r hr => by simp at hr⟩
  · exact pts_in hb ht
theorem PtRow.keep {w w' : World} {B : Nat} {p : Option Addr} {l : List (Int × Int)} (h : PtRow w B p l) (hk : ∀ g cs, B ≤ g → Blk w g cs 58 → Blk w' g cs 58) : PtRow w' B p l := by
  rcases h.at' with h | ⟨g, cur, k, e, hB, hb, ht⟩
  · exact ⟨.inl h⟩
  · exact ⟨.inr ⟨g, cur, k, e, hB, hk g cur hB hb, ht⟩⟩
theorem PtRow.below {w w' : World} {B : Nat} {p : Option Addr} {l : List (Int × Int)} (h : PtRow w B p l) (hb : Below w.heap.size w w') : PtRow w' B p l := h.keep fun _ _ _ h => h.below hb
theorem PtRow.mono {w : World} {B B' : Nat} {p : Option Addr} {l : List (Int × Int)} (h : PtRow w B p l) (hB : B' ≤ B) : PtRow w B' p l := by
  rcases h.at' with h | ⟨g, cur, k, e, h1, hb, ht⟩
  · exact ⟨.inl h⟩
  · exact ⟨.inr ⟨g, cur, k, e, Nat.le_trans hB h1, hb, ht⟩⟩
theorem PtRow.setO {w : World} {B o : Nat} {p : Option Addr} {l : List (Int × Int)} (h : PtRow w B p l) (ho : o < B) (i : Nat) (v : Value) : PtRow (w.setCell ⟨o, i, none⟩ v) B p l := h.keep fun g _ hg h => h.setO (by omega) i v
/-- What holds, whatever is written into blocks below B. -/
def Lasts (B : Nat) (w : World) (F : World → Prop) : Prop := ∀ L W, (∀ x, x ∈ L → x < B) → Rex L w W → F W
theorem Lasts.now {B : Nat} {w : World} {F : World → Prop} (h : Lasts B w F) : F w := h [] w (fun x hx => by cases hx) (Rex.refl _ _)
theorem PtRow.rex {w w' : World} {B gS : Nat} {cs : Array Value} {p : Option Addr} {l : List (Int × Int)} (h : PtRow w B p l) (hS : Blk w gS cs 135) (hr : Rex [gS] w w') : PtRow w' B p l := h.keep fun g c _ hg => hg.rex hr (by
  simp
  rintro rfl
  unfold Blk at hg hS
  rw [hS] at hg
  injection hg with hg
  injection hg with _ h2 _
  revert h2
  decide)
theorem PtS.form {B N : Nat} {l : List (Int × Int)} {v : Value} {w : World} (h : PtS B N l v w) : ∃ p cap, v = .slice p N cap ∧ PtRow w B p l ∧ N ≤ cap := by
  rcases h with ⟨rfl, rfl, rfl⟩ | ⟨g, cap, cur, rfl, hg, hb, hc, ht⟩
  · exact ⟨none, 0, rfl, ⟨.inl ⟨rfl, rfl⟩⟩, Nat.le_refl _⟩
  · exact ⟨_, cap, rfl, ⟨.inr ⟨g, cur, _, rfl, hg, hb, ht⟩⟩, hc⟩
/-- A copy of runs, of numbers, in a block of its own. -/
def RunC (B K : Nat) (l : List RunT) : Spec := fun v w => ∃ p c, v = .slice p K c ∧ RunsIn w p l ∧ K ≤ c ∧ ∀ a, p = some a → B ≤ a.block
theorem RunC.closed (B K : Nat) (l : List RunT) : Closed [] (RunC B K l) := fun _ _ _ hr ⟨p, c, e, h, h2⟩ => ⟨p, c, e, h.rex hr rfl, h2⟩
def IntC (B K : Nat) (l : List Int) : Spec := fun v w => ∃ p c, v = .slice p K c ∧ IntsIn w p l ∧ K ≤ c ∧ ∀ a, p = some a → B ≤ a.block
theorem IntC.closed (B K : Nat) (l : List Int) : Closed [] (IntC B K l) := fun _ _ _ hr ⟨p, c, e, h, h2⟩ => ⟨p, c, e, h.below hr.below, h2⟩
def own26Rel (w : World) (nm9 : ByteArray) (ep fl la sc : Int) (pP : Option Addr) (capP N : Nat) (rows : List SegR) (pts : List (Int × Int)) (M gS capS : Nat) (a' : Act) (W : World) : Prop :=
  Below w.heap.size w W ∧ Blk W w.heap.size #[.string nm9, .int .i64 ep, .int .i64 fl, .int .i64 la, .int .i64 sc, .slice (some ⟨gS, 0, none⟩) M capS, .slice pP N capP] 79 ∧ Blk W (w.heap.size + 1) #[.string .empty, .int .i64 0, .int .i64 0, .int .i64 0, .int .i64 0, .slice none 0 0, .slice none 0 0] 79 ∧ PtRow W (w.heap.size + 1 + 1) pP pts ∧ ∃ (i : Nat) (cur : Array Value) (R : List SegR), Blk W gS cur 135 ∧ SegCells cur R ∧ OwnToK W gS rows R i ∧ (∃ u : Nat → Value, a' = { tmps := #[u 0, .pointer (some ⟨w.heap.size, 0, none⟩), .pointer (some ⟨w.heap.size + 1, 0, none⟩), u 3, u 4, u 5, u 6, u 7, u 8, u 9, u 10, u 11, u 12, u 13, u 14, u 15, u 16, u 17, u 18, u 19, u 20, u 21, u 22, u 23, u 24, u 25, u 26, u 27, u 28, u 29, u 30, u 31, .slice (some ⟨gS, 0, none⟩) M capS, .int .i64 (M : Int), .int .i64 (i : Int), u 35, u 36, u 37, u 38, u 39, u 40, u 41, u 42, u 43, u 44, u 45, u 46, u 47, u 48, u 49, u 50, u 51, u 52, u 53, u 54, u 55, u 56, u 57, u 58, u 59, u 60, u 61, u 62, u 63, u 64, u 65, u 66], defers := [] }) ∧ i ≤ M
def ownNRel (w : World) (nm9 : ByteArray) (ep fl la sc : Int) (pP : Option Addr) (capP N : Nat) (pts : List (Int × Int)) (a' : Act) (W : World) : Prop :=
  Below w.heap.size w W ∧ Blk W w.heap.size #[.string nm9, .int .i64 ep, .int .i64 fl, .int .i64 la, .int .i64 sc, .slice none 0 0, .slice pP N capP] 79 ∧ Blk W (w.heap.size + 1) #[.string .empty, .int .i64 0, .int .i64 0, .int .i64 0, .int .i64 0, .slice none 0 0, .slice none 0 0] 79 ∧ PtRow W (w.heap.size + 1 + 1) pP pts ∧ (∃ u : Nat → Value, a' = { tmps := #[u 0, .pointer (some ⟨w.heap.size, 0, none⟩), .pointer (some ⟨w.heap.size + 1, 0, none⟩), u 3, u 4, u 5, u 6, u 7, u 8, u 9, u 10, u 11, u 12, u 13, u 14, u 15, u 16, u 17, u 18, u 19, u 20, u 21, u 22, u 23, u 24, u 25, u 26, u 27, u 28, u 29, u 30, u 31, .slice none 0 0, .int .i64 0, .int .i64 0, u 35, u 36, u 37, u 38, u 39, u 40, u 41, u 42, u 43, u 44, u 45, u 46, u 47, u 48, u 49, u 50, u 51, u 52, u 53, u 54, u 55, u 56, u 57, u 58, u 59, u 60, u 61, u 62, u 63, u 64, u 65, u 66], defers := [] })
end Go.Proofs.YtdeghcgakkhbmaaGreat
namespace Go.Proofs.YtdeghcgakkhbmaaGreat
open Go.RowKit
/-- What a raw series says. -/
structure RawT where
  name : ByteArray
  eps : Int
  floor : Int
  last : Int
  scale : Int
  pts : List (Int × Int)
def ptB (p : Int × Int) : Bool := btw p.1 0 281474976710656 && btw p.2 (-2305843009213693952) 2305843009213693952
def rawPtsB (fl : Int) : Int → List (Int × Int) → Bool
  | _, [] => true
  | b, p :: l => (ptB p && (decide (fl ≤ p.1) && decide (b < p.1))) && rawPtsB fl p.1 l
def rawNumsB (r : RawT) : Bool := nameB r.name && (btw r.eps 0 1099511627776 && (btw r.scale (-40) 40 && (btw r.floor 0 281474976710656 && (btw r.last (-1) 281474976710656 && decide (r.pts.length ≤ 1024)))))
def rawB (r : RawT) : Bool := rawNumsB r && (rawPtsB r.floor (-1) r.pts && (r.pts.isEmpty || r.last == lastOr (-1) (r.pts.map (·.1))))
theorem rawPtsB_snoc (fl : Int) : ∀ (l : List (Int × Int)) (b : Int) (p : Int × Int), rawPtsB fl b (l ++ [p]) = (rawPtsB fl b l && (ptB p && (decide (fl ≤ p.1) && decide (lastOr b (l.map (·.1)) < p.1))))
  | [], b, p => by simp [rawPtsB, lastOr]
  | q :: l, b, p => by
    simp only [List.cons_append, rawPtsB, List.map_cons, lastOr]
    rw [rawPtsB_snoc fl l]
    simp only [Bool.and_assoc]
/-- The points of some times. -/
def someL (r : RawT) (a b : Int) : List (Int × Int) := r.pts.filter fun p => decide (a ≤ p.1) && decide (p.1 ≤ b)
def someV (r : RawT) (a b : Int) : List Int := (someL r a b).map (·.2)
end Go.Proofs.YtdeghcgakkhbmaaGreat
namespace Go.Proofs.YtdeghcgakkhbmaaGreat
open Go.RowKit
/-- a raw series as a value -/
def rawA (r : RawT) (p : Option Addr) (cap : Nat) : Array Value := #[.string r.name, .int .i64 r.eps, .int .i64 r.floor, .int .i64 r.last, .int .i64 r.scale, .slice p r.pts.length cap]
/-- behind so many points: may all be so far, and the time of the last one -/
def goR (r : RawT) (i : Nat) : Bool × Int := (rawNumsB r && rawPtsB r.floor (-1) (r.pts.take i), lastOr (-1) ((r.pts.take i).map (·.1)))
theorem goR_step (r : RawT) {i : Nat} {t v : Int} {ok : Bool} {ah : Int} (h : goR r i = (ok, ah)) (hi : r.pts[i]? = some (t, v)) : goR r (i + 1) = (ok && (ptB (t, v) && (decide (r.floor ≤ t) && decide (ah < t))), t) := by
  have e : r.pts.take (i + 1) = r.pts.take i ++ [(t, v)] := by rw [List.take_add_one, hi]; rfl
  unfold goR at h ⊢
  injection h with h1 h2
  rw [e, rawPtsB_snoc, List.map_append, List.map_cons, List.map_nil, lastOr_snoc, h2, ← h1, Bool.and_assoc]
theorem goR_end (r : RawT) {ok : Bool} {ah : Int} (h : goR r r.pts.length = (ok, ah)) : rawB r = (ok && (r.pts.isEmpty || r.last == ah)) := by
  unfold goR at h
  injection h with h1 h2
  rw [List.take_of_length_le (Nat.le_refl _)] at h1 h2
  unfold rawB
  rw [h2, ← h1, Bool.and_assoc]
theorem goR_zero (r : RawT) : goR r 0 = (nameB r.name && btw r.eps 0 1099511627776 && btw r.scale (-40) 40 && btw r.floor 0 281474976710656 && btw r.last (-1) 281474976710656 && decide ((r.pts.length : Int) ≤ 1024), -1) := by
  have e : decide ((r.pts.length : Int) ≤ 1024) = decide (r.pts.length ≤ 1024) := by congr 1; simp only [eq_iff_iff]; omega
  unfold goR rawNumsB
  rw [e]
  simp [rawPtsB, lastOr, Bool.and_assoc]
set_option maxRecDepth 100000 in
set_option maxHeartbeats 2000000 in
theorem c_mdBtw (n lo hi : Int) (w : World) : Calls Tryz.prog 69 #[.int .i64 n, .int .i64 lo, .int .i64 hi] w fun e w' => e = .returned (.bool (btw n lo hi)) ∧ Below w.heap.size w w' := by
  unfold btw
  go_enter Tryz.func69, Tryz.ntmps69
  go_upto_region 1 with (fail)
  refine wp_cutB w (Bz) ?_
  rintro W1 hW z2 hL
  refine wp_regS 9 15 hW hL ?_
  iterate 4 refine dA ?_
  iterate 3 refine gA ?_
  refine pA ?_
  refine dA ?_
  clear hW hL
  rintro W3 hW z4 hL
  simp only [ndR]
  intros
  repeat (rename GDet _ _ _ _ => hgd; clear hgd)
  simp only [ndS]
  refine wpList_nil ?_
  obtain ⟨-⟩ := hL
  go_wp2
  refine bodyPost_ret (by simp [results, Tryz.results69, go_sem]) rfl ⟨rfl, by exact belowAny⟩
set_option maxRecDepth 100000 in
set_option maxHeartbeats 2000000 in
theorem c_mdPoint (t v : Int) (w : World) : Calls Tryz.prog 74 #[.agg #[.int .i64 t, .int .i64 v]] w fun e w' => e = .returned (.bool (ptB (t, v))) ∧ Below w.heap.size w w' := by
  unfold ptB
  go_enter Tryz.func74, Tryz.ntmps74
  go_upto_region 1 with (fail)
  refine wp_cutB w (Bc w.heap.size #[.int .i64 t, .int .i64 v] 58 <| Bz) ?_
  rintro W1 hW z2 hL
  refine wp_regS 9 11 hW hL ?_
  iterate 2 refine dA ?_
  refine cA (fun W' hC => c_mdBtw t 0 281474976710656 W') ?_
  refine dA ?_
  iterate 2 refine gA ?_
  refine cG (fun hp hx W' hC => c_mdBtw v (-2305843009213693952) 2305843009213693952 W') ?_
  refine pA ?_
  refine dA ?_
  clear hW hL
  rintro W3 hW z4 hL
  simp only [ndR]
  intros
  repeat (rename GDet _ _ _ _ => hgd; clear hgd)
  simp only [ndS]
  refine wpList_nil ?_
  obtain ⟨⟨b1, yb1, k1, f1⟩, -⟩ := hL
  go_wp2
  refine bodyPost_ret (by simp [results, Tryz.results74, go_sem, k1, f1, yb1]) rfl ⟨rfl, by exact belowAny⟩
def crRel (w : World) (r : RawT) (p : Option Addr) (cap : Nat) (a' : Act) (W : World) : Prop :=
  Below w.heap.size w W ∧ Blk W w.heap.size #[.string r.name, .int .i64 r.eps, .int .i64 r.floor, .int .i64 r.last, .int .i64 r.scale, .slice p r.pts.length cap] 35 ∧ ∃ (i : Nat) (ok : Bool) (ah : Int), (∃ u : Nat → Value, a' = { tmps := #[.agg #[.string r.name, .int .i64 r.eps, .int .i64 r.floor, .int .i64 r.last, .int .i64 r.scale, .slice p r.pts.length cap], .pointer (some ⟨w.heap.size, 0, none⟩), .int .i64 0, .bool ok, .int .i64 ah, u 5, u 6, u 7, u 8, u 9, u 10, u 11, u 12, u 13, u 14, u 15, u 16, u 17, u 18, u 19, u 20, u 21, u 22, u 23, u 24, u 25, u 26, u 27, u 28, u 29, u 30, u 31, u 32, u 33, u 34, u 35, u 36, .slice p r.pts.length cap, .int .i64 (r.pts.length : Int), .int .i64 (i : Int), u 40, u 41, u 42, u 43, u 44, u 45, u 46, u 47, u 48, u 49, u 50, u 51, u 52, u 53, u 54, u 55, u 56, u 57, u 58, u 59, u 60, u 61, u 62, u 63, u 64, u 65, u 66, u 67, u 68, u 69, u 70, u 71, u 72, u 73, u 74, u 75, u 76, u 77], defers := [] }) ∧ i ≤ r.pts.length ∧ goR r i = (ok, ah)
set_option maxRecDepth 100000 in
set_option maxHeartbeats 2000000 in
theorem c_mdCheckRaw (r : RawT) (p : Option Addr) (cap : Nat) (w : World) (hp : PtsIn w p r.pts) (hl : r.pts.length ≤ 2000) :
    Calls Tryz.prog 32 #[.agg (rawA r p cap)] w fun e w' => e = .returned (.int .i64 (if rawB r = true then 0 else 380)) ∧ Below w.heap.size w w' := by
  unfold rawA
  obtain ⟨E, hE⟩ : ∃ E : Int, (if rawB r = true then 0 else 380) = E := ⟨_, rfl⟩
  rw [hE]
  replace hE := Lib.hid hE
  go_enter Tryz.func32, Tryz.ntmps32
  go_upto_region 1 with (fail)
  refine wp_cutB w (Bc w.heap.size #[.string r.name, .int .i64 r.eps, .int .i64 r.floor, .int .i64 r.last, .int .i64 r.scale, .slice p r.pts.length cap] 35 <| Bz) ?_
  rintro W1 hW z2 hL
  refine wp_regS 30 78 hW hL ?_
  iterate 2 refine dA ?_
  refine cA (fun W' hC => c_recName r.name W') ?_
  refine dA ?_
  iterate 2 refine gA ?_
  refine cG (fun hp hx W' hC => c_mdBtw r.eps 0 1099511627776 W') ?_
  refine pA ?_
  refine dA ?_
  iterate 2 refine gA ?_
  refine cG (fun hp hx W' hC => c_mdBtw r.scale (-40) 40 W') ?_
  refine pA ?_
  refine dA ?_
  iterate 2 refine gA ?_
  refine cG (fun hp hx W' hC => c_mdBtw r.floor 0 281474976710656 W') ?_
  refine pA ?_
  refine dA ?_
  iterate 2 refine gA ?_
  refine cG (fun hp hx W' hC => c_mdBtw r.last (-1) 281474976710656 W') ?_
  refine pA ?_
  refine dA ?_
  iterate 4 refine gA ?_
  refine pA ?_
  refine dA ?_
  clear hW hL
  rintro W3 hW z4 hL
  simp only [ndR]
  intros
  repeat (rename GDet _ _ _ _ => hgd; clear hgd)
  simp only [ndS]
  refine wpList_nil ?_
  obtain ⟨⟨b1, yb1, k1, f1⟩, -⟩ := hL
  have h0 := goR_zero r
  obtain ⟨ok, hok⟩ : ∃ ok, (nameB r.name && btw r.eps 0 1099511627776 && btw r.scale (-40) 40 && btw r.floor 0 281474976710656 && btw r.last (-1) 281474976710656 && decide ((r.pts.length : Int) ≤ 1024)) = ok := ⟨_, rfl⟩
  rw [hok] at h0 ⊢
  replace h0 := Lib.hid h0
  clear hok
  go_wp2
  refine wp_loop (crRel w r p cap) (fun a' _ => r.pts.length - (intAt (a'.tmps.getD 39 undef)).toNat) ?_ ?_
  · unfold crRel
    exact ⟨hW, b1, 0, ok, -1, frame_ex rfl, Nat.zero_le _, h0.out⟩
  clear b1 hW h0 k1
  rintro a' W ⟨hW0, b1, i, ok, ah, ⟨u, rfl⟩, hi', hgo⟩
  have hz := hW0.size
  have zb1 := b1.lt
  rcases Nat.lt_or_ge i r.pts.length with hlt | hge
  · obtain ⟨⟨t, v⟩, tr⟩ : ∃ x, r.pts[i]? = some x := ⟨r.pts[i]'(by omega), List.getElem?_eq_getElem (by omega)⟩
    obtain ⟨b, o, rfl, q0, q1⟩ := (hp.below hW0).at' i _ tr
    simp only at q0 q1
    have hgo2 := Lib.hid (goR_step r hgo tr)
    have c5 := fun W => c_mdPoint t v W
    obtain ⟨B5, hB5⟩ : ∃ B, ptB (t, v) = B := ⟨_, rfl⟩
    rw [hB5] at c5 hgo2
    replace c5 := Lib.hid c5
    clear hgo tr hB5
    have k1 := b1.cell
    have f1 := b1.frozen
    go_upto_region 6 with (fail)
    clear k1 f1
    refine wp_cutB W (Bc w.heap.size #[.string r.name, .int .i64 r.eps, .int .i64 r.floor, .int .i64 r.last, .int .i64 r.scale, .slice (some ⟨b, o, none⟩) r.pts.length cap] 35 <| Bc W.heap.size #[.int .i64 t, .int .i64 v] 58 <| Bz) ?_
    clear b1
    rintro W21 hW z22 hL
    refine wp_regS 19 78 hW hL ?_
    iterate 2 refine dA ?_
    refine gA ?_
    refine cG (fun hp hx W' hC => c5.out W') ?_
    refine pA ?_
    refine dA ?_
    iterate 5 refine gA ?_
    refine pA ?_
    refine dA ?_
    iterate 4 refine gA ?_
    refine pA ?_
    refine dA ?_
    clear hW hL
    rintro W23 hW z24 hL
    simp only [ndR]
    intros
    repeat (rename GDet _ _ _ _ => hgd; clear hgd)
    simp only [ndS]
    refine wpList_nil ?_
    obtain ⟨⟨b1, yb1, k1, f1⟩, ⟨b2, yb2, k2, f2⟩, -⟩ := hL
    go_wp2
    refine ⟨?_, by simp [intAt]; omega⟩
    unfold crRel
    exact ⟨hW0.trans (hW.mono hz), b1, i + 1, _, _, frame_ex rfl, by omega, by rw [hgo2.out, Bool.and_assoc, Bool.and_assoc]⟩
  · obtain rfl : i = r.pts.length := by omega
    have he := goR_end r hgo
    clear hgo
    have k1 := b1.cell
    have f1 := b1.frozen
    have hn0 : (0 : Int) ≤ r.pts.length := by omega
    cases ok with
    | false =>
      have hv := Lib.hid (show E = 380 by rw [← hE.out, he]; rfl)
      clear he
      go_wp2
      go_ret
      exact ⟨by rw [hv.out]; rfl, belowAny⟩
    | true =>
      by_cases h0 : r.pts.length = 0
      · have h1 : ¬ (0 < (r.pts.length : Int)) := by omega
        have h2 : r.pts.isEmpty = true := by rw [List.isEmpty_iff_length_eq_zero]; exact h0
        have hv := Lib.hid (show E = 0 by rw [← hE.out, he, h2]; rfl)
        clear h0 h2 he
        go_wp2
        go_ret
        exact ⟨by rw [hv.out]; rfl, belowAny⟩
      · have h1 : 0 < (r.pts.length : Int) := by omega
        have h2 : r.pts.isEmpty = false := by
          cases hh : r.pts with
          | nil => rw [hh] at h0; exact absurd rfl h0
          | cons _ _ => rfl
        by_cases hl : r.last = ah
        · subst hl
          have hv := Lib.hid (show E = 0 by rw [← hE.out, he, h2]; simp)
          clear h0 h2 he
          go_wp2
          go_ret
          exact ⟨by rw [hv.out]; rfl, belowAny⟩
        · have hne : (r.last != ah) = true := by simpa using hl
          have hbe : (r.last == ah) = false := by simpa using hl
          have hv := Lib.hid (show E = 380 by rw [← hE.out, he, h2, hbe]; rfl)
          clear h0 h2 he hbe
          go_wp2
          go_ret
          exact ⟨by rw [hv.out]; rfl, belowAny⟩
end Go.Proofs.YtdeghcgakkhbmaaGreat
namespace Go.Proofs.YtdeghcgakkhbmaaGreat
open Go.RowKit
set_option maxRecDepth 100000 in
set_option maxHeartbeats 2000000 in
theorem clonePtB_some (a : Addr) (cap : Nat) (l : List (Int × Int)) (w : World) (hl : l.length ≤ 2000) (h : PtsIn w (some a) l) : Calls Tryz.prog 41 #[.slice (some a) l.length cap] w fun e w' => ∃ v, e = .returned v ∧ Below w.heap.size w w' ∧ RowOwn w 58 l.length (l.length * 2) (flatPts l) v w' := by
  have hnil : ∀ W, (binOp .eql 33 (.slice (some a) l.length cap) (.slice none 0 0)).run Tryz.prog W = .ok (.bool false) W := fun W => Lib.run_eql_slice_nil W 33 58 _ _ _ _ _ (by kernel_rfl)
  go_enter Tryz.func41, Tryz.ntmps41
  go_upto_region 3 with (fail)
  clear hnil
  have hmk : ∀ W, (Instr.buildSlice 33 0 #[]).run Tryz.prog W = .ok (.slice (some ⟨W.heap.size, 0, none⟩) 0 0) (W.alloc (.cells #[] 58)) := fun W => by kernel_rfl
  obtain ⟨i, hi, hz0, hz1, hz2⟩ := info_parts Tryz.infoPt
  have hW : Below w.heap.size w (w.alloc (.cells #[] 58)) := belowAny
  have hown0 := World.ownsRow_made (e := 58) (size := 2) (base := w.heap.size) w #[] 0 (Nat.le_refl _) (by simp [maxLen]) (by simp)
  go_wp2_with (at_builtin; refine wpList_append_own _ rfl (.tmp 5) (.tmp 6) 33 rfl w.heap.size 58 i _ 2 16 (by kernel_rfl) hi hz0 hz1 hz2 rfl (by omega) _ 0 [] rfl hown0 a l.length cap (flatPts l) rfl (by rw [flatPts_len9]) (fun j u hu => pts_flat9 (h.below hW) j u hu) (fun v hv => flatPts_one9 l v hv) (by simp [maxLen]; omega) (by omega) (by simp) ?_)
  intro v' w' hown hgr hvn
  have hB := Lib.hid (clone_below hgr)
  replace hown := Lib.hid hown
  replace hvn := Lib.hid hvn
  clear hgr
  go_wp2
  go_ret
  obtain ⟨_, h2 | ⟨g, cap', cur, rfl, hg, hb, hn, _, hc, ht⟩⟩ := hown.out
  · exact (hvn.out h2.1).elim
  · exact ⟨_, rfl, hB.out, g, cap', cur, by simp, hg, hb, by omega, by simpa using ht⟩
theorem PtS.form9 {B N : Nat} {l : List (Int × Int)} {v : Value} {w : World} (h : PtS B N l v w) : ∃ p cap, v = .slice p N cap ∧ PtRow w B p l ∧ N ≤ cap ∧ (p = none → cap = 0) := by
  obtain ⟨p, cap, rfl, h1, h2⟩ := h.form
  refine ⟨p, cap, rfl, h1, h2, ?_⟩
  rcases h with ⟨h, _, _⟩ | ⟨g, c, cur, h, _⟩
  · injection h with _ _ h
    exact fun _ => h
  · injection h with h _ _
    rw [h]
    intro e
    cases e
set_option maxRecDepth 100000 in
set_option maxHeartbeats 2000000 in
theorem raw28_w9 (nm : ByteArray) (ep fl la sc : Int) (po : Option Addr) (co : Nat) (pts : List (Int × Int)) (w : World) (N : Nat)
    (hpts : PtsIn w po pts) (hnilP : po = none → pts.length = 0 ∧ co = 0) (hcapP : pts.length ≤ co)
    (hN : N ≤ 1025) (hNr : N ≤ pts.length) (EN : Hid ((if (1025 : Int) < (pts.length : Int) then (1025 : Int) else pts.length) = (N : Int))) (hNc : (N : Int) ≤ co) (hN0 : 0 ≤ (N : Int)) (nm9 : ByteArray) (hnm : Hid ((nm.extract 0 (mn (nm.size : Int) 20).toNat) = nm9)) :
    Calls Tryz.prog 14 #[.agg #[.string nm, .int .i64 ep, .int .i64 fl, .int .i64 la, .int .i64 sc, .slice po pts.length co]] w fun e w' => ∃ pP capP, e = .returned (.agg #[.string nm9, .int .i64 ep, .int .i64 fl, .int .i64 la, .int .i64 sc, .slice pP N capP]) ∧ Below w.heap.size w w' ∧ PtRow w' w.heap.size pP (pts.take N) ∧ N ≤ capP ∧ (pP = none → capP = 0) := by
  have cQ := Lib.hid (fun W B (hW : Below w.heap.size w W) (hBW : B ≤ W.heap.size) => (show Calls Tryz.prog 41 #[.slice po N co] W fun e w' => ∃ v, e = .returned v ∧ Below W.heap.size W w' ∧ PtS B N (pts.take N) v w' from by
    have hl : (pts.take N).length = N := by rw [List.length_take]; omega
    cases hpo : po with
    | none =>
      obtain ⟨h1, h2⟩ := hnilP hpo
      have e : N = 0 := by omega
      subst e
      subst h2
      refine (clonePt_nil W).mono ?_
      rintro e w' ⟨rfl, hB⟩
      exact ⟨_, rfl, hB, .inl ⟨rfl, rfl, rfl⟩⟩
    | some a9 =>
      have t := clonePtB_some a9 co (pts.take N) W (by omega) (hpo ▸ (hpts.take9 N).below hW)
      rw [hl] at t
      refine t.mono ?_
      rintro e w' ⟨v, rfl, hB, g, c, cur, rfl, hg, h⟩
      exact ⟨_, rfl, hB, .inr ⟨g, c, cur, rfl, Nat.le_trans hBW hg, h⟩⟩))
  go_enter Tryz.func14, Tryz.ntmps14
  have hmin : ∀ ts t x y w, (Builtin.min_ ts t #[.int .i64 x, .int .i64 y]).run Tryz.prog w = .ok (.int .i64 (mn x y)) w := fun ts t x y w => by simp [Builtin.min_, Builtin.min2, mn]
  have hm0 := mn_spec (nm.size : Int) 20
  have hm1 : 0 ≤ mn (nm.size : Int) 20 := by omega
  have hm2 : mn (nm.size : Int) 20 ≤ (nm.size : Int) := hm0.1
  clear hm0
  go_upto_region 2 with (fail)
  refine wp_cutB w (Bc w.heap.size #[.string (nm.extract 0 (mn (nm.size : Int) 20).toNat), .int .i64 ep, .int .i64 fl, .int .i64 la, .int .i64 sc, .slice po pts.length co] 35 <| Bc (w.heap.size + 1) #[.string .empty, .int .i64 0, .int .i64 0, .int .i64 0, .int .i64 0, .slice none 0 0] 35 <| Bz) ?_
  rintro W1 hW z2 ⟨⟨b1, yb1, k1, f1⟩, ⟨b2, yb2, k2, f2⟩, -⟩
  clear hmin hm1 hm2
  rw [hnm.out] at b1
  go_upto_region 2 with (fail)
  clear k1 f1 k2 f2
  refine wp_cutB w (Bc w.heap.size #[.string nm9, .int .i64 ep, .int .i64 fl, .int .i64 la, .int .i64 sc, .slice po pts.length co] 35 <| Bc (w.heap.size + 1) #[.string .empty, .int .i64 0, .int .i64 0, .int .i64 0, .int .i64 0, .slice none 0 0] 35 <| Bz) ?_
  clear b1 b2 hW
  rintro W3 hW z4 hL
  obtain ⟨⟨b1, yb1, k1, f1⟩, ⟨b2, yb2, k2, f2⟩, -⟩ := id hL
  clear k1 f1 k2 f2
  refine wp_regS 8 21 hW hL ?_
  iterate 5 refine dA ?_
  apply nd_det (.int .i64 ((N : Nat) : Int)) (hg := rfl) (hal := rfl)
  · intro a' W' hC hE
    simp [Oper.looksAt, Op.operands, Call.operands, envOf, Det] at hE
    simp [go_sem, Act.eval, hE, EN.out]
  apply nd_det (.slice po N co) (hg := rfl) (hal := rfl)
  · intro a' W' hC hE
    simp [Oper.looksAt, Op.operands, Call.operands, envOf, Det] at hE
    simp [go_sem, Act.eval, hE, hNc, hN0, add_zero_map]
  apply nd_call (PtS W3.heap.size N (pts.take N)) (hg := rfl) (hal := rfl)
  · exact PtS.closed _ _ _
  · intro a' W' hC hE
    simp [Oper.looksAt, Op.operands, Call.operands, envOf, Det] at hE
    refine ⟨_, _, ?_, (cQ.out W' W3.heap.size (hW.trans (hC.1.of_priv hW.size)) hC.1.size).mono ?_⟩
    · simp [go_sem, Act.eval, hE]
      try rfl
    · rintro e w' ⟨v, rfl, hB, hv⟩
      exact ⟨v, rfl, hB, hv⟩
  clear hW hL b1 b2
  rintro W5 hW z6 hL
  simp only [ndR]
  intros
  simp only [ndS]
  obtain ⟨⟨b1, yb1, k1, f1⟩, ⟨b2, yb2, k2, f2⟩, -⟩ := hL
  have z7 := hW.size
  rename PtS _ _ _ _ _ => hp
  obtain ⟨pP, capP, rfl, hP, hcP, hnP⟩ := hp.form9
  clear hp
  go_upto_region 3 with (fail)
  clear k1 f1 k2 f2
  refine wp_cutB w (Bc w.heap.size #[.string nm9, .int .i64 ep, .int .i64 fl, .int .i64 la, .int .i64 sc, .slice pP N capP] 35 <| Bc (w.heap.size + 1) #[.string .empty, .int .i64 0, .int .i64 0, .int .i64 0, .int .i64 0, .slice none 0 0] 35 <| Rc (fun W' => PtRow W' (w.heap.size + 1 + 1) pP (pts.take N)) <| Bz) ?_ (hI := by exact belowAny) (hR := (Bc.mk (by exact blkAny2) <| Bc.mk (by exact blkAny2) <| Rc.mk (by exact (hP.mono (by omega)).setO (by omega) _ _) <| trivial))
  clear b1 b2 hW
  rintro W8 hW z9 ⟨⟨b1, yb1, k1, f1⟩, ⟨b2, yb2, k2, f2⟩, b3, -⟩
  have hP := b3
  clear b3
  go_wp2
  have d2 : Blk ((((((W8.setCell ⟨w.heap.size + 1, 0, none⟩ (.string nm9)).setCell ⟨w.heap.size + 1, 1, none⟩ (.int .i64 ep)).setCell ⟨w.heap.size + 1, 2, none⟩ (.int .i64 fl)).setCell ⟨w.heap.size + 1, 3, none⟩ (.int .i64 la)).setCell ⟨w.heap.size + 1, 4, none⟩ (.int .i64 sc)).setCell ⟨w.heap.size + 1, 5, none⟩ (.slice pP N capP)) (w.heap.size + 1) #[.string nm9, .int .i64 ep, .int .i64 fl, .int .i64 la, .int .i64 sc, .slice pP N capP] 35 := blkAny2
  have hB9 : Below w.heap.size w ((((((W8.setCell ⟨w.heap.size + 1, 0, none⟩ (.string nm9)).setCell ⟨w.heap.size + 1, 1, none⟩ (.int .i64 ep)).setCell ⟨w.heap.size + 1, 2, none⟩ (.int .i64 fl)).setCell ⟨w.heap.size + 1, 3, none⟩ (.int .i64 la)).setCell ⟨w.heap.size + 1, 4, none⟩ (.int .i64 sc)).setCell ⟨w.heap.size + 1, 5, none⟩ (.slice pP N capP)) := belowAny
  have hP9 : PtRow ((((((W8.setCell ⟨w.heap.size + 1, 0, none⟩ (.string nm9)).setCell ⟨w.heap.size + 1, 1, none⟩ (.int .i64 ep)).setCell ⟨w.heap.size + 1, 2, none⟩ (.int .i64 fl)).setCell ⟨w.heap.size + 1, 3, none⟩ (.int .i64 la)).setCell ⟨w.heap.size + 1, 4, none⟩ (.int .i64 sc)).setCell ⟨w.heap.size + 1, 5, none⟩ (.slice pP N capP)) (w.heap.size + 1 + 1) pP (pts.take N) := ((((((hP.setO (by omega) 0 _).setO (by omega) 1 _).setO (by omega) 2 _).setO (by omega) 3 _).setO (by omega) 4 _).setO (by omega) 5 _)
  obtain ⟨W9, hW9⟩ : ∃ W9, W9 = ((((((W8.setCell ⟨w.heap.size + 1, 0, none⟩ (.string nm9)).setCell ⟨w.heap.size + 1, 1, none⟩ (.int .i64 ep)).setCell ⟨w.heap.size + 1, 2, none⟩ (.int .i64 fl)).setCell ⟨w.heap.size + 1, 3, none⟩ (.int .i64 la)).setCell ⟨w.heap.size + 1, 4, none⟩ (.int .i64 sc)).setCell ⟨w.heap.size + 1, 5, none⟩ (.slice pP N capP)) := ⟨_, rfl⟩
  rw [← hW9] at d2 hB9 hP9 ⊢
  clear hW9 b1 b2 hP k1 f1 k2 f2
  have k2 := d2.cell
  have f2 := d2.frozen
  have y_2 := d2.lt
  refine bodyPost_ret (v := .agg #[.string nm9, .int .i64 ep, .int .i64 fl, .int .i64 la, .int .i64 sc, .slice pP N capP]) (by simp [results, Tryz.results14, go_sem, k2, f2, y_2]) rfl ⟨pP, capP, rfl, hB9, hP9.mono (by omega), hcP, hnP⟩
/-- A raw series that came in. -/
structure RawCame (w : World) (r : RawT) (p : Option Addr) (cap : Nat) : Prop where
  pts : PtsIn w p r.pts
  nil : p = none → r.pts.length = 0 ∧ cap = 0
  cap : r.pts.length ≤ cap
theorem RawCame.below {w W : World} {r : RawT} {p : Option Addr} {cap : Nat} (h : RawCame w r p cap) (hb : Below w.heap.size w W) : RawCame W r p cap := ⟨h.pts.below hb, h.nil, h.cap⟩
/-- What is left of it. -/
def rawOf (r : RawT) : RawT := ⟨r.name.extract 0 (mn (r.name.size : Int) 20).toNat, r.eps, r.floor, r.last, r.scale, r.pts.take (min r.pts.length 1025)⟩
theorem rawOf_len (r : RawT) : (rawOf r).pts.length ≤ 1025 := by
  show (r.pts.take (min r.pts.length 1025)).length ≤ 1025
  rw [List.length_take]; omega
theorem rawOf_name (r : RawT) : (rawOf r).name.size ≤ 20 := by
  have := mn_spec (r.name.size : Int) 20
  show (r.name.extract 0 (mn (r.name.size : Int) 20).toNat).size ≤ 20
  rw [ByteArray.size_extract]
  omega
theorem c_raw28N (r : RawT) (p : Option Addr) (cap : Nat) (w : World) (h : RawCame w r p cap) :
    Calls Tryz.prog 14 #[.agg (rawA r p cap)] w fun e w' => ∃ p' cap', e = .returned (.agg (rawA (rawOf r) p' cap')) ∧ Below w.heap.size w w' ∧ PtRow w' w.heap.size p' (rawOf r).pts ∧ (rawOf r).pts.length ≤ cap' ∧ (p' = none → cap' = 0) := by
  have hl : (r.pts.take (min r.pts.length 1025)).length = min r.pts.length 1025 := by rw [List.length_take]; omega
  have h1 := h.cap
  refine (raw28_w9 r.name r.eps r.floor r.last r.scale p cap r.pts w (min r.pts.length 1025) h.pts h.nil h.cap (by omega) (by omega) (Lib.hid (by split <;> omega)) (by omega) (by omega) _ (Lib.hid rfl)).mono ?_
  rintro e w' ⟨pP, capP, rfl, hB, hP, hc, hn⟩
  refine ⟨pP, capP, ?_, hB, hP, ?_, hn⟩
  · unfold rawA rawOf
    simp only [hl]
  · show (r.pts.take (min r.pts.length 1025)).length ≤ capP
    omega
end Go.Proofs.YtdeghcgakkhbmaaGreat
namespace Go.Proofs.YtdeghcgakkhbmaaGreat
open Go.RowKit
def IntsF (w : World) (p : Option Addr) (l : List Int) : Prop := IntsIn w p l
theorem IntsF.rex {L : List Nat} {w w' : World} {p : Option Addr} {l : List Int} (h : IntsF w p l) (hr : Rex L w w') (hL : L = []) : IntsF w' p l := by subst hL; exact IntsIn.below h hr.below
def enRel (w : World) (p : Option Addr) (l : List Int) (cap : Nat) (x0 : Int) (a' : Act) (W : World) : Prop :=
  Below w.heap.size w W ∧ ∃ i : Nat, (∃ u : Nat → Value, a' = { tmps := #[.slice p l.length cap, u 1, u 2, u 3, .int .i64 (minL (x0 :: l.take i)), .int .i64 (maxL (x0 :: l.take i)), .int .i64 (i : Int), u 7, u 8, u 9, u 10, u 11, u 12, u 13, u 14, u 15, u 16, u 17, u 18, u 19, u 20, u 21, u 22, u 23, u 24, u 25, u 26, u 27, u 28, u 29, u 30, u 31, u 32, u 33, u 34, u 35, u 36, u 37, u 38, u 39, u 40], defers := [] }) ∧ i ≤ l.length
end Go.Proofs.YtdeghcgakkhbmaaGreat
namespace Go.Proofs.YtdeghcgakkhbmaaGreat
open Go.RowKit
/-- An operation behind a guard that holds. -/
theorem nd_on {P : Program} {ops : Array Oper} {C : World → Prop} {X : List (Nat × Nat)} {a0 : Act} {Fin : List (Option Tmp × Spec) → Prop} {i : Nat} {o : Oper} {rest : List Oper} {acc : List (Option Tmp × Spec)}
    (Φ : Spec) (want : Bool) (k : Nat) (d : Tmp) (hcl : Closed (others X i) Φ) (hg : o.guard = some (k, want)) (hd : wrOf ops k = some d) (hx : ∀ v w, envOf a0 acc d v w → v = .bool want)
    (h : ∀ (a : Act) (w : World), C w → (∀ s ∈ o.looksAt ops, envOf a0 acc s (a.tmps.getD s undef) w) → runND P o (priv X i) Φ w ((execOp a.eval o).run P w))
    (hr : ndWalk P ops C X a0 Fin (i + 1) rest ((o.dst, Φ) :: acc)) : ndWalk P ops C X a0 Fin i (o :: rest) acc := by
  refine ⟨Φ, hcl, fun a w hC hE => ?_, hr⟩
  have hin : d ∈ o.looksAt ops := by
    unfold wrOf at hd
    simp [Oper.looksAt, hg, hd]
  have hv := hx _ _ (hE d hin)
  have hw := wanted_some (o := o) hg hd hv
  refine ⟨fun _ => h a w hC hE, fun e => ?_⟩
  rw [hw] at e
  simp at e
theorem nd_oncall {P : Program} {ops : Array Oper} {C : World → Prop} {X : List (Nat × Nat)} {a0 : Act} {Fin : List (Option Tmp × Spec) → Prop} {i : Nat} {o : Oper} {rest : List Oper} {acc : List (Option Tmp × Spec)}
    (Φ : Spec) {want : Bool} {k : Nat} {d : Tmp} (hcl : Closed (others X i) Φ) (hg : o.guard = some (k, want)) (hd : wrOf ops k = some d) (hal : isAlloc o = false) (hx : ∀ v w, envOf a0 acc d v w → v = .bool want)
    (h : ∀ (a : Act) (w : World), C w → (∀ s ∈ o.looksAt ops, envOf a0 acc s (a.tmps.getD s undef) w) → ∃ f args, (execOp a.eval o).run P w = .ok (.enter f args) w ∧ Calls P f args w fun e w' => ∃ u, e = .returned u ∧ Below w.heap.size w w' ∧ Φ u w')
    (hr : ndWalk P ops C X a0 Fin (i + 1) rest ((o.dst, Φ) :: acc)) : ndWalk P ops C X a0 Fin i (o :: rest) acc :=
  nd_on Φ want k d hcl hg hd hx (fun a w hC hE => by
    obtain ⟨f, args, h1, h2⟩ := h a w hC hE
    rw [h1]
    exact ⟨rfl, hal, h2.mono fun e w' ⟨u, he, hb, hΦ⟩ => ⟨u, he, Rex.of_below hb, hΦ⟩⟩) hr
/-- A row of numbers of its own, as a drawn step's value. -/
def OV (B : Nat) (T : List Int) : Spec := fun v w => OwnR w B 2 1 v T.length (T.map (Value.int .i64))
theorem OV.closed (B : Nat) (T : List Int) : Closed [] (OV B T) := fun _ _ _ hr h => OwnR.rex h hr rfl
def kindR (R n : Int) : Int := if n = 0 then 1 else if R = 0 then 2 else 3
end Go.Proofs.YtdeghcgakkhbmaaGreat
namespace Go.Proofs.YtdeghcgakkhbmaaGreat
open Go.RowKit
/-- The segments of which points are told. -/
def PtsDom (s : SegT) : Prop := (s.K = 4 ∧ (s.raw.length : Int) = cnt s.runs) ∨ (s.K ≠ 4 ∧ isLine s.A s.R s.n s.d = true)
end Go.Proofs.YtdeghcgakkhbmaaGreat
namespace Go.Proofs.YtdeghcgakkhbmaaGreat
open Go.RowKit
def toRel (w : World) (gs : Nat) (p : Option Addr) (cap : Nat) (l : List Int) (a' : Act) (W : World) : Prop :=
  Below w.heap.size w W ∧ ∃ (i : Nat) (S : Int) (ps : Option Addr) (ls cs : Nat), (∃ u : Nat → Value, a' = { tmps := #[.slice p l.length cap, u 1, .pointer (some ⟨w.heap.size, 0, none⟩), .pointer (some ⟨gs, 0, none⟩), .int .i64 (i : Int), u 5, u 6, u 7, u 8, u 9, u 10, u 11, u 12, u 13, u 14, u 15, u 16, u 17, u 18, u 19], defers := [] }) ∧ S = lsum (l.take i) ∧ i ≤ l.length ∧ Blk W w.heap.size #[.bool false, .slice none 0 0] 115 ∧ Blk W gs #[.bool (decide (S < 0)), .slice ps ls cs] 115 ∧ Bits W (.slice ps ls cs) S.natAbs
end Go.Proofs.YtdeghcgakkhbmaaGreat
