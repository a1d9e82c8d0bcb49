/- Parts of the proof that follows: slices.Clone, of segments and points, and of runs and numbers that may be nil. No condition. | A region that draws its order, in which one step writes into a block of the call's own, and what that block holds is told before and behind: the step may stand ahead of some that only read. No condition. | The laws of chapter 26: own. No condition. | A raw series and a model, plainly: which may be, what is told of some times. No condition. | Layer model: whether a number is between two, whether a point, whether a raw series may be. No condition. | The laws of chapter 28: a raw series in memory of its own. No condition but that its points can be read. | Layer model: one point more is told (told$1). No condition but the numbers' bounds. | Layer model: the points of some times (some), one behind the other. No condition. | Layer model: the exact answer of some times (told). No condition. | Layer span: Has, Width, of a span that may be. | Layer model: whether a number lies in a span; a mixed number times a count. No condition but the numbers' bounds. | Layer model: a mixed number times a count. No condition but the numbers' bounds. -/
import Derived.Test.YtdeghcgakkhbmaaGreatHs11
set_option linter.unusedSimpArgs false
set_option linter.unusedVariables false
namespace Go.Proofs.YtdeghcgakkhbmaaGreat
open Go.RowKit
/-- A row that lies in a block of its own. -/
def RowOwn (w : World) (e : TypeId) (n k : Nat) (news : List Value) (v : Value) (w' : World) : Prop := ∃ g cap' cur, v = .slice (some ⟨g, 0, none⟩) n cap' ∧ w.heap.size ≤ g ∧ Blk w' g cur e ∧ n ≤ cap' ∧ cur.toList.take k = news
set_option maxRecDepth 100000 in
set_option maxHeartbeats 2000000 in
theorem clonePt_nil (w : World) : Calls Tryz.prog 41 #[.slice none 0 0] w fun e w' => e = .returned (.slice none 0 0) ∧ Below w.heap.size w w' := by
  go_enter Tryz.func41, Tryz.ntmps41
  have hnil : ∀ W, (binOp .eql 33 (.slice none 0 0) (.slice none 0 0)).run Tryz.prog W = .ok (.bool true) W := fun W => by kernel_rfl
  go_wp2
  go_ret
  exact ⟨rfl, belowAny⟩
end Go.Proofs.YtdeghcgakkhbmaaGreat
namespace Go.Proofs.YtdeghcgakkhbmaaGreat
open Go.RowKit
section
variable {P : Program} {ops : Array Oper} {C : World → Prop} {X : List (Nat × Nat)} {a0 : Act} {n : Nat} {Q : Exit → Act → World → Prop}
end
end Go.Proofs.YtdeghcgakkhbmaaGreat
namespace Go.Proofs.YtdeghcgakkhbmaaGreat
open Go.RowKit
/-- A row in a block of its own. -/
def RowS (B : Nat) (e : TypeId) (n k : Nat) (news : List Value) : Spec := fun v w => ∃ g cap cur, v = .slice (some ⟨g, 0, none⟩) n cap ∧ B ≤ g ∧ Blk w g cur e ∧ n ≤ cap ∧ cur.toList.take k = news
theorem RowS.closed (B : Nat) (e : TypeId) (n k : Nat) (news : List Value) : Closed [] (RowS B e n k news) := fun _ _ _ hr ⟨g, c, cur, e1, h1, h, h2, h3⟩ => ⟨g, c, cur, e1, h1, h.rex hr (by simp), h2, h3⟩
/-- Points in a block of their own, or nil. -/
def PtS (B N : Nat) (l : List (Int × Int)) : Spec := fun v w => (v = .slice none 0 0 ∧ l = [] ∧ N = 0) ∨ RowS B 58 N (N * 2) (flatPts l) v w
theorem PtS.closed (B N : Nat) (l : List (Int × Int)) : Closed [] (PtS B N l) := fun _ _ _ hr h => by
  rcases h with h | h
  · exact .inl h
  · exact .inr (RowS.closed _ _ _ _ _ _ _ _ hr h)
def ownK (s : SegT) : SegT := ⟨s.K, s.runs.take 257, s.A, s.R, s.n, s.d, s.raw.take 257, s.E⟩
/-- A segment of one's own. -/
structure OwnSegK (W : World) (g : Nat) (r0 r : SegR) : Prop where
  says : r.s = ownK r0.s
  runs : RunsIn W r.p r.s.runs
  raw : IntsIn W r.q r.s.raw
  capV : r.s.raw.length ≤ r.vc
  farR : ∀ a, r.p = some a → g < a.block
  farV : ∀ a, r.q = some a → g < a.block
theorem OwnSegK.rex {W W' : World} {g : Nat} {r0 r : SegR} {L : List Nat} (h : OwnSegK W g r0 r) (hL : ∀ x, x ∈ L → x ≤ g) (hr : Rex L W W') : OwnSegK W' g r0 r := ⟨h.says, h.runs.rex1 hL h.farR hr, h.raw.rex1 hL h.farV hr, h.capV, h.farR, h.farV⟩
structure OwnToK (W : World) (g : Nat) (rows R : List SegR) (i : Nat) : Prop where
  len : R.length = rows.length
  rest : ∀ k, i ≤ k → R[k]? = rows[k]?
  own : ∀ k, k < i → ∀ r, R[k]? = some r → ∃ r0, rows[k]? = some r0 ∧ OwnSegK W g r0 r
theorem OwnToK.start (W : World) (g : Nat) (rows : List SegR) : OwnToK W g rows rows 0 := ⟨rfl, fun _ _ => rfl, fun k h => by omega⟩
theorem OwnToK.rex {W W' : World} {g i : Nat} {rows R : List SegR} {L : List Nat} (h : OwnToK W g rows R i) (hL : ∀ x, x ∈ L → x ≤ g) (hr : Rex L W W') : OwnToK W' g rows R i := ⟨h.len, h.rest, fun k hk r hR => by
  obtain ⟨r0, h1, h2⟩ := h.own k hk r hR
  exact ⟨r0, h1, h2.rex hL hr⟩⟩
theorem OwnToK.step {W : World} {g i : Nat} {rows R : List SegR} {r0 r1 : SegR} (h : OwnToK W g rows R i) (h0 : rows[i]? = some r0) (h1 : OwnSegK W g r0 r1) : OwnToK W g rows (R.set i r1) (i + 1) := ⟨by rw [List.length_set]; exact h.len, fun k hk => by rw [List.getElem?_set_ne (by omega)]; exact h.rest k (by omega), fun k hk r hR => by
  rw [List.getElem?_set] at hR
  split at hR
  · rename_i e
    subst e
    split at hR
    · injection hR with hR
      subst hR
      exact ⟨r0, h0, h1⟩
    · cases hR
  · exact h.own k (by omega) r hR⟩
structure PtRow (w : World) (B : Nat) (p : Option Addr) (l : List (Int × Int)) : Prop where
  at' : (p = none ∧ l = []) ∨ ∃ g cur k, p = some ⟨g, 0, none⟩ ∧ B ≤ g ∧ Blk w g cur 58 ∧ cur.toList.take k = flatPts l
theorem PtRow.pts {w : World} {B : Nat} {p : Option Addr} {l : List (Int × Int)} (h : PtRow w B p l) : PtsIn w p l := by
  rcases h.at' with ⟨rfl, rfl⟩ | ⟨g, cur, k, rfl, _, hb, ht⟩
  · exact ⟨fun i r hr => by simp at hr⟩
  · exact pts_in hb ht
theorem PtRow.keep {w w' : World} {B : Nat} {p : Option Addr} {l : List (Int × Int)} (h : PtRow w B p l) (hk : ∀ g cs, B ≤ g → Blk w g cs 58 → Blk w' g cs 58) : PtRow w' B p l := by
  rcases h.at' with h | ⟨g, cur, k, e, hB, hb, ht⟩
  · exact ⟨.inl h⟩
  · exact ⟨.inr ⟨g, cur, k, e, hB, hk g cur hB hb, ht⟩⟩
theorem PtRow.below {w w' : World} {B : Nat} {p : Option Addr} {l : List (Int × Int)} (h : PtRow w B p l) (hb : Below w.heap.size w w') : PtRow w' B p l := h.keep fun _ _ _ h => h.below hb
theorem PtRow.mono {w : World} {B B' : Nat} {p : Option Addr} {l : List (Int × Int)} (h : PtRow w B p l) (hB : B' ≤ B) : PtRow w B' p l := by
  rcases h.at' with h | ⟨g, cur, k, e, h1, hb, ht⟩
  · exact ⟨.inl h⟩
  · exact ⟨.inr ⟨g, cur, k, e, Nat.le_trans hB h1, hb, ht⟩⟩
theorem PtRow.setO {w : World} {B o : Nat} {p : Option Addr} {l : List (Int × Int)} (h : PtRow w B p l) (ho : o < B) (i : Nat) (v : Value) : PtRow (w.setCell ⟨o, i, none⟩ v) B p l := h.keep fun g _ hg h => h.setO (by omega) i v
/-- What holds, whatever is written into blocks below B. -/
def Lasts (B : Nat) (w : World) (F : World → Prop) : Prop := ∀ L W, (∀ x, x ∈ L → x < B) → Rex L w W → F W
theorem Lasts.now {B : Nat} {w : World} {F : World → Prop} (h : Lasts B w F) : F w := h [] w (fun x hx => by cases hx) (Rex.refl _ _)
theorem PtRow.rex {w w' : World} {B gS : Nat} {cs : Array Value} {p : Option Addr} {l : List (Int × Int)} (h : PtRow w B p l) (hS : Blk w gS cs 135) (hr : Rex [gS] w w') : PtRow w' B p l := h.keep fun g c _ hg => hg.rex hr (by
  simp
  rintro rfl
  unfold Blk at hg hS
  rw [hS] at hg
  injection hg with hg
  injection hg with _ h2 _
  revert h2
  decide)
theorem PtS.form {B N : Nat} {l : List (Int × Int)} {v : Value} {w : World} (h : PtS B N l v w) : ∃ p cap, v = .slice p N cap ∧ PtRow w B p l ∧ N ≤ cap := by
  rcases h with ⟨rfl, rfl, rfl⟩ | ⟨g, cap, cur, rfl, hg, hb, hc, ht⟩
  · exact ⟨none, 0, rfl, ⟨.inl ⟨rfl, rfl⟩⟩, Nat.le_refl _⟩
  · exact ⟨_, cap, rfl, ⟨.inr ⟨g, cur, _, rfl, hg, hb, ht⟩⟩, hc⟩
/-- A copy of runs, of numbers, in a block of its own. -/
def RunC (B K : Nat) (l : List RunT) : Spec := fun v w => ∃ p c, v = .slice p K c ∧ RunsIn w p l ∧ K ≤ c ∧ ∀ a, p = some a → B ≤ a.block
theorem RunC.closed (B K : Nat) (l : List RunT) : Closed [] (RunC B K l) := fun _ _ _ hr ⟨p, c, e, h, h2⟩ => ⟨p, c, e, h.rex hr rfl, h2⟩
def IntC (B K : Nat) (l : List Int) : Spec := fun v w => ∃ p c, v = .slice p K c ∧ IntsIn w p l ∧ K ≤ c ∧ ∀ a, p = some a → B ≤ a.block
theorem IntC.closed (B K : Nat) (l : List Int) : Closed [] (IntC B K l) := fun _ _ _ hr ⟨p, c, e, h, h2⟩ => ⟨p, c, e, h.below hr.below, h2⟩
def own26Rel (w : World) (nm9 : ByteArray) (ep fl la sc : Int) (pP : Option Addr) (capP N : Nat) (rows : List SegR) (pts : List (Int × Int)) (M gS capS : Nat) (a' : Act) (W : World) : Prop :=
  Below w.heap.size w W ∧ Blk W w.heap.size #[.string nm9, .int .i64 ep, .int .i64 fl, .int .i64 la, .int .i64 sc, .slice (some ⟨gS, 0, none⟩) M capS, .slice pP N capP] 79 ∧ Blk W (w.heap.size + 1) #[.string .empty, .int .i64 0, .int .i64 0, .int .i64 0, .int .i64 0, .slice none 0 0, .slice none 0 0] 79 ∧ PtRow W (w.heap.size + 1 + 1) pP pts ∧ ∃ (i : Nat) (cur : Array Value) (R : List SegR), Blk W gS cur 135 ∧ SegCells cur R ∧ OwnToK W gS rows R i ∧ (∃ u : Nat → Value, a' = { tmps := #[u 0, .pointer (some ⟨w.heap.size, 0, none⟩), .pointer (some ⟨w.heap.size + 1, 0, none⟩), u 3, u 4, u 5, u 6, u 7, u 8, u 9, u 10, u 11, u 12, u 13, u 14, u 15, u 16, u 17, u 18, u 19, u 20, u 21, u 22, u 23, u 24, u 25, u 26, u 27, u 28, u 29, u 30, u 31, .slice (some ⟨gS, 0, none⟩) M capS, .int .i64 (M : Int), .int .i64 (i : Int), u 35, u 36, u 37, u 38, u 39, u 40, u 41, u 42, u 43, u 44, u 45, u 46, u 47, u 48, u 49, u 50, u 51, u 52, u 53, u 54, u 55, u 56, u 57, u 58, u 59, u 60, u 61, u 62, u 63, u 64, u 65, u 66], defers := [] }) ∧ i ≤ M
def ownNRel (w : World) (nm9 : ByteArray) (ep fl la sc : Int) (pP : Option Addr) (capP N : Nat) (pts : List (Int × Int)) (a' : Act) (W : World) : Prop :=
  Below w.heap.size w W ∧ Blk W w.heap.size #[.string nm9, .int .i64 ep, .int .i64 fl, .int .i64 la, .int .i64 sc, .slice none 0 0, .slice pP N capP] 79 ∧ Blk W (w.heap.size + 1) #[.string .empty, .int .i64 0, .int .i64 0, .int .i64 0, .int .i64 0, .slice none 0 0, .slice none 0 0] 79 ∧ PtRow W (w.heap.size + 1 + 1) pP pts ∧ (∃ u : Nat → Value, a' = { tmps := #[u 0, .pointer (some ⟨w.heap.size, 0, none⟩), .pointer (some ⟨w.heap.size + 1, 0, none⟩), u 3, u 4, u 5, u 6, u 7, u 8, u 9, u 10, u 11, u 12, u 13, u 14, u 15, u 16, u 17, u 18, u 19, u 20, u 21, u 22, u 23, u 24, u 25, u 26, u 27, u 28, u 29, u 30, u 31, .slice none 0 0, .int .i64 0, .int .i64 0, u 35, u 36, u 37, u 38, u 39, u 40, u 41, u 42, u 43, u 44, u 45, u 46, u 47, u 48, u 49, u 50, u 51, u 52, u 53, u 54, u 55, u 56, u 57, u 58, u 59, u 60, u 61, u 62, u 63, u 64, u 65, u 66], defers := [] })
end Go.Proofs.YtdeghcgakkhbmaaGreat
namespace Go.Proofs.YtdeghcgakkhbmaaGreat
open Go.RowKit
/-- What a raw series says. -/
structure RawT where
  name : ByteArray
  eps : Int
  floor : Int
  last : Int
  scale : Int
  pts : List (Int × Int)
def ptB (p : Int × Int) : Bool := btw p.1 0 281474976710656 && btw p.2 (-2305843009213693952) 2305843009213693952
def rawPtsB (fl : Int) : Int → List (Int × Int) → Bool
  | _, [] => true
  | b, p :: l => (ptB p && (decide (fl ≤ p.1) && decide (b < p.1))) && rawPtsB fl p.1 l
def rawNumsB (r : RawT) : Bool := nameB r.name && (btw r.eps 0 1099511627776 && (btw r.scale (-40) 40 && (btw r.floor 0 281474976710656 && (btw r.last (-1) 281474976710656 && decide (r.pts.length ≤ 1024)))))
def rawB (r : RawT) : Bool := rawNumsB r && (rawPtsB r.floor (-1) r.pts && (r.pts.isEmpty || r.last == lastOr (-1) (r.pts.map (·.1))))
theorem rawPtsB_snoc (fl : Int) : ∀ (l : List (Int × Int)) (b : Int) (p : Int × Int), rawPtsB fl b (l ++ [p]) = (rawPtsB fl b l && (ptB p && (decide (fl ≤ p.1) && decide (lastOr b (l.map (·.1)) < p.1))))
  | [], b, p => by simp [rawPtsB, lastOr]
  | q :: l, b, p => by
    simp only [List.cons_append, rawPtsB, List.map_cons, lastOr]
    rw [rawPtsB_snoc fl l]
    simp only [Bool.and_assoc]
theorem rawPtsB_mem (fl : Int) : ∀ (l : List (Int × Int)) (b : Int), rawPtsB fl b l = true → ∀ p, p ∈ l → ptB p = true ∧ fl ≤ p.1 ∧ b < p.1
  | [], _, _, _, h => by cases h
  | q :: l, b, h, p, hp => by
    simp only [rawPtsB, Bool.and_eq_true, decide_eq_true_eq] at h
    rcases List.mem_cons.1 hp with rfl | hp
    · exact ⟨h.1.1, h.1.2.1, h.1.2.2⟩
    · obtain ⟨a, c, d⟩ := rawPtsB_mem fl l q.1 h.2 p hp
      exact ⟨a, c, by have := h.1.2.2; omega⟩
/-- The points of some times. -/
def someL (r : RawT) (a b : Int) : List (Int × Int) := r.pts.filter fun p => decide (a ≤ p.1) && decide (p.1 ≤ b)
def someV (r : RawT) (a b : Int) : List Int := (someL r a b).map (·.2)
end Go.Proofs.YtdeghcgakkhbmaaGreat
namespace Go.Proofs.YtdeghcgakkhbmaaGreat
open Go.RowKit
/-- a raw series as a value -/
def rawA (r : RawT) (p : Option Addr) (cap : Nat) : Array Value := #[.string r.name, .int .i64 r.eps, .int .i64 r.floor, .int .i64 r.last, .int .i64 r.scale, .slice p r.pts.length cap]
/-- behind so many points: may all be so far, and the time of the last one -/
def goR (r : RawT) (i : Nat) : Bool × Int := (rawNumsB r && rawPtsB r.floor (-1) (r.pts.take i), lastOr (-1) ((r.pts.take i).map (·.1)))
theorem goR_step (r : RawT) {i : Nat} {t v : Int} {ok : Bool} {ah : Int} (h : goR r i = (ok, ah)) (hi : r.pts[i]? = some (t, v)) : goR r (i + 1) = (ok && (ptB (t, v) && (decide (r.floor ≤ t) && decide (ah < t))), t) := by
  have e : r.pts.take (i + 1) = r.pts.take i ++ [(t, v)] := by rw [List.take_add_one, hi]; rfl
  unfold goR at h ⊢
  injection h with h1 h2
  rw [e, rawPtsB_snoc, List.map_append, List.map_cons, List.map_nil, lastOr_snoc, h2, ← h1, Bool.and_assoc]
theorem goR_end (r : RawT) {ok : Bool} {ah : Int} (h : goR r r.pts.length = (ok, ah)) : rawB r = (ok && (r.pts.isEmpty || r.last == ah)) := by
  unfold goR at h
  injection h with h1 h2
  rw [List.take_of_length_le (Nat.le_refl _)] at h1 h2
  unfold rawB
  rw [h2, ← h1, Bool.and_assoc]
theorem goR_zero (r : RawT) : goR r 0 = (nameB r.name && btw r.eps 0 1099511627776 && btw r.scale (-40) 40 && btw r.floor 0 281474976710656 && btw r.last (-1) 281474976710656 && decide ((r.pts.length : Int) ≤ 1024), -1) := by
  have e : decide ((r.pts.length : Int) ≤ 1024) = decide (r.pts.length ≤ 1024) := by congr 1; simp only [eq_iff_iff]; omega
  unfold goR rawNumsB
  rw [e]
  simp [rawPtsB, lastOr, Bool.and_assoc]
set_option maxRecDepth 100000 in
set_option maxHeartbeats 2000000 in
theorem c_mdBtw (n lo hi : Int) (w : World) : Calls Tryz.prog 69 #[.int .i64 n, .int .i64 lo, .int .i64 hi] w fun e w' => e = .returned (.bool (btw n lo hi)) ∧ Below w.heap.size w w' := by
  unfold btw
  go_enter Tryz.func69, Tryz.ntmps69
  go_upto_region 1 with (fail)
  refine wp_cutB w (Bz) ?_
  rintro W1 hW z2 hL
  refine wp_regS 9 15 hW hL ?_
  iterate 4 refine dA ?_
  iterate 3 refine gA ?_
  refine pA ?_
  refine dA ?_
  clear hW hL
  rintro W3 hW z4 hL
  simp only [ndR]
  intros
  repeat (rename GDet _ _ _ _ => hgd; clear hgd)
  simp only [ndS]
  refine wpList_nil ?_
  obtain ⟨-⟩ := hL
  go_wp2
  refine bodyPost_ret (by simp [results, Tryz.results69, go_sem]) rfl ⟨rfl, by exact belowAny⟩
set_option maxRecDepth 100000 in
set_option maxHeartbeats 2000000 in
theorem c_mdPoint (t v : Int) (w : World) : Calls Tryz.prog 74 #[.agg #[.int .i64 t, .int .i64 v]] w fun e w' => e = .returned (.bool (ptB (t, v))) ∧ Below w.heap.size w w' := by
  unfold ptB
  go_enter Tryz.func74, Tryz.ntmps74
  go_upto_region 1 with (fail)
  refine wp_cutB w (Bc w.heap.size #[.int .i64 t, .int .i64 v] 58 <| Bz) ?_
  rintro W1 hW z2 hL
  refine wp_regS 9 11 hW hL ?_
  iterate 2 refine dA ?_
  refine cA (fun W' hC => c_mdBtw t 0 281474976710656 W') ?_
  refine dA ?_
  iterate 2 refine gA ?_
  refine cG (fun hp hx W' hC => c_mdBtw v (-2305843009213693952) 2305843009213693952 W') ?_
  refine pA ?_
  refine dA ?_
  clear hW hL
  rintro W3 hW z4 hL
  simp only [ndR]
  intros
  repeat (rename GDet _ _ _ _ => hgd; clear hgd)
  simp only [ndS]
  refine wpList_nil ?_
  obtain ⟨⟨b1, yb1, k1, f1⟩, -⟩ := hL
  go_wp2
  refine bodyPost_ret (by simp [results, Tryz.results74, go_sem, k1, f1, yb1]) rfl ⟨rfl, by exact belowAny⟩
def crRel (w : World) (r : RawT) (p : Option Addr) (cap : Nat) (a' : Act) (W : World) : Prop :=
  Below w.heap.size w W ∧ Blk W w.heap.size #[.string r.name, .int .i64 r.eps, .int .i64 r.floor, .int .i64 r.last, .int .i64 r.scale, .slice p r.pts.length cap] 35 ∧ ∃ (i : Nat) (ok : Bool) (ah : Int), (∃ u : Nat → Value, a' = { tmps := #[.agg #[.string r.name, .int .i64 r.eps, .int .i64 r.floor, .int .i64 r.last, .int .i64 r.scale, .slice p r.pts.length cap], .pointer (some ⟨w.heap.size, 0, none⟩), .int .i64 0, .bool ok, .int .i64 ah, u 5, u 6, u 7, u 8, u 9, u 10, u 11, u 12, u 13, u 14, u 15, u 16, u 17, u 18, u 19, u 20, u 21, u 22, u 23, u 24, u 25, u 26, u 27, u 28, u 29, u 30, u 31, u 32, u 33, u 34, u 35, u 36, .slice p r.pts.length cap, .int .i64 (r.pts.length : Int), .int .i64 (i : Int), u 40, u 41, u 42, u 43, u 44, u 45, u 46, u 47, u 48, u 49, u 50, u 51, u 52, u 53, u 54, u 55, u 56, u 57, u 58, u 59, u 60, u 61, u 62, u 63, u 64, u 65, u 66, u 67, u 68, u 69, u 70, u 71, u 72, u 73, u 74, u 75, u 76, u 77], defers := [] }) ∧ i ≤ r.pts.length ∧ goR r i = (ok, ah)
set_option maxRecDepth 100000 in
set_option maxHeartbeats 2000000 in
theorem c_mdCheckRaw (r : RawT) (p : Option Addr) (cap : Nat) (w : World) (hp : PtsIn w p r.pts) (hl : r.pts.length ≤ 2000) :
    Calls Tryz.prog 32 #[.agg (rawA r p cap)] w fun e w' => e = .returned (.int .i64 (if rawB r = true then 0 else 380)) ∧ Below w.heap.size w w' := by
  unfold rawA
  obtain ⟨E, hE⟩ : ∃ E : Int, (if rawB r = true then 0 else 380) = E := ⟨_, rfl⟩
  rw [hE]
  replace hE := Lib.hid hE
  go_enter Tryz.func32, Tryz.ntmps32
  go_upto_region 1 with (fail)
  refine wp_cutB w (Bc w.heap.size #[.string r.name, .int .i64 r.eps, .int .i64 r.floor, .int .i64 r.last, .int .i64 r.scale, .slice p r.pts.length cap] 35 <| Bz) ?_
  rintro W1 hW z2 hL
  refine wp_regS 30 78 hW hL ?_
  iterate 2 refine dA ?_
  refine cA (fun W' hC => c_recName r.name W') ?_
  refine dA ?_
  iterate 2 refine gA ?_
  refine cG (fun hp hx W' hC => c_mdBtw r.eps 0 1099511627776 W') ?_
  refine pA ?_
  refine dA ?_
  iterate 2 refine gA ?_
  refine cG (fun hp hx W' hC => c_mdBtw r.scale (-40) 40 W') ?_
  refine pA ?_
  refine dA ?_
  iterate 2 refine gA ?_
  refine cG (fun hp hx W' hC => c_mdBtw r.floor 0 281474976710656 W') ?_
  refine pA ?_
  refine dA ?_
  iterate 2 refine gA ?_
  refine cG (fun hp hx W' hC => c_mdBtw r.last (-1) 281474976710656 W') ?_
  refine pA ?_
  refine dA ?_
  iterate 4 refine gA ?_
  refine pA ?_
  refine dA ?_
  clear hW hL
  rintro W3 hW z4 hL
  simp only [ndR]
  intros
  repeat (rename GDet _ _ _ _ => hgd; clear hgd)
  simp only [ndS]
  refine wpList_nil ?_
  obtain ⟨⟨b1, yb1, k1, f1⟩, -⟩ := hL
  have h0 := goR_zero r
  obtain ⟨ok, hok⟩ : ∃ ok, (nameB r.name && btw r.eps 0 1099511627776 && btw r.scale (-40) 40 && btw r.floor 0 281474976710656 && btw r.last (-1) 281474976710656 && decide ((r.pts.length : Int) ≤ 1024)) = ok := ⟨_, rfl⟩
  rw [hok] at h0 ⊢
  replace h0 := Lib.hid h0
  clear hok
  go_wp2
  refine wp_loop (crRel w r p cap) (fun a' _ => r.pts.length - (intAt (a'.tmps.getD 39 undef)).toNat) ?_ ?_
  · unfold crRel
    exact ⟨hW, b1, 0, ok, -1, frame_ex rfl, Nat.zero_le _, h0.out⟩
  clear b1 hW h0 k1
  rintro a' W ⟨hW0, b1, i, ok, ah, ⟨u, rfl⟩, hi', hgo⟩
  have hz := hW0.size
  have zb1 := b1.lt
  rcases Nat.lt_or_ge i r.pts.length with hlt | hge
  · obtain ⟨⟨t, v⟩, tr⟩ : ∃ x, r.pts[i]? = some x := ⟨r.pts[i]'(by omega), List.getElem?_eq_getElem (by omega)⟩
    obtain ⟨b, o, rfl, q0, q1⟩ := (hp.below hW0).at' i _ tr
    simp only at q0 q1
    have hgo2 := Lib.hid (goR_step r hgo tr)
    have c5 := fun W => c_mdPoint t v W
    obtain ⟨B5, hB5⟩ : ∃ B, ptB (t, v) = B := ⟨_, rfl⟩
    rw [hB5] at c5 hgo2
    replace c5 := Lib.hid c5
    clear hgo tr hB5
    have k1 := b1.cell
    have f1 := b1.frozen
    go_upto_region 6 with (fail)
    clear k1 f1
    refine wp_cutB W (Bc w.heap.size #[.string r.name, .int .i64 r.eps, .int .i64 r.floor, .int .i64 r.last, .int .i64 r.scale, .slice (some ⟨b, o, none⟩) r.pts.length cap] 35 <| Bc W.heap.size #[.int .i64 t, .int .i64 v] 58 <| Bz) ?_
    clear b1
    rintro W21 hW z22 hL
    refine wp_regS 19 78 hW hL ?_
    iterate 2 refine dA ?_
    refine gA ?_
    refine cG (fun hp hx W' hC => c5.out W') ?_
    refine pA ?_
    refine dA ?_
    iterate 5 refine gA ?_
    refine pA ?_
    refine dA ?_
    iterate 4 refine gA ?_
    refine pA ?_
    refine dA ?_
    clear hW hL
    rintro W23 hW z24 hL
    simp only [ndR]
    intros
    repeat (rename GDet _ _ _ _ => hgd; clear hgd)
    simp only [ndS]
    refine wpList_nil ?_
    obtain ⟨⟨b1, yb1, k1, f1⟩, ⟨b2, yb2, k2, f2⟩, -⟩ := hL
    go_wp2
    refine ⟨?_, by simp [intAt]; omega⟩
    unfold crRel
    exact ⟨hW0.trans (hW.mono hz), b1, i + 1, _, _, frame_ex rfl, by omega, by rw [hgo2.out, Bool.and_assoc, Bool.and_assoc]⟩
  · obtain rfl : i = r.pts.length := by omega
    have he := goR_end r hgo
    clear hgo
    have k1 := b1.cell
    have f1 := b1.frozen
    have hn0 : (0 : Int) ≤ r.pts.length := by omega
    cases ok with
    | false =>
      have hv := Lib.hid (show E = 380 by rw [← hE.out, he]; rfl)
      clear he
      go_wp2
      go_ret
      exact ⟨by rw [hv.out]; rfl, belowAny⟩
    | true =>
      by_cases h0 : r.pts.length = 0
      · have h1 : ¬ (0 < (r.pts.length : Int)) := by omega
        have h2 : r.pts.isEmpty = true := by rw [List.isEmpty_iff_length_eq_zero]; exact h0
        have hv := Lib.hid (show E = 0 by rw [← hE.out, he, h2]; rfl)
        clear h0 h2 he
        go_wp2
        go_ret
        exact ⟨by rw [hv.out]; rfl, belowAny⟩
      · have h1 : 0 < (r.pts.length : Int) := by omega
        have h2 : r.pts.isEmpty = false := by
          cases hh : r.pts with
          | nil => rw [hh] at h0; exact absurd rfl h0
          | cons _ _ => rfl
        by_cases hl : r.last = ah
        · subst hl
          have hv := Lib.hid (show E = 0 by rw [← hE.out, he, h2]; simp)
          clear h0 h2 he
          go_wp2
          go_ret
          exact ⟨by rw [hv.out]; rfl, belowAny⟩
        · have hne : (r.last != ah) = true := by simpa using hl
          have hbe : (r.last == ah) = false := by simpa using hl
          have hv := Lib.hid (show E = 380 by rw [← hE.out, he, h2, hbe]; rfl)
          clear h0 h2 he hbe
          go_wp2
          go_ret
          exact ⟨by rw [hv.out]; rfl, belowAny⟩
end Go.Proofs.YtdeghcgakkhbmaaGreat
namespace Go.Proofs.YtdeghcgakkhbmaaGreat
open Go.RowKit
set_option maxRecDepth 100000 in
set_option maxHeartbeats 2000000 in
theorem clonePtB_some (a : Addr) (cap : Nat) (l : List (Int × Int)) (w : World) (hl : l.length ≤ 2000) (h : PtsIn w (some a) l) : Calls Tryz.prog 41 #[.slice (some a) l.length cap] w fun e w' => ∃ v, e = .returned v ∧ Below w.heap.size w w' ∧ RowOwn w 58 l.length (l.length * 2) (flatPts l) v w' := by
  have hnil : ∀ W, (binOp .eql 33 (.slice (some a) l.length cap) (.slice none 0 0)).run Tryz.prog W = .ok (.bool false) W := fun W => Lib.run_eql_slice_nil W 33 58 _ _ _ _ _ (by kernel_rfl)
  go_enter Tryz.func41, Tryz.ntmps41
  go_upto_region 3 with (fail)
  clear hnil
  have hmk : ∀ W, (Instr.buildSlice 33 0 #[]).run Tryz.prog W = .ok (.slice (some ⟨W.heap.size, 0, none⟩) 0 0) (W.alloc (.cells #[] 58)) := fun W => by kernel_rfl
  obtain ⟨i, hi, hz0, hz1, hz2⟩ := info_parts Tryz.infoPt
  have hW : Below w.heap.size w (w.alloc (.cells #[] 58)) := belowAny
  have hown0 := World.ownsRow_made (e := 58) (size := 2) (base := w.heap.size) w #[] 0 (Nat.le_refl _) (by simp [maxLen]) (by simp)
  go_wp2_with (at_builtin; refine wpList_append_own _ rfl (.tmp 5) (.tmp 6) 33 rfl w.heap.size 58 i _ 2 16 (by kernel_rfl) hi hz0 hz1 hz2 rfl (by omega) _ 0 [] rfl hown0 a l.length cap (flatPts l) rfl (by rw [flatPts_len9]) (fun j u hu => pts_flat9 (h.below hW) j u hu) (fun v hv => flatPts_one9 l v hv) (by simp [maxLen]; omega) (by omega) (by simp) ?_)
  intro v' w' hown hgr hvn
  have hB := Lib.hid (clone_below hgr)
  replace hown := Lib.hid hown
  replace hvn := Lib.hid hvn
  clear hgr
  go_wp2
  go_ret
  obtain ⟨_, h2 | ⟨g, cap', cur, rfl, hg, hb, hn, _, hc, ht⟩⟩ := hown.out
  · exact (hvn.out h2.1).elim
  · exact ⟨_, rfl, hB.out, g, cap', cur, by simp, hg, hb, by omega, by simpa using ht⟩
set_option maxRecDepth 100000 in
set_option maxHeartbeats 2000000 in
theorem raw28_w (nm : ByteArray) (ep fl la sc : Int) (po : Option Addr) (co : Nat) (pts : List (Int × Int)) (w : World) (N : Nat)
    (hpts : PtsIn w po pts) (hnilP : po = none → pts.length = 0 ∧ co = 0) (hcapP : pts.length ≤ co)
    (hN : N ≤ 1025) (hNr : N ≤ pts.length) (EN : Hid ((if (1025 : Int) < (pts.length : Int) then (1025 : Int) else pts.length) = (N : Int))) (hNc : (N : Int) ≤ co) (hN0 : 0 ≤ (N : Int)) (nm9 : ByteArray) (hnm : Hid ((nm.extract 0 (mn (nm.size : Int) 20).toNat) = nm9)) :
    Calls Tryz.prog 14 #[.agg #[.string nm, .int .i64 ep, .int .i64 fl, .int .i64 la, .int .i64 sc, .slice po pts.length co]] w fun e w' => ∃ pP capP, e = .returned (.agg #[.string nm9, .int .i64 ep, .int .i64 fl, .int .i64 la, .int .i64 sc, .slice pP N capP]) ∧ Below w.heap.size w w' ∧ PtRow w' w.heap.size pP (pts.take N) ∧ N ≤ capP := by
  have cQ := Lib.hid (fun W B (hW : Below w.heap.size w W) (hBW : B ≤ W.heap.size) => (show Calls Tryz.prog 41 #[.slice po N co] W fun e w' => ∃ v, e = .returned v ∧ Below W.heap.size W w' ∧ PtS B N (pts.take N) v w' from by
    have hl : (pts.take N).length = N := by rw [List.length_take]; omega
    cases hpo : po with
    | none =>
      obtain ⟨h1, h2⟩ := hnilP hpo
      have e : N = 0 := by omega
      subst e
      subst h2
      refine (clonePt_nil W).mono ?_
      rintro e w' ⟨rfl, hB⟩
      exact ⟨_, rfl, hB, .inl ⟨rfl, rfl, rfl⟩⟩
    | some a9 =>
      have t := clonePtB_some a9 co (pts.take N) W (by omega) (hpo ▸ (hpts.take9 N).below hW)
      rw [hl] at t
      refine t.mono ?_
      rintro e w' ⟨v, rfl, hB, g, c, cur, rfl, hg, h⟩
      exact ⟨_, rfl, hB, .inr ⟨g, c, cur, rfl, Nat.le_trans hBW hg, h⟩⟩))
  go_enter Tryz.func14, Tryz.ntmps14
  have hmin : ∀ ts t x y w, (Builtin.min_ ts t #[.int .i64 x, .int .i64 y]).run Tryz.prog w = .ok (.int .i64 (mn x y)) w := fun ts t x y w => by simp [Builtin.min_, Builtin.min2, mn]
  have hm0 := mn_spec (nm.size : Int) 20
  have hm1 : 0 ≤ mn (nm.size : Int) 20 := by omega
  have hm2 : mn (nm.size : Int) 20 ≤ (nm.size : Int) := hm0.1
  clear hm0
  go_upto_region 2 with (fail)
  refine wp_cutB w (Bc w.heap.size #[.string (nm.extract 0 (mn (nm.size : Int) 20).toNat), .int .i64 ep, .int .i64 fl, .int .i64 la, .int .i64 sc, .slice po pts.length co] 35 <| Bc (w.heap.size + 1) #[.string .empty, .int .i64 0, .int .i64 0, .int .i64 0, .int .i64 0, .slice none 0 0] 35 <| Bz) ?_
  rintro W1 hW z2 ⟨⟨b1, yb1, k1, f1⟩, ⟨b2, yb2, k2, f2⟩, -⟩
  clear hmin hm1 hm2
  rw [hnm.out] at b1
  go_upto_region 2 with (fail)
  clear k1 f1 k2 f2
  refine wp_cutB w (Bc w.heap.size #[.string nm9, .int .i64 ep, .int .i64 fl, .int .i64 la, .int .i64 sc, .slice po pts.length co] 35 <| Bc (w.heap.size + 1) #[.string .empty, .int .i64 0, .int .i64 0, .int .i64 0, .int .i64 0, .slice none 0 0] 35 <| Bz) ?_
  clear b1 b2 hW
  rintro W3 hW z4 hL
  obtain ⟨⟨b1, yb1, k1, f1⟩, ⟨b2, yb2, k2, f2⟩, -⟩ := id hL
  clear k1 f1 k2 f2
  refine wp_regS 8 21 hW hL ?_
  iterate 5 refine dA ?_
  apply nd_det (.int .i64 ((N : Nat) : Int)) (hg := rfl) (hal := rfl)
  · intro a' W' hC hE
    simp [Oper.looksAt, Op.operands, Call.operands, envOf, Det] at hE
    simp [go_sem, Act.eval, hE, EN.out]
  apply nd_det (.slice po N co) (hg := rfl) (hal := rfl)
  · intro a' W' hC hE
    simp [Oper.looksAt, Op.operands, Call.operands, envOf, Det] at hE
    simp [go_sem, Act.eval, hE, hNc, hN0, add_zero_map]
  apply nd_call (PtS W3.heap.size N (pts.take N)) (hg := rfl) (hal := rfl)
  · exact PtS.closed _ _ _
  · intro a' W' hC hE
    simp [Oper.looksAt, Op.operands, Call.operands, envOf, Det] at hE
    refine ⟨_, _, ?_, (cQ.out W' W3.heap.size (hW.trans (hC.1.of_priv hW.size)) hC.1.size).mono ?_⟩
    · simp [go_sem, Act.eval, hE]
      try rfl
    · rintro e w' ⟨v, rfl, hB, hv⟩
      exact ⟨v, rfl, hB, hv⟩
  clear hW hL b1 b2
  rintro W5 hW z6 hL
  simp only [ndR]
  intros
  simp only [ndS]
  obtain ⟨⟨b1, yb1, k1, f1⟩, ⟨b2, yb2, k2, f2⟩, -⟩ := hL
  have z7 := hW.size
  rename PtS _ _ _ _ _ => hp
  obtain ⟨pP, capP, rfl, hP, hcP⟩ := hp.form
  clear hp
  go_upto_region 3 with (fail)
  clear k1 f1 k2 f2
  refine wp_cutB w (Bc w.heap.size #[.string nm9, .int .i64 ep, .int .i64 fl, .int .i64 la, .int .i64 sc, .slice pP N capP] 35 <| Bc (w.heap.size + 1) #[.string .empty, .int .i64 0, .int .i64 0, .int .i64 0, .int .i64 0, .slice none 0 0] 35 <| Rc (fun W' => PtRow W' (w.heap.size + 1 + 1) pP (pts.take N)) <| Bz) ?_ (hI := by exact belowAny) (hR := (Bc.mk (by exact blkAny2) <| Bc.mk (by exact blkAny2) <| Rc.mk (by exact (hP.mono (by omega)).setO (by omega) _ _) <| trivial))
  clear b1 b2 hW
  rintro W8 hW z9 ⟨⟨b1, yb1, k1, f1⟩, ⟨b2, yb2, k2, f2⟩, b3, -⟩
  have hP := b3
  clear b3
  go_wp2
  have d2 : Blk ((((((W8.setCell ⟨w.heap.size + 1, 0, none⟩ (.string nm9)).setCell ⟨w.heap.size + 1, 1, none⟩ (.int .i64 ep)).setCell ⟨w.heap.size + 1, 2, none⟩ (.int .i64 fl)).setCell ⟨w.heap.size + 1, 3, none⟩ (.int .i64 la)).setCell ⟨w.heap.size + 1, 4, none⟩ (.int .i64 sc)).setCell ⟨w.heap.size + 1, 5, none⟩ (.slice pP N capP)) (w.heap.size + 1) #[.string nm9, .int .i64 ep, .int .i64 fl, .int .i64 la, .int .i64 sc, .slice pP N capP] 35 := blkAny2
  have hB9 : Below w.heap.size w ((((((W8.setCell ⟨w.heap.size + 1, 0, none⟩ (.string nm9)).setCell ⟨w.heap.size + 1, 1, none⟩ (.int .i64 ep)).setCell ⟨w.heap.size + 1, 2, none⟩ (.int .i64 fl)).setCell ⟨w.heap.size + 1, 3, none⟩ (.int .i64 la)).setCell ⟨w.heap.size + 1, 4, none⟩ (.int .i64 sc)).setCell ⟨w.heap.size + 1, 5, none⟩ (.slice pP N capP)) := belowAny
  have hP9 : PtRow ((((((W8.setCell ⟨w.heap.size + 1, 0, none⟩ (.string nm9)).setCell ⟨w.heap.size + 1, 1, none⟩ (.int .i64 ep)).setCell ⟨w.heap.size + 1, 2, none⟩ (.int .i64 fl)).setCell ⟨w.heap.size + 1, 3, none⟩ (.int .i64 la)).setCell ⟨w.heap.size + 1, 4, none⟩ (.int .i64 sc)).setCell ⟨w.heap.size + 1, 5, none⟩ (.slice pP N capP)) (w.heap.size + 1 + 1) pP (pts.take N) := ((((((hP.setO (by omega) 0 _).setO (by omega) 1 _).setO (by omega) 2 _).setO (by omega) 3 _).setO (by omega) 4 _).setO (by omega) 5 _)
  obtain ⟨W9, hW9⟩ : ∃ W9, W9 = ((((((W8.setCell ⟨w.heap.size + 1, 0, none⟩ (.string nm9)).setCell ⟨w.heap.size + 1, 1, none⟩ (.int .i64 ep)).setCell ⟨w.heap.size + 1, 2, none⟩ (.int .i64 fl)).setCell ⟨w.heap.size + 1, 3, none⟩ (.int .i64 la)).setCell ⟨w.heap.size + 1, 4, none⟩ (.int .i64 sc)).setCell ⟨w.heap.size + 1, 5, none⟩ (.slice pP N capP)) := ⟨_, rfl⟩
  rw [← hW9] at d2 hB9 hP9 ⊢
  clear hW9 b1 b2 hP k1 f1 k2 f2
  have k2 := d2.cell
  have f2 := d2.frozen
  have y_2 := d2.lt
  refine bodyPost_ret (v := .agg #[.string nm9, .int .i64 ep, .int .i64 fl, .int .i64 la, .int .i64 sc, .slice pP N capP]) (by simp [results, Tryz.results14, go_sem, k2, f2, y_2]) rfl ⟨pP, capP, rfl, hB9, hP9.mono (by omega), hcP⟩
/-- A raw series that came in. -/
structure RawCame (w : World) (r : RawT) (p : Option Addr) (cap : Nat) : Prop where
  pts : PtsIn w p r.pts
  nil : p = none → r.pts.length = 0 ∧ cap = 0
  cap : r.pts.length ≤ cap
theorem RawCame.below {w W : World} {r : RawT} {p : Option Addr} {cap : Nat} (h : RawCame w r p cap) (hb : Below w.heap.size w W) : RawCame W r p cap := ⟨h.pts.below hb, h.nil, h.cap⟩
/-- What is left of it. -/
def rawOf (r : RawT) : RawT := ⟨r.name.extract 0 (mn (r.name.size : Int) 20).toNat, r.eps, r.floor, r.last, r.scale, r.pts.take (min r.pts.length 1025)⟩
theorem rawOf_len (r : RawT) : (rawOf r).pts.length ≤ 1025 := by
  show (r.pts.take (min r.pts.length 1025)).length ≤ 1025
  rw [List.length_take]; omega
theorem rawOf_name (r : RawT) : (rawOf r).name.size ≤ 20 := by
  have := mn_spec (r.name.size : Int) 20
  show (r.name.extract 0 (mn (r.name.size : Int) 20).toNat).size ≤ 20
  rw [ByteArray.size_extract]
  omega
theorem c_raw28O (r : RawT) (p : Option Addr) (cap : Nat) (w : World) (h : RawCame w r p cap) :
    Calls Tryz.prog 14 #[.agg (rawA r p cap)] w fun e w' => ∃ p' cap', e = .returned (.agg (rawA (rawOf r) p' cap')) ∧ Below w.heap.size w w' ∧ PtRow w' w.heap.size p' (rawOf r).pts ∧ (rawOf r).pts.length ≤ cap' := by
  have hl : (r.pts.take (min r.pts.length 1025)).length = min r.pts.length 1025 := by rw [List.length_take]; omega
  have h1 := h.cap
  refine (raw28_w r.name r.eps r.floor r.last r.scale p cap r.pts w (min r.pts.length 1025) h.pts h.nil h.cap (by omega) (by omega) (Lib.hid (by split <;> omega)) (by omega) (by omega) _ (Lib.hid rfl)).mono ?_
  rintro e w' ⟨pP, capP, rfl, hB, hP, hc⟩
  refine ⟨pP, capP, ?_, hB, hP, ?_⟩
  · unfold rawA rawOf
    simp only [hl]
  · show (r.pts.take (min r.pts.length 1025)).length ≤ capP
    omega
theorem c_raw28 (r : RawT) (p : Option Addr) (cap : Nat) (w : World) (h : RawCame w r p cap) :
    Calls Tryz.prog 14 #[.agg (rawA r p cap)] w fun e w' => ∃ p' cap', e = .returned (.agg (rawA (rawOf r) p' cap')) ∧ Below w.heap.size w w' ∧ PtsIn w' p' (rawOf r).pts :=
  (c_raw28O r p cap w h).mono fun e w' ⟨p', c', h1, h2, h3, _⟩ => ⟨p', c', h1, h2, h3.pts⟩
end Go.Proofs.YtdeghcgakkhbmaaGreat
namespace Go.Proofs.YtdeghcgakkhbmaaGreat
open Go.RowKit
/-- The exact answer so far, and one value more. -/
def gS (x : Int × (Int × Int) × Int) (v : Int) : Int × (Int × Int) × Int := (x.1 + 1, if x.1 = 0 then (mn v v, mx v v) else (mn x.2.1.1 v, mx x.2.1.2 v), x.2.2 + v)
def exA (x : Int × (Int × Int) × Int) : Array Value := #[.int .i64 x.1, .int .i64 x.2.1.1, .int .i64 x.2.1.2, .int .i64 (hiW x.2.2), .int .u64 (loW x.2.2)]
set_option maxRecDepth 100000 in
set_option maxHeartbeats 2000000 in
theorem grow_more (g : Nat) (t v n a b s1 s2 o1 o2 r1 r2 e2 : Int) (w : World) (hg : Blk w g #[.int .i64 n, .int .i64 a, .int .i64 b, .int .i64 s1, .int .u64 s2] 91) (hn : 0 < n) (hn2 : n ≤ 1000000)
    (c1 : ∀ W, Calls Tryz.prog 88 #[.int .i64 v] W fun e w' => e = .returned (.agg #[.int .i64 o1, .int .u64 o2]) ∧ Below W.heap.size W w')
    (c2 : ∀ W, Calls Tryz.prog 87 #[.agg #[.int .i64 s1, .int .u64 s2], .agg #[.int .i64 o1, .int .u64 o2]] W fun e w' => e = .returned (.tuple #[.agg #[.int .i64 r1, .int .u64 r2], .int .i64 e2]) ∧ Below W.heap.size W w') :
    Calls Tryz.prog 86 #[.agg #[.int .i64 t, .int .i64 v], .pointer (some ⟨g, 0, none⟩)] w fun e w' => e = .returned (.tuple #[]) ∧ Rex [g] w w' ∧ Blk w' g #[.int .i64 (n + 1), .int .i64 (mn a v), .int .i64 (mx b v), .int .i64 r1, .int .u64 r2] 91 := by
  have y0 := hg.lt
  have hmax : ∀ ts t x y w, (Builtin.max_ ts t #[.int .i64 x, .int .i64 y]).run Tryz.prog w = .ok (.int .i64 (mx x y)) w := fun ts t x y w => by simp [Builtin.max_, Builtin.max2, mx]
  have hmin : ∀ ts t x y w, (Builtin.min_ ts t #[.int .i64 x, .int .i64 y]).run Tryz.prog w = .ok (.int .i64 (mn x y)) w := fun ts t x y w => by simp [Builtin.min_, Builtin.min2, mn]
  have H_c1 := Lib.hid c1
  clear c1
  have H_c2 := Lib.hid c2
  clear c2
  go_enter Tryz.func86, Tryz.ntmps86
  go_upto_region 1 with (fail)
  refine wp_cutX [g] w (Bc g #[.int .i64 n, .int .i64 a, .int .i64 b, .int .i64 s1, .int .u64 s2] 91 <| Bc w.heap.size #[.int .i64 t, .int .i64 v] 58 <| Bz) ?_
  rintro W1 hW z2 ⟨⟨b1, yb1, k1, f1⟩, ⟨b2, yb2, k2, f2⟩, -⟩
  go_upto_region 4 with (fail)
  clear k1 f1 k2 f2
  refine wp_cutX [g] w (Bc g #[.int .i64 n, .int .i64 (mn a v), .int .i64 (mx b v), .int .i64 s1, .int .u64 s2] 91 <| Bc w.heap.size #[.int .i64 t, .int .i64 v] 58 <| Bz) ?_
  clear b1 b2 hW
  rintro W3 hW z4 ⟨⟨b1, yb1, k1, f1⟩, ⟨b2, yb2, k2, f2⟩, -⟩
  go_upto_region 4 with (fail)
  clear k1 f1 k2 f2
  refine wp_cutX [g] w (Bc g #[.int .i64 n, .int .i64 (mn a v), .int .i64 (mx b v), .int .i64 s1, .int .u64 s2] 91 <| Bc w.heap.size #[.int .i64 t, .int .i64 v] 58 <| Bz) ?_
  clear b1 b2 hW
  rintro W5 hW z6 ⟨⟨b1, yb1, k1, f1⟩, ⟨b2, yb2, k2, f2⟩, -⟩
  clear k1 f1 k2 f2
  have c1 := H_c1.out
  have c2 := H_c2.out
  refine wp_region_nd 10 40 [] (fun W' => Rex [] W5 W' ∧ Blk W' g #[.int .i64 n, .int .i64 (mn a v), .int .i64 (mx b v), .int .i64 s1, .int .u64 s2] 91 ∧ Blk W' w.heap.size #[.int .i64 t, .int .i64 v] 58) mixed (by kernel_rfl) rfl ⟨(Rex.refl _ _).drew, b1, b2⟩ (fun w w' ⟨h0, h1, h2⟩ hr => ⟨h0.trans hr, h1.rex hr (by simp <;> omega), h2.rex hr (by simp <;> omega)⟩) (fun c a d v w h => by cases d <;> exact h) ?_
  iterate 4
    apply nd_det (hg := rfl) (hal := rfl)
    · intro a W' hC hE
      obtain ⟨_, k1, k2⟩ := hC
      have k1 := k1.cell
      have k2 := k2.cell
      first
        | (simp [Oper.looksAt, Op.operands, Call.operands, envOf, Det] at hE; simp [go_sem, Act.eval, IntWalk.i64_left, hE, k1, k2]; try rfl)
        | (clear hE; simp [go_sem, Act.eval, IntWalk.i64_left, k1, k2]; try rfl)
  refine nd_callv2 rfl rfl (fun W' hC => c1 W') (fun a W' hC hE => ?_) ?_
  · obtain ⟨_, k1, k2⟩ := hC
    have k1 := k1.cell
    have k2 := k2.cell
    first
      | (simp [Oper.looksAt, Op.operands, Call.operands, envOf, Det] at hE; simp [go_sem, Act.eval, IntWalk.i64_left, hE, k1, k2]; try rfl)
      | (clear hE; simp [go_sem, Act.eval, IntWalk.i64_left, k1, k2]; try rfl)
  refine nd_callv2 rfl rfl (fun W' hC => c2 W') (fun a W' hC hE => ?_) ?_
  · obtain ⟨_, k1, k2⟩ := hC
    have k1 := k1.cell
    have k2 := k2.cell
    first
      | (simp [Oper.looksAt, Op.operands, Call.operands, envOf, Det] at hE; simp [go_sem, Act.eval, IntWalk.i64_left, hE, k1, k2]; try rfl)
      | (clear hE; simp [go_sem, Act.eval, IntWalk.i64_left, k1, k2]; try rfl)
  iterate 4
    apply nd_det (hg := rfl) (hal := rfl)
    · intro a W' hC hE
      obtain ⟨_, k1, k2⟩ := hC
      have k1 := k1.cell
      have k2 := k2.cell
      first
        | (simp [Oper.looksAt, Op.operands, Call.operands, envOf, Det] at hE; simp [go_sem, Act.eval, IntWalk.i64_left, hE, k1, k2]; try rfl)
        | (clear hE; simp [go_sem, Act.eval, IntWalk.i64_left, k1, k2]; try rfl)
  rintro W7 ⟨hR, d1, d2⟩
  simp only [ndFinR, Det, forall_eq]
  intros
  repeat (rename GDet _ _ _ _ => hgd; clear hgd)
  simp only [Act.put, List.setIfInBounds_toArray, List.set_cons_zero, List.set_cons_succ, List.drop_succ_cons, List.drop_zero]
  replace hW := hW.trans (hR.more (by simp))
  clear hR
  clear c1
  clear c2
  try clear b1 b2
  have b1 := d1
  clear d1
  have b2 := d2
  clear d2
  have k1 := b1.cell
  have f1 := b1.frozen
  have k2 := b2.cell
  have f2 := b2.frozen
  go_wp2
  refine bodyPost_end (results_none rfl _ _ _) rfl ⟨rfl, rexAny, blkAny2⟩
set_option maxRecDepth 100000 in
set_option maxHeartbeats 2000000 in
theorem grow_first (g : Nat) (t v a b s1 s2 o1 o2 r1 r2 e2 : Int) (w : World) (hg : Blk w g #[.int .i64 0, .int .i64 a, .int .i64 b, .int .i64 s1, .int .u64 s2] 91)
    (c1 : ∀ W, Calls Tryz.prog 88 #[.int .i64 v] W fun e w' => e = .returned (.agg #[.int .i64 o1, .int .u64 o2]) ∧ Below W.heap.size W w')
    (c2 : ∀ W, Calls Tryz.prog 87 #[.agg #[.int .i64 s1, .int .u64 s2], .agg #[.int .i64 o1, .int .u64 o2]] W fun e w' => e = .returned (.tuple #[.agg #[.int .i64 r1, .int .u64 r2], .int .i64 e2]) ∧ Below W.heap.size W w') :
    Calls Tryz.prog 86 #[.agg #[.int .i64 t, .int .i64 v], .pointer (some ⟨g, 0, none⟩)] w fun e w' => e = .returned (.tuple #[]) ∧ Rex [g] w w' ∧ Blk w' g #[.int .i64 1, .int .i64 (mn v v), .int .i64 (mx v v), .int .i64 r1, .int .u64 r2] 91 := by
  have y0 := hg.lt
  have hmax : ∀ ts t x y w, (Builtin.max_ ts t #[.int .i64 x, .int .i64 y]).run Tryz.prog w = .ok (.int .i64 (mx x y)) w := fun ts t x y w => by simp [Builtin.max_, Builtin.max2, mx]
  have hmin : ∀ ts t x y w, (Builtin.min_ ts t #[.int .i64 x, .int .i64 y]).run Tryz.prog w = .ok (.int .i64 (mn x y)) w := fun ts t x y w => by simp [Builtin.min_, Builtin.min2, mn]
  have H_c1 := Lib.hid c1
  clear c1
  have H_c2 := Lib.hid c2
  clear c2
  go_enter Tryz.func86, Tryz.ntmps86
  go_upto_region 1 with (fail)
  refine wp_cutX [g] w (Bc g #[.int .i64 0, .int .i64 a, .int .i64 b, .int .i64 s1, .int .u64 s2] 91 <| Bc w.heap.size #[.int .i64 t, .int .i64 v] 58 <| Bz) ?_
  rintro W1 hW z2 ⟨⟨b1, yb1, k1, f1⟩, ⟨b2, yb2, k2, f2⟩, -⟩
  go_upto_region 4 with (fail)
  clear k1 f1 k2 f2
  refine wp_cutX [g] w (Bc g #[.int .i64 0, .int .i64 (mn v v), .int .i64 (mx v v), .int .i64 s1, .int .u64 s2] 91 <| Bc w.heap.size #[.int .i64 t, .int .i64 v] 58 <| Bz) ?_
  clear b1 b2 hW
  rintro W3 hW z4 ⟨⟨b1, yb1, k1, f1⟩, ⟨b2, yb2, k2, f2⟩, -⟩
  go_upto_region 4 with (fail)
  clear k1 f1 k2 f2
  refine wp_cutX [g] w (Bc g #[.int .i64 0, .int .i64 (mn v v), .int .i64 (mx v v), .int .i64 s1, .int .u64 s2] 91 <| Bc w.heap.size #[.int .i64 t, .int .i64 v] 58 <| Bz) ?_
  clear b1 b2 hW
  rintro W5 hW z6 ⟨⟨b1, yb1, k1, f1⟩, ⟨b2, yb2, k2, f2⟩, -⟩
  clear k1 f1 k2 f2
  have c1 := H_c1.out
  have c2 := H_c2.out
  refine wp_region_nd 10 40 [] (fun W' => Rex [] W5 W' ∧ Blk W' g #[.int .i64 0, .int .i64 (mn v v), .int .i64 (mx v v), .int .i64 s1, .int .u64 s2] 91 ∧ Blk W' w.heap.size #[.int .i64 t, .int .i64 v] 58) mixed (by kernel_rfl) rfl ⟨(Rex.refl _ _).drew, b1, b2⟩ (fun w w' ⟨h0, h1, h2⟩ hr => ⟨h0.trans hr, h1.rex hr (by simp <;> omega), h2.rex hr (by simp <;> omega)⟩) (fun c a d v w h => by cases d <;> exact h) ?_
  iterate 4
    apply nd_det (hg := rfl) (hal := rfl)
    · intro a W' hC hE
      obtain ⟨_, k1, k2⟩ := hC
      have k1 := k1.cell
      have k2 := k2.cell
      first
        | (simp [Oper.looksAt, Op.operands, Call.operands, envOf, Det] at hE; simp [go_sem, Act.eval, IntWalk.i64_left, hE, k1, k2]; try rfl)
        | (clear hE; simp [go_sem, Act.eval, IntWalk.i64_left, k1, k2]; try rfl)
  refine nd_callv2 rfl rfl (fun W' hC => c1 W') (fun a W' hC hE => ?_) ?_
  · obtain ⟨_, k1, k2⟩ := hC
    have k1 := k1.cell
    have k2 := k2.cell
    first
      | (simp [Oper.looksAt, Op.operands, Call.operands, envOf, Det] at hE; simp [go_sem, Act.eval, IntWalk.i64_left, hE, k1, k2]; try rfl)
      | (clear hE; simp [go_sem, Act.eval, IntWalk.i64_left, k1, k2]; try rfl)
  refine nd_callv2 rfl rfl (fun W' hC => c2 W') (fun a W' hC hE => ?_) ?_
  · obtain ⟨_, k1, k2⟩ := hC
    have k1 := k1.cell
    have k2 := k2.cell
    first
      | (simp [Oper.looksAt, Op.operands, Call.operands, envOf, Det] at hE; simp [go_sem, Act.eval, IntWalk.i64_left, hE, k1, k2]; try rfl)
      | (clear hE; simp [go_sem, Act.eval, IntWalk.i64_left, k1, k2]; try rfl)
  iterate 4
    apply nd_det (hg := rfl) (hal := rfl)
    · intro a W' hC hE
      obtain ⟨_, k1, k2⟩ := hC
      have k1 := k1.cell
      have k2 := k2.cell
      first
        | (simp [Oper.looksAt, Op.operands, Call.operands, envOf, Det] at hE; simp [go_sem, Act.eval, IntWalk.i64_left, hE, k1, k2]; try rfl)
        | (clear hE; simp [go_sem, Act.eval, IntWalk.i64_left, k1, k2]; try rfl)
  rintro W7 ⟨hR, d1, d2⟩
  simp only [ndFinR, Det, forall_eq]
  intros
  repeat (rename GDet _ _ _ _ => hgd; clear hgd)
  simp only [Act.put, List.setIfInBounds_toArray, List.set_cons_zero, List.set_cons_succ, List.drop_succ_cons, List.drop_zero]
  replace hW := hW.trans (hR.more (by simp))
  clear hR
  clear c1
  clear c2
  try clear b1 b2
  have b1 := d1
  clear d1
  have b2 := d2
  clear d2
  have k1 := b1.cell
  have f1 := b1.frozen
  have k2 := b2.cell
  have f2 := b2.frozen
  go_wp2
  refine bodyPost_end (results_none rfl _ _ _) rfl ⟨rfl, rexAny, blkAny2⟩
/-- One value more, in the block of the exact answer. -/
theorem c_mdGrow (g : Nat) (t v : Int) (x : Int × (Int × Int) × Int) (w : World) (hg : Blk w g (exA x) 91) (h0 : 0 ≤ x.1) (h1 : x.1 ≤ 1000000) (hv : I64 v) (hs : W128 x.2.2) (hs2 : W128 (x.2.2 + v)) :
    Calls Tryz.prog 86 #[.agg #[.int .i64 t, .int .i64 v], .pointer (some ⟨g, 0, none⟩)] w fun e w' => e = .returned (.tuple #[]) ∧ Rex [g] w w' ∧ Blk w' g (exA (gS x v)) 91 := by
  obtain ⟨n, ⟨a, b⟩, s⟩ := x
  simp only at h0 h1 hs hs2
  have c1 := fun W => c_Of v W hv
  have c2 := fun W => c_Add s v W hs (by unfold W128; unfold I64 at hv; omega)
  rw [inW_in hs2, wrapW_in hs2] at c2
  unfold exA at hg ⊢
  unfold gS
  by_cases hn : n = 0
  · subst hn
    rw [if_pos rfl]
    exact grow_first g t v a b _ _ _ _ _ _ _ w hg c1 c2
  · rw [if_neg (by simpa using hn)]
    exact grow_more g t v n a b _ _ _ _ _ _ _ w hg (by omega) h1 c1 c2
end Go.Proofs.YtdeghcgakkhbmaaGreat
namespace Go.Proofs.YtdeghcgakkhbmaaGreat
open Go.RowKit Go.Shelf
attribute [local go_sem] Oper.semAt_some
/-- The points of some times, as they are told: till the first one that is behind them. -/
def goesG (a b : Int) (p : Int × Int) : Bool := decide (p.1 < a) || decide (p.1 ≤ b)
def tellG (a b : Int) (l : List (Int × Int)) : List (Int × Int) := (l.takeWhile (goesG a b)).filter (fun p => decide (a ≤ p.1))
def soG (a b : Int) (l : List (Int × Int)) (k : Nat) (pre : List (Int × Int)) : Prop := pre = (l.take k).filter (fun p => decide (a ≤ p.1)) ∧ ∀ p, p ∈ l.take k → goesG a b p = true
theorem take_snoc {l : List (Int × Int)} {k : Nat} {x : Int × Int} (h : l[k]? = some x) : l.take (k + 1) = l.take k ++ [x] := by rw [List.take_add_one, h]; rfl
theorem drop_cons {l : List (Int × Int)} {k : Nat} {x : Int × Int} (h : l[k]? = some x) : l.drop k = x :: l.drop (k + 1) := by
  have hlt := (List.getElem?_eq_some_iff.1 h).1
  rw [List.drop_eq_getElem_cons hlt]
  congr 1
  exact (List.getElem?_eq_some_iff.1 h).2
theorem while_all {g : Int × Int → Bool} : ∀ {l m : List (Int × Int)}, (∀ p, p ∈ l → g p = true) → (l ++ m).takeWhile g = l ++ m.takeWhile g
  | [], _, _ => rfl
  | a :: l, m, h => by
    rw [List.cons_append, List.takeWhile_cons, if_pos (h a (List.mem_cons_self ..)), while_all (fun p hp => h p (List.mem_cons_of_mem _ hp))]
    rfl
theorem soG_while {a b : Int} {l : List (Int × Int)} {k : Nat} {pre : List (Int × Int)} (h : soG a b l k pre) : tellG a b l = pre ++ tellG a b (l.drop k) := by
  unfold tellG
  conv => lhs; rw [← List.take_append_drop k l]
  rw [while_all h.2, List.filter_append, h.1]
theorem soG_skip {a b : Int} {l : List (Int × Int)} {k : Nat} {pre : List (Int × Int)} {x : Int × Int} (h : soG a b l k pre) (hx : l[k]? = some x) (hlt : x.1 < a) : soG a b l (k + 1) pre := by
  refine ⟨?_, fun p hp => ?_⟩
  · rw [take_snoc hx, List.filter_append, ← h.1, List.filter_cons, if_neg (by simp; omega)]
    simp
  · rw [take_snoc hx] at hp
    rcases List.mem_append.1 hp with hp | hp
    · exact h.2 p hp
    · obtain rfl := List.mem_singleton.1 hp
      simp [goesG, hlt]
theorem soG_tell {a b : Int} {l : List (Int × Int)} {k : Nat} {pre : List (Int × Int)} {x : Int × Int} (h : soG a b l k pre) (hx : l[k]? = some x) (h1 : ¬ x.1 < a) (h2 : ¬ b < x.1) : soG a b l (k + 1) (pre ++ [x]) ∧ x ∈ tellG a b l ∧ pre.length < (tellG a b l).length ∧ pre ++ [x] <+: tellG a b l := by
  have hg : goesG a b x = true := by simp [goesG]; omega
  have e : tellG a b l = pre ++ [x] ++ tellG a b (l.drop (k + 1)) := by
    rw [soG_while h, drop_cons hx]
    conv => lhs; unfold tellG; rw [List.takeWhile_cons, if_pos hg, List.filter_cons, if_pos (by simp; omega)]
    unfold tellG
    simp
  refine ⟨⟨?_, fun p hp => ?_⟩, by rw [e]; simp, by rw [e]; simp, ⟨_, e.symm⟩⟩
  · rw [take_snoc hx, List.filter_append, ← h.1, List.filter_cons, if_pos (by simp; omega)]
    rfl
  · rw [take_snoc hx] at hp
    rcases List.mem_append.1 hp with hp | hp
    · exact h.2 p hp
    · obtain rfl := List.mem_singleton.1 hp
      exact hg
theorem soG_stop {a b : Int} {l : List (Int × Int)} {k : Nat} {pre : List (Int × Int)} {x : Int × Int} (h : soG a b l k pre) (hx : l[k]? = some x) (h1 : ¬ x.1 < a) (h2 : b < x.1) : pre = tellG a b l := by
  rw [soG_while h, drop_cons hx]
  unfold tellG
  rw [List.takeWhile_cons, if_neg (by simp [goesG]; omega)]
  simp
theorem soG_end {a b : Int} {l : List (Int × Int)} {pre : List (Int × Int)} (h : soG a b l l.length pre) : pre = tellG a b l := by
  rw [soG_while h]
  simp [tellG]
/-- What a round must keep for the points' sake. -/
structure KeepsR (r : RawT) (p : Option Addr) (cap : Nat) (a b : Int) (Br Ba Bb : Nat) (A B : World) : Prop where
  size : A.heap.size ≤ B.heap.size
  pts : PtsIn A p r.pts → PtsIn B p r.pts
  raw : Blk A Br (rawA r p cap) 35 → Blk B Br (rawA r p cap) 35
  lo : Blk A Ba #[.int .i64 a] 2 → Blk B Ba #[.int .i64 a] 2
  hi : Blk A Bb #[.int .i64 b] 2 → Blk B Bb #[.int .i64 b] 2
set_option maxRecDepth 100000 in
set_option maxHeartbeats 4000000 in
theorem some1_in (n : Nat) (hn : 1 ≤ n) (lr Br Ba Bb : Nat) (r : RawT) (p : Option Addr) (cap : Nat) (a b : Int) (Q : Int × Int → Prop) (hQ : ∀ x, x ∈ tellG a b r.pts → Q x) (hlen : r.pts.length ≤ 2000) (Kp : World → World → Prop) (hK : ∀ {A B}, Kp A B → KeepsR r p cap a b Br Ba Bb A B)
    (J Jx : List {x : Int × Int // Q x} → World → Prop) (B0 : Nat) (hJ : AbidesFrom B0 J)
    (hY : ∀ pre x W, J pre W → pre.length < (tellG a b r.pts).length → YieldAt Fence.wide (n - 1) Tryz.prog lr #[.agg #[.int .i64 x.1.1, .int .i64 x.1.2]] W fun e W' => (e = .returned (.bool true) ∧ J (pre ++ [x]) W' ∧ Kp W W') ∨ (e = .returned (.bool false) ∧ Jx (pre ++ [x]) W'))
    (W : World) (hr : Blk W Br (rawA r p cap) 35) (ha : Blk W Ba #[.int .i64 a] 2) (hb : Blk W Bb #[.int .i64 b] 2) (hp : PtsIn W p r.pts) (h0 : J [] W) :
    CallsIn Fence.wide n Tryz.prog 116 #[.func (.yield lr) #[] #[], .pointer (some ⟨Br, 0, none⟩), .pointer (some ⟨Ba, 0, none⟩), .pointer (some ⟨Bb, 0, none⟩)] W fun e W' => (∃ v, e = .returned v) ∧ ((∃ ys, ys.map (·.1) = tellG a b r.pts ∧ J ys W') ∨ (∃ pre, pre.map (·.1) <+: tellG a b r.pts ∧ Jx pre W')) := by
  have hr' := hr
  unfold rawA at hr'
  have k1 := hr'.cell
  refine callsIn_of_wp Tryz.func116 rfl trivial ?_ rfl
  simp only [Tryz.ntmps116, List.size_toArray, List.length_cons, List.length_nil, Nat.reduceAdd, Nat.reduceSub, Array.replicate_succ, Array.replicate_zero, List.push_toArray, List.append_toArray, List.nil_append, List.cons_append]
  refine wpIn_scope (wpIn_lab ?_)
  gi_wp2
  clear k1 hr'
  gi_loopw [10] (fun i wr => ∃ (k : Nat) (pre : List {x : Int × Int // Q x}), k ≤ r.pts.length ∧ i = .int .i64 k ∧ J pre wr ∧ soG a b r.pts k (pre.map (·.1)) ∧ (PtsIn wr p r.pts ∧ Blk wr Br (rawA r p cap) 35 ∧ Blk wr Ba #[.int .i64 a] 2 ∧ Blk wr Bb #[.int .i64 b] 2)) (fun i _ => r.pts.length - (intOf i).toNat)
  case atStart => exact ⟨0, [], Nat.zero_le _, rfl, h0, ⟨by simp, by simp⟩, hp, hr, ha, hb⟩
  case round =>
    obtain ⟨k, pre, hk, rfl, hJs, hso, hpk, hrk, hak, hbk⟩ := hrel
    obtain ⟨wo, rfl⟩ : ∃ wo : World, wo = wr := ⟨_, rfl⟩
    rcases Nat.lt_or_ge k r.pts.length with hlt | hge
    · obtain ⟨⟨t, v⟩, tr⟩ : ∃ x, r.pts[k]? = some x := ⟨r.pts[k]'(by omega), List.getElem?_eq_getElem (by omega)⟩
      obtain ⟨bq, o, rfl, q0, q1⟩ := hpk.at' k _ tr
      simp only at q0 q1
      have ka := hak.cell
      have kb := hbk.cell
      have ya := hak.lt
      have yb := hbk.lt
      have hJ1 : J pre (wo.alloc (.cells #[.int .i64 t, .int .i64 v] 58)) := hJ _ _ _ none hJs (World.grownBy_alloc wo _ none) (fun r e => by cases e)
      have hB1 : Below wo.heap.size wo (wo.alloc (.cells #[.int .i64 t, .int .i64 v] 58)) := belowAny
      have e1 := hpk.below hB1
      have e2 := hrk.below hB1
      have e3 := hak.below hB1
      have e4 := hbk.below hB1
      clear hB1
      by_cases h1 : t < a
      · have hso' := Lib.hid (soG_skip hso tr h1)
        clear hso tr hp hr ha hb h0 hJs
        gi_wp2
        go_roundw
        case rel => exact ⟨k + 1, pre, by omega, by simp, hJ1, hso'.out, e1, e2, e3, e4⟩
        case measure => simp [intOf]; omega
      · by_cases h2 : b < t
        · have hst := Lib.hid (soG_stop hso tr h1 h2)
          clear hso tr hp hr ha hb h0 hJs
          gi_wp2
          refine ⟨fun f hf => (by cases hf), ?_⟩
          gi_wp2
          simp only [Exit.noGoto]
          refine bodyPost_end (results_none rfl _ _ _) rfl ?_
          exact ⟨⟨_, rfl⟩, .inl ⟨_, hst.out, hJ1⟩⟩
        · obtain ⟨s1, s2, s3, s4⟩ := soG_tell hso tr h1 h2
          obtain ⟨fn, tmps, assign, body, hy, hR⟩ := hY pre ⟨(t, v), hQ _ s2⟩ _ hJ1 (by simpa using s3)
          dsimp only at hy
          replace s1 := Lib.hid s1
          replace s4 := Lib.hid s4
          clear hso tr hp hr ha hb h0 hJs s3
          gi_wp2
          refine hR.mono ?_
          rintro e W3 (⟨rfl, hJ3, hk3⟩ | ⟨rfl, hJx3⟩)
          · have hkp := hK hk3
            gi_wp2
            go_roundw
            case rel => exact ⟨k + 1, _, by omega, by simp, hJ3, by rw [List.map_append]; exact s1.out, hkp.pts e1, hkp.raw e2, hkp.lo e3, hkp.hi e4⟩
            case measure => simp [intOf]; omega
          · gi_wp2
            try simp only [Exit.noGoto]
            refine bodyPost_end (results_none rfl _ _ _) rfl ?_
            exact ⟨⟨_, rfl⟩, .inr ⟨_, by rw [List.map_append]; exact s4.out, hJx3⟩⟩
    · obtain rfl : k = r.pts.length := by omega
      have hend := Lib.hid (soG_end hso)
      clear hso
      gi_wp2
      try simp only [Exit.noGoto]
      refine bodyPost_end (results_none rfl _ _ _) rfl ?_
      exact ⟨⟨_, rfl⟩, .inl ⟨_, hend.out, hJs⟩⟩
end Go.Proofs.YtdeghcgakkhbmaaGreat
namespace Go.Proofs.YtdeghcgakkhbmaaGreat
open Go.RowKit Go.Shelf
attribute [local go_sem] Oper.semAt_some
set_option maxRecDepth 100000 in
set_option maxHeartbeats 2000000 in
theorem some_w (r : RawT) (p : Option Addr) (cap : Nat) (a b : Int) (w : World) : Calls Tryz.prog 68 #[.agg #[.string r.name, .int .i64 r.eps, .int .i64 r.floor, .int .i64 r.last, .int .i64 r.scale, .slice p r.pts.length cap], .int .i64 a, .int .i64 b] w fun e w' => e = .returned (.func (.func 116) #[] #[.pointer (some ⟨w.heap.size, 0, none⟩), .pointer (some ⟨w.heap.size + 1, 0, none⟩), .pointer (some ⟨w.heap.size + 1 + 1, 0, none⟩)]) ∧ w' = ((w.alloc (.cells #[.string r.name, .int .i64 r.eps, .int .i64 r.floor, .int .i64 r.last, .int .i64 r.scale, .slice p r.pts.length cap] 35)).alloc (.cells #[.int .i64 a] 2)).alloc (.cells #[.int .i64 b] 2) := by
  have hmf : ∀ (fn : Fn) (first cap : Array Value) (w : World), (Instr.makeFunc fn first cap).run Tryz.prog w = .ok (.func fn first cap) w := fun _ _ _ _ => rfl
  go_enter Tryz.func68, Tryz.ntmps68
  go_wp2
  go_ret
  exact ⟨rfl, rfl⟩
theorem PtsIn.keep {w A B : World} {p : Option Addr} {l : List (Int × Int)} (h : PtsIn w p l) (hb : Below w.heap.size A B) (ha : PtsIn A p l) : PtsIn B p l := ⟨fun i r hr => by
  obtain ⟨b, o, e, k0, k1⟩ := ha.at' i r hr
  obtain ⟨b', o', e', q0, _⟩ := h.at' i r hr
  rw [e] at e'
  injection e' with e'
  injection e' with e1 e2
  subst e1
  have hlt := cell_lt q0
  exact ⟨b, o, e, (hb.cell (p := ⟨b, _, none⟩) hlt).trans k0, (hb.cell (p := ⟨b, _, none⟩) hlt).trans k1⟩⟩
theorem others_rex {A B : World} {g : Nat} {cs : Array Value} {t : TypeId} (h : Rex [g] A B) (hg : Blk A g cs t) : KeepsOthers A B := ⟨h.size, fun k o hk ho => by
  have hne : k ≠ g := fun e => by
    subst e
    rw [show A.heap[k]? = _ from hg] at hk
    cases hk
    cases ho
  exact (h.block k (lt_of_heap hk) (by simpa using hne)).trans hk⟩
theorem kf_rex {A B : World} {g B0 n₀ : Nat} (h : Rex [g] A B) (hB : B0 ≤ A.heap.size) (h1 : B0 ≤ g) (h2 : g < n₀) : KF B0 n₀ A B :=
  ⟨h.of_priv hB (fun x hx => by simp at hx; omega), fun b cs t f hb ha => (h.block b (lt_of_heap ha) (by simp; omega)).trans ha⟩
theorem blk_rex {A B : World} {g b : Nat} {cs : Array Value} {t : TypeId} (h : Rex [g] A B) (hne : b ≠ g) (hb : Blk A b cs t) : Blk B b cs t := (h.block b hb.lt (by simpa using hne)).trans hb
theorem fold_many : ∀ (l : List Int) (x : Int × (Int × Int) × Int), (l.foldl gS x).1 = x.1 + l.length ∧ (l.foldl gS x).2.2 = x.2.2 + lsum l
  | [], x => by simp [lsum]
  | v :: l, x => by
    obtain ⟨h1, h2⟩ := fold_many l (gS x v)
    refine ⟨by rw [List.foldl_cons, h1]; simp [gS]; omega, by rw [List.foldl_cons, h2]; simp [gS, lsum]; omega⟩
theorem tellG_mem {a b : Int} {l : List (Int × Int)} {x : Int × Int} (h : x ∈ tellG a b l) : x ∈ l := (List.takeWhile_prefix _).sublist.subset ((List.mem_filter.1 h).1)
theorem tellG_length (a b : Int) (l : List (Int × Int)) : (tellG a b l).length ≤ l.length := Nat.le_trans (List.length_filter_le _ _) (List.takeWhile_prefix _).length_le
/-- What the points of a row come to. -/
def toldsL (l : List (Int × Int)) : Int × (Int × Int) × Int := (l.map (·.2)).foldl gS (0, (0, 0), 0)
theorem tolds_snoc (l : List (Int × Int)) (x : Int × Int) : toldsL (l ++ [x]) = gS (toldsL l) x.2 := by simp [toldsL]
theorem tolds_is {l : List (Int × Int)} (hl : l.length ≤ 2000) (hv : ∀ x, x ∈ l → ptB x = true) : (toldsL l).1 = l.length ∧ -4611686018427387904000 ≤ (toldsL l).2.2 ∧ (toldsL l).2.2 ≤ 4611686018427387904000 := by
  obtain ⟨h1, h2⟩ := fold_many (l.map (·.2)) (0, (0, 0), 0)
  have hb := lsum_bd (l := l.map (·.2)) (B := 2305843009213693952) (fun v hv' => by
    obtain ⟨x, hx, rfl⟩ := List.mem_map.1 hv'
    have := hv x hx
    simp only [ptB, btw, Bool.and_eq_true, decide_eq_true_eq] at this
    omega)
  simp only [List.length_map] at h1 hb
  have e : (toldsL l).2.2 = lsum (l.map (·.2)) := by unfold toldsL; rw [h2]; simp
  refine ⟨by unfold toldsL; rw [h1]; simp, by rw [e]; omega, by rw [e]; omega⟩
def ToldOut (r : RawT) (a b : Int) (w : World) (e : Ending) (w' : World) : Prop := e = .returned (.agg (exA (toldsL (tellG a b r.pts)))) ∧ Below w.heap.size w w'
set_option maxRecDepth 100000 in
set_option maxHeartbeats 8000000 in
theorem told_w (r : RawT) (p : Option Addr) (cap : Nat) (a b : Int) (w : World) (hp : PtsIn w p r.pts) (hl : r.pts.length ≤ 2000) (hv : ∀ x, x ∈ r.pts → ptB x = true) :
    CallsIn Fence.wide 4 Tryz.prog 42 #[.agg #[.string r.name, .int .i64 r.eps, .int .i64 r.floor, .int .i64 r.last, .int .i64 r.scale, .slice p r.pts.length cap], .int .i64 a, .int .i64 b] w (ToldOut r a b w) := by
  have hmf : ∀ (fn : Fn) (first cap : Array Value) (w : World), (Instr.makeFunc fn first cap).run Tryz.prog w = .ok (.func fn first cap) w := fun _ _ _ _ => rfl
  refine callsIn_of_wp_marks Tryz.func42 rfl trivial ?_ rfl
  simp only [Tryz.ntmps42, List.size_toArray, List.length_cons, List.length_nil, Nat.reduceAdd, Nat.reduceSub, Array.replicate_succ, Array.replicate_zero, List.push_toArray, List.append_toArray, List.nil_append, List.cons_append]
  gi_wp2_with (refine ⟨trivial, ?_⟩; gi_at_call 68; refine (callsIn_wide.2 (some_w r p cap a b _)).mono ?_; rintro e w' ⟨rfl, rfl⟩)
  obtain ⟨W0, hWe⟩ : ∃ W0, W0 = (((((((w.alloc (.cells #[.string r.name, .int .i64 r.eps, .int .i64 r.floor, .int .i64 r.last, .int .i64 r.scale, .slice p r.pts.length cap] 35)).alloc (.cells #[.int .i64 0, .int .i64 0, .int .i64 0, .int .i64 0, .int .u64 0] 91)).alloc (.cells #[.int .i64 0, .int .i64 0, .int .i64 0, .int .i64 0, .int .u64 0] 91)).alloc (.cells #[.func (.func 86) #[] #[.pointer (some ⟨w.heap.size + 1 + 1, 0, none⟩)]] 149)).alloc (.cells #[.string r.name, .int .i64 r.eps, .int .i64 r.floor, .int .i64 r.last, .int .i64 r.scale, .slice p r.pts.length cap] 35)).alloc (.cells #[.int .i64 a] 2)).alloc (.cells #[.int .i64 b] 2)) := ⟨_, rfl⟩
  rw [← hWe]
  have HW1 : Below w.heap.size w W0 := by rw [hWe]; exact belowAny
  have hsW : W0.heap.size = w.heap.size + 1 + 1 + 1 + 1 + 1 + 1 + 1 := by rw [hWe]; simp
  have b6 : Blk W0 (w.heap.size + 1) #[.int .i64 0, .int .i64 0, .int .i64 0, .int .i64 0, .int .u64 0] 91 := by rw [hWe]; exact blkAny2
  have b7 : Blk W0 (w.heap.size + 1 + 1) #[.int .i64 0, .int .i64 0, .int .i64 0, .int .i64 0, .int .u64 0] 91 := by rw [hWe]; exact blkAny2
  have b8 : Blk W0 (w.heap.size + 1 + 1 + 1) #[.func (.func 86) #[] #[.pointer (some ⟨w.heap.size + 1 + 1, 0, none⟩)]] 149 := by rw [hWe]; exact blkAny2
  have s1 : Blk W0 (w.heap.size + 1 + 1 + 1 + 1) #[.string r.name, .int .i64 r.eps, .int .i64 r.floor, .int .i64 r.last, .int .i64 r.scale, .slice p r.pts.length cap] 35 := by rw [hWe]; exact blkAny2
  have s2 : Blk W0 (w.heap.size + 1 + 1 + 1 + 1 + 1) #[.int .i64 a] 2 := by rw [hWe]; exact blkAny2
  have s3 : Blk W0 (w.heap.size + 1 + 1 + 1 + 1 + 1 + 1) #[.int .i64 b] 2 := by rw [hWe]; exact blkAny2
  clear hWe
  have hlt := tellG_length a b r.pts
  have hQ : ∀ x, x ∈ tellG a b r.pts → ptB x = true := fun x hx => hv x (tellG_mem hx)
  refine wpIn_rangeFunc_ownH rfl (by omega) (gf := 116) (lb := #[.pointer (some ⟨w.heap.size + 1 + 1 + 1 + 1, 0, none⟩), .pointer (some ⟨w.heap.size + 1 + 1 + 1 + 1 + 1, 0, none⟩), .pointer (some ⟨w.heap.size + 1 + 1 + 1 + 1 + 1 + 1, 0, none⟩)]) rfl trivial (enters_of Tryz.func116 (by kernel_rfl) rfl)
    (encs := fun x : {x : Int × Int // ptB x = true} => #[Value.agg #[.int .i64 x.1.1, .int .i64 x.1.2]]) (Kp := KF w.heap.size (w.heap.size + 1 + 1 + 1 + 1)) (S := fun ys => ys.map (·.1) = tellG a b r.pts) (Sp := fun pre => pre.map (·.1) <+: tellG a b r.pts) (N := (tellG a b r.pts).length) (w0 := W0)
    (fun lr J Jx W hWW hJ _ hY h0 => some1_in 3 (by omega) lr (w.heap.size + 1 + 1 + 1 + 1) (w.heap.size + 1 + 1 + 1 + 1 + 1) (w.heap.size + 1 + 1 + 1 + 1 + 1 + 1) r p cap a b (fun x => ptB x = true) hQ hl (KF w.heap.size (w.heap.size + 1 + 1 + 1 + 1)) (fun hk => ⟨hk.below.size, fun ha => hp.keep hk.below ha, fun ha => hk.rest _ _ _ _ (by omega) ha, fun ha => hk.rest _ _ _ _ (by omega) ha, fun ha => hk.rest _ _ _ _ (by omega) ha⟩) J Jx _ hJ hY W (s1.below hWW) (s2.below hWW) (s3.below hWW) ((hp.below HW1).below hWW) h0)
    (fun h k => h.trans k) (KF.putObj (by omega)) (Below.refl _ _) (fun _ => rfl)
    (fun pre W => ((Blk W (w.heap.size + 1) #[.int .i64 0, .int .i64 0, .int .i64 0, .int .i64 0, .int .u64 0] 91 ∧ Blk W (w.heap.size + 1 + 1) (exA (toldsL (pre.map (·.1)))) 91) ∧ Blk W (w.heap.size + 1 + 1 + 1) #[.func (.func 86) #[] #[.pointer (some ⟨w.heap.size + 1 + 1, 0, none⟩)]] 149) ∧ Below w.heap.size w W)
    (fun c pre W => False)
    (OwnFrom.and (OwnFrom.and (OwnFrom.and (Own.from (blk_own _ _ _) _) (Own.from (blk_own _ _ _) _)) (Own.from (blk_own _ _ _) _)) (ownFrom_below (Nat.le_refl _) (by omega)))
    (fun c => ownFrom_pure _ _)
    ⟨⟨⟨b6, b7⟩, b8⟩, HW1⟩
    (fun x a' W => ∃ Bx, w.heap.size + 1 + 1 + 1 < Bx ∧ Blk W Bx #[.int .i64 x.1.1, .int .i64 x.1.2] 58 ∧ a' = { tmps := #[.agg #[.string r.name, .int .i64 r.eps, .int .i64 r.floor, .int .i64 r.last, .int .i64 r.scale, .slice p r.pts.length cap], .int .i64 a, .int .i64 b, .pointer (some ⟨w.heap.size, 0, none⟩), undef, undef, .pointer (some ⟨w.heap.size + 1, 0, none⟩), .pointer (some ⟨w.heap.size + 1 + 1, 0, none⟩), .pointer (some ⟨w.heap.size + 1 + 1 + 1, 0, none⟩), .pointer (some ⟨Bx, 0, none⟩), .func (.func 86) #[] #[.pointer (some ⟨w.heap.size + 1 + 1, 0, none⟩)], .agg #[.string r.name, .int .i64 r.eps, .int .i64 r.floor, .int .i64 r.last, .int .i64 r.scale, .slice p r.pts.length cap], .int .i64 a, .int .i64 b, .func (.func 116) #[] #[.pointer (some ⟨w.heap.size + 1 + 1 + 1 + 1, 0, none⟩), .pointer (some ⟨w.heap.size + 1 + 1 + 1 + 1 + 1, 0, none⟩), .pointer (some ⟨w.heap.size + 1 + 1 + 1 + 1 + 1 + 1, 0, none⟩)], .agg #[.int .i64 x.1.1, .int .i64 x.1.2], undef, undef, undef, undef], defers := [] })
    (fun x a' _ X Y row hs hg hr => by obtain ⟨Bx, h1, h2, h3⟩ := hs; exact ⟨Bx, h1, blk_own Bx 58 (fun (_ : Unit) => #[Value.int .i64 x.1.1, Value.int .i64 x.1.2]) () X Y row h2 hg (fun r e => (hr r e).2), h3⟩) ?assign ?body ?done ?stop
  case assign =>
    rintro l pre x W K ⟨⟨⟨i1, i2⟩, i3⟩, i6⟩ hK
    have hlt4 := i3.lt
    gi_wp2
    exact hK _ _ ((KeepsOthers.alloc _ _).from _) ((KF.refl _ _ _).alloc i6.size _) ⟨⟨⟨i1.alloc _, i2.alloc _⟩, i3.alloc _⟩, i6.alloc i6.size _⟩ ⟨W.heap.size, hlt4, Blk.new' rfl, rfl⟩
  case body =>
    rintro l pre ⟨⟨t, v⟩, hx⟩ a' W hl' ⟨r', hr⟩ ⟨⟨⟨i1, i2⟩, i3⟩, i6⟩ ⟨Bx, hBx, bX, rfl⟩ hlt3
    have hpl : (pre.map (·.1)).length ≤ 2000 := by simp; omega
    obtain ⟨m1, m2, m3⟩ := tolds_is hpl (fun x hx => by obtain ⟨y, _, rfl⟩ := List.mem_map.1 hx; exact y.2)
    have hsn := Lib.hid (show toldsL ((pre ++ [(⟨(t, v), hx⟩ : {x : Int × Int // ptB x = true})]).map (fun x => x.1)) = gS (toldsL (pre.map (·.1))) v by rw [List.map_append]; exact tolds_snoc _ _)
    have hx' := hx
    simp only [ptB, btw, Bool.and_eq_true, decide_eq_true_eq] at hx'
    have cg := Lib.hid (c_mdGrow (w.heap.size + 1 + 1) t v (toldsL (pre.map (·.1))) W i2 (by omega) (by omega) (by unfold I64; omega) (by unfold W128; omega) (by unfold W128; omega))
    have k3 := i3.cell
    have kx := bX.cell
    have y3 := i3.lt
    have yx := bX.lt
    have hz6 := i6.size
    clear m1 m2 m3 hx' hpl
    gi_wp2_with (refine ⟨trivial, ?_⟩; gi_at_call 86; refine (CallsIn.inRound l (callsIn_wide.2 cg.out)).mono ?_; rintro e w2 ⟨rfl, hR2, hB2⟩)
    have e1 := blk_rex hR2 (by omega) i1
    have e3 := blk_rex hR2 (by omega) i3
    have e6 := i6.trans (hR2.of_priv i6.size (fun x hx => by simp at hx; omega))
    exact ⟨(others_rex hR2 i2).from _, kf_rex hR2 (by omega) (by omega) (by omega), ⟨⟨⟨e1, by rw [hsn.out]; exact hB2⟩, e3⟩, e6⟩⟩
  case done =>
    rintro D ys W hD hys ⟨⟨⟨i1, i2⟩, i3⟩, i6⟩ hK
    rw [hys] at i2
    obtain ⟨X, hX⟩ : ∃ X, toldsL (tellG a b r.pts) = X := ⟨_, rfl⟩
    rw [hX] at i2
    replace hX := Lib.hid hX
    have i2' := i2
    unfold exA at i2'
    have k1 := i1.cell
    have f1 := i1.frozen
    have k2 := i2'.cell
    have y1 := i1.lt
    have y2 := i2.lt
    have hz6 := i6.size
    clear i3
    gi_wp2
    obtain ⟨W2, hWe⟩ : ∃ W2, W2 = (((((W.setCell ⟨w.heap.size + 1, 0, none⟩ (.int .i64 X.1)).setCell ⟨w.heap.size + 1, 1, none⟩ (.int .i64 X.2.1.1)).setCell ⟨w.heap.size + 1, 2, none⟩ (.int .i64 X.2.1.2)).setCell ⟨w.heap.size + 1, 3, none⟩ (.int .i64 (hiW X.2.2))).setCell ⟨w.heap.size + 1, 4, none⟩ (.int .u64 (loW X.2.2))) := ⟨_, rfl⟩
    have j1 : Blk W2 (w.heap.size + 1) (exA X) 91 := by rw [hWe]; exact blkAny2
    have hB2 : Below w.heap.size w W2 := by rw [hWe]; exact belowAny
    have hK' : W2.heap[D]? = some (.deferred (some [])) := by rw [hWe]; exact (keepsAny : KeepsOthers W _).same D _ hK rfl
    rw [← hWe]
    refine ⟨by simp, .inl ⟨_, _, rfl, run_takeDeferred hK', ?_⟩⟩
    have jD := blk_own (w.heap.size + 1) 91 (fun (_ : Unit) => exA X) () W2 _ (some D) j1 (grownBy_putObj' W2 D (.deferred none)) (fun r e => by cases e; exact ⟨_, hK', rfl⟩)
    unfold exA at jD
    have kD := jD.cell
    refine ⟨.agg (exA X), ?_, by rw [← hX.out], hB2.trans (belowK_b (w := w) (Nat.le_refl _) _ D _ _ (by omega) hK' rfl rfl)⟩
    unfold exA
    simp [results, Tryz.f42, go_sem, kD]
  case stop =>
    rintro D c pre W hD hpre hF hK
    exact hF.elim
theorem c_mdTold (r : RawT) (p : Option Addr) (cap : Nat) (a b : Int) (w : World) (hp : PtsIn w p r.pts) (hl : r.pts.length ≤ 2000) (hv : ∀ x, x ∈ r.pts → ptB x = true) :
    Calls Tryz.prog 42 #[.agg (rawA r p cap), .int .i64 a, .int .i64 b] w fun e w' => e = .returned (.agg (exA (toldsL (tellG a b r.pts)))) ∧ Below w.heap.size w w' := callsIn_wide.1 (told_w r p cap a b w hp hl hv)
end Go.Proofs.YtdeghcgakkhbmaaGreat
namespace Go.Proofs.YtdeghcgakkhbmaaGreat
open Go.RowKit
set_option maxRecDepth 100000 in
set_option maxHeartbeats 2000000 in
theorem c_spWidth (x y : Int) (w : World) (h : x ≤ y) (hx : I64 x) (hy : I64 y) : Calls Tryz.prog 95 #[.agg #[.int .i64 x, .int .i64 y]] w fun e w' => e = .returned (.int .u64 (y - x)) ∧ Below w.heap.size w w' := by
  have c1 := Lib.hid (fun W => c_spCheck x y W)
  unfold spE at c1
  rw [if_pos h] at c1
  have E := Lib.hid (show IntKind.u64.wrap (IntKind.u64.wrap y - IntKind.u64.wrap x) = y - x by unfold I64 at hx hy; simp only [u64_eq]; omega)
  go_enter Tryz.func95, Tryz.ntmps95
  go_wp2_with fail
  refine (c1.out _).mono ?_
  rintro e w1 ⟨rfl, hb1⟩
  have b1 : Blk w1 w.heap.size #[.int .i64 x, .int .i64 y] 38 := by exact blkAny
  have hW : Below w.heap.size w w1 := by exact belowAny
  have k1 := b1.cell
  have f1 := b1.frozen
  have z1 := b1.lt
  go_wp2
  refine bodyPost_ret (v := .int .u64 (IntKind.u64.wrap (IntKind.u64.wrap y - IntKind.u64.wrap x))) (by simp [results, Tryz.results95, go_sem]) rfl ⟨by rw [E.out], by exact belowAny⟩
end Go.Proofs.YtdeghcgakkhbmaaGreat
namespace Go.Proofs.YtdeghcgakkhbmaaGreat
open Go.RowKit
/-- How wide a span is; 0: it is none. -/
def spW (x y : Int) : Int := if x ≤ y then y - x else 0
def liesB (x y v wd : Int) : Bool := (decide (x ≤ v) && decide (v ≤ y)) && decide (spW x y ≤ wd)
set_option maxRecDepth 100000 in
set_option maxHeartbeats 2000000 in
theorem c_spHasG (x y v : Int) (w : World) : Calls Tryz.prog 94 #[.agg #[.int .i64 x, .int .i64 y], .int .i64 v] w fun e w' => e = .returned (.bool (decide (x ≤ v) && decide (v ≤ y))) ∧ Below w.heap.size w w' := by
  go_enter Tryz.func94, Tryz.ntmps94
  go_upto_region 1 with (fail)
  refine wp_cutB w (Bc w.heap.size #[.int .i64 x, .int .i64 y] 38 <| Bz) ?_
  rintro W1 hW z2 hL
  refine wp_regS 11 15 hW hL ?_
  iterate 5 refine dA ?_
  iterate 4 refine gA ?_
  refine pA ?_
  refine dA ?_
  clear hW hL
  rintro W3 hW z4 hL
  simp only [ndR]
  intros
  repeat (rename GDet _ _ _ _ => hgd; clear hgd)
  simp only [ndS]
  refine wpList_nil ?_
  obtain ⟨⟨b1, yb1, k1, f1⟩, -⟩ := hL
  go_wp2
  refine bodyPost_ret (by simp [results, Tryz.results94, go_sem, k1, f1, yb1]) rfl ⟨rfl, by exact belowAny⟩
set_option maxRecDepth 100000 in
set_option maxHeartbeats 2000000 in
theorem c_spWidthG (x y : Int) (w : World) (hx : I64 x) (hy : I64 y) : Calls Tryz.prog 95 #[.agg #[.int .i64 x, .int .i64 y]] w fun e w' => e = .returned (.int .u64 (spW x y)) ∧ Below w.heap.size w w' := by
  by_cases h : x ≤ y
  · unfold spW
    rw [if_pos h]
    exact c_spWidth x y w h hx hy
  · unfold spW
    rw [if_neg h]
    have c1 := Lib.hid (fun W => c_spCheck x y W)
    unfold spE at c1
    rw [if_neg h] at c1
    clear h
    go_enter Tryz.func95, Tryz.ntmps95
    go_wp2_with fail
    refine (c1.out _).mono ?_
    rintro e w1 ⟨rfl, hb1⟩
    go_wp2
    go_ret
    exact ⟨rfl, belowAny⟩
set_option maxRecDepth 100000 in
set_option maxHeartbeats 2000000 in
theorem c_mdLies (x y v wd : Int) (w : World) (hx : I64 x) (hy : I64 y) : Calls Tryz.prog 45 #[.agg #[.int .i64 x, .int .i64 y], .int .i64 v, .int .u64 wd] w fun e w' => e = .returned (.bool (liesB x y v wd)) ∧ Below w.heap.size w w' := by
  unfold liesB
  have ch := Lib.hid (fun W => c_spHasG x y v W)
  have cw := Lib.hid (fun W => c_spWidthG x y W hx hy)
  obtain ⟨B, hB⟩ : ∃ B, (decide (x ≤ v) && decide (v ≤ y)) = B := ⟨_, rfl⟩
  obtain ⟨D, hD⟩ : ∃ D, spW x y = D := ⟨_, rfl⟩
  rw [hB] at ch ⊢
  rw [hD] at cw ⊢
  clear hB hD
  go_enter Tryz.func45, Tryz.ntmps45
  go_upto_region 1 with (fail)
  refine wp_cutB w (Bc w.heap.size #[.int .i64 x, .int .i64 y] 38 <| Bz) ?_
  rintro W1 hW z2 hL
  refine wp_regS 10 16 hW hL ?_
  iterate 2 refine dA ?_
  refine cA (fun W' hC => ch.out W') ?_
  refine dA ?_
  refine gA ?_
  refine cG (fun hp hx W' hC => cw.out W') ?_
  iterate 2 refine gA ?_
  refine pA ?_
  refine dA ?_
  clear hW hL
  rintro W3 hW z4 hL
  simp only [ndR]
  intros
  repeat (rename GDet _ _ _ _ => hgd; clear hgd)
  simp only [ndS]
  refine wpList_nil ?_
  obtain ⟨⟨b1, yb1, k1, f1⟩, -⟩ := hL
  go_wp2
  refine bodyPost_ret (by simp [results, Tryz.results45, go_sem, k1, f1, yb1]) rfl ⟨rfl, by exact belowAny⟩
end Go.Proofs.YtdeghcgakkhbmaaGreat
namespace Go.Proofs.YtdeghcgakkhbmaaGreat
open Go.RowKit
set_option maxRecDepth 100000 in
set_option maxHeartbeats 2000000 in
theorem mdOver_w (n r k m1 m2 o1 o2 r1 r2 : Int) (w : World)
    (c1 : ∀ W, Calls Tryz.prog 89 #[.int .i64 n, .int .i64 k] W fun e w' => e = .returned (.agg #[.int .i64 m1, .int .u64 m2]) ∧ Below W.heap.size W w')
    (c2 : ∀ W, Calls Tryz.prog 88 #[.int .i64 r] W fun e w' => e = .returned (.agg #[.int .i64 o1, .int .u64 o2]) ∧ Below W.heap.size W w')
    (c3 : ∀ W, Calls Tryz.prog 87 #[.agg #[.int .i64 m1, .int .u64 m2], .agg #[.int .i64 o1, .int .u64 o2]] W fun e w' => e = .returned (.tuple #[.agg #[.int .i64 r1, .int .u64 r2], .int .i64 0]) ∧ Below W.heap.size W w') :
    Calls Tryz.prog 92 #[.agg #[.int .i64 n, .int .i64 r], .int .i64 k] w fun e w' => e = .returned (.tuple #[.agg #[.int .i64 r1, .int .u64 r2], .bool (decide (0 ≤ r) && decide (r < k))]) ∧ Below w.heap.size w w' := by
  obtain ⟨F, hF⟩ : ∃ F, (decide (0 ≤ r) && decide (r < k)) = F := ⟨_, rfl⟩
  rw [hF]
  replace hF := Lib.hid hF
  have H_c1 := Lib.hid c1
  clear c1
  have H_c2 := Lib.hid c2
  clear c2
  have H_c3 := Lib.hid c3
  clear c3
  go_enter Tryz.func92, Tryz.ntmps92
  go_upto_region 1 with (fail)
  refine wp_cutB w (Bc w.heap.size #[.int .i64 n, .int .i64 r] 40 <| Bc (w.heap.size + 1) #[.int .i64 0, .int .u64 0] 89 <| Bz) ?_
  rintro W1 hW z2 ⟨⟨b1, yb1, k1, f1⟩, ⟨b2, yb2, k2, f2⟩, -⟩
  go_upto_region 1 with (fail)
  clear k1 f1 k2 f2
  refine wp_cutB w (Bc w.heap.size #[.int .i64 n, .int .i64 r] 40 <| Bc (w.heap.size + 1) #[.int .i64 0, .int .u64 0] 89 <| Bz) ?_
  clear b1 b2 hW
  rintro W3 hW z4 hL
  obtain ⟨⟨b1, yb1, k1, f1⟩, ⟨b2, yb2, k2, f2⟩, -⟩ := id hL
  clear k1 f1 k2 f2
  refine wp_regD 12 33 hW hL ?_
  iterate 3 refine dA ?_
  refine cA (fun W' hC => H_c1.out W') ?_
  iterate 2 refine dA ?_
  refine cA (fun W' hC => H_c2.out W') ?_
  refine cA (fun W' hC => H_c3.out W') ?_
  iterate 3 refine dA ?_
  apply nd_alloc W3.heap.size #[.int .i64 0, .int .u64 0] 89 rfl rfl
  · exact fun W' hC => hC.1.size
  · simp [others] <;> omega
  · intro w; kernel_rfl
  clear hW hL b1 b2
  rintro W5 hW z6 hL
  simp only [ndR]
  intros
  simp only [ndS]
  obtain ⟨⟨b1, yb1, k1, f1⟩, ⟨b2, yb2, k2, f2⟩, -⟩ := hL
  obtain ⟨v, rfl, hg_v, b3⟩ := ‹NewVar _ _ _ _ _›
  have yb3 := b3.lt
  have k3 := b3.cell
  have f3 := b3.frozen
  go_upto_region 2 with (fail)
  clear k1 f1 k2 f2 k3 f3
  refine wp_cutB w (Bc w.heap.size #[.int .i64 n, .int .i64 r] 40 <| Bc (w.heap.size + 1) #[.int .i64 0, .int .u64 0] 89 <| Bc v #[.int .i64 r1, .int .u64 r2] 89 <| Bz) ?_
  clear b1 b2 b3 hW
  rintro W7 hW z8 ⟨⟨b1, yb1, k1, f1⟩, ⟨b2, yb2, k2, f2⟩, ⟨b3, yb3, k3, f3⟩, -⟩
  by_cases h2 : 0 ≤ r
  · by_cases h3 : r < k
    · obtain rfl : F = true := by rw [← hF.out, decide_eq_true h2, decide_eq_true h3]; rfl
      clear hF
      go_region
      simp only [Exit.then]
      go_wp2
      refine bodyPost_ret (by simp [results, Tryz.results92, go_sem, k1, f1, k2, f2, k3, f3, yb1, yb2, yb3]) rfl ⟨rfl, by exact Below.drew belowAny⟩
    · obtain rfl : F = false := by rw [← hF.out, decide_eq_true h2, decide_eq_false h3]; rfl
      clear hF
      go_region
      simp only [Exit.then]
      go_wp2
      refine bodyPost_ret (by simp [results, Tryz.results92, go_sem, k1, f1, k2, f2, k3, f3, yb1, yb2, yb3]) rfl ⟨rfl, by exact Below.drew belowAny⟩
  · obtain rfl : F = false := by rw [← hF.out, decide_eq_false h2]; rfl
    clear hF
    go_region
    simp only [Exit.then]
    go_wp2
    refine bodyPost_ret (by simp [results, Tryz.results92, go_sem, k1, f1, k2, f2, k3, f3, yb1, yb2, yb3]) rfl ⟨rfl, by exact Below.drew belowAny⟩
theorem mdMul_bd {n k : Int} (hn : I64 n) (h0 : 0 ≤ k) (h1 : k ≤ 1000000) : -9223372036854775808000000 ≤ n * k ∧ n * k ≤ 9223372036854775808000000 := by
  have a := Int.mul_le_mul_of_nonneg_right hn.1 h0
  have b := Int.mul_le_mul_of_nonneg_right hn.2 h0
  omega
theorem c_mdOver (n r k : Int) (w : World) (hn : I64 n) (hr : I64 r) (h0 : 0 ≤ k) (h1 : k ≤ 1000000) :
    Calls Tryz.prog 92 #[.agg #[.int .i64 n, .int .i64 r], .int .i64 k] w fun e w' => e = .returned (.tuple #[wideV (n * k + r), .bool (decide (0 ≤ r) && decide (r < k))]) ∧ Below w.heap.size w w' := by
  have hb := mdMul_bd hn h0 h1
  have hW : W128 (n * k + r) := by unfold W128; unfold I64 at hr; omega
  have c1 := fun W => c_Mul n k W hn (by unfold I64; omega)
  have c2 := fun W => c_Of r W hr
  have c3 := fun W => c_Add (n * k) r W (by unfold W128; omega) (by unfold W128; unfold I64 at hr; omega)
  rw [inW_in hW, wrapW_in hW] at c3
  exact mdOver_w n r k _ _ _ _ _ _ w c1 c2 c3
end Go.Proofs.YtdeghcgakkhbmaaGreat
