/- Parts of the proof that follows: The laws of chapter 26: own. No condition. | The laws of chapter 14: a segment, and some of a row of segments, in memory of their own. No condition but that they can be read. | A row that grows by append: it stays in its block, or goes into a new one. No condition but the bounds of the append law. -/
import Derived.Test.YtbanjolokkghdaaGreatDoorWz27
set_option linter.unusedSimpArgs false
set_option linter.unusedVariables false
namespace Go.Proofs.YtbanjolokkghdaaGreatDoor
open Go.RowKit
/-- A row in a block of its own. -/
def RowS (B : Nat) (e : TypeId) (n k : Nat) (news : List Value) : Spec := fun v w => ∃ g cap cur, v = .slice (some ⟨g, 0, none⟩) n cap ∧ B ≤ g ∧ Blk w g cur e ∧ n ≤ cap ∧ cur.toList.take k = news
theorem RowS.closed (B : Nat) (e : TypeId) (n k : Nat) (news : List Value) : Closed [] (RowS B e n k news) := fun _ _ _ hr ⟨g, c, cur, e1, h1, h, h2, h3⟩ => ⟨g, c, cur, e1, h1, h.rex hr (by simp), h2, h3⟩
/-- Points in a block of their own, or nil. -/
def PtS (B N : Nat) (l : List (Int × Int)) : Spec := fun v w => (v = .slice none 0 0 ∧ l = [] ∧ N = 0) ∨ RowS B 56 N (N * 2) (flatPts l) v w
theorem PtS.closed (B N : Nat) (l : List (Int × Int)) : Closed [] (PtS B N l) := fun _ _ _ hr h => by
  rcases h with h | h
  · exact .inl h
  · exact .inr (RowS.closed _ _ _ _ _ _ _ _ hr h)
def ownK (s : SegT) : SegT := ⟨s.K, s.runs.take 257, s.A, s.R, s.n, s.d, s.raw.take 257, s.E⟩
/-- A segment of one's own. -/
structure OwnSegK (W : World) (g : Nat) (r0 r : SegR) : Prop where
  says : r.s = ownK r0.s
  runs : RunsIn W r.p r.s.runs
  raw : IntsIn W r.q r.s.raw
  capV : r.s.raw.length ≤ r.vc
  farR : ∀ a, r.p = some a → g < a.block
  farV : ∀ a, r.q = some a → g < a.block
theorem OwnSegK.rex {W W' : World} {g : Nat} {r0 r : SegR} {L : List Nat} (h : OwnSegK W g r0 r) (hL : ∀ x, x ∈ L → x ≤ g) (hr : Rex L W W') : OwnSegK W' g r0 r := ⟨h.says, h.runs.rex1 hL h.farR hr, h.raw.rex1 hL h.farV hr, h.capV, h.farR, h.farV⟩
structure OwnToK (W : World) (g : Nat) (rows R : List SegR) (i : Nat) : Prop where
  len : R.length = rows.length
  rest : ∀ k, i ≤ k → R[k]? = rows[k]?
  own : ∀ k, k < i → ∀ r, R[k]? = some r → ∃ r0, rows[k]? = some r0 ∧ OwnSegK W g r0 r
theorem OwnToK.start (W : World) (g : Nat) (rows : List SegR) : OwnToK W g rows rows 0 := ⟨rfl, fun _ _ => rfl, fun k h => by omega⟩
theorem OwnToK.rex {W W' : World} {g i : Nat} {rows R : List SegR} {L : List Nat} (h : OwnToK W g rows R i) (hL : ∀ x, x ∈ L → x ≤ g) (hr : Rex L W W') : OwnToK W' g rows R i := ⟨h.len, h.rest, fun k hk r hR => by
  obtain ⟨r0, h1, h2⟩ := h.own k hk r hR
  exact ⟨r0, h1, h2.rex hL hr⟩⟩
theorem OwnToK.step {W : World} {g i : Nat} {rows R : List SegR} {r0 r1 : SegR} (h : OwnToK W g rows R i) (h0 : rows[i]? = some r0) (h1 : OwnSegK W g r0 r1) : OwnToK W g rows (R.set i r1) (i + 1) := ⟨by rw [List.length_set]; exact h.len, fun k hk => by rw [List.getElem?_set_ne (by omega)]; exact h.rest k (by omega), fun k hk r hR => by
  rw [List.getElem?_set] at hR
  split at hR
  · rename_i e
    subst e
    split at hR
    · injection hR with hR
      subst hR
      exact ⟨r0, h0, h1⟩
    · cases hR
  · exact h.own k (by omega) r hR⟩
structure PtRow (w : World) (B : Nat) (p : Option Addr) (l : List (Int × Int)) : Prop where
  at' : (p = none ∧ l = []) ∨ ∃ g cur k, p = some ⟨g, 0, none⟩ ∧ B ≤ g ∧ Blk w g cur 56 ∧ cur.toList.take k = flatPts l
theorem PtRow.pts {w : World} {B : Nat} {p : Option Addr} {l : List (Int × Int)} (h : PtRow w B p l) : PtsIn w p l := by
  rcases h.at' with ⟨rfl, rfl⟩ | ⟨g, cur, k, rfl, _, hb, ht⟩
  · exact ⟨fun i r hr => by simp at hr⟩
  · exact pts_in hb ht
theorem PtRow.keep {w w' : World} {B : Nat} {p : Option Addr} {l : List (Int × Int)} (h : PtRow w B p l) (hk : ∀ g cs, B ≤ g → Blk w g cs 56 → Blk w' g cs 56) : PtRow w' B p l := by
  rcases h.at' with h | ⟨g, cur, k, e, hB, hb, ht⟩
  · exact ⟨.inl h⟩
  · exact ⟨.inr ⟨g, cur, k, e, hB, hk g cur hB hb, ht⟩⟩
theorem PtRow.below {w w' : World} {B : Nat} {p : Option Addr} {l : List (Int × Int)} (h : PtRow w B p l) (hb : Below w.heap.size w w') : PtRow w' B p l := h.keep fun _ _ _ h => h.below hb
theorem PtRow.mono {w : World} {B B' : Nat} {p : Option Addr} {l : List (Int × Int)} (h : PtRow w B p l) (hB : B' ≤ B) : PtRow w B' p l := by
  rcases h.at' with h | ⟨g, cur, k, e, h1, hb, ht⟩
  · exact ⟨.inl h⟩
  · exact ⟨.inr ⟨g, cur, k, e, Nat.le_trans hB h1, hb, ht⟩⟩
theorem PtRow.setO {w : World} {B o : Nat} {p : Option Addr} {l : List (Int × Int)} (h : PtRow w B p l) (ho : o < B) (i : Nat) (v : Value) : PtRow (w.setCell ⟨o, i, none⟩ v) B p l := h.keep fun g _ hg h => h.setO (by omega) i v
/-- What holds, whatever is written into blocks below B. -/
def Lasts (B : Nat) (w : World) (F : World → Prop) : Prop := ∀ L W, (∀ x, x ∈ L → x < B) → Rex L w W → F W
theorem Lasts.now {B : Nat} {w : World} {F : World → Prop} (h : Lasts B w F) : F w := h [] w (fun x hx => by cases hx) (Rex.refl _ _)
theorem PtRow.rex {w w' : World} {B gS : Nat} {cs : Array Value} {p : Option Addr} {l : List (Int × Int)} (h : PtRow w B p l) (hS : Blk w gS cs 29) (hr : Rex [gS] w w') : PtRow w' B p l := h.keep fun g c _ hg => hg.rex hr (by
  simp
  rintro rfl
  unfold Blk at hg hS
  rw [hS] at hg
  injection hg with hg
  injection hg with _ h2 _
  revert h2
  decide)
theorem PtS.form {B N : Nat} {l : List (Int × Int)} {v : Value} {w : World} (h : PtS B N l v w) : ∃ p cap, v = .slice p N cap ∧ PtRow w B p l ∧ N ≤ cap := by
  rcases h with ⟨rfl, rfl, rfl⟩ | ⟨g, cap, cur, rfl, hg, hb, hc, ht⟩
  · exact ⟨none, 0, rfl, ⟨.inl ⟨rfl, rfl⟩⟩, Nat.le_refl _⟩
  · exact ⟨_, cap, rfl, ⟨.inr ⟨g, cur, _, rfl, hg, hb, ht⟩⟩, hc⟩
/-- A copy of runs, of numbers, in a block of its own. -/
def RunC (B K : Nat) (l : List RunT) : Spec := fun v w => ∃ p c, v = .slice p K c ∧ RunsIn w p l ∧ K ≤ c ∧ ∀ a, p = some a → B ≤ a.block
theorem RunC.closed (B K : Nat) (l : List RunT) : Closed [] (RunC B K l) := fun _ _ _ hr ⟨p, c, e, h, h2⟩ => ⟨p, c, e, h.rex hr rfl, h2⟩
def IntC (B K : Nat) (l : List Int) : Spec := fun v w => ∃ p c, v = .slice p K c ∧ IntsIn w p l ∧ K ≤ c ∧ ∀ a, p = some a → B ≤ a.block
theorem IntC.closed (B K : Nat) (l : List Int) : Closed [] (IntC B K l) := fun _ _ _ hr ⟨p, c, e, h, h2⟩ => ⟨p, c, e, h.below hr.below, h2⟩
end Go.Proofs.YtbanjolokkghdaaGreatDoor
namespace Go.Proofs.YtbanjolokkghdaaGreatDoor
open Go.RowKit
def RunW (B n : Nat) (l : List RunT) : Spec := fun v w => OwnR w B 94 3 v n (flatCells l)
def IntW (B n : Nat) (l : List Int) : Spec := fun v w => OwnR w B 2 1 v n (l.map (Value.int .i64))
theorem RunW.closed (B n : Nat) (l : List RunT) : Closed [] (RunW B n l) := fun _ _ _ hr h => OwnR.rex h hr rfl
theorem IntW.closed (B n : Nat) (l : List Int) : Closed [] (IntW B n l) := fun _ _ _ hr h => OwnR.rex h hr rfl
theorem OwnR.setO {w : World} {B o j n s : Nat} {e : TypeId} {v u : Value} {xs : List Value} (h : OwnR w B e s v n xs) (ho : o < B) : OwnR (w.setCell ⟨o, j, none⟩ u) B e s v n xs := by
  refine ⟨h.own.1, ?_⟩
  rcases h.own.2 with h0 | ⟨g, cap, cur, rfl, hB, hg, h1, h2, h3, h4⟩
  · exact .inl h0
  · refine .inr ⟨g, cap, cur, rfl, hB, ?_, h1, h2, h3, h4⟩
    exact (Below.heap_setCell _ _ _ _ (by show g ≠ o; omega)).trans hg
theorem arr_new {w : World} {g : Nat} {cs : Array Value} {t : TypeId} (hb : Blk w g cs t) {j : Nat} {u : Value} (hu : cs.toList[j]? = some u) : w.cell? ((⟨g, 0, none⟩ : Addr).add j) = some u := by
  have hadd : (⟨g, 0, none⟩ : Addr).add j = ⟨g, j, none⟩ := by unfold Addr.add; split <;> simp_all
  rw [hadd, hb.cell]
  simpa using hu
/-- A segment whose rows lie in blocks from B on. -/
structure SegRow (w : World) (B : Nat) (x : SegR) : Prop where
  runs : OwnR w B 94 3 (.slice x.p x.s.runs.length x.cap) x.s.runs.length (flatCells x.s.runs)
  raw : OwnR w B 2 1 (.slice x.q x.s.raw.length x.vc) x.s.raw.length (x.s.raw.map (Value.int .i64))
  fewR : x.s.runs.length ≤ 300
  fewV : x.s.raw.length ≤ 300
theorem SegRow.below {w w' : World} {B : Nat} {x : SegR} (h : SegRow w B x) (hb : Below w.heap.size w w') : SegRow w' B x := ⟨h.runs.below hb, h.raw.below hb, h.fewR, h.fewV⟩
structure SegRows (w : World) (B : Nat) (l : List SegR) : Prop where
  at' : ∀ x, x ∈ l → SegRow w B x
theorem SegRows.below {w w' : World} {B : Nat} {l : List SegR} (h : SegRows w B l) (hb : Below w.heap.size w w') : SegRows w' B l := ⟨fun x hx => (h.at' x hx).below hb⟩
theorem flatSegs_snoc (l : List SegR) (x : SegR) : flatSegs (l ++ [x]) = flatSegs l ++ (segRA x).toList := by
  unfold flatSegs
  rw [List.flatMap_append]
  simp
def fewRel (w : World) (p : Option Addr) (cap : Nat) (rows : List SegR) (a' : Act) (W : World) : Prop :=
  Below w.heap.size w W ∧ ∃ (i : Nat) (v : Value) (RL : List SegR), (∃ u : Nat → Value, a' = { tmps := #[.slice p rows.length cap, u 1, .slice none 0 0, v, u 4, u 5, .slice p rows.length cap, .int .i64 (rows.length : Int), .int .i64 (i : Int), u 9, u 10, u 11, u 12, u 13, u 14, u 15, u 16, u 17, u 18, u 19, u 20, u 21], defers := [] }) ∧ OwnR W w.heap.size 29 8 v RL.length (flatSegs RL) ∧ SegRows W w.heap.size RL ∧ RL.map (·.s) = ((rows.take (min i 12)).map fun r => ownK r.s) ∧ i ≤ rows.length
end Go.Proofs.YtbanjolokkghdaaGreatDoor
namespace Go.Proofs.YtbanjolokkghdaaGreatDoor
open Go.RowKit
theorem wpList_append_run {P : Program} {ops : Array Oper} {rest : List Oper} {o : Oper} {a : Act} {Q : Exit → Act → World → Prop} {w : World} (hgd : o.guard = none) (s x : Operand) (t : TypeId)
    (ho : o.op = .call { callee := .builtin .append, args := #[s, x], argTypes := #[t, t] }) (v sv v' : Value) (w' : World) (hs : a.eval s = v) (hx : a.eval x = sv)
    (hr : (Builtin.append_ #[t, t] o.type #[v, sv]).run P w = .ok v' w') (h : wpList P ops Q rest (a.put o.dst v') w') : wpList P ops Q (o :: rest) a w :=
  wpList_plain hgd fun K hK => by
    unfold Oper.wp execOp
    simp only [ho, resolve, invoke, builtin, Sem.run_bind, Sem.run_pure, Result.andThen_ok, List.map_toArray, List.map_cons, List.map_nil, hs, hx, hr]
    exact hK _ _ h
end Go.Proofs.YtbanjolokkghdaaGreatDoor
