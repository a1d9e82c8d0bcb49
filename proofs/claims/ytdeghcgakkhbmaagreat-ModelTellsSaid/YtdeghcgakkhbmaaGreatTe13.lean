/- Parts of the proof that follows: Append to a row of one's own: the row stays in its block or is in a new one. No condition. | Reference 25: Bounds. No condition but that they are few. | The laws of chapter 28: a model in memory of its own. No condition but that it can be read. | References 13, 14, 18, 24: what a name, a bound, a scale, a time, a point may be; a segment's last time; which segment begins behind another. No condition but that the segments may be. | The document's models: which raw series may be. No condition. | The document's models: whether two raw series are the same. No condition. | The document's models: the place of a name; whether two models are the same. No condition. -/
import Derived.Deep.RegionLaw
import Derived.Deep.AppendLies
import Derived.Deep.DrawnRows
import Derived.Test.YtdeghcgakkhbmaaGreatTe12
set_option linter.unusedSimpArgs false
set_option linter.unusedVariables false
namespace Go.Proofs.YtdeghcgakkhbmaaGreat
open Go.RowKit
section
variable {P : Program} {w : World}
end
end Go.Proofs.YtdeghcgakkhbmaaGreat
namespace Go.Proofs.YtdeghcgakkhbmaaGreat
open Go.RowKit
def OneV (B : Nat) (d : Int) : Spec := fun v w => ∃ g, v = .slice (some ⟨g, 0, none⟩) 1 1 ∧ B ≤ g ∧ Blk w g #[.int .i64 d] 2
theorem OneV.closed (B : Nat) (d : Int) : Closed [] (OneV B d) := fun _ _ _ hr ⟨g, e1, h1, h⟩ => ⟨g, e1, h1, h.rex hr (by simp)⟩
def Apart2 (v1 v2 : Value) : Prop := ∀ g, v1.ownBlock = some g → v2.ownBlock = some g → False
theorem Apart2.symm {v1 v2 : Value} (h : Apart2 v1 v2) : Apart2 v2 v1 := fun g a b => h g b a
def loB (x : RunT) : Int := x.s - x.c
def hiB (x : RunT) : Int := x.s + x.c
def boRel (w : World) (p : Option Addr) (cap : Nat) (l : List RunT) (a' : Act) (W : World) : Prop :=
  Below w.heap.size w W ∧ ∃ (i : Nat) (v1 v2 : Value), (∃ u : Nat → Value, a' = { tmps := #[.slice p l.length cap, u 1, .slice none 0 0, .slice none 0 0, v1, v2, .int .i64 (i : Int), u 7, u 8, u 9, u 10, u 11, u 12, u 13, u 14, u 15, u 16, u 17, u 18, u 19, u 20, u 21, u 22, u 23, u 24, u 25, u 26, u 27, u 28, u 29, u 30, u 31, u 32, u 33, u 34, u 35, u 36, u 37, u 38, u 39, u 40, u 41, u 42], defers := [] }) ∧ i ≤ l.length ∧
    OwnR W w.heap.size 2 1 v1 i (((l.take i).map loB).map (Value.int .i64)) ∧ OwnR W w.heap.size 2 1 v2 i (((l.take i).map hiB).map (Value.int .i64)) ∧ Apart2 v1 v2
end Go.Proofs.YtdeghcgakkhbmaaGreat
namespace Go.Proofs.YtdeghcgakkhbmaaGreat
open Go.RowKit
attribute [local go_sem ↓] Go.wp_at_zero Go.wp_at_succ
/-- A raw series in memory: what it says, and where its points are. -/
structure RawR where
  r : RawT
  p : Option Addr
  cap : Nat
def rawRA (x : RawR) : Array Value := rawA x.r x.p x.cap
def flatRaws (l : List RawR) : List Value := l.flatMap fun x => (rawRA x).toList
theorem rawRA_len (x : RawR) : (rawRA x).toList.length = 6 := rfl
theorem flatRaws_len (l : List RawR) : (flatRaws l).length = l.length * 6 := by
  unfold flatRaws
  induction l with
  | nil => rfl
  | cons x l ih => rw [List.flatMap_cons, List.length_append, ih, rawRA_len, List.length_cons]; omega
theorem flatRaws_snoc (l : List RawR) (x : RawR) : flatRaws (l ++ [x]) = flatRaws l ++ (rawRA x).toList := by
  unfold flatRaws
  rw [List.flatMap_append]
  simp
theorem flatRaws_get : ∀ (l : List RawR) (i : Nat) (x : RawR) (k : Nat) (u : Value), l[i]? = some x → (rawRA x)[k]? = some u → (flatRaws l)[i * 6 + k]? = some u
  | [], i, x, k, u, h, _ => by simp at h
  | y :: l, 0, x, k, u, h, hk => by
    have e : y = x := by simpa using h
    subst e
    have hlt : k < 6 := by
      rcases Array.getElem?_eq_some_iff.1 hk with ⟨h1, _⟩
      exact h1
    rw [flatRaws, List.flatMap_cons, Nat.zero_mul, Nat.zero_add, List.getElem?_append_left (by rw [rawRA_len]; exact hlt), Array.getElem?_toList]
    exact hk
  | y :: l, i + 1, x, k, u, h, hk => by
    have h1 := flatRaws_get l i x k u (by simpa using h) hk
    rw [flatRaws, List.flatMap_cons, List.getElem?_append_right (by rw [rawRA_len]; omega), rawRA_len, show (i + 1) * 6 + k - 6 = i * 6 + k by omega]
    exact h1
/-- Raw series in memory: a row, and the points of each of them. -/
structure RawsIn (w : World) (p : Option Addr) (rows : List RawT) : Prop where
  at' : ∀ (i : Nat) (r : RawT), rows[i]? = some r → ∃ b o p' cap', p = some ⟨b, o, none⟩ ∧ (∀ j v, (rawA r p' cap')[j]? = some v → w.cell? ⟨b, o + i * 6 + j, none⟩ = some v) ∧ PtsIn w p' r.pts ∧ r.pts.length ≤ cap' ∧ (p' = none → cap' = 0)
theorem RawsIn.below {w W : World} {p : Option Addr} {rows : List RawT} (h : RawsIn w p rows) (hb : Below w.heap.size w W) : RawsIn W p rows := ⟨fun i r hr => by
  obtain ⟨b, o, p', cap', e, hc, hr, hp⟩ := h.at' i r hr
  exact ⟨b, o, p', cap', e, fun j v hv => ((bcell hb).1 b _ (cell_lt (hc j v hv))).trans (hc j v hv), hr.below hb, hp⟩⟩
/-- The points of raw series, each in a block of its own from B on. -/
structure PtRows (w : World) (B : Nat) (l : List RawR) : Prop where
  at' : ∀ x, x ∈ l → PtRow w B x.p x.r.pts ∧ x.r.pts.length ≤ x.cap ∧ (x.p = none → x.cap = 0)
theorem PtRows.below {w w' : World} {B : Nat} {l : List RawR} (h : PtRows w B l) (hb : Below w.heap.size w w') : PtRows w' B l := ⟨fun x hx => ⟨(h.at' x hx).1.below hb, (h.at' x hx).2⟩⟩
theorem OwnR.raws {W : World} {B n : Nat} {e : TypeId} {p : Option Addr} {cap : Nat} {RL : List RawR} (h : OwnR W B e 6 (.slice p n cap) n (flatRaws RL)) (hP : PtRows W B RL) : RawsIn W p (RL.map (·.r)) := by
  rcases h.own.2 with ⟨h1, h0⟩ | ⟨g, cap', cur, h1, hg, hb, hn, hmx, _, ht⟩
  · have h2 := h.own.1
    rw [flatRaws_len, h0] at h2
    have : RL = [] := List.length_eq_zero_iff.1 (by omega)
    subst this
    exact ⟨fun i r hr => by simp at hr⟩
  · injection h1 with h2 _ _
    subst h2
    refine ⟨fun i r hr => ?_⟩
    rw [List.getElem?_map] at hr
    obtain ⟨x, hx, rfl⟩ := Option.map_eq_some_iff.1 hr
    have hm := hP.at' x (List.mem_of_getElem? hx)
    refine ⟨g, 0, x.p, x.cap, rfl, fun j v hv => ?_, hm.1.pts, hm.2⟩
    have h3 := flatRaws_get RL i x j v hx hv
    rw [cell_of_row W g _ cur e (0, 0) hb, Nat.zero_add]
    exact row_take ht h3
/-- Raw series that came in. -/
structure RawsCame (w : World) (p : Option Addr) (rows : List RawT) : Prop where
  at' : ∀ (i : Nat) (r : RawT), rows[i]? = some r → ∃ b o p' cap', p = some ⟨b, o, none⟩ ∧ (∀ j v, (rawA r p' cap')[j]? = some v → w.cell? ⟨b, o + i * 6 + j, none⟩ = some v) ∧ RawCame w r p' cap'
theorem RawsCame.below {w W : World} {p : Option Addr} {rows : List RawT} (h : RawsCame w p rows) (hb : Below w.heap.size w W) : RawsCame W p rows := ⟨fun i r hr => by
  obtain ⟨b, o, p', cap', e, hc, hr⟩ := h.at' i r hr
  exact ⟨b, o, p', cap', e, fun j v hv => ((bcell hb).1 b _ (cell_lt (hc j v hv))).trans (hc j v hv), hr.below hb⟩⟩
theorem Tryz.infoRaw : (Tryz.prog.info? 35).map (fun i => (i.zero, i.size, i.bytes)) = some (some (.agg #[.string .empty, .int .i64 0, .int .i64 0, .int .i64 0, .int .i64 0, .slice none 0 0]), 6, 72) := by kernel_rfl
theorem own_apart {W : World} {B g s n : Nat} {e t : TypeId} {v : Value} {xs : List Value} {cs : Array Value} (h : W.ownsRow B e s v n xs) (hb : Blk W g cs t) (hne : t ≠ e) : v.ownBlock ≠ some g := fun hv => by
  rcases h.2 with ⟨rfl, _⟩ | ⟨g', cap, cur, rfl, _, hg, _⟩
  · simp [Value.ownBlock] at hv
  · simp [Value.ownBlock] at hv
    subst hv
    rw [show W.heap[g']? = some (.cells cs t (0, 0)) from hb] at hg
    injection hg with hg
    injection hg with _ h2 _
    exact hne h2
/-- A row of another type stands, whatever is written into a block that is none of it. -/
theorem OwnR.setX {w : World} {B o j n s : Nat} {e : TypeId} {v u : Value} {xs : List Value} (h : OwnR w B e s v n xs) (hne : v.ownBlock ≠ some o) : OwnR (w.setCell ⟨o, j, none⟩ u) B e s v n xs := by
  refine ⟨h.own.1, ?_⟩
  rcases h.own.2 with h0 | ⟨g, cap, cur, rfl, hB, hg, h1, h2, h3, h4⟩
  · exact .inl h0
  · refine .inr ⟨g, cap, cur, rfl, hB, ?_, h1, h2, h3, h4⟩
    exact (Below.heap_setCell _ _ _ _ (by rintro rfl; exact hne rfl)).trans hg
theorem PtRow.other {w : World} {B o j : Nat} {cs : Array Value} {t : TypeId} {u : Value} {p : Option Addr} {l : List (Int × Int)} (h : PtRow w B p l) (hb : Blk w o cs t) (ht : t ≠ 58) : PtRow (w.setCell ⟨o, j, none⟩ u) B p l := h.keep fun g c _ hg => Blk.setO hg (g := o) (by
  rintro rfl
  have h1 : w.heap[g]? = some (.cells c 58 (0, 0)) := hg
  have h2 : w.heap[g]? = some (.cells cs t (0, 0)) := hb
  rw [h1] at h2
  injection h2 with h2
  injection h2 with _ h3 _
  exact ht h3.symm) _ _
theorem own28_round {w W w2 w9 : World} {RL : List RawR} {vp p' : Option Addr} {vc cap' gg cp : Nat} {r : RawT} {A Bq : Array Value} {o : Obj} (hb : Below w.heap.size w W) (b1 : Blk W w.heap.size A 27) (b2 : Blk W (w.heap.size + 1) Bq 27)
    (b3 : Blk W (w.heap.size + 1 + 1) #[.slice vp RL.length vc] 27) (b5 : OwnR W w.heap.size 35 6 (.slice vp RL.length vc) RL.length (flatRaws RL)) (b6 : PtRows W w.heap.size RL) (hz : w.heap.size ≤ W.heap.size)
    (hB2 : Below W.heap.size W w2) (hPt : PtRow w2 W.heap.size p' r.pts) (hcp : r.pts.length ≤ cap' ∧ (p' = none → cap' = 0))
    (hown1 : w9.ownsRow w.heap.size 35 6 (.slice (some ⟨gg, 0, none⟩) (RL.length + 1) cp) (RL.length + 1) (flatRaws RL ++ (rawA r p' cap').toList))
    (hgrow : (w2.alloc o).grownBy w9 (Value.slice vp RL.length vc).ownBlock) :
    Below w.heap.size w (w9.setCell ⟨(w.heap.size + 1 + 1), 0, none⟩ (.slice (some ⟨gg, 0, none⟩) (RL.length + 1) cp)) ∧ Blk (w9.setCell ⟨(w.heap.size + 1 + 1), 0, none⟩ (.slice (some ⟨gg, 0, none⟩) (RL.length + 1) cp)) w.heap.size A 27 ∧ Blk (w9.setCell ⟨(w.heap.size + 1 + 1), 0, none⟩ (.slice (some ⟨gg, 0, none⟩) (RL.length + 1) cp)) (w.heap.size + 1) Bq 27 ∧
      Blk (w9.setCell ⟨(w.heap.size + 1 + 1), 0, none⟩ (.slice (some ⟨gg, 0, none⟩) (RL.length + 1) cp)) (w.heap.size + 1 + 1) #[.slice (some ⟨gg, 0, none⟩) (RL.length + 1) cp] 27 ∧
      OwnR (w9.setCell ⟨(w.heap.size + 1 + 1), 0, none⟩ (.slice (some ⟨gg, 0, none⟩) (RL.length + 1) cp)) w.heap.size 35 6 (.slice (some ⟨gg, 0, none⟩) (RL.length + 1) cp) (RL ++ [(⟨r, p', cap'⟩ : RawR)]).length (flatRaws (RL ++ [(⟨r, p', cap'⟩ : RawR)])) ∧
      PtRows (w9.setCell ⟨(w.heap.size + 1 + 1), 0, none⟩ (.slice (some ⟨gg, 0, none⟩) (RL.length + 1) cp)) w.heap.size (RL ++ [(⟨r, p', cap'⟩ : RawR)]) := by
  have ho0 := (b5.below hB2).own
  have ho : (w2.alloc o).ownsRow w.heap.size 35 6 (.slice vp RL.length vc) RL.length (flatRaws RL) := ho0.alloc _
  have hs := hB2.size
  have hbl : Below w.heap.size w w9 := Below.grown ((hb.trans (hB2.mono hz)).alloc (by omega) o) hgrow (by (have : (w2.alloc o).heap.size = w2.heap.size + 1 := Array.size_push _); omega) (fun k hk => by
    rcases ho.2 with ⟨e, _⟩ | ⟨g', c9, cur, e, hge, _⟩
    · injection e with e _ _; subst e; simp [Value.ownBlock] at hk
    · injection e with e _ _; subst e; simp [Value.ownBlock] at hk; omega)
  have q1 := Blk.grown (b1.below hB2) ho0 (by decide) hgrow
  have q2 := Blk.grown (b2.below hB2) ho0 (by decide) hgrow
  have q3 := Blk.grown (b3.below hB2) ho0 (by decide) hgrow
  have kp : ∀ {p : Option Addr} {l : List (Int × Int)}, PtRow w2 w.heap.size p l → PtRow w9 w.heap.size p l := fun h => h.keep fun g c _ hg => Blk.grown hg ho0 (by decide) hgrow
  have hR : OwnR w9 w.heap.size 35 6 (.slice (some ⟨gg, 0, none⟩) (RL.length + 1) cp) (RL ++ [(⟨r, p', cap'⟩ : RawR)]).length (flatRaws (RL ++ [(⟨r, p', cap'⟩ : RawR)])) := by
    rw [flatRaws_snoc, List.length_append]
    exact ⟨hown1⟩
  refine ⟨hbl.setCell (by simp; omega) _, q1.setO (by omega) _ _, q2.setO (by omega) _ _, q3.set2 (by rfl), hR.setX (own_apart hR.own q3 (by decide)), ⟨fun x hx => ?_⟩⟩
  rcases List.mem_append.1 hx with h1 | h1
  · exact ⟨(kp ((b6.below hB2).at' x h1).1).other q3 (by decide), (b6.at' x h1).2⟩
  · rw [List.mem_singleton.1 h1]
    exact ⟨(kp (hPt.mono hz)).other q3 (by decide), hcp⟩
theorem own28_take {rows : List RawT} {RL : List RawR} {i : Nat} {r0 : RawT} {p' : Option Addr} {cap' : Nat} (h : RL.map (·.r) = (rows.take (min i 9)).map rawOf) (hr : rows[i]? = some r0) (hi : i ≤ 8) :
    (RL ++ [(⟨rawOf r0, p', cap'⟩ : RawR)]).map (·.r) = (rows.take (min (i + 1) 9)).map rawOf := by
  rw [List.map_append, h, show min i 9 = i by omega, show min (i + 1) 9 = i + 1 by omega, List.take_add_one, hr, List.map_append]
  rfl
theorem own28_more {rows : List RawT} {RL : List RawR} {i : Nat} (h : RL.map (·.r) = (rows.take (min i 9)).map rawOf) (hi : ¬i ≤ 8) : RL.map (·.r) = (rows.take (min (i + 1) 9)).map rawOf := by
  rw [h, show min i 9 = 9 by omega, show min (i + 1) 9 = 9 by omega]
theorem own28_all {rows : List RawT} {RL : List RawR} {i : Nat} (h : RL.map (·.r) = (rows.take (min i 9)).map rawOf) (hi : rows.length ≤ i) : RL.map (·.r) = (rows.take 9).map rawOf := by
  rw [h]
  rcases Nat.le_total i 9 with h1 | h1
  · rw [show min i 9 = i by omega, List.take_of_length_le (by omega), List.take_of_length_le (by omega)]
  · rw [show min i 9 = 9 by omega]
def owmRel (w : World) (p : Option Addr) (cap : Nat) (rows : List RawT) (a' : Act) (W : World) : Prop :=
  Below w.heap.size w W ∧ Blk W w.heap.size #[.slice p rows.length cap] 27 ∧ Blk W (w.heap.size + 1) #[.slice none 0 0] 27 ∧ ∃ (i : Nat) (v : Value) (RL : List RawR), (∃ u : Nat → Value, a' = { tmps := #[u 0, .pointer (some ⟨w.heap.size, 0, none⟩), .pointer (some ⟨(w.heap.size + 1), 0, none⟩), .pointer (some ⟨(w.heap.size + 1 + 1), 0, none⟩), u 4, u 5, u 6, .slice p rows.length cap, .int .i64 (rows.length : Int), .int .i64 (i : Int), u 10, u 11, u 12, u 13, u 14, u 15, u 16, u 17, u 18, u 19, u 20, u 21, u 22, u 23, u 24], defers := [] }) ∧ Blk W (w.heap.size + 1 + 1) #[v] 27 ∧
    OwnR W w.heap.size 35 6 v RL.length (flatRaws RL) ∧ PtRows W w.heap.size RL ∧ RL.map (·.r) = (rows.take (min i 9)).map rawOf ∧ i ≤ rows.length
/-- A model in memory of its own: its row and its points are in blocks from B on. -/
def OwnM (B : Nat) (rows : List RawT) : Spec := fun v w => ∃ (p : Option Addr) (c : Nat) (RL : List RawR), v = .agg #[.slice p rows.length c] ∧ OwnR w B 35 6 (.slice p rows.length c) rows.length (flatRaws RL) ∧ PtRows w B RL ∧ RL.map (·.r) = rows
theorem OwnM.below {B : Nat} {rows : List RawT} {v : Value} {w w' : World} (h : OwnM B rows v w) (hb : Below w.heap.size w w') : OwnM B rows v w' := by
  obtain ⟨p, c, RL, e, h1, h2, h3⟩ := h
  exact ⟨p, c, RL, e, h1.below hb, h2.below hb, h3⟩
theorem OwnM.closed (B : Nat) (rows : List RawT) : Closed [] (OwnM B rows) := fun _ _ _ hr h => h.below hr.below
theorem OwnM.rex {L : List Nat} {B : Nat} {rows : List RawT} {v : Value} {w w' : World} (h : OwnM B rows v w) (hr : Rex L w w') (hL : L = []) : OwnM B rows v w' := by subst hL; exact h.below hr.below
theorem OwnM.drew {B : Nat} {rows : List RawT} {v : Value} {w : World} (h : OwnM B rows v w) : OwnM B rows v w.drew := h.below (Below.drew (Below.refl _ w))
theorem OwnM.mono {B B' : Nat} {rows : List RawT} {v : Value} {w : World} (h : OwnM B rows v w) (hB : B' ≤ B) : OwnM B' rows v w := by
  obtain ⟨p, c, RL, e, h1, h2, h3⟩ := h
  exact ⟨p, c, RL, e, h1.mono hB, ⟨fun x hx => ⟨(h2.at' x hx).1.mono hB, (h2.at' x hx).2⟩⟩, h3⟩
/-- Whatever is stored into a block of neither type leaves it as it was. -/
theorem OwnM.store {B o j : Nat} {rows : List RawT} {v u : Value} {w : World} {cs : Array Value} {t : TypeId} (h : OwnM B rows v w) (hb : Blk w o cs t) (h1 : t ≠ 35) (h2 : t ≠ 58) : OwnM B rows v (w.setCell ⟨o, j, none⟩ u) := by
  obtain ⟨p, c, RL, e, g1, g2, g3⟩ := h
  exact ⟨p, c, RL, e, g1.setX (own_apart g1.own hb h1), ⟨fun x hx => ⟨(g2.at' x hx).1.other hb h2, (g2.at' x hx).2⟩⟩, g3⟩
theorem OwnM.form {B : Nat} {rows : List RawT} {v : Value} {w : World} (h : OwnM B rows v w) : ∃ (p : Option Addr) (c : Nat), v = .agg #[.slice p rows.length c] ∧ RawsIn w p rows ∧ (p = none → c = 0) := by
  obtain ⟨p, c, RL, e, h1, h2, h3⟩ := h
  have h4 := h1.raws h2
  rw [h3] at h4
  obtain ⟨p2, c2, e2, -, -, hn, -⟩ := h1.form
  injection e2 with e3 _ e4
  exact ⟨p, c, e, h4, fun e5 => by rw [e4]; exact (hn (e3 ▸ e5)).2⟩
set_option maxRecDepth 100000 in
set_option maxHeartbeats 2000000 in
theorem c_own28M (p : Option Addr) (cap : Nat) (rows : List RawT) (w : World) (h : RawsCame w p rows) (hmx : rows.length ≤ 9223372036854775807) :
    Calls Tryz.prog 9 #[.agg #[.slice p rows.length cap]] w fun e w' => ∃ v, e = .returned v ∧ Below w.heap.size w w' ∧ OwnM w.heap.size ((rows.take 9).map rawOf) v w' := by
  obtain ⟨i0, hi0, hz0, hz1, hz2⟩ := info_parts Tryz.infoRaw
  go_enter Tryz.func9, Tryz.ntmps9
  go_upto_region 2 with (fail)
  refine wp_cutB w (Bc w.heap.size #[.slice p rows.length cap] 27 <| Bc (w.heap.size + 1) #[.slice none 0 0] 27 <| Bc (w.heap.size + 1 + 1) #[.slice none 0 0] 27 <| Bz) ?_
  rintro W1 hW z2 ⟨⟨b1, yb1, k1, f1⟩, ⟨b2, yb2, k2, f2⟩, ⟨b3, yb3, k3, f3⟩, -⟩
  go_wp2
  clear k1 f1 k2 f2 k3 f3
  refine wp_loop (owmRel w p cap rows) (fun a' _ => rows.length - (intAt (a'.tmps.getD 9 undef)).toNat) ?_ ?_
  · unfold owmRel
    exact ⟨hW, b1, b2, 0, _, [], frame_ex rfl, b3, OwnR.nil _ _ _ _, ⟨fun x hx => by cases hx⟩, by simp, Nat.zero_le _⟩
  clear b1 b2 b3 hW
  rintro a' W ⟨hW, b1, b2, i, v, RL, ⟨u, rfl⟩, b3, hown, hrows, hRL, hi'⟩
  have hz := hW.size
  have yb1 := b1.lt
  have yb2 := b2.lt
  have yb3 := b3.lt
  have hlR : RL.length ≤ 9 := by
    have e := congrArg List.length hRL
    rw [List.length_map, List.length_map, List.length_take] at e
    omega
  rcases Nat.lt_or_ge i rows.length with hlt | hge
  · obtain ⟨r0, tr⟩ : ∃ x, rows[i]? = some x := ⟨rows[i]'(by omega), List.getElem?_eq_getElem (by omega)⟩
    obtain ⟨b0, o0, p0, c0, rfl, hcs, hcm⟩ := (h.below hW).at' i _ tr
    have q0 : W.cell? ⟨b0, o0 + i * 6, none⟩ = some (.string r0.name) := hcs 0 _ rfl
    have q1 : W.cell? ⟨b0, o0 + i * 6 + 1, none⟩ = some (.int .i64 r0.eps) := hcs 1 _ rfl
    have q2 : W.cell? ⟨b0, o0 + i * 6 + 2, none⟩ = some (.int .i64 r0.floor) := hcs 2 _ rfl
    have q3 : W.cell? ⟨b0, o0 + i * 6 + 3, none⟩ = some (.int .i64 r0.last) := hcs 3 _ rfl
    have q4 : W.cell? ⟨b0, o0 + i * 6 + 4, none⟩ = some (.int .i64 r0.scale) := hcs 4 _ rfl
    have q5 : W.cell? ⟨b0, o0 + i * 6 + 5, none⟩ = some (.slice p0 r0.pts.length c0) := hcs 5 _ rfl
    have zq := cell_lt q0
    try simp only at zq
    clear hcs
    by_cases h9 : i ≤ 8
    ·
      have k1 := b1.cell
      have f1 := b1.frozen
      have k2 := b2.cell
      have f2 := b2.frozen
      have k3 := b3.cell
      have f3 := b3.frozen
      have hneA : v.ownBlock ≠ some (w.heap.size + 1 + 1) := own_apart hown.own b3 (by decide)
      have hneB : v.ownBlock ≠ some W.heap.size := fun e => by have := (hown.own.lt _ e).2; omega
      go_upto_region 6 with (fail)
      clear k1 f1 k2 f2 k3 f3
      refine wp_cutB w (Bc w.heap.size #[.slice (some ⟨b0, o0, none⟩) rows.length cap] 27 <| Bc (w.heap.size + 1) #[.slice none 0 0] 27 <| Bc (w.heap.size + 1 + 1) #[v] 27 <| Bc W.heap.size #[.string r0.name, .int .i64 r0.eps, .int .i64 r0.floor, .int .i64 r0.last, .int .i64 r0.scale, .slice p0 r0.pts.length c0] 35 <| Rc (fun W' => OwnR W' w.heap.size 35 6 v RL.length (flatRaws RL)) <| Rc (fun W' => PtRows W' w.heap.size RL) <| Rc (fun W' => RawCame W' r0 p0 c0) <| Bz) ?_ (hI := by exact belowAny) (hR := (Bc.mk (by exact blkAny2) <| Bc.mk (by exact blkAny2) <| Bc.mk (by exact blkAny2) <| Bc.mk (by exact blkAny2) <| Rc.mk (by exact hown.below (by exact belowAny)) <| Rc.mk (by exact hrows.below (by exact belowAny)) <| Rc.mk (by exact hcm.below (by exact belowAny)) <| trivial))
      clear b1 b2 b3 hW
      rintro W21 hW z22 ⟨⟨b1, yb1, k1, f1⟩, ⟨b2, yb2, k2, f2⟩, ⟨b3, yb3, k3, f3⟩, ⟨b4, yb4, k4, f4⟩, b5, b6, b7, -⟩
      obtain ⟨vp, vc, rfl, -, -, -, -⟩ := b5.form
      have g0 := k3 0
      have gf := f3 0
      have g1 := k4 0
      have g2 := k4 1
      have g3 := k4 2
      have g4 := k4 3
      have g5 := k4 4
      have g6 := k4 5
      simp only [List.getElem?_toArray, List.getElem?_cons_zero, List.getElem?_cons_succ] at g0 g1 g2 g3 g4 g5 g6
      clear k1 k2 k3 k4 f1 f2 f3 f4
      have c2' := Lib.hid (fun X (hX : Below W21.heap.size W21 X) => c_raw28N r0 p0 c0 X (b7.below hX))
      unfold rawA at c2'
      clear q0 q1 q2 q3 q4 q5 hcm h b7
      go_region_law
        (first
          | (refine step_append_lies _ (by rfl) _ _ _ (by rfl) w.heap.size 35 i0 _ 6 72 (by kernel_rfl) hi0 hz0 hz1 hz2 rfl (by omega) _ RL.length (flatRaws RL) (by rfl) (((b5.below (Below.drew (Below.refl _ W21))).below hB2).own.alloc _)
              ⟨w2.heap.size, 0, none⟩ 1 1 (rawA (rawOf r0) p' cap').toList (by rfl) (by rfl) (World.news_of_block (cs := rawA (rawOf r0) p' cap') (t := 35) (fr := (0, 0)) (heap_alloc_new w2 _)) (by simp [Value.oneCell', rawA])
              (by omega) (by simp [maxLen]; omega) (by omega) (by simp; omega) (w2.heap.size + 1) (by simp) ?_; intro gg cp w9 hown1 hgrow hat hlt9; have gk9 := hgrow.cell_far ⟨w.heap.size + 1 + 1, 0, none⟩ (by simp; omega) (by first | exact Ne.symm hneA | exact Ne.symm hneB); have gf9 := hgrow.frozen_far ⟨w.heap.size + 1 + 1, 0, none⟩ (by simp; omega) (by first | exact Ne.symm hneA | exact Ne.symm hneB); rw [World.cell?_alloc_lt _ _ _ (by simp; omega), gk0] at gk9; rw [World.frozen?_alloc_past _ _ _ (by omega)] at gf9; rw [gkf] at gf9)
          | (go_simp; go_wp2_with (go_at_call 14; refine (c2'.out _ (by first | exact Below.refl _ _ | exact Below.drew (Below.refl _ _) | exact belowAny)).mono ?_; rintro e w2 ⟨p', cap', rfl, hB2, hPt, hcp⟩; have hz2' := hB2.size; try simp at hz2'); have gk0 := ((bcell hB2).1 _ _ (by simp; omega)).trans g0; have gkf := ((bcell hB2).2 _ _ (by simp; omega)).trans gf; have gka := fun (o : Obj) => (World.cell?_alloc_lt w2 o ⟨w.heap.size + 1 + 1, 0, none⟩ (by simp; omega)).trans gk0))
      all_goals (
        clear hneA hneB hown
        obtain ⟨e1, e2, e3, e4, e5, e6⟩ := own28_round (W := W21.drew) (Below.drew hW) b1 b2 b3 b5.drew (b6.below (Below.drew (Below.refl _ W21))) (Below.drew hW).size hB2 hPt hcp hown1 hgrow
        have e7 := e1.size
        clear hown1 hgrow gk9 gf9 hB2 hPt hcp b1 b2 b3 b4 b5 b6 hW gka gk0 gkf
        generalize w9.setCell _ _ = W9 at e1 e2 e3 e4 e5 e6 e7 ⊢
        go_wp2
        refine ⟨?_, by simp [intAt]; omega⟩
        unfold owmRel
        exact ⟨e1, e2, e3, i + 1, _, RL ++ [(⟨rawOf r0, p', cap'⟩ : RawR)], frame_ex rfl, e4, e5, e6, own28_take hRL tr (by omega), hlt⟩)
    ·
      have k1 := b1.cell
      have f1 := b1.frozen
      have k2 := b2.cell
      have f2 := b2.frozen
      have k3 := b3.cell
      have f3 := b3.frozen
      have hr0 := Lib.hid hRL
      clear hRL h hcm
      go_upto_region 5 with (fail)
      clear k1 f1 k2 f2 k3 f3
      refine wp_cutB w (Bc w.heap.size #[.slice (some ⟨b0, o0, none⟩) rows.length cap] 27 <| Bc (w.heap.size + 1) #[.slice none 0 0] 27 <| Bc (w.heap.size + 1 + 1) #[v] 27 <| Rc (fun W' => OwnR W' w.heap.size 35 6 v RL.length (flatRaws RL)) <| Rc (fun W' => PtRows W' w.heap.size RL) <| Bz) ?_ (hI := by exact belowAny) (hR := (Bc.mk (by exact blkAny2) <| Bc.mk (by exact blkAny2) <| Bc.mk (by exact blkAny2) <| Rc.mk (by exact hown.below (by exact belowAny)) <| Rc.mk (by exact hrows.below (by exact belowAny)) <| trivial))
      clear b1 b2 b3 hW
      rintro W21 hW z22 ⟨⟨b1, yb1, k1, f1⟩, ⟨b2, yb2, k2, f2⟩, ⟨b3, yb3, k3, f3⟩, b4, b5, -⟩
      clear k1 f1 k2 f2 k3 f3
      go_wp2
      have hw1 : wrap64 ((i : Int) + 1) = (i : Int) + 1 := by simp only [wrap64_eq]; omega
      try simp only [hw1]
      clear hmx hw1
      refine ⟨?_, by simp [intAt]; omega⟩
      unfold owmRel
      exact ⟨hW, b1, b2, i + 1, v, RL, frame_ex rfl, b3, b4, b5, own28_more hr0.out (by omega), hlt⟩
  · have hlen : rows.length ≤ i := by omega
    obtain ⟨vp, vc, rfl, -, -, -, -⟩ := hown.form
    have k1 := b1.cell
    have f1 := b1.frozen
    have k2 := b2.cell
    have f2 := b2.frozen
    have k3 := b3.cell
    have f3 := b3.frozen
    go_wp2
    have d1 : Below w.heap.size w (W.setCell ⟨w.heap.size + 1, 0, none⟩ (.slice vp RL.length vc)) := belowAny
    have d2 : Blk (W.setCell ⟨w.heap.size + 1, 0, none⟩ (.slice vp RL.length vc)) (w.heap.size + 1) #[.slice vp RL.length vc] 27 := b2.set2 (by rfl)
    have d3 : OwnR (W.setCell ⟨w.heap.size + 1, 0, none⟩ (.slice vp RL.length vc)) w.heap.size 35 6 (.slice vp RL.length vc) RL.length (flatRaws RL) := hown.setX (own_apart hown.own b2 (by decide))
    have d4 : PtRows (W.setCell ⟨w.heap.size + 1, 0, none⟩ (.slice vp RL.length vc)) w.heap.size RL := ⟨fun x hx => ⟨(hrows.at' x hx).1.other b2 (by decide), (hrows.at' x hx).2⟩⟩
    have d6 : ((rows.take 9).map rawOf).length = RL.length := by rw [← own28_all hRL hlen, List.length_map]
    have d0 := d2.cell 0
    simp only [List.getElem?_toArray, List.getElem?_cons_zero] at d0
    refine bodyPost_ret (v := .agg #[.slice vp RL.length vc]) (by simp [results, Tryz.results9, go_sem, d0]) rfl ⟨_, rfl, d1, vp, vc, RL, by rw [d6], by rw [d6]; exact d3, d4, own28_all hRL hlen⟩
end Go.Proofs.YtdeghcgakkhbmaaGreat
namespace Go.Proofs.YtdeghcgakkhbmaaGreat
open Go.RowKit
set_option maxRecDepth 100000 in
set_option maxHeartbeats 2000000 in
theorem c_r18Letter (r : Nat) (w : World) : Calls Tryz.prog 103 #[.int .u8 r] w fun e w' => e = .returned (.bool (letterB r)) ∧ Below w.heap.size w w' := by
  go_enter Tryz.func103, Tryz.ntmps103
  go_upto_region 1 with (fail)
  refine wp_cutB w (Bz) ?_
  rintro W1 hW z2 hL
  refine wp_regS 15 17 hW hL ?_
  iterate 3 refine dA ?_
  iterate 2 refine gA ?_
  refine pA ?_
  refine dA ?_
  iterate 3 refine gA ?_
  iterate 2 refine gB ?_
  refine pgA ?_
  refine pO ?_
  refine dA ?_
  clear hW hL
  rintro W3 hW z4 hL
  simp only [ndR]
  intros
  repeat (rename GDet _ _ _ _ => hgd; clear hgd)
  simp only [ndS]
  refine wpList_nil ?_
  obtain ⟨-⟩ := hL
  go_wp2
  refine bodyPost_ret (v := .bool ((decide (97 ≤ (r : Int)) && decide ((r : Int) ≤ 122)) || (decide (48 ≤ (r : Int)) && decide ((r : Int) ≤ 57)))) (by simp [results, Tryz.results103, go_sem]) rfl ⟨?_, by exact belowAny⟩
  congr 2
  unfold letterB
  rw [Bool.eq_iff_iff]
  simp only [Bool.or_eq_true, Bool.and_eq_true, decide_eq_true_eq]
  omega
set_option maxRecDepth 100000 in
set_option maxHeartbeats 2000000 in
theorem c_r18Time (n : Int) (w : World) : Calls Tryz.prog 55 #[.int .i64 n] w fun e w' => e = .returned (.bool (btw n (0) 281474976710656)) ∧ Below w.heap.size w w' := by
  unfold btw
  go_enter Tryz.func55, Tryz.ntmps55
  go_upto_region 1 with (fail)
  refine wp_cutB w (Bz) ?_
  rintro W1 hW z2 hL
  refine wp_regS 7 9 hW hL ?_
  iterate 3 refine dA ?_
  iterate 2 refine gA ?_
  refine pA ?_
  refine dA ?_
  clear hW hL
  rintro W3 hW z4 hL
  simp only [ndR]
  intros
  repeat (rename GDet _ _ _ _ => hgd; clear hgd)
  simp only [ndS]
  refine wpList_nil ?_
  obtain ⟨-⟩ := hL
  go_wp2
  refine bodyPost_ret (by simp [results, Tryz.results55, go_sem]) rfl ⟨rfl, by exact belowAny⟩
set_option maxRecDepth 100000 in
set_option maxHeartbeats 2000000 in
theorem c_r13Eps (n : Int) (w : World) : Calls Tryz.prog 57 #[.int .i64 n] w fun e w' => e = .returned (.bool (btw n (0) 1099511627776)) ∧ Below w.heap.size w w' := by
  unfold btw
  go_enter Tryz.func57, Tryz.ntmps57
  go_upto_region 1 with (fail)
  refine wp_cutB w (Bz) ?_
  rintro W1 hW z2 hL
  refine wp_regS 7 9 hW hL ?_
  iterate 3 refine dA ?_
  iterate 2 refine gA ?_
  refine pA ?_
  refine dA ?_
  clear hW hL
  rintro W3 hW z4 hL
  simp only [ndR]
  intros
  repeat (rename GDet _ _ _ _ => hgd; clear hgd)
  simp only [ndS]
  refine wpList_nil ?_
  obtain ⟨-⟩ := hL
  go_wp2
  refine bodyPost_ret (by simp [results, Tryz.results57, go_sem]) rfl ⟨rfl, by exact belowAny⟩
set_option maxRecDepth 100000 in
set_option maxHeartbeats 2000000 in
theorem c_r24Scale (n : Int) (w : World) : Calls Tryz.prog 58 #[.int .i64 n] w fun e w' => e = .returned (.bool (btw n (-40) 40)) ∧ Below w.heap.size w w' := by
  unfold btw
  go_enter Tryz.func58, Tryz.ntmps58
  go_upto_region 1 with (fail)
  refine wp_cutB w (Bz) ?_
  rintro W1 hW z2 hL
  refine wp_regS 7 9 hW hL ?_
  iterate 3 refine dA ?_
  iterate 2 refine gA ?_
  refine pA ?_
  refine dA ?_
  clear hW hL
  rintro W3 hW z4 hL
  simp only [ndR]
  intros
  repeat (rename GDet _ _ _ _ => hgd; clear hgd)
  simp only [ndS]
  refine wpList_nil ?_
  obtain ⟨-⟩ := hL
  go_wp2
  refine bodyPost_ret (by simp [results, Tryz.results58, go_sem]) rfl ⟨rfl, by exact belowAny⟩
set_option maxRecDepth 100000 in
set_option maxHeartbeats 2000000 in
theorem c_r13Point (t v : Int) (w : World) : Calls Tryz.prog 59 #[.agg #[.int .i64 t, .int .i64 v]] w fun e w' => e = .returned (.bool (btw t 0 281474976710656 && btw v (-2305843009213693952) 2305843009213693952)) ∧ Below w.heap.size w w' := by
  unfold btw
  rw [← Bool.and_assoc]
  go_enter Tryz.func59, Tryz.ntmps59
  go_upto_region 1 with (fail)
  refine wp_cutB w (Bc w.heap.size #[.int .i64 t, .int .i64 v] 58 <| Bz) ?_
  rintro W1 hW z2 hL
  refine wp_regS 19 21 hW hL ?_
  iterate 4 refine dA ?_
  iterate 3 refine gA ?_
  refine pA ?_
  refine dA ?_
  iterate 3 refine gA ?_
  refine pA ?_
  refine dA ?_
  iterate 3 refine gA ?_
  refine pA ?_
  refine dA ?_
  clear hW hL
  rintro W3 hW z4 hL
  simp only [ndR]
  intros
  repeat (rename GDet _ _ _ _ => hgd; clear hgd)
  simp only [ndS]
  refine wpList_nil ?_
  obtain ⟨⟨b1, yb1, k1, f1⟩, -⟩ := hL
  go_wp2
  refine bodyPost_ret (by simp [results, Tryz.results59, go_sem, k1, f1, yb1]) rfl ⟨rfl, by exact belowAny⟩
theorem let_step (s : ByteArray) (f pos : Nat) (h : pos < s.size) : lettersB s (f + 1) pos = (letterB (s[pos]'h).toNat && lettersB s f (pos + 1)) := by
  have e : lettersB s (f + 1) pos = (letterB (Utf8.decode s pos).1 && lettersB s f (pos + (Utf8.decode s pos).2)) := by simp [lettersB, h]
  rw [e]
  by_cases ha : (s[pos]'h).toNat < 128
  · rw [decode_ascii s pos h ha]
  · have h1 := (decode_high s pos h (by omega)).1
    have n1 : letterB (Utf8.decode s pos).1 = false := by unfold letterB; simp; omega
    have n2 : letterB (s[pos]'h).toNat = false := by unfold letterB; simp; omega
    rw [n1, n2, Bool.false_and, Bool.false_and]
def nm18Rel (w : World) (s : ByteArray) (a' : Act) (W : World) : Prop :=
  Below w.heap.size w W ∧ ∃ i f : Nat, (∃ u : Nat → Value, a' = { tmps := #[.string s, u 1, u 2, u 3, .string s, .int .i64 (s.size : Int), .int .i64 (i : Int), u 7, u 8, u 9, u 10, u 11, u 12, u 13, u 14, u 15, u 16, u 17, u 18, u 19, u 20, u 21, u 22], defers := [] }) ∧ s.size ≤ i + f ∧ lettersB s f i = lettersB s s.size 0 ∧ i ≤ s.size
set_option maxRecDepth 100000 in
set_option maxHeartbeats 2000000 in
theorem c_r18Name (s : ByteArray) (w : World) (hs9 : s.size ≤ 1000) : Calls Tryz.prog 56 #[.string s] w fun e w' => e = .returned (.bool (nameB s)) ∧ Below w.heap.size w w' := by
  go_enter Tryz.func56, Tryz.ntmps56
  go_wp2
  refine wp_loop (nm18Rel w s) (fun a' _ => s.size - (intAt (a'.tmps.getD 6 undef)).toNat) ?_ ?_
  · unfold nm18Rel
    exact ⟨Below.refl _ _, 0, s.size, frame_ex rfl, by omega, rfl, by omega⟩
  · rintro a' W ⟨hW, i, f, ⟨u, rfl⟩, hf, hlet, hi⟩
    have hz := hW.size
    rcases Nat.lt_or_ge i s.size with hlt | hge
    · obtain ⟨f, rfl⟩ : ∃ g, f = g + 1 := ⟨f - 1, by omega⟩
      rw [let_step s f i hlt] at hlet
      obtain ⟨c, hc⟩ : ∃ c, (s[i]'hlt).toNat = c := ⟨_, rfl⟩
      have hix : ∀ W, (Instr.index 9 (.string s) (.int .i64 (i : Int))).run Tryz.prog W = .ok (.int .u8 (c : Int)) W := fun W => by
        rw [run_index_string _ _ _ _ _ (by kernel_rfl), dif_pos (by omega)]
        simp only [Int.toNat_natCast, hc]
      rw [hc] at hlet
      have cl := fun W => c_r18Letter c W
      obtain ⟨b, hb⟩ : ∃ b, letterB c = b := ⟨_, rfl⟩
      rw [hb] at cl hlet
      clear hc hb
      replace cl := Lib.hid cl
      replace hlet := Lib.hid hlet
      cases b with
      | true =>
        go_wp2_with fail
        refine (cl.out _).mono ?_
        rintro e w5 ⟨rfl, hb5⟩
        go_wp2
        rw [show (i : Int) + 1 = ((i + 1 : Nat) : Int) by omega]
        refine ⟨?_, by simp [intAt]; omega⟩
        unfold nm18Rel
        exact ⟨hW.trans (hb5.mono hz), i + 1, f, frame_ex rfl, by omega, by rw [← hlet.out]; rfl, by omega⟩
      | false =>
        have hno := Lib.hid (show nameB s = false by unfold nameB; rw [← hlet.out]; simp)
        go_wp2_with fail
        refine (cl.out _).mono ?_
        rintro e w5 ⟨rfl, hb5⟩
        go_wp2
        go_ret
        exact ⟨by rw [hno.out]; rfl, hW.trans (hb5.mono hz)⟩
    · have hall : lettersB s s.size 0 = true := by
        rw [← hlet]
        cases f with
        | zero => rfl
        | succ f => simp [lettersB, Nat.not_lt.2 hge]
      clear hlet
      have hnm : nameB s = (decide (1 ≤ (s.size : Int)) && decide ((s.size : Int) ≤ 12)) := by
        unfold nameB
        rw [hall, Bool.and_true, Bool.eq_iff_iff]
        simp only [Bool.and_eq_true, decide_eq_true_eq]
        omega
      replace hnm := Lib.hid hnm
      clear hall
      go_upto_region 7 with (fail)
      refine wp_cutB w (Bz) ?_
      clear hW
      rintro W21 hW z22 hL
      refine wp_regS 9 23 hW hL ?_
      iterate 4 refine dA ?_
      iterate 3 refine gA ?_
      refine pA ?_
      refine dA ?_
      clear hW hL
      rintro W23 hW z24 hL
      simp only [ndR]
      intros
      repeat (rename GDet _ _ _ _ => hgd; clear hgd)
      simp only [ndS]
      refine wpList_nil ?_
      obtain ⟨-⟩ := hL
      go_wp2
      refine bodyPost_ret (v := .bool (decide (1 ≤ (s.size : Int)) && decide ((s.size : Int) ≤ 12))) (by simp [results, Tryz.results56, go_sem]) rfl ⟨by rw [hnm.out], by exact belowAny⟩
end Go.Proofs.YtdeghcgakkhbmaaGreat
namespace Go.Proofs.YtdeghcgakkhbmaaGreat
open Go.RowKit
def rrRel (w : World) (r : RawT) (p : Option Addr) (cap : Nat) (a' : Act) (W : World) : Prop :=
  Below w.heap.size w W ∧ Blk W w.heap.size #[.string r.name, .int .i64 r.eps, .int .i64 r.floor, .int .i64 r.last, .int .i64 r.scale, .slice p r.pts.length cap] 35 ∧ ∃ i : Nat, (∃ u : Nat → Value, a' = { tmps := #[u 0, .pointer (some ⟨w.heap.size, 0, none⟩), .bool false, u 3, u 4, u 5, u 6, u 7, u 8, u 9, u 10, u 11, u 12, u 13, u 14, u 15, u 16, u 17, u 18, u 19, u 20, u 21, u 22, u 23, u 24, u 25, u 26, u 27, u 28, u 29, u 30, u 31, u 32, u 33, u 34, u 35, u 36, u 37, u 38, u 39, u 40, u 41, u 42, u 43, .slice p r.pts.length cap, .int .i64 (r.pts.length : Int), .int .i64 (i : Int), u 47, u 48, u 49, u 50, u 51, u 52, u 53, u 54, u 55, u 56, u 57, u 58, u 59, u 60, u 61, u 62, u 63, u 64, u 65, u 66, u 67, u 68, u 69, u 70, u 71, u 72, u 73, u 74, u 75, u 76, u 77, u 78, u 79, u 80, u 81, u 82, u 83, u 84, u 85, u 86, u 87, u 88, u 89, u 90, u 91, u 92], defers := [] }) ∧ rawPtsB r.floor (-1) (r.pts.take i) = true ∧ i ≤ r.pts.length ∧ (i = r.pts.length → (r.pts.isEmpty || r.last == lastOr (-1) (r.pts.map (·.1))) = true)
theorem rawPts_cut {fl b : Int} {l : List (Int × Int)} (i : Nat) (h : rawPtsB fl b (l.take i) = false) : rawPtsB fl b l = false := by
  have key : ∀ (m : List (Int × Int)) (b : Int) (r : List (Int × Int)), rawPtsB fl b m = false → rawPtsB fl b (m ++ r) = false := by
    intro m
    induction m with
    | nil => intro b r h; simp [rawPtsB] at h
    | cons y m ih =>
      intro b r h
      simp only [List.cons_append, rawPtsB] at h ⊢
      cases h1 : (ptB y && (decide (fl ≤ y.1) && decide (b < y.1))) with
      | false => rfl
      | true =>
        rw [h1, Bool.true_and] at h
        rw [Bool.true_and]
        exact ih _ r h
  have := key _ b (l.drop i) h
  rwa [List.take_append_drop] at this
set_option maxRecDepth 100000 in
set_option maxHeartbeats 2000000 in
theorem c_ref28Raw (r : RawT) (p : Option Addr) (cap : Nat) (w : World) (hin : PtsIn w p r.pts) (hl : r.pts.length ≤ 2000) (hnm : r.name.size ≤ 1000) :
    Calls Tryz.prog 21 #[.agg (rawA r p cap)] w fun e w' => e = .returned (.bool (rawB r)) ∧ Below w.heap.size w w' := by
  unfold rawA
  have hnum : rawNumsB r = (nameB r.name && btw r.eps 0 1099511627776 && btw r.scale (-40) 40 && btw r.floor 0 281474976710656 && btw r.last (-1) 281474976710656 && decide (r.pts.length ≤ 1024)) := by unfold rawNumsB; simp [Bool.and_assoc]
  obtain ⟨N1, hN1⟩ : ∃ b, nameB r.name = b := ⟨_, rfl⟩
  obtain ⟨N2, hN2⟩ : ∃ b, btw r.eps 0 1099511627776 = b := ⟨_, rfl⟩
  obtain ⟨N3, hN3⟩ : ∃ b, btw r.scale (-40) 40 = b := ⟨_, rfl⟩
  obtain ⟨N4, hN4⟩ : ∃ b, btw r.floor 0 281474976710656 = b := ⟨_, rfl⟩
  rw [hN1, hN2, hN3, hN4] at hnum
  have hv := Lib.hid (show (!N1 || !N2 || !N3 || !N4 || decide (r.last < -1) || decide (281474976710656 < r.last) || decide (1024 < (r.pts.length : Int))) = !rawNumsB r by
    rw [hnum]
    unfold btw
    have h1 : decide (r.last < -1) = !decide (-1 ≤ r.last) := by rw [Bool.eq_iff_iff]; simp
    have h2 : decide (281474976710656 < r.last) = !decide (r.last ≤ 281474976710656) := by rw [Bool.eq_iff_iff]; simp
    have h3 : decide (1024 < (r.pts.length : Int)) = !decide (r.pts.length ≤ 1024) := by rw [Bool.eq_iff_iff]; simp; omega
    rw [h1, h2, h3]
    cases N1 <;> cases N2 <;> cases N3 <;> cases N4 <;> simp [Bool.not_and])
  replace hnum := Lib.hid hnum
  have hno0 := Lib.hid (fun (e : rawNumsB r = false) => (show rawB r = false by unfold rawB; rw [e, Bool.false_and]))
  obtain ⟨N, hN⟩ : ∃ b, rawNumsB r = b := ⟨_, rfl⟩
  rw [hN] at hv
  replace hN1 := Lib.hid hN1
  replace hN2 := Lib.hid hN2
  replace hN3 := Lib.hid hN3
  replace hN4 := Lib.hid hN4
  replace hN := Lib.hid hN
  go_enter Tryz.func21, Tryz.ntmps21
  go_upto_region 1 with (fail)
  refine wp_cutB w (Bc w.heap.size #[.string r.name, .int .i64 r.eps, .int .i64 r.floor, .int .i64 r.last, .int .i64 r.scale, .slice p r.pts.length cap] 35 <| Bz) ?_
  rintro W1 hW z2 hL
  refine wp_regS 38 93 hW hL ?_
  iterate 2 refine dE (fun W' hC => aI hN1.out (aI hN2.out (aI hN3.out hN4.out))) ?_
  refine cE (fun W' hC => aI hN1.out (aI hN2.out (aI hN3.out hN4.out))) (fun W' hC => c_r18Name r.name W' hnm) ?_
  iterate 2 refine dE (fun W' hC => aI hN1.out (aI hN2.out (aI hN3.out hN4.out))) ?_
  iterate 2 refine gE (fun W' hC => aI hN1.out (aI hN2.out (aI hN3.out hN4.out))) ?_
  apply nd_callvg2 (p := true) (hg := rfl) (hd := rfl) (hal := rfl)
  · intro v W' h
    simp [envOf, Det] at h
    simp
    exact h
  · intro hp hx W' hC
    exact c_r13Eps r.eps W'
  · intro hp hx a W' hC hE
    obtain ⟨_, ⟨-, -, k1, -⟩, -⟩ := hC
    first
      | (simp [Oper.looksAt, Op.operands, Call.operands, envOf, Det, GDet, hx] at hE; simp [go_sem, Act.eval, IntWalk.i64_left, hE, k1, hN1.out, hN2.out, hN3.out, hN4.out]; try rfl)
      | (clear hE; simp [go_sem, Act.eval, IntWalk.i64_left, k1, hN1.out, hN2.out, hN3.out, hN4.out]; try rfl)
  refine gE (fun W' hC => aI hN1.out (aI hN2.out (aI hN3.out hN4.out))) ?_
  refine pO ?_
  refine dE (fun W' hC => aI hN1.out (aI hN2.out (aI hN3.out hN4.out))) ?_
  iterate 2 refine gE (fun W' hC => aI hN1.out (aI hN2.out (aI hN3.out hN4.out))) ?_
  apply nd_callvg2 (p := true) (hg := rfl) (hd := rfl) (hal := rfl)
  · intro v W' h
    simp [envOf, Det] at h
    simp
    exact h
  · intro hp hx W' hC
    exact c_r24Scale r.scale W'
  · intro hp hx a W' hC hE
    obtain ⟨_, ⟨-, -, k1, -⟩, -⟩ := hC
    first
      | (simp [Oper.looksAt, Op.operands, Call.operands, envOf, Det, GDet, hx] at hE; simp [go_sem, Act.eval, IntWalk.i64_left, hE, k1, hN1.out, hN2.out, hN3.out, hN4.out]; try rfl)
      | (clear hE; simp [go_sem, Act.eval, IntWalk.i64_left, k1, hN1.out, hN2.out, hN3.out, hN4.out]; try rfl)
  refine gE (fun W' hC => aI hN1.out (aI hN2.out (aI hN3.out hN4.out))) ?_
  refine pO ?_
  refine dE (fun W' hC => aI hN1.out (aI hN2.out (aI hN3.out hN4.out))) ?_
  iterate 2 refine gE (fun W' hC => aI hN1.out (aI hN2.out (aI hN3.out hN4.out))) ?_
  apply nd_callvg2 (p := true) (hg := rfl) (hd := rfl) (hal := rfl)
  · intro v W' h
    simp [envOf, Det] at h
    simp
    exact h
  · intro hp hx W' hC
    exact c_r18Time r.floor W'
  · intro hp hx a W' hC hE
    obtain ⟨_, ⟨-, -, k1, -⟩, -⟩ := hC
    first
      | (simp [Oper.looksAt, Op.operands, Call.operands, envOf, Det, GDet, hx] at hE; simp [go_sem, Act.eval, IntWalk.i64_left, hE, k1, hN1.out, hN2.out, hN3.out, hN4.out]; try rfl)
      | (clear hE; simp [go_sem, Act.eval, IntWalk.i64_left, k1, hN1.out, hN2.out, hN3.out, hN4.out]; try rfl)
  refine gE (fun W' hC => aI hN1.out (aI hN2.out (aI hN3.out hN4.out))) ?_
  refine pO ?_
  refine dE (fun W' hC => aI hN1.out (aI hN2.out (aI hN3.out hN4.out))) ?_
  iterate 3 refine gE (fun W' hC => aI hN1.out (aI hN2.out (aI hN3.out hN4.out))) ?_
  refine pO ?_
  refine dE (fun W' hC => aI hN1.out (aI hN2.out (aI hN3.out hN4.out))) ?_
  iterate 3 refine gE (fun W' hC => aI hN1.out (aI hN2.out (aI hN3.out hN4.out))) ?_
  refine pO ?_
  refine dE (fun W' hC => aI hN1.out (aI hN2.out (aI hN3.out hN4.out))) ?_
  iterate 4 refine gE (fun W' hC => aI hN1.out (aI hN2.out (aI hN3.out hN4.out))) ?_
  refine pO ?_
  clear hW hL
  rintro W3 hW z4 hL
  simp only [ndR]
  intros
  repeat (rename GDet _ _ _ _ => hgd; clear hgd)
  simp only [ndS]
  refine wpList_nil ?_
  obtain ⟨⟨b1, yb1, k1, f1⟩, -⟩ := hL
  rw [hv.out]
  cases N with
  | false =>
    have hno := Lib.hid (hno0.out hN.out)
    go_wp2
    go_ret
    exact ⟨by rw [hno.out]; rfl, by exact belowAny⟩
  | true =>
    clear hv hno0 hN1 hN2 hN3 hN4
    have hck := Lib.hid (show rawB r = (rawPtsB r.floor (-1) r.pts && (r.pts.isEmpty || r.last == lastOr (-1) (r.pts.map (·.1)))) by unfold rawB; rw [hN.out, Bool.true_and])
    go_wp2
    refine wp_loop (rrRel w r p cap) (fun a' _ => r.pts.length - (intAt (a'.tmps.getD 46 undef)).toNat) ?_ ?_
    · unfold rrRel
      exact ⟨hW, b1, 0, frame_ex rfl, rfl, by omega, fun e => by have e' := List.length_eq_zero_iff.1 e.symm; rw [e']; rfl⟩
    clear b1 hW k1 f1 hnum hN
    rintro a' W ⟨hW0, b1, i, ⟨u, rfl⟩, hr, hi, hl9⟩
    have hz := hW0.size
    have zb1 := b1.lt
    rcases Nat.lt_or_ge i r.pts.length with hlt | hge
    · obtain ⟨⟨t, y⟩, tr⟩ : ∃ x, r.pts[i]? = some x := ⟨r.pts[i]'(by omega), List.getElem?_eq_getElem (by omega)⟩
      obtain ⟨b, o, rfl, q0, q1⟩ := (hin.below hW0).at' i _ tr
      have hI : PtsP W b o r.pts := ⟨hin.below hW0⟩
      simp only at q0 q1
      have zq := cell_lt q0
      try simp only at zq
      have e1 : r.pts.take (i + 1) = r.pts.take i ++ [(t, y)] := by rw [List.take_add_one, tr]; rfl
      obtain ⟨z, hz0⟩ : ∃ z, lastOr (-1) ((r.pts.take i).map (·.1)) = z := ⟨_, rfl⟩
      have hst0 : rawPtsB r.floor (-1) (r.pts.take (i + 1)) = (ptB (t, y) && (decide (r.floor ≤ t) && decide (z < t))) := by rw [e1, rawPtsB_snoc, hr, hz0, Bool.true_and]
      have hlT : i + 1 = r.pts.length → lastOr (-1) (r.pts.map (·.1)) = t := fun e => by
        have : r.pts = r.pts.take i ++ [(t, y)] := by rw [← e1, e, List.take_length]
        rw [this, List.map_append, List.map_cons, List.map_nil, lastOr_snoc]
      have hne : r.pts.isEmpty = false := by
        cases hh : r.pts with
        | nil => rw [hh] at hlt; simp at hlt
        | cons _ _ => rfl
      obtain ⟨B1, hB1⟩ : ∃ B, ((i : Int) == (r.pts.length : Int) - 1) = B := ⟨_, rfl⟩
      obtain ⟨B2, hB2⟩ : ∃ B, (r.last != t) = B := ⟨_, rfl⟩
      have i1 : B1 = true → i + 1 = r.pts.length := fun e => by rw [← hB1] at e; have := beq_iff_eq.1 e; omega
      have i2 : i + 1 = r.pts.length → B1 = true := fun e => by rw [← hB1]; exact beq_iff_eq.2 (by omega)
      have E2 := Lib.hid (show wrap64 ((r.pts.length : Int) - 1) = (r.pts.length : Int) - 1 by rw [wrap64_eq]; omega)
      obtain ⟨PB, hPB⟩ : ∃ B, ptB (t, y) = B := ⟨_, rfl⟩
      rw [hPB] at hst0
      have hp0 : PB = true → 0 ≤ t := fun e => by
        rw [← hPB] at e
        unfold ptB btw at e
        simp only [Bool.and_eq_true, decide_eq_true_eq] at e
        exact e.1.1
      have cP := Lib.hid (fun W => c_r13Point t y W)
      rw [show (btw t 0 281474976710656 && btw y (-2305843009213693952) 2305843009213693952) = PB from hPB] at cP
      obtain ⟨F, hF⟩ : ∃ F, ((PB && (decide (r.floor ≤ t) && decide (z < t))) && !(B1 && B2)) = F := ⟨_, rfl⟩
      have hno := Lib.hid (fun (e : F = false) => (show rawB r = false by
        rw [hck.out]
        rw [← hF] at e
        cases hd : (PB && (decide (r.floor ≤ t) && decide (z < t))) with
        | false => rw [rawPts_cut (i + 1) (hst0.trans hd), Bool.false_and]
        | true =>
          rw [hd, Bool.true_and, Bool.not_eq_false', Bool.and_eq_true] at e
          rw [hlT (i1 e.1), hne]
          have h2 := e.2
          rw [← hB2] at h2
          have h3 : (r.last == t) = false := by simpa using h2
          rw [h3]
          simp))
      have hst := Lib.hid (fun (e : F = true) => (show rawPtsB r.floor (-1) (r.pts.take (i + 1)) = true by
        rw [hst0]
        rw [← hF, Bool.and_eq_true] at e
        exact e.1))
      replace hl9 := Lib.hid (fun (e : F = true) (e2 : i + 1 = r.pts.length) => (show (r.pts.isEmpty || r.last == lastOr (-1) (r.pts.map (·.1))) = true by
        rw [← hF, i2 e2] at e
        rw [hlT e2]
        have h2 : B2 = false := by cases B2 with | false => rfl | true => simp at e
        rw [← hB2] at h2
        have h3 : (r.last == t) = true := by simpa using h2
        rw [h3, Bool.or_true]))
      have hnot : decide (r.floor ≤ t) = !decide (t < r.floor) := by rw [Bool.eq_iff_iff]; simp
      by_cases h0 : i = 0
      · have E0 := Lib.hid (show decide (0 < i) = false from decide_eq_false (by omega))
        obtain rfl : -1 = z := by rw [← hz0, h0]; rfl
        have hv := Lib.hid (show (!PB || decide (t < r.floor) || (B1 && B2)) = !F by
          rw [← hF, hnot]
          cases PB with
          | false => rfl
          | true =>
            rw [decide_eq_true (show -1 < t by have := hp0 rfl; omega)]
            cases decide (t < r.floor) <;> cases B1 <;> cases B2 <;> rfl)
        replace tr := Lib.hid tr
        replace hB1 := Lib.hid hB1
        replace hB2 := Lib.hid hB2
        clear hst0 hlT i1 i2 hF hz0 e1 hr h0 hPB hp0 hnot hne
        have k1 := b1.cell
        have f1 := b1.frozen
        go_upto_region 6 with (fail)
        clear k1 f1
        refine wp_cutB W (Bc w.heap.size #[.string r.name, .int .i64 r.eps, .int .i64 r.floor, .int .i64 r.last, .int .i64 r.scale, .slice (some ⟨b, o, none⟩) r.pts.length cap] 35 <| Bc W.heap.size #[.int .i64 t, .int .i64 y] 58 <| Rc (fun W' => PtsP W' b o r.pts) <| Bz) ?_ (hI := by exact belowAny) (hR := (Bc.mk (by exact blkAny2) <| Bc.mk (by exact blkAny2) <| Rc.mk (by first | exact hI | exact hI.below belowAny) <| trivial))
        clear b1
        rintro W21 hW z22 hL
        obtain ⟨⟨b1, yb1, k1, f1⟩, ⟨b2, yb2, k2, f2⟩, b3, -⟩ := id hL
        clear k1 f1 k2 f2
        refine wp_regQ 41 93 hW hL ?_
        refine dE (fun W' hC => aI E0.out (aI E2.out (aI hB1.out (aI hB2.out (aI hlt (aI (Nat.not_le.2 hlt) (hC.2.2.2.1.cellAt tr.out))))))) ?_
        refine cE (fun W' hC => aI E0.out (aI E2.out (aI hB1.out (aI hB2.out (aI hlt (aI (Nat.not_le.2 hlt) (hC.2.2.2.1.cellAt tr.out))))))) (fun W' hC => cP.out W') ?_
        iterate 2 refine dE (fun W' hC => aI E0.out (aI E2.out (aI hB1.out (aI hB2.out (aI hlt (aI (Nat.not_le.2 hlt) (hC.2.2.2.1.cellAt tr.out))))))) ?_
        iterate 5 refine gE (fun W' hC => aI E0.out (aI E2.out (aI hB1.out (aI hB2.out (aI hlt (aI (Nat.not_le.2 hlt) (hC.2.2.2.1.cellAt tr.out))))))) ?_
        refine pO ?_
        refine dE (fun W' hC => aI E0.out (aI E2.out (aI hB1.out (aI hB2.out (aI hlt (aI (Nat.not_le.2 hlt) (hC.2.2.2.1.cellAt tr.out))))))) ?_
        iterate 3 refine gE (fun W' hC => aI E0.out (aI E2.out (aI hB1.out (aI hB2.out (aI hlt (aI (Nat.not_le.2 hlt) (hC.2.2.2.1.cellAt tr.out))))))) ?_
        apply nd_detg (c := undef) (hg := rfl) (hd := rfl) (hal := rfl)
        · intro v W' h
          exact h
        · intro hp hx
          cases hx
        apply nd_detg (c := undef) (hg := rfl) (hd := rfl) (hal := rfl)
        · intro v W' h
          exact h
        · intro hp hx
          cases hx
        apply nd_detg (c := undef) (hg := rfl) (hd := rfl) (hal := rfl)
        · intro v W' h
          exact h
        · intro hp hx
          cases hx
        apply nd_detg (c := undef) (hg := rfl) (hd := rfl) (hal := rfl)
        · intro v W' h
          exact h
        · intro hp hx
          cases hx
        apply nd_detg (c := undef) (hg := rfl) (hd := rfl) (hal := rfl)
        · intro v W' h
          exact h
        · intro hp hx
          cases hx
        apply nd_detg (c := undef) (hg := rfl) (hd := rfl) (hal := rfl)
        · intro v W' h
          exact h
        · intro hp hx
          cases hx
        apply nd_detg (c := undef) (hg := rfl) (hd := rfl) (hal := rfl)
        · intro v W' h
          exact h
        · intro hp hx
          cases hx
        apply nd_detg (c := undef) (hg := rfl) (hd := rfl) (hal := rfl)
        · intro v W' h
          exact h
        · intro hp hx
          cases hx
        apply nd_detg (c := undef) (hg := rfl) (hd := rfl) (hal := rfl)
        · intro v W' h
          exact h
        · intro hp hx
          cases hx
        apply nd_detg (c := undef) (hg := rfl) (hd := rfl) (hal := rfl)
        · intro v W' h
          exact h
        · intro hp hx
          cases hx
        apply nd_pickg_and (p := true) (x := false) (y := false) (ho := rfl) (hg := rfl) (hd := rfl)
        · intro v W' h
          simp [envOf, Det, GDet] at h
          simp
          exact h
        · intro _ hx v W' h
          simp [envOf, Det, GDet, hx] at h
          exact h
        · intro _ hx v W' h hy
          cases hy
        refine pO ?_
        refine dE (fun W' hC => aI E0.out (aI E2.out (aI hB1.out (aI hB2.out (aI hlt (aI (Nat.not_le.2 hlt) (hC.2.2.2.1.cellAt tr.out))))))) ?_
        iterate 7 refine gE (fun W' hC => aI E0.out (aI E2.out (aI hB1.out (aI hB2.out (aI hlt (aI (Nat.not_le.2 hlt) (hC.2.2.2.1.cellAt tr.out))))))) ?_
        iterate 5 refine gF (fun W' hC => aI E0.out (aI E2.out (aI hB1.out (aI hB2.out (aI hlt (aI (Nat.not_le.2 hlt) (hC.2.2.2.1.cellAt tr.out))))))) ?_
        refine pgA ?_
        refine pO ?_
        clear hW hL b1 b2 b3
        rintro W23 hW z24 hL
        simp only [ndR]
        intros
        repeat (rename GDet _ _ _ _ => hgd; clear hgd)
        simp only [ndS]
        refine wpList_nil ?_
        obtain ⟨⟨b1, yb1, k1, f1⟩, ⟨b2, yb2, k2, f2⟩, b3, -⟩ := hL
        rw [hv.out]
        cases F with
        | false =>
          go_wp2
          go_ret
          exact ⟨by rw [hno.out (by trivial)]; rfl, by exact belowAny⟩
        | true =>
          go_wp2
          rw [show (i : Int) + 1 = ((i + 1 : Nat) : Int) by omega]
          refine ⟨?_, by simp [intAt]; omega⟩
          unfold rrRel
          exact ⟨hW0.trans (hW.mono hz), b1, i + 1, frame_ex rfl, hst.out (by trivial), by omega, fun e => hl9.out (by trivial) e⟩
      · obtain ⟨j, hj⟩ : ∃ j, i = j + 1 := ⟨i - 1, by omega⟩
        obtain ⟨⟨x, y2⟩, ty⟩ : ∃ r', r.pts[j]? = some r' := ⟨r.pts[j]'(by omega), List.getElem?_eq_getElem (by omega)⟩
        obtain rfl : x = z := by rw [← hz0, hj, List.take_add_one, ty, Option.toList_some, List.map_append, List.map_cons, List.map_nil]; exact (lastOr_snoc _ _ _).symm
        have E0 := Lib.hid (show decide (0 < i) = true from decide_eq_true (by omega))
        have E1 := Lib.hid (show wrap64 ((i : Int) - 1) = (j : Int) by rw [wrap64_eq]; omega)
        have g1 : j < r.pts.length := by omega
        have hv := Lib.hid (show (!PB || decide (t < r.floor) || decide (t ≤ x) || (B1 && B2)) = !F by
          rw [← hF, hnot, show decide (x < t) = !decide (t ≤ x) by rw [Bool.eq_iff_iff]; simp]
          cases PB <;> cases decide (t < r.floor) <;> cases decide (t ≤ x) <;> cases B1 <;> cases B2 <;> rfl)
        have tj := Lib.hid ty
        replace tr := Lib.hid tr
        replace hB1 := Lib.hid hB1
        replace hB2 := Lib.hid hB2
        clear hst0 hlT i1 i2 hF hz0 e1 hr h0 ty hj hPB hp0 hnot hne
        have k1 := b1.cell
        have f1 := b1.frozen
        go_upto_region 6 with (fail)
        clear k1 f1
        refine wp_cutB W (Bc w.heap.size #[.string r.name, .int .i64 r.eps, .int .i64 r.floor, .int .i64 r.last, .int .i64 r.scale, .slice (some ⟨b, o, none⟩) r.pts.length cap] 35 <| Bc W.heap.size #[.int .i64 t, .int .i64 y] 58 <| Rc (fun W' => PtsP W' b o r.pts) <| Bz) ?_ (hI := by exact belowAny) (hR := (Bc.mk (by exact blkAny2) <| Bc.mk (by exact blkAny2) <| Rc.mk (by first | exact hI | exact hI.below belowAny) <| trivial))
        clear b1
        rintro W21 hW z22 hL
        obtain ⟨⟨b1, yb1, k1, f1⟩, ⟨b2, yb2, k2, f2⟩, b3, -⟩ := id hL
        clear k1 f1 k2 f2
        refine wp_regQ 41 93 hW hL ?_
        refine dE (fun W' hC => aI E0.out (aI E2.out (aI hB1.out (aI hB2.out (aI hlt (aI (Nat.not_le.2 hlt) (aI (hC.2.2.2.1.cellAt tr.out) (aI E1.out (aI g1 (aI (Nat.not_le.2 g1) (hC.2.2.2.1.cellAt tj.out))))))))))) ?_
        refine cE (fun W' hC => aI E0.out (aI E2.out (aI hB1.out (aI hB2.out (aI hlt (aI (Nat.not_le.2 hlt) (aI (hC.2.2.2.1.cellAt tr.out) (aI E1.out (aI g1 (aI (Nat.not_le.2 g1) (hC.2.2.2.1.cellAt tj.out))))))))))) (fun W' hC => cP.out W') ?_
        iterate 2 refine dE (fun W' hC => aI E0.out (aI E2.out (aI hB1.out (aI hB2.out (aI hlt (aI (Nat.not_le.2 hlt) (aI (hC.2.2.2.1.cellAt tr.out) (aI E1.out (aI g1 (aI (Nat.not_le.2 g1) (hC.2.2.2.1.cellAt tj.out))))))))))) ?_
        iterate 5 refine gE (fun W' hC => aI E0.out (aI E2.out (aI hB1.out (aI hB2.out (aI hlt (aI (Nat.not_le.2 hlt) (aI (hC.2.2.2.1.cellAt tr.out) (aI E1.out (aI g1 (aI (Nat.not_le.2 g1) (hC.2.2.2.1.cellAt tj.out))))))))))) ?_
        refine pO ?_
        refine dE (fun W' hC => aI E0.out (aI E2.out (aI hB1.out (aI hB2.out (aI hlt (aI (Nat.not_le.2 hlt) (aI (hC.2.2.2.1.cellAt tr.out) (aI E1.out (aI g1 (aI (Nat.not_le.2 g1) (hC.2.2.2.1.cellAt tj.out))))))))))) ?_
        iterate 3 refine gE (fun W' hC => aI E0.out (aI E2.out (aI hB1.out (aI hB2.out (aI hlt (aI (Nat.not_le.2 hlt) (aI (hC.2.2.2.1.cellAt tr.out) (aI E1.out (aI g1 (aI (Nat.not_le.2 g1) (hC.2.2.2.1.cellAt tj.out))))))))))) ?_
        iterate 10 refine gF (fun W' hC => aI E0.out (aI E2.out (aI hB1.out (aI hB2.out (aI hlt (aI (Nat.not_le.2 hlt) (aI (hC.2.2.2.1.cellAt tr.out) (aI E1.out (aI g1 (aI (Nat.not_le.2 g1) (hC.2.2.2.1.cellAt tj.out))))))))))) ?_
        refine pgA ?_
        refine pO ?_
        refine dE (fun W' hC => aI E0.out (aI E2.out (aI hB1.out (aI hB2.out (aI hlt (aI (Nat.not_le.2 hlt) (aI (hC.2.2.2.1.cellAt tr.out) (aI E1.out (aI g1 (aI (Nat.not_le.2 g1) (hC.2.2.2.1.cellAt tj.out))))))))))) ?_
        iterate 7 refine gE (fun W' hC => aI E0.out (aI E2.out (aI hB1.out (aI hB2.out (aI hlt (aI (Nat.not_le.2 hlt) (aI (hC.2.2.2.1.cellAt tr.out) (aI E1.out (aI g1 (aI (Nat.not_le.2 g1) (hC.2.2.2.1.cellAt tj.out))))))))))) ?_
        iterate 5 refine gF (fun W' hC => aI E0.out (aI E2.out (aI hB1.out (aI hB2.out (aI hlt (aI (Nat.not_le.2 hlt) (aI (hC.2.2.2.1.cellAt tr.out) (aI E1.out (aI g1 (aI (Nat.not_le.2 g1) (hC.2.2.2.1.cellAt tj.out))))))))))) ?_
        refine pgA ?_
        refine pO ?_
        clear hW hL b1 b2 b3
        rintro W23 hW z24 hL
        simp only [ndR]
        intros
        repeat (rename GDet _ _ _ _ => hgd; clear hgd)
        simp only [ndS]
        refine wpList_nil ?_
        obtain ⟨⟨b1, yb1, k1, f1⟩, ⟨b2, yb2, k2, f2⟩, b3, -⟩ := hL
        rw [hv.out]
        cases F with
        | false =>
          go_wp2
          go_ret
          exact ⟨by rw [hno.out (by trivial)]; rfl, by exact belowAny⟩
        | true =>
          go_wp2
          rw [show (i : Int) + 1 = ((i + 1 : Nat) : Int) by omega]
          refine ⟨?_, by simp [intAt]; omega⟩
          unfold rrRel
          exact ⟨hW0.trans (hW.mono hz), b1, i + 1, frame_ex rfl, hst.out (by trivial), by omega, fun e => hl9.out (by trivial) e⟩
    · obtain rfl : i = r.pts.length := by omega
      rw [List.take_length] at hr
      have hres := Lib.hid (show rawB r = true by rw [hck.out, hr, hl9 rfl]; rfl)
      clear hr hl9 hck
      go_wp2
      go_ret
      exact ⟨by rw [hres.out]; rfl, by exact belowAny⟩
end Go.Proofs.YtdeghcgakkhbmaaGreat
namespace Go.Proofs.YtdeghcgakkhbmaaGreat
open Go.RowKit
theorem ite_ne3 {a b c d : Int} {w : World} : ((if a = b then (if c = d then Result.ok (Go.Next.value (Value.bool false)) w else Result.ok (Go.Next.value (Value.bool true)) w) else Result.ok (Go.Next.value (Value.bool true)) w) : Result Go.Next) = Result.ok (Go.Next.value (Value.bool (!(decide (a = b) && decide (c = d))))) w := by
  by_cases h1 : a = b <;> by_cases h2 : c = d <;> simp [h1, h2]

/-- the same raw series -/
def sameR (s t : RawT) : Bool := (s.name.toList == t.name.toList) && (s.eps == t.eps) && (s.floor == t.floor) && (s.last == t.last) && (s.scale == t.scale) && decide (s.pts = t.pts)
theorem sameR_refl (s : RawT) : sameR s s = true := by simp [sameR]
def smrRel (w : World) (s t : RawT) (po1 po2 : Option Addr) (co1 co2 : Nat) (a' : Act) (W : World) : Prop :=
  Below w.heap.size w W ∧ Blk W w.heap.size #[.string s.name, .int .i64 s.eps, .int .i64 s.floor, .int .i64 s.last, .int .i64 s.scale, .slice po1 s.pts.length co1] 35 ∧ Blk W (w.heap.size + 1) #[.string t.name, .int .i64 t.eps, .int .i64 t.floor, .int .i64 t.last, .int .i64 t.scale, .slice po2 t.pts.length co2] 35 ∧ ∃ i : Nat, (∃ u : Nat → Value, a' = { tmps := #[u 0, u 1, .pointer (some ⟨w.heap.size, 0, none⟩), .pointer (some ⟨w.heap.size + 1, 0, none⟩), .bool false, u 5, u 6, u 7, u 8, u 9, u 10, u 11, u 12, u 13, u 14, u 15, u 16, u 17, u 18, u 19, u 20, u 21, u 22, u 23, u 24, u 25, u 26, u 27, u 28, u 29, u 30, u 31, u 32, u 33, u 34, u 35, u 36, u 37, u 38, u 39, u 40, u 41, u 42, u 43, u 44, u 45, u 46, u 47, u 48, u 49, .int .i64 (s.pts.length : Int), .int .i64 (i : Int), u 52, u 53, u 54, u 55, u 56, u 57, u 58, u 59, u 60, u 61, u 62, u 63, u 64, u 65], defers := [] }) ∧ i ≤ s.pts.length ∧ ∀ k, k < i → s.pts[k]? = t.pts[k]?
set_option maxRecDepth 100000 in
set_option maxHeartbeats 2000000 in
theorem c_ref28SameRaw (s t : RawT) (po1 po2 : Option Addr) (co1 co2 : Nat) (w : World) (h : PtsIn w po1 s.pts) (h' : PtsIn w po2 t.pts) (hls : s.pts.length ≤ 2000) (hlt : t.pts.length ≤ 2000) :
    Calls Tryz.prog 28 #[.agg (rawA s po1 co1), .agg (rawA t po2 co2)] w fun e w' => e = .returned (.bool (sameR s t)) ∧ Below w.heap.size w w' := by
  unfold rawA sameR
  obtain ⟨RES, hRES⟩ : ∃ b, ((s.name.toList == t.name.toList) && (s.eps == t.eps) && (s.floor == t.floor) && (s.last == t.last) && (s.scale == t.scale) && decide (s.pts = t.pts)) = b := ⟨_, rfl⟩
  rw [hRES]
  replace hRES := Lib.hid hRES
  go_enter Tryz.func28, Tryz.ntmps28
  go_upto_region 1 with (fail)
  refine wp_cutB w (Bc w.heap.size #[.string s.name, .int .i64 s.eps, .int .i64 s.floor, .int .i64 s.last, .int .i64 s.scale, .slice po1 s.pts.length co1] 35 <| Bc (w.heap.size + 1) #[.string t.name, .int .i64 t.eps, .int .i64 t.floor, .int .i64 t.last, .int .i64 t.scale, .slice po2 t.pts.length co2] 35 <| Bz) ?_
  rintro W1 hW z2 hL
  refine wp_regS 42 66 hW hL ?_
  iterate 6 refine dA ?_
  iterate 5 refine gA ?_
  refine pO ?_
  refine dA ?_
  iterate 5 refine gA ?_
  refine pO ?_
  refine dA ?_
  iterate 5 refine gA ?_
  refine pO ?_
  refine dA ?_
  iterate 5 refine gA ?_
  refine pO ?_
  refine dA ?_
  iterate 7 refine gA ?_
  refine pO ?_
  clear hW hL
  rintro W3 hW z4 hL
  simp only [ndR]
  intros
  repeat (rename GDet _ _ _ _ => hgd; clear hgd)
  simp only [ndS]
  refine wpList_nil ?_
  obtain ⟨⟨b1, yb1, k1, f1⟩, ⟨b2, yb2, k2, f2⟩, -⟩ := hL
  obtain ⟨F, hF⟩ : ∃ F, (!s.name.toList == t.name.toList || s.eps != t.eps || s.floor != t.floor || s.last != t.last || s.scale != t.scale || (s.pts.length : Int) != (t.pts.length : Int)) = F := ⟨_, rfl⟩
  rw [hF]
  simp only [Exit.then]
  have y1 := b1.lt
  have y2 := b2.lt
  cases F with
  | true =>
    have hs : RES = false := by
      rw [← hRES.out, Bool.eq_false_iff]
      intro hx
      simp only [Bool.and_eq_true, beq_iff_eq, decide_eq_true_eq] at hx
      obtain ⟨⟨⟨⟨⟨h1, h2⟩, h3⟩, h4⟩, h5⟩, h7⟩ := hx
      simp [h1, h2, h3, h4, h5, h7] at hF
    clear hF hRES
    replace hs := Lib.hid hs
    go_wp2
    go_ret
    exact ⟨by rw [hs.out]; rfl, hW⟩
  | false =>
    have hs : RES = decide (s.pts = t.pts) ∧ s.pts.length = t.pts.length := by
      simp only [Bool.or_eq_false_iff, Bool.not_eq_false', bne_eq_false_iff_eq] at hF
      obtain ⟨⟨⟨⟨⟨h1, h2⟩, h3⟩, h4⟩, h5⟩, h7⟩ := hF
      refine ⟨?_, by omega⟩
      rw [← hRES.out, h1]
      simp [h2, h3, h4, h5]
    obtain ⟨hs, hl⟩ := hs
    clear hF hRES
    replace hl := Lib.hid hl
    replace hs := Lib.hid hs
    go_wp2
    refine wp_loop (smrRel w s t po1 po2 co1 co2) (fun a' _ => s.pts.length - (intAt (a'.tmps.getD 51 undef)).toNat) ?_ ?_
    · unfold smrRel
      exact ⟨hW, b1, b2, 0, frame_ex rfl, by omega, fun k hk => by omega⟩
    clear b1 b2 hW k1 k2 f1 f2
    rintro a' W ⟨hW0, b1, b2, i, ⟨u, rfl⟩, hi, hall⟩
    have hz := hW0.size
    have zb1 := b1.lt
    have zb2 := b2.lt
    replace hall := Lib.hid hall
    rcases Nat.lt_or_ge i s.pts.length with hlt9 | hge
    · obtain ⟨r, tr⟩ : ∃ r, s.pts[i]? = some r := ⟨s.pts[i]'(by omega), List.getElem?_eq_getElem (by omega)⟩
      obtain ⟨q, tq⟩ : ∃ q, t.pts[i]? = some q := ⟨t.pts[i]'(by have := hl.out; omega), List.getElem?_eq_getElem (by have := hl.out; omega)⟩
      have hA0 := h.below hW0
      have hB0 := h'.below hW0
      obtain ⟨b1', o1, rfl, -⟩ := hA0.at' i r tr
      obtain ⟨b2', o2, rfl, -⟩ := hB0.at' i q tq
      have hA : PtsP W b1' o1 s.pts := ⟨hA0⟩
      have hB : PtsP W b2' o2 t.pts := ⟨hB0⟩
      clear hA0 hB0
      replace tr := Lib.hid tr
      replace tq := Lib.hid tq
      have l1 := hlt9
      have l2 : i < t.pts.length := by have := hl.out; omega
      go_upto_region 6 with (fail)
      refine wp_cutB W (Bc w.heap.size #[.string s.name, .int .i64 s.eps, .int .i64 s.floor, .int .i64 s.last, .int .i64 s.scale, .slice (some ⟨b1', o1, none⟩) s.pts.length co1] 35 <| Bc (w.heap.size + 1) #[.string t.name, .int .i64 t.eps, .int .i64 t.floor, .int .i64 t.last, .int .i64 t.scale, .slice (some ⟨b2', o2, none⟩) t.pts.length co2] 35 <| Rc (fun W' => PtsP W' b1' o1 s.pts) <| Rc (fun W' => PtsP W' b2' o2 t.pts) <| Bz) ?_ (hI := by exact belowAny) (hR := (Bc.mk (by exact blkAny2) <| Bc.mk (by exact blkAny2) <| Rc.mk (by first | exact hA | exact hA.below belowAny) <| Rc.mk (by first | exact hB | exact hB.below belowAny) <| trivial))
      clear b1 b2
      rintro W21 hW z22 hL
      obtain ⟨⟨b1, yb1, k1, f1⟩, ⟨b2, yb2, k2, f2⟩, b3, b4, -⟩ := id hL
      clear k1 f1 k2 f2
      refine wp_regQ 11 66 hW hL ?_
      iterate 11
        apply nd_det (hg := rfl) (hal := rfl)
        · intro a W' hC hE
          obtain ⟨_, ⟨-, -, k1, -⟩, ⟨-, -, k2, -⟩, k3, k4, -⟩ := hC
          obtain ⟨q0, q1⟩ := k3.cellAt tr.out; obtain ⟨q2, q3⟩ := k4.cellAt tq.out
          first
            | (simp [Oper.looksAt, Op.operands, Call.operands, envOf, Det] at hE; simp [go_sem, Act.eval, IntWalk.i64_left, hE, k1, k2, k3, k4, q0, q1, q2, q3, l1, l2, ite_ne3]; try rfl)
            | (clear hE; simp [go_sem, Act.eval, IntWalk.i64_left, k1, k2, k3, k4, q0, q1, q2, q3, l1, l2, ite_ne3]; try rfl)
      clear hW hL b1 b2 b3 b4
      rintro W23 hW z24 hL
      simp only [ndR]
      intros
      simp only [ndS]
      refine wpList_nil ?_
      obtain ⟨⟨b1, yb1, k1, f1⟩, ⟨b2, yb2, k2, f2⟩, b3, b4, -⟩ := hL
      by_cases hrq : r = q
      · have hall' := Lib.hid (show ∀ k, k < i + 1 → s.pts[k]? = t.pts[k]? from fun k hk => by
          rcases Nat.lt_or_ge k i with h | h
          · exact hall.out k h
          · obtain rfl : k = i := by omega
            rw [tr.out, tq.out, hrq])
        rw [show (!decide (r.1 = q.1) || !decide (r.2 = q.2)) = false by subst hrq; simp]
        clear hrq
        go_wp2
        rw [show (i : Int) + 1 = ((i + 1 : Nat) : Int) by omega]
        refine ⟨?_, by simp [intAt]; omega⟩
        unfold smrRel
        exact ⟨hW0.trans (hW.mono hz), b1, b2, i + 1, frame_ex rfl, by omega, hall'.out⟩
      · have hne := Lib.hid (show decide (s.pts = t.pts) = false by
          rw [decide_eq_false_iff_not]
          intro e
          have h1 := tr.out
          rw [e, tq.out] at h1
          exact hrq (Option.some.inj h1).symm)
        rw [show (!decide (r.1 = q.1) || !decide (r.2 = q.2)) = true by
          obtain ⟨r1, r2⟩ := r
          obtain ⟨q1, q2⟩ := q
          simp at hrq
          by_cases h1 : r1 = q1
          · simp [h1, hrq h1]
          · simp [h1]]
        clear hrq
        go_wp2
        go_ret
        exact ⟨by rw [hs.out, hne.out]; rfl, hW0.trans (hW.mono hz)⟩
    · obtain rfl : i = s.pts.length := by omega
      have heq := Lib.hid (show decide (s.pts = t.pts) = true by
        rw [decide_eq_true_eq]
        apply List.ext_getElem?
        intro k
        rcases Nat.lt_or_ge k s.pts.length with h | h
        · exact hall.out k h
        · rw [List.getElem?_eq_none h, List.getElem?_eq_none (by have := hl.out; omega)])
      go_wp2
      go_ret
      exact ⟨by rw [hs.out, heq.out]; rfl, hW0⟩
end Go.Proofs.YtdeghcgakkhbmaaGreat
namespace Go.Proofs.YtdeghcgakkhbmaaGreat
open Go.RowKit
/-- The place of a name in a model; -1: there is none. -/
def atR (rows : List RawT) (nm : ByteArray) : Int := match rows.findIdx? (fun r => r.name.toList == nm.toList) with
  | some i => (i : Int)
  | none => -1
def NoneB (rows : List RawT) (nm : ByteArray) (i : Nat) : Prop := ∀ k r, k < i → rows[k]? = some r → (r.name.toList == nm.toList) = false
theorem atR_here {rows : List RawT} {nm : ByteArray} {i : Nat} {r : RawT} (h : NoneB rows nm i) (hr : rows[i]? = some r) (he : (r.name.toList == nm.toList) = true) : atR rows nm = (i : Int) := by
  obtain ⟨hl, hg⟩ := List.getElem?_eq_some_iff.1 hr
  unfold atR
  rw [(List.findIdx?_eq_some_iff_getElem).2 ⟨hl, by rw [hg]; exact he, fun j hj => by
    have := h j _ hj (List.getElem?_eq_getElem (by omega))
    simp only [this]
    decide⟩]
theorem atR_next {rows : List RawT} {nm : ByteArray} {i : Nat} {r : RawT} (h : NoneB rows nm i) (hr : rows[i]? = some r) (he : (r.name.toList == nm.toList) = false) : NoneB rows nm (i + 1) := fun k q hk hq => by
  rcases Nat.lt_or_ge k i with h1 | h1
  · exact h k q h1 hq
  · obtain rfl : k = i := by omega
    rw [hr] at hq
    obtain rfl := Option.some.inj hq
    exact he
theorem atR_none {rows : List RawT} {nm : ByteArray} {i : Nat} (h : NoneB rows nm i) (hi : rows.length ≤ i) : atR rows nm = -1 := by
  unfold atR
  rw [List.findIdx?_eq_none_iff.2 fun x hx => by
    obtain ⟨k, hk⟩ := List.getElem?_of_mem hx
    have := (List.getElem?_eq_some_iff.1 hk).1
    exact h k x (by omega) hk]
def matRel (w : World) (p : Option Addr) (cap : Nat) (rows : List RawT) (nm : ByteArray) (a' : Act) (W : World) : Prop :=
  Below w.heap.size w W ∧ Blk W w.heap.size #[.slice p rows.length cap] 27 ∧ ∃ i : Nat, (∃ u : Nat → Value, a' = { tmps := #[u 0, .string nm, .pointer (some ⟨w.heap.size, 0, none⟩), u 3, .int .i64 0, u 5, u 6, u 7, .slice p rows.length cap, .int .i64 (rows.length : Int), .int .i64 (i : Int), u 11, u 12, u 13, u 14, u 15, u 16, u 17, u 18, u 19, u 20], defers := [] }) ∧ NoneB rows nm i ∧ i ≤ rows.length
set_option maxRecDepth 100000 in
set_option maxHeartbeats 2000000 in
theorem c_ref28At (p : Option Addr) (cap : Nat) (rows : List RawT) (nm : ByteArray) (w : World) (h : RawsIn w p rows) (hmx : rows.length ≤ 9223372036854775807) :
    Calls Tryz.prog 34 #[.agg #[.slice p rows.length cap], .string nm] w fun e w' => e = .returned (.int .i64 (atR rows nm)) ∧ Below w.heap.size w w' := by
  obtain ⟨RES, hRES⟩ : ∃ x, atR rows nm = x := ⟨_, rfl⟩
  rw [hRES]
  replace hRES := Lib.hid hRES
  go_enter Tryz.func34, Tryz.ntmps34
  go_upto_region 1 with (fail)
  refine wp_cutB w (Bc w.heap.size #[.slice p rows.length cap] 27 <| Bz) ?_
  rintro W1 hW z2 ⟨⟨b1, yb1, k1, f1⟩, -⟩
  go_wp2
  clear k1 f1
  refine wp_loop (matRel w p cap rows nm) (fun a' _ => rows.length - (intAt (a'.tmps.getD 10 undef)).toNat) ?_ ?_
  · unfold matRel
    exact ⟨hW, b1, 0, frame_ex rfl, fun k r hk => by omega, Nat.zero_le _⟩
  clear b1 hW
  rintro a' W ⟨hW, b1, i, ⟨u, rfl⟩, hi, hi'⟩
  have hz := hW.size
  have yb1 := b1.lt
  rcases Nat.lt_or_ge i rows.length with hlt | hge
  · obtain ⟨r0, tr⟩ : ∃ x, rows[i]? = some x := ⟨rows[i]'(by omega), List.getElem?_eq_getElem (by omega)⟩
    have hR := h.below hW
    obtain ⟨b0, o0, p0, c0, rfl, hcs, hps, hpc⟩ := hR.at' i _ tr
    have q0 : W.cell? ⟨b0, o0 + i * 6, none⟩ = some (.string r0.name) := hcs 0 _ rfl
    have q1 : W.cell? ⟨b0, o0 + i * 6 + 1, none⟩ = some (.int .i64 r0.eps) := hcs 1 _ rfl
    have q2 : W.cell? ⟨b0, o0 + i * 6 + 2, none⟩ = some (.int .i64 r0.floor) := hcs 2 _ rfl
    have q3 : W.cell? ⟨b0, o0 + i * 6 + 3, none⟩ = some (.int .i64 r0.last) := hcs 3 _ rfl
    have q4 : W.cell? ⟨b0, o0 + i * 6 + 4, none⟩ = some (.int .i64 r0.scale) := hcs 4 _ rfl
    have q5 : W.cell? ⟨b0, o0 + i * 6 + 5, none⟩ = some (.slice p0 r0.pts.length c0) := hcs 5 _ rfl
    have zq := cell_lt q0
    try simp only at zq
    clear hcs
    have k1 := b1.cell
    have f1 := b1.frozen
    clear h
    go_upto_region 4 with (fail)
    clear k1 f1
    refine wp_cutB w (Bc w.heap.size #[.slice (some ⟨b0, o0, none⟩) rows.length cap] 27 <| Bc W.heap.size #[.string r0.name, .int .i64 r0.eps, .int .i64 r0.floor, .int .i64 r0.last, .int .i64 r0.scale, .slice p0 r0.pts.length c0] 35 <| Bz) ?_
    clear b1 hW
    rintro W21 hW z22 ⟨⟨b1, yb1, k1, f1⟩, ⟨b2, yb2, k2, f2⟩, -⟩
    clear q0 q1 q2 q3 q4 q5
    cases hE : (r0.name.toList == nm.toList) with
    | true =>
      have hres := Lib.hid (atR_here hi tr hE)
      go_wp2
      go_ret
      exact ⟨by rw [← hRES.out, hres.out]; rfl, by exact belowAny⟩
    | false =>
      have hnext := Lib.hid (atR_next hi tr hE)
      clear hi
      go_wp2
      have hw1 : wrap64 ((i : Int) + 1) = (i : Int) + 1 := by simp only [wrap64_eq]; omega
      try simp only [hw1]
      clear hmx hw1
      refine ⟨?_, by simp [intAt]; omega⟩
      unfold matRel
      exact ⟨hW, b1, i + 1, frame_ex rfl, hnext.out, hlt⟩
  · have hres := Lib.hid (atR_none hi hge)
    have hlen : rows.length ≤ i := hge
    clear hi
    go_wp2
    go_ret
    exact ⟨by rw [← hRES.out, hres.out]; rfl, by exact belowAny⟩
end Go.Proofs.YtdeghcgakkhbmaaGreat
