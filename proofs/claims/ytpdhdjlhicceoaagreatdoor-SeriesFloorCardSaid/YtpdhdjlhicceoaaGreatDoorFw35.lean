/- Parts of the proof that follows: Layer series: goes: a series in memory of its own, and what is done to it. No condition. -/
import Derived.Test.YtpdhdjlhicceoaaGreatDoorFw34
set_option linter.unusedSimpArgs false
set_option linter.unusedVariables false
namespace Go.Proofs.YtpdhdjlhicceoaaGreatDoor
open Go.RowKit
def MadeS (B n : Nat) : Spec := fun v w => ∃ g cur, v = .slice (some ⟨g, 0, none⟩) n n ∧ B ≤ g ∧ Blk w g cur 49 ∧ cur.size = n * 8
def MadeP (B n : Nat) : Spec := fun v w => ∃ g cur, v = .slice (some ⟨g, 0, none⟩) n n ∧ B ≤ g ∧ Blk w g cur 53 ∧ cur.size = n * 2
theorem MadeS.closed (B n : Nat) : Closed [] (MadeS B n) := fun _ _ _ hr ⟨g, c, e, h1, h, h2⟩ => ⟨g, c, e, h1, h.rex hr (by simp), h2⟩
theorem MadeS.closedL (B n : Nat) {L : List Nat} (hL : ∀ x, x ∈ L → x < B) : Closed L (MadeS B n) := fun _ _ _ hr ⟨g, c, e, h1, h, h2⟩ => ⟨g, c, e, h1, h.rex hr fun hm => by have := hL _ hm; omega, h2⟩
theorem MadeP.closedL (B n : Nat) {L : List Nat} (hL : ∀ x, x ∈ L → x < B) : Closed L (MadeP B n) := fun _ _ _ hr ⟨g, c, e, h1, h, h2⟩ => ⟨g, c, e, h1, h.rex hr fun hm => by have := hL _ hm; omega, h2⟩
set_option maxRecDepth 100000 in
set_option maxHeartbeats 2000000 in
theorem make_segs (n : Nat) (hn : n ≤ 1000) : ∃ C : Array Value, C.size = n * 8 ∧ ∀ W, (Instr.makeSlice 23 (.int .i64 (n : Int)) (.int .i64 (n : Int))).run Tryz.prog W = .ok (.slice (some ⟨W.heap.size, 0, none⟩) n n) (W.alloc (.cells C 49)) := by
  obtain ⟨i, hi, hz0, hz1, hz2⟩ := info_parts Tryz.infoSeg
  refine ⟨madeCells #[.int .i64 0, .slice none 0 0, .int .i64 0, .int .i64 0, .int .i64 0, .int .i64 0, .slice none 0 0, .int .i64 0] (n * 8), ?_, fun W => ?_⟩
  rotate_left
  · have := run_make (P := Tryz.prog) W 23 49 i _ rfl hi hz0 .i64 .i64 (n : Int) (n : Int) (by omega) (by omega) (by rw [hz2]; omega) (by omega)
    simpa [hz1, Value.cells] using this
  · simp [size_madeCells]
set_option maxRecDepth 100000 in
set_option maxHeartbeats 2000000 in
theorem make_pts9 (n : Nat) (hn : n ≤ 1000) : ∃ C : Array Value, C.size = n * 2 ∧ ∀ W, (Instr.makeSlice 24 (.int .i64 (n : Int)) (.int .i64 (n : Int))).run Tryz.prog W = .ok (.slice (some ⟨W.heap.size, 0, none⟩) n n) (W.alloc (.cells C 53)) := by
  obtain ⟨i, hi, hz0, hz1, hz2⟩ := info_parts Tryz.infoPt
  refine ⟨madeCells #[.int .i64 0, .int .i64 0] (n * 2), ?_, fun W => ?_⟩
  rotate_left
  · have := run_make (P := Tryz.prog) W 24 53 i _ rfl hi hz0 .i64 .i64 (n : Int) (n : Int) (by omega) (by omega) (by rw [hz2]; omega) (by omega)
    simpa [hz1, Value.cells] using this
  · simp [size_madeCells]
set_option maxRecDepth 100000 in
set_option maxHeartbeats 2000000 in
theorem goes_bad (s : SerT) (ps : Option Addr) (cs : Nat) (po : Option Addr) (co : Nat) (fv : Value) (CE : Int) (w : World) (hCE : (CE != 0) = true)
    (c1 : Hid (∀ W, Below w.heap.size w W → Calls Tryz.prog 32 #[.agg #[.string s.name, .int .i64 s.eps, .int .i64 s.floor, .int .i64 s.last, .int .i64 s.scale, .slice ps s.segs.length cs, .slice po s.opn.length co]] W fun e w' => e = .returned (.int .i64 CE) ∧ Below W.heap.size W w')) :
    Calls Tryz.prog 56 #[.agg #[.string s.name, .int .i64 s.eps, .int .i64 s.floor, .int .i64 s.last, .int .i64 s.scale, .slice ps s.segs.length cs, .slice po s.opn.length co], fv] w fun e w' => e = .returned (.tuple #[.agg #[.string { data := #[] }, .int .i64 0, .int .i64 0, .int .i64 0, .int .i64 0, .slice none 0 0, .slice none 0 0], .int .i64 CE]) ∧ Below w.heap.size w w' := by
  go_enter Tryz.func56, Tryz.ntmps56
  go_upto_region 1 with (fail)
  refine wp_cutB w (Bc w.heap.size #[.string s.name, .int .i64 s.eps, .int .i64 s.floor, .int .i64 s.last, .int .i64 s.scale, .slice ps s.segs.length cs, .slice po s.opn.length co] 26 <| Bc (w.heap.size + 1) #[.string .empty, .int .i64 0, .int .i64 0, .int .i64 0, .int .i64 0, .slice none 0 0, .slice none 0 0] 26 <| Bz) ?_
  rintro W1 hW z2 ⟨⟨b1, yb1, k1, f1⟩, ⟨b2, yb2, k2, f2⟩, -⟩
  go_wp2_with fail
  refine (c1.out _ hW).mono ?_
  rintro e w3 ⟨rfl, hb3⟩
  have z4 := hb3.size
  try simp at z4
  clear k1 f1 k2 f2
  refine haveB w w3 (Bc w.heap.size #[.string s.name, .int .i64 s.eps, .int .i64 s.floor, .int .i64 s.last, .int .i64 s.scale, .slice ps s.segs.length cs, .slice po s.opn.length co] 26 <| Bc (w.heap.size + 1) #[.string .empty, .int .i64 0, .int .i64 0, .int .i64 0, .int .i64 0, .slice none 0 0, .slice none 0 0] 26 <| Bz) ?_
  clear b1 b2 hW
  rintro hW z5 ⟨⟨b1, yb1, k1, f1⟩, ⟨b2, yb2, k2, f2⟩, -⟩
  clear hb3
  go_wp2
  refine bodyPost_ret (by simp [results, Tryz.results56, go_sem, k1, f1, k2, f2, yb1, yb2]) rfl ⟨rfl, by exact belowAny⟩
theorem clone_nilI (c : Nat) (w : World) : Calls Tryz.prog 46 #[.slice none 0 c] w (CloneI0 w none []) := by
  have hnil : ∀ W, (binOp .eql 47 (.slice none 0 c) (.slice none 0 0)).run Tryz.prog W = .ok (.bool true) W := fun W => by kernel_rfl
  go_enter Tryz.func46, Tryz.ntmps46
  go_wp2
  go_ret
  exact ⟨none, 0, rfl, belowAny, ⟨fun i r hr => by simp at hr⟩, by simp, fun a h => by cases h⟩
theorem clone_nilR (c : Nat) (w : World) : Calls Tryz.prog 45 #[.slice none 0 c] w (CloneR0 w none []) := by
  have hnil : ∀ W, (binOp .eql 44 (.slice none 0 c) (.slice none 0 0)).run Tryz.prog W = .ok (.bool true) W := fun W => by kernel_rfl
  go_enter Tryz.func45, Tryz.ntmps45
  go_wp2
  go_ret
  exact ⟨none, 0, rfl, belowAny, ⟨fun i r hr => by simp at hr⟩, by simp, fun a h => by cases h⟩
theorem goCloneI (p : Option Addr) (c : Nat) (l : List Int) (w : World) (B : Nat) (hB : B ≤ w.heap.size) (hl : l.length ≤ 300) (h : IntsIn w p l) : Calls Tryz.prog 46 #[.slice p l.length c] w fun e w' => ∃ v, e = .returned v ∧ Below w.heap.size w w' ∧ IntD B l.length l v w' := by
  cases p with
  | none =>
    obtain rfl : l = [] := by
      cases l with
      | nil => rfl
      | cons x l => obtain ⟨b, o, e, _⟩ := h.at' 0 x rfl; cases e
    exact (clone_nilI c w).mono fun e w' ⟨p', c', e1, h1, h2, h3, h4⟩ => ⟨_, e1, h1, p', c', rfl, h2, h3, fun a ha => ⟨Nat.le_trans hB (h4 a ha).1, (h4 a ha).2⟩⟩
  | some a =>
    exact (clone0Int_some a c l w hl h).mono fun e w' ⟨p', c', e1, h1, h2, h3, h4⟩ => ⟨_, e1, h1, p', c', rfl, h2, h3, fun a ha => ⟨Nat.le_trans hB (h4 a ha).1, (h4 a ha).2⟩⟩
theorem goCloneR (p : Option Addr) (c : Nat) (l : List RunT) (w : World) (B : Nat) (hB : B ≤ w.heap.size) (hl : l.length ≤ 300) (h : RunsIn w p l) : Calls Tryz.prog 45 #[.slice p l.length c] w fun e w' => ∃ v, e = .returned v ∧ Below w.heap.size w w' ∧ RunD B l.length l v w' := by
  cases p with
  | none =>
    obtain rfl : l = [] := by
      cases l with
      | nil => rfl
      | cons x l => obtain ⟨b, o, e, _⟩ := h.at' 0 x rfl; cases e
    exact (clone_nilR c w).mono fun e w' ⟨p', c', e1, h1, h2, h3, h4⟩ => ⟨_, e1, h1, p', c', rfl, h2, h3, fun a ha => ⟨Nat.le_trans hB (h4 a ha).1, (h4 a ha).2⟩⟩
  | some a =>
    exact (clone0Run_some a c l w hl h).mono fun e w' ⟨p', c', e1, h1, h2, h3, h4⟩ => ⟨_, e1, h1, p', c', rfl, h2, h3, fun a ha => ⟨Nat.le_trans hB (h4 a ha).1, (h4 a ha).2⟩⟩
theorem run_copy_nil9 {P : Program} (w : World) (dT sT ty elem : TypeId) (a : Addr) (dLen dCap c : Nat) (hu : P.underlying dT = some (.slice elem)) (hs : ((P.info? elem).map (·.size)).isSome = true) :
    (Builtin.copy_ #[dT, sT] ty #[.slice (some a) dLen dCap, .slice none 0 c]).run P w = .ok (goInt 0) w := by
  cases hq : P.info? elem with
  | none => simp [hq] at hs
  | some i => simp [Builtin.copy_, run_underlying hu, Builtin.lenOf, Builtin.firstCells, sizeOf, typeInfo, hq, storeCells]
/-- Segments of a row, each with the places of its runs and numbers. -/
theorem SegsIn.list {w : World} {ad : Addr} {rows : List SegT} (h : SegsIn w (some ad) rows) : ∃ RL : List SegR, RL.map (·.s) = rows ∧ (∀ j v, (flatSegs RL)[j]? = some v → w.cell? (ad.add j) = some v) ∧ ∀ x ∈ RL, SegIn w x.s x.p x.q ∧ x.s.raw.length ≤ x.vc := by
  have key : ∀ n, n ≤ rows.length → ∃ RL : List SegR, RL.map (·.s) = rows.take n ∧ (∀ j v, (flatSegs RL)[j]? = some v → w.cell? (ad.add j) = some v) ∧ ∀ x ∈ RL, SegIn w x.s x.p x.q ∧ x.s.raw.length ≤ x.vc := by
    intro n
    induction n with
    | zero => exact fun _ => ⟨[], by simp, fun j v hj => by simp [flatSegs] at hj, fun x hx => by cases hx⟩
    | succ n ih =>
      intro hn
      obtain ⟨RL, h1, h2, h3⟩ := ih (by omega)
      have hr : rows[n]? = some (rows[n]'(by omega)) := List.getElem?_eq_getElem (by omega)
      obtain ⟨b, o, p', q', cap', vc', e, hc, hp⟩ := h.at' n _ hr
      injection e with e
      subst e
      have hl : RL.length = n := by
        have := congrArg List.length h1
        rw [List.length_map, List.length_take] at this
        omega
      refine ⟨RL ++ [⟨rows[n]'(by omega), p', q', cap', vc'⟩], ?_, fun j v hj => ?_, fun x hx => ?_⟩
      · rw [List.map_append, h1, List.take_add_one, hr]; rfl
      · rw [flatSegs_snoc] at hj
        rcases Nat.lt_or_ge j (flatSegs RL).length with h4 | h4
        · rw [List.getElem?_append_left h4] at hj
          exact h2 j v hj
        · rw [List.getElem?_append_right h4, flatSegs_len, hl] at hj
          rw [flatSegs_len, hl] at h4
          have hadd : (⟨b, o, none⟩ : Addr).add j = ⟨b, o + j, none⟩ := by unfold Addr.add; split <;> simp_all
          have h5 := hc (j - n * 8) v (by rw [Array.getElem?_toList] at hj; exact hj)
          rw [hadd, show o + j = o + n * 8 + (j - n * 8) by omega]
          exact h5
      · rcases List.mem_append.1 hx with h4 | h4
        · exact h3 x h4
        · rw [List.mem_singleton.1 h4]
          exact hp
  obtain ⟨RL, h1, h2, h3⟩ := key rows.length (Nat.le_refl _)
  exact ⟨RL, by rw [h1, List.take_length], h2, h3⟩
theorem copy_segs {w W : World} (ps : Option Addr) (cs : Nat) (segs : List SegT) (GS : Nat) (cur : Array Value) (h : SegsIn w ps segs) (hW : Below w.heap.size w W) (hb : Blk W GS cur 49) (hs : cur.size = segs.length * 8) :
    ∃ (RL : List SegR) (Wc : World) (cur' : Array Value), (∀ ty, (Builtin.copy_ #[23, 23] ty #[.slice (some ⟨GS, 0, none⟩) segs.length segs.length, .slice ps segs.length cs]).run Tryz.prog W = .ok (goInt (segs.length : Nat)) Wc) ∧ Blk Wc GS cur' 49 ∧ cur'.size = segs.length * 8 ∧ SegCells cur' RL ∧ Rex [GS] W Wc ∧ RL.map (·.s) = segs ∧ ∀ x ∈ RL, SegIn w x.s x.p x.q ∧ x.s.raw.length ≤ x.vc := by
  cases ps with
  | none =>
    obtain rfl : segs = [] := by
      cases segs with
      | nil => rfl
      | cons x l => obtain ⟨b, o, _, _, _, _, e, _⟩ := h.at' 0 x rfl; cases e
    exact ⟨[], W, cur, fun ty => run_copy_nil9 W _ _ ty 49 _ _ _ _ (by kernel_rfl) (by kernel_rfl), hb, hs, fun i r hr => by simp at hr, Rex.refl _ _, rfl, fun x hx => by cases hx⟩
  | some ad =>
    obtain ⟨RL, h1, h2, h3⟩ := h.list
    have hln : RL.length = segs.length := by rw [← h1, List.length_map]
    have hl : (flatSegs RL).length = segs.length * 8 := by rw [flatSegs_len, hln]
    have hsrc : ∀ j v, (flatSegs RL)[j]? = some v → W.cell? (ad.add j) = some v := fun j v hj => by
      have h4 := h2 j v hj
      exact (hW.cell (World.block_lt_of_cell? w _ h4)).trans h4
    have hrun := fun ty => run_copyK Tryz.prog W 23 23 ty 49 8 GS segs.length segs.length ad segs.length cs cur 49 (flatSegs RL) (by kernel_rfl) (by kernel_rfl) hb (by rw [hl, show Nat.min segs.length segs.length = segs.length from Nat.min_self _]) hsrc (by rw [hl, hs]) (fun v hv => flatSegs_one v hv)
    simp only [show Nat.min segs.length segs.length = segs.length from Nat.min_self _] at hrun
    exact ⟨RL, _, _, hrun, setRow_heap W GS cur _ 49 (0, 0) hb, by rw [List.size_toArray, hl], segCells_of (n := segs.length) (by show (flatSegs RL).take (segs.length * 8) = flatSegs RL; rw [List.take_of_length_le (by omega)]) hln, Rex.setRow hb (by rw [List.size_toArray, hl, hs]), h1, h3⟩
theorem copy_pts9 {w W : World} (po : Option Addr) (co : Nat) (l : List (Int × Int)) (GP : Nat) (cur : Array Value) (h : PtsIn w po l) (hW : Below w.heap.size w W) (hb : Blk W GP cur 53) (hs : cur.size = l.length * 2) :
    ∃ (Wc : World) (cur' : Array Value), (∀ ty, (Builtin.copy_ #[24, 24] ty #[.slice (some ⟨GP, 0, none⟩) l.length l.length, .slice po l.length co]).run Tryz.prog W = .ok (goInt (l.length : Nat)) Wc) ∧ Blk Wc GP cur' 53 ∧ cur'.size = l.length * 2 ∧ cur'.toList = flatPts l ∧ Rex [GP] W Wc := by
  have hl : (flatPts l).length = l.length * 2 := flatPts_len9 l
  cases po with
  | none =>
    obtain rfl : l = [] := by
      cases l with
      | nil => rfl
      | cons x l => obtain ⟨b, o, e, _⟩ := h.at' 0 x rfl; cases e
    exact ⟨W, cur, fun ty => run_copy_nil9 W _ _ ty 53 _ _ _ _ (by kernel_rfl) (by kernel_rfl), hb, hs, by have e := Array.eq_empty_of_size_eq_zero (show cur.size = 0 by simpa using hs); rw [e]; rfl, Rex.refl _ _⟩
  | some ad =>
    have hrun := fun ty => run_copyK Tryz.prog W 24 24 ty 53 2 GP l.length l.length ad l.length co cur 53 (flatPts l) (by kernel_rfl) (by kernel_rfl) hb (by rw [hl, show Nat.min l.length l.length = l.length from Nat.min_self _]) (fun j u hu => pts_flat9 (h.below hW) j u hu) (by rw [hl, hs]) (fun v hv => flatPts_one9 l v hv)
    simp only [show Nat.min l.length l.length = l.length from Nat.min_self _] at hrun
    exact ⟨_, _, hrun, setRow_heap W GP cur _ 53 (0, 0) hb, by rw [List.size_toArray, hl], by simp, Rex.setRow hb (by rw [List.size_toArray, hl, hs])⟩
/-- The first segments have runs and numbers of their own; the others have them where they were. -/
def GoK (w W : World) (g9 : Nat) (RL : List SegR) (i : Nat) : Prop := ∀ (k : Nat) x, RL[k]? = some x → x.s.raw.length ≤ x.vc ∧ (k < i → RdR W g9 x) ∧ (i ≤ k → SegIn w x.s x.p x.q)
theorem GoK.rex {L : List Nat} {w W W' : World} {g9 i : Nat} {RL : List SegR} (h : GoK w W g9 RL i) (hr : Rex L W W') (hL : ∀ y, y ∈ L → y ≤ g9) : GoK w W' g9 RL i := fun k x hx => ⟨(h k x hx).1, fun hk => ((h k x hx).2.1 hk).rex hr hL, (h k x hx).2.2⟩
theorem GoK.below {w W W' : World} {g9 i : Nat} {RL : List SegR} (h : GoK w W g9 RL i) (hb : Below W.heap.size W W') : GoK w W' g9 RL i := fun k x hx => ⟨(h k x hx).1, fun hk => ((h k x hx).2.1 hk).below hb, (h k x hx).2.2⟩
theorem GoK.set {w W : World} {g9 i : Nat} {RL : List SegR} {x x' : SegR} (h : GoK w W g9 RL i) (hx : RL[i]? = some x) (hr : RdR W g9 x') : GoK w W g9 (RL.set i x') (i + 1) := fun k y hy => by
  rw [List.getElem?_set] at hy
  by_cases hik : i = k
  · rw [if_pos hik, if_pos (List.getElem?_eq_some_iff.1 hx).1] at hy
    obtain rfl := Option.some.inj hy
    exact ⟨hr.vc, fun _ => hr, fun hk => by omega⟩
  · rw [if_neg hik] at hy
    exact ⟨(h k y hy).1, fun hk => (h k y hy).2.1 (by omega), fun hk => (h k y hy).2.2 (by omega)⟩
theorem go_map {RL : List SegR} {segs : List SegT} {i c5 c6 : Nat} {x : SegR} {p5 p6 : Option Addr} (h : RL.map (·.s) = segs) (tx : RL[i]? = some x) : (RL.set i ⟨x.s, p5, p6, c5, c6⟩).map (·.s) = segs := by
  rw [List.map_set, ← h]
  apply List.ext_getElem?
  intro k
  rw [List.getElem?_set]
  by_cases hk : i = k
  · subst hk
    have hl := (List.getElem?_eq_some_iff.1 tx).1
    rw [if_pos rfl, List.length_map, if_pos hl, List.getElem?_map, tx]
    rfl
  · rw [if_neg hk]
def goRel (w : World) (s : SerT) (ps : Option Addr) (cs : Nat) (po : Option Addr) (co : Nat) (fk : FuncId) (o6 o7 GS GP g9 : Nat) (cp1 : Array Value) (a' : Act) (W : World) : Prop :=
  Below w.heap.size w W ∧ Blk W w.heap.size #[.string s.name, .int .i64 s.eps, .int .i64 s.floor, .int .i64 s.last, .int .i64 s.scale, .slice ps s.segs.length cs, .slice po s.opn.length co] 26 ∧ Blk W (w.heap.size + 1) #[.string .empty, .int .i64 0, .int .i64 0, .int .i64 0, .int .i64 0, .slice none 0 0, .slice none 0 0] 26 ∧ Blk W o7 #[.string s.name, .int .i64 s.eps, .int .i64 s.floor, .int .i64 s.last, .int .i64 s.scale, .slice (some ⟨GS, 0, none⟩) s.segs.length s.segs.length, .slice (some ⟨GP, 0, none⟩) s.opn.length s.opn.length] 84 ∧ Blk W GP cp1 53 ∧ ∃ (i : Nat) (cur : Array Value) (RL : List SegR), (∃ u : Nat → Value, a' = { tmps := #[u 0, .func (.func fk) #[] #[.pointer (some ⟨o6, 0, none⟩)], .pointer (some ⟨w.heap.size, 0, none⟩), u 3, .pointer (some ⟨(w.heap.size + 1), 0, none⟩), u 5, u 6, .pointer (some ⟨o7, 0, none⟩), u 8, u 9, u 10, u 11, u 12, u 13, u 14, u 15, u 16, u 17, u 18, u 19, u 20, u 21, u 22, u 23, u 24, u 25, u 26, u 27, u 28, u 29, u 30, u 31, u 32, u 33, u 34, u 35, u 36, u 37, u 38, u 39, u 40, u 41, u 42, u 43, u 44, u 45, u 46, u 47, u 48, u 49, u 50, u 51, u 52, u 53, u 54, u 55, .slice (some ⟨GS, 0, none⟩) s.segs.length s.segs.length, .int .i64 (s.segs.length : Int), .int .i64 (i : Int), u 59, u 60, u 61, u 62, u 63, u 64, u 65, u 66, u 67, u 68, u 69, u 70, u 71, u 72, u 73, u 74, u 75, u 76, u 77, u 78, u 79, u 80, u 81, u 82, u 83, u 84, u 85, u 86, u 87, u 88, u 89, u 90, u 91, u 92, u 93, u 94, u 95, u 96], defers := [] }) ∧
    Blk W GS cur 49 ∧ cur.size = s.segs.length * 8 ∧ SegCells cur RL ∧ RL.map (·.s) = s.segs ∧ GoK w W g9 RL i ∧ i ≤ s.segs.length
set_option maxRecDepth 100000 in
set_option maxHeartbeats 2000000 in
theorem goes_w (s R : SerT) (ps : Option Addr) (cs : Nat) (po : Option Addr) (co : Nat) (fk : FuncId) (hcl : ∀ (args : Array Value) (W : World), (callFunc fk args).run Tryz.prog W = .ok (.enter fk args) W) (o6 : Nat) (ER : Int) (w : World) (h : SerIn w s ps po)
    (c1 : Hid (∀ W, Below w.heap.size w W → Calls Tryz.prog 32 #[.agg #[.string s.name, .int .i64 s.eps, .int .i64 s.floor, .int .i64 s.last, .int .i64 s.scale, .slice ps s.segs.length cs, .slice po s.opn.length co]] W fun e w' => e = .returned (.int .i64 0) ∧ Below W.heap.size W w'))
    (cD : Hid (∀ W o7 GS GP g9 cur cp1 (RL : List SegR), Below w.heap.size w W → w.heap.size + 1 < o7 → o7 < GS → o7 < GP → GS ≠ GP → GS ≤ g9 → GP ≤ g9 → Blk W o7 #[.string s.name, .int .i64 s.eps, .int .i64 s.floor, .int .i64 s.last, .int .i64 s.scale, .slice (some ⟨GS, 0, none⟩) s.segs.length s.segs.length, .slice (some ⟨GP, 0, none⟩) s.opn.length s.opn.length] 84 → Blk W GS cur 49 → cur.size = s.segs.length * 8 → SegCells cur RL → RL.map (·.s) = s.segs → (∀ x, x ∈ RL → RdR W g9 x) → Blk W GP cp1 53 → cp1.size = s.opn.length * 2 → cp1.toList = flatPts s.opn →
      Calls Tryz.prog fk #[.pointer (some ⟨o7, 0, none⟩), .pointer (some ⟨o6, 0, none⟩)] W fun e w' => e = .returned (.int .i64 ER) ∧ Below (w.heap.size + 2) W w' ∧ (ER = 0 → ∃ pR cR qR vR, Blk w' o7 #[.string R.name, .int .i64 R.eps, .int .i64 R.floor, .int .i64 R.last, .int .i64 R.scale, .slice pR R.segs.length cR, .slice qR R.opn.length vR] 84 ∧ ∀ L W', (∀ x, x ∈ L → x < w.heap.size + 2) → Rex L w' W' → SerIn W' R pR qR))) :
    Calls Tryz.prog 56 #[.agg #[.string s.name, .int .i64 s.eps, .int .i64 s.floor, .int .i64 s.last, .int .i64 s.scale, .slice ps s.segs.length cs, .slice po s.opn.length co], .func (.func fk) #[] #[.pointer (some ⟨o6, 0, none⟩)]] w fun e w' => Below w.heap.size w w' ∧ ((ER ≠ 0 ∧ e = .returned (.tuple #[.agg #[.string { data := #[] }, .int .i64 0, .int .i64 0, .int .i64 0, .int .i64 0, .slice none 0 0, .slice none 0 0], .int .i64 ER])) ∨ (ER = 0 ∧ ∃ pR cR qR vR, e = .returned (.tuple #[.agg #[.string R.name, .int .i64 R.eps, .int .i64 R.floor, .int .i64 R.last, .int .i64 R.scale, .slice pR R.segs.length cR, .slice qR R.opn.length vR], .int .i64 0]) ∧ ∀ L W', (∀ x, x ∈ L → x < w.heap.size) → Rex L w' W' → SerIn W' R pR qR)) := by
  have hfS := h.fewS
  have hfO := h.fewO
  obtain ⟨CS, hCS, hmS⟩ := make_segs s.segs.length (by omega)
  obtain ⟨CP, hCP, hmP⟩ := make_pts9 s.opn.length (by omega)
  go_enter Tryz.func56, Tryz.ntmps56
  go_upto_region 1 with (fail)
  refine wp_cutB w (Bc w.heap.size #[.string s.name, .int .i64 s.eps, .int .i64 s.floor, .int .i64 s.last, .int .i64 s.scale, .slice ps s.segs.length cs, .slice po s.opn.length co] 26 <| Bc (w.heap.size + 1) #[.string .empty, .int .i64 0, .int .i64 0, .int .i64 0, .int .i64 0, .slice none 0 0, .slice none 0 0] 26 <| Bz) ?_
  rintro W1 hW z2 ⟨⟨b1, yb1, k1, f1⟩, ⟨b2, yb2, k2, f2⟩, -⟩
  go_wp2_with fail
  refine (c1.out _ hW).mono ?_
  rintro e w3 ⟨rfl, hb3⟩
  have z4 := hb3.size
  try simp at z4
  clear k1 f1 k2 f2
  refine haveB w w3 (Bc w.heap.size #[.string s.name, .int .i64 s.eps, .int .i64 s.floor, .int .i64 s.last, .int .i64 s.scale, .slice ps s.segs.length cs, .slice po s.opn.length co] 26 <| Bc (w.heap.size + 1) #[.string .empty, .int .i64 0, .int .i64 0, .int .i64 0, .int .i64 0, .slice none 0 0, .slice none 0 0] 26 <| Bz) ?_
  clear b1 b2 hW
  rintro hW z5 ⟨⟨b1, yb1, k1, f1⟩, ⟨b2, yb2, k2, f2⟩, -⟩
  clear hb3
  go_upto_region 5 with (fail)
  clear k1 f1 k2 f2
  refine wp_cutB w (Bc w.heap.size #[.string s.name, .int .i64 s.eps, .int .i64 s.floor, .int .i64 s.last, .int .i64 s.scale, .slice ps s.segs.length cs, .slice po s.opn.length co] 26 <| Bc (w.heap.size + 1) #[.string .empty, .int .i64 0, .int .i64 0, .int .i64 0, .int .i64 0, .slice none 0 0, .slice none 0 0] 26 <| Bc w3.heap.size #[.string s.name, .int .i64 s.eps, .int .i64 s.floor, .int .i64 s.last, .int .i64 s.scale, .slice ps s.segs.length cs, .slice po s.opn.length co] 84 <| Bz) ?_
  clear b1 b2 hW
  rintro W6 hW z7 ⟨⟨b1, yb1, k1, f1⟩, ⟨b2, yb2, k2, f2⟩, ⟨b3, yb3, k3, f3⟩, -⟩
  obtain ⟨o7, ho7⟩ : ∃ o, o = w3.heap.size := ⟨_, rfl⟩
  have hw7 : w.heap.size + 1 < o7 := by omega
  rw [← ho7] at b3 yb3 ⊢
  clear ho7 k3 f3
  clear k1 f1 k2 f2
  have yB : o7 < W6.heap.size := yb3
  refine wp_region_ndS 13 97 o7 (fun W' => Rex [o7] W6 W' ∧ Blk W' w.heap.size #[.string s.name, .int .i64 s.eps, .int .i64 s.floor, .int .i64 s.last, .int .i64 s.scale, .slice ps s.segs.length cs, .slice po s.opn.length co] 26 ∧ Blk W' (w.heap.size + 1) #[.string .empty, .int .i64 0, .int .i64 0, .int .i64 0, .int .i64 0, .slice none 0 0, .slice none 0 0] 26 ∧ (Blk W' o7 #[.string s.name, .int .i64 s.eps, .int .i64 s.floor, .int .i64 s.last, .int .i64 s.scale, .slice ps s.segs.length cs, .slice po s.opn.length co] 84 ∨ ∃ v, MadeS W6.heap.size s.segs.length v W' ∧ Blk W' o7 #[.string s.name, .int .i64 s.eps, .int .i64 s.floor, .int .i64 s.last, .int .i64 s.scale, v, .slice po s.opn.length co] 84)) mixed (by kernel_rfl) rfl ⟨(Rex.refl _ _).drew, b1, b2, .inl b3⟩ (fun w w' ⟨h0, h1, h2, h3⟩ hr => ⟨h0.trans (hr.more (by simp)), h1.rex hr (by simp), h2.rex hr (by simp), h3.elim (fun h => .inl (h.rex hr (by simp))) (fun ⟨v, hv, h⟩ => .inr ⟨v, MadeS.closed _ _ _ _ _ hr hv, h.rex hr (by simp)⟩)⟩) (fun c a d v w h => by cases d <;> exact h) _ rfl ?_
  iterate 5
    apply nd_det (hg := rfl) (hal := rfl)
    · intro a W' hC hE
      obtain ⟨_, k1, k2, k3⟩ := hC
      have k1 := k1.cell
      first
        | (simp [Oper.looksAt, Op.operands, Call.operands, envOf, Det] at hE; simp [go_sem, Act.eval, IntWalk.i64_left, hE, k1, k2, k3]; try rfl)
        | (clear hE; simp [go_sem, Act.eval, IntWalk.i64_left, k1, k2, k3]; try rfl)
  apply nd_mem (MadeS W6.heap.size s.segs.length) (hg := rfl) (hal := rfl)
  · exact MadeS.closedL _ _ (by simp [others] <;> omega)
  · intro a' W' hC hE
    simp [Oper.looksAt, Op.operands, Call.operands, envOf, Det] at hE
    refine ⟨.slice (some ⟨W'.heap.size, 0, none⟩) s.segs.length s.segs.length, W'.alloc (.cells CS 49), ?_, (Below.refl _ _).alloc (Nat.le_refl _) _, W'.heap.size, CS, rfl, hC.1.size, Blk.new' rfl, hCS⟩
    simp [execOp, Act.eval, hE, hmS]
  iterate 3
    apply nd_det (hg := rfl) (hal := rfl)
    · intro a W' hC hE
      obtain ⟨_, k1, k2, k3⟩ := hC
      have k1 := k1.cell
      first
        | (simp [Oper.looksAt, Op.operands, Call.operands, envOf, Det] at hE; simp [go_sem, Act.eval, IntWalk.i64_left, hE, k1, k2, k3]; try rfl)
        | (clear hE; simp [go_sem, Act.eval, IntWalk.i64_left, k1, k2, k3]; try rfl)
  apply nd_mem (MadeP W6.heap.size s.opn.length) (hg := rfl) (hal := rfl)
  · exact MadeP.closedL _ _ (by simp [others] <;> omega)
  · intro a' W' hC hE
    simp [Oper.looksAt, Op.operands, Call.operands, envOf, Det] at hE
    refine ⟨.slice (some ⟨W'.heap.size, 0, none⟩) s.opn.length s.opn.length, W'.alloc (.cells CP 53), ?_, (Below.refl _ _).alloc (Nat.le_refl _) _, W'.heap.size, CP, rfl, hC.1.size, Blk.new' rfl, hCP⟩
    simp [execOp, Act.eval, hE, hmP]
  iterate 3
    apply nd_det (hg := rfl) (hal := rfl)
    · intro a W' hC hE
      obtain ⟨_, k1, k2, k3⟩ := hC
      have k1 := k1.cell
      first
        | (simp [Oper.looksAt, Op.operands, Call.operands, envOf, Det] at hE; simp [go_sem, Act.eval, IntWalk.i64_left, hE, k1, k2, k3]; try rfl)
        | (clear hE; simp [go_sem, Act.eval, IntWalk.i64_left, k1, k2, k3]; try rfl)
  refine ⟨fun _ W' => Rex [o7] W6 W' ∧ Blk W' w.heap.size #[.string s.name, .int .i64 s.eps, .int .i64 s.floor, .int .i64 s.last, .int .i64 s.scale, .slice ps s.segs.length cs, .slice po s.opn.length co] 26 ∧ Blk W' (w.heap.size + 1) #[.string .empty, .int .i64 0, .int .i64 0, .int .i64 0, .int .i64 0, .slice none 0 0, .slice none 0 0] 26 ∧ ∃ v, MadeS W6.heap.size s.segs.length v W' ∧ Blk W' o7 #[.string s.name, .int .i64 s.eps, .int .i64 s.floor, .int .i64 s.last, .int .i64 s.scale, v, .slice po s.opn.length co] 84, fun _ w w' hr ⟨h0, h1, h2, v, hv, h⟩ => ⟨h0.trans (hr.more (by simp)), h1.rex hr (by simp), h2.rex hr (by simp), v, MadeS.closed _ _ _ _ _ hr hv, h.rex hr (by simp)⟩, ?_, fun _ w ⟨h0, h1, h2, h⟩ => ⟨h0, h1, h2, .inr h⟩, ?_⟩
  · intro a' W' hC hE
    refine ⟨fun _ => ?_, fun e => by rw [wanted_none (by rfl)] at e; cases e⟩
    simp [Oper.looksAt, Op.operands, Call.operands, envOf, Det] at hE
    obtain ⟨hp, g1, u1, hv, hg1, hu1, hz1⟩ := hE
    obtain ⟨h0, h1, h2, h3⟩ := hC
    obtain ⟨v8, hb'⟩ : ∃ v8, Blk W' o7 #[.string s.name, .int .i64 s.eps, .int .i64 s.floor, .int .i64 s.last, .int .i64 s.scale, v8, .slice po s.opn.length co] 84 := by
      rcases h3 with h | ⟨v, -, h⟩
      · exact ⟨_, h⟩
      · exact ⟨_, h⟩
    have hcl := MadeS.closedL W6.heap.size s.segs.length (L := [o7]) (by simp; omega)
    have hRx : Rex [o7] W' (W'.setCell ⟨o7, 5, none⟩ (.slice (some ⟨g1, 0, none⟩) s.segs.length s.segs.length)) := Rex.setOwn (Rex.refl _ _) hb' (by simp) _ _
    have hc8 := hb'.cell 5
    have hf8 := hb'.frozen 5
    simp only [List.getElem?_toArray, List.getElem?_cons_succ, List.getElem?_cons_zero] at hc8
    have hset : Blk (W'.setCell ⟨o7, 5, none⟩ (.slice (some ⟨g1, 0, none⟩) s.segs.length s.segs.length)) o7 #[.string s.name, .int .i64 s.eps, .int .i64 s.floor, .int .i64 s.last, .int .i64 s.scale, (.slice (some ⟨g1, 0, none⟩) s.segs.length s.segs.length), .slice po s.opn.length co] 84 := hb'.set2 rfl
    suffices hrun : (execOp a'.eval _).run Tryz.prog W' = .ok .skip (W'.setCell ⟨o7, 5, none⟩ (.slice (some ⟨g1, 0, none⟩) s.segs.length s.segs.length)) by
      rw [hrun]
      exact ⟨hRx, ⟨h0.trans hRx, h1.rex hRx (by simp; omega), h2.rex hRx (by simp; omega), _, hcl _ _ _ hRx ⟨g1, u1, rfl, hg1, hu1, hz1⟩, hset⟩, rfl⟩
    simp [execOp, go_sem, Act.eval, hp, hv, hc8, hf8]
  · rintro W2 ⟨hR, d1, d2, -⟩
    simp only [ndFinR, Det, forall_eq]
    intros
    simp only [Act.put, List.setIfInBounds_toArray, List.set_cons_zero, List.set_cons_succ, List.drop_succ_cons, List.drop_zero]
    rename MadeP _ _ _ _ => hI
    obtain ⟨GP, cuP, rfl, hgP, hbP, hsP⟩ := hI
    obtain ⟨-, -, -, v5, ⟨GS, cuS, rfl, hgS, hbS, hsS⟩, d3⟩ := ‹Rex [o7] W6 W2 ∧ _ ∧ _ ∧ _›
    repeat (rename MadeS _ _ _ _ => hm; clear hm)
    have hSP : GS ≠ GP := by
      rintro rfl
      have e1 : W2.heap[GS]? = some (.cells cuS 49 (0, 0)) := hbS
      have e2 : W2.heap[GS]? = some (.cells cuP 53 (0, 0)) := hbP
      rw [e1] at e2
      injection e2 with e2
      injection e2 with _ e2 _
      revert e2
      decide
    replace hW := hW.trans (hR.of_priv hW.size (by simp; omega))
    clear hR b1 b2 b3
    have b1 := d1
    have b2 := d2
    have b3 := d3
    have b4 := hbS
    have b5 := hbP
    clear d1 d2 d3 hbS hbP
    have hz2 := hW.size
    have yb1 := b1.lt
    have yb2 := b2.lt
    have yb3 := b3.lt
    have yb4 := b4.lt
    have yb5 := b5.lt
    have hg7 : o7 < GS := by omega
    have hp7 : o7 < GP := by omega
    obtain ⟨g9, hgo9, hgS9, hgP9⟩ : ∃ g, (g = GS ∨ g = GP) ∧ GS ≤ g ∧ GP ≤ g := by
      rcases Nat.le_total GS GP with h9 | h9
      · exact ⟨GP, .inr rfl, h9, Nat.le_refl _⟩
      · exact ⟨GS, .inl rfl, Nat.le_refl _, h9⟩
    have k1 := b1.cell
    have f1 := b1.frozen
    have k2 := b2.cell
    have f2 := b2.frozen
    have k3 := b3.cell
    have f3 := b3.frozen
    have k4 := b4.cell
    have f4 := b4.frozen
    have k5 := b5.cell
    have f5 := b5.frozen
    go_upto_region 6 with (fail)
    clear k1 f1 k2 f2 k3 f3 k4 f4 k5 f5
    refine wp_cutB w (Bc w.heap.size #[.string s.name, .int .i64 s.eps, .int .i64 s.floor, .int .i64 s.last, .int .i64 s.scale, .slice ps s.segs.length cs, .slice po s.opn.length co] 26 <| Bc (w.heap.size + 1) #[.string .empty, .int .i64 0, .int .i64 0, .int .i64 0, .int .i64 0, .slice none 0 0, .slice none 0 0] 26 <| Bc o7 #[.string s.name, .int .i64 s.eps, .int .i64 s.floor, .int .i64 s.last, .int .i64 s.scale, .slice (some ⟨GS, 0, none⟩) s.segs.length s.segs.length, .slice (some ⟨GP, 0, none⟩) s.opn.length s.opn.length] 84 <| Bc GS cuS 49 <| Bc GP cuP 53 <| Bz) ?_
    clear b1 b2 b3 b4 b5 hW
    rintro W61 hW z62 ⟨⟨b1, yb1, k1, f1⟩, ⟨b2, yb2, k2, f2⟩, ⟨b3, yb3, k3, f3⟩, ⟨b4, yb4, k4, f4⟩, ⟨b5, yb5, k5, f5⟩, -⟩
    go_upto_region 6 with (fail)
    clear k1 f1 k2 f2 k3 f3 k4 f4 k5 f5
    refine wp_cutB w (Bc w.heap.size #[.string s.name, .int .i64 s.eps, .int .i64 s.floor, .int .i64 s.last, .int .i64 s.scale, .slice ps s.segs.length cs, .slice po s.opn.length co] 26 <| Bc (w.heap.size + 1) #[.string .empty, .int .i64 0, .int .i64 0, .int .i64 0, .int .i64 0, .slice none 0 0, .slice none 0 0] 26 <| Bc o7 #[.string s.name, .int .i64 s.eps, .int .i64 s.floor, .int .i64 s.last, .int .i64 s.scale, .slice (some ⟨GS, 0, none⟩) s.segs.length s.segs.length, .slice (some ⟨GP, 0, none⟩) s.opn.length s.opn.length] 84 <| Bc GS cuS 49 <| Bc GP cuP 53 <| Bz) ?_
    clear b1 b2 b3 b4 b5 hW
    rintro W63 hW z64 hL
    refine wp_regD 7 97 hW hL ?_
    iterate 7 refine dA ?_
    clear hW hL
    rintro W65 hW z66 hL
    simp only [ndR]
    intros
    simp only [ndS]
    obtain ⟨⟨b1, yb1, k1, f1⟩, ⟨b2, yb2, k2, f2⟩, ⟨b3, yb3, k3, f3⟩, ⟨b4, yb4, k4, f4⟩, ⟨b5, yb5, k5, f5⟩, -⟩ := hL
    have hzA := hW.size
    obtain ⟨RL, Wc, cs1, hcp, hbc, hsc, hSC, hRc, hRs, hRp⟩ := copy_segs ps cs s.segs GS cuS h.segs hW b4 hsS
    have e1 := b1.rex hRc (by simp; omega)
    have e2 := b2.rex hRc (by simp; omega)
    have e3 := b3.rex hRc (by simp; omega)
    have e5 := b5.rex hRc (by simp; omega)
    have eW := hW.trans (hRc.of_priv hW.size (by simp; omega))
    clear b1 b2 b3 b4 b5 hW hRc hmS hmP k1 f1 k2 f2 k3 f3 k4 f4 k5 f5
    replace hRp := Lib.hid hRp
    replace hRs := Lib.hid hRs
    replace hSC := Lib.hid hSC
    go_upto_region 7 with (fail)
    clear hcp
    have hW := eW
    have b1 := e1
    have b2 := e2
    have b3 := e3
    have b4 := hbc
    have b5 := e5
    clear e1 e2 e3 hbc e5 eW
    have yb1 := b1.lt
    have yb2 := b2.lt
    have yb3 := b3.lt
    have yb4 := b4.lt
    have yb5 := b5.lt
    have k1 := b1.cell
    have f1 := b1.frozen
    have k2 := b2.cell
    have f2 := b2.frozen
    have k3 := b3.cell
    have f3 := b3.frozen
    have k4 := b4.cell
    have f4 := b4.frozen
    have k5 := b5.cell
    have f5 := b5.frozen
    clear k1 f1 k2 f2 k3 f3 k4 f4 k5 f5
    refine wp_cutB w (Bc w.heap.size #[.string s.name, .int .i64 s.eps, .int .i64 s.floor, .int .i64 s.last, .int .i64 s.scale, .slice ps s.segs.length cs, .slice po s.opn.length co] 26 <| Bc (w.heap.size + 1) #[.string .empty, .int .i64 0, .int .i64 0, .int .i64 0, .int .i64 0, .slice none 0 0, .slice none 0 0] 26 <| Bc o7 #[.string s.name, .int .i64 s.eps, .int .i64 s.floor, .int .i64 s.last, .int .i64 s.scale, .slice (some ⟨GS, 0, none⟩) s.segs.length s.segs.length, .slice (some ⟨GP, 0, none⟩) s.opn.length s.opn.length] 84 <| Bc GS cs1 49 <| Bc GP cuP 53 <| Bz) ?_
    clear b1 b2 b3 b4 b5 hW
    rintro W91 hW z92 hL
    refine wp_regD 7 97 hW hL ?_
    iterate 7 refine dA ?_
    clear hW hL
    rintro W93 hW z94 hL
    simp only [ndR]
    intros
    simp only [ndS]
    obtain ⟨⟨b1, yb1, k1, f1⟩, ⟨b2, yb2, k2, f2⟩, ⟨b3, yb3, k3, f3⟩, ⟨b4, yb4, k4, f4⟩, ⟨b5, yb5, k5, f5⟩, -⟩ := hL
    have hzB := hW.size
    obtain ⟨Wd, cp1, hcp, hbc, hsp, htp, hRc⟩ := copy_pts9 po co s.opn GP cuP h.opn hW b5 hsP
    have e1 := b1.rex hRc (by simp; omega)
    have e2 := b2.rex hRc (by simp; omega)
    have e3 := b3.rex hRc (by simp; omega)
    have e4 := b4.rex hRc (by simp; omega)
    have eW := hW.trans (hRc.of_priv hW.size (by simp; omega))
    clear b1 b2 b3 b4 b5 hW hRc k1 f1 k2 f2 k3 f3 k4 f4 k5 f5
    replace htp := Lib.hid htp
    go_upto_region 8 with (fail)
    clear hcp
    have hW := eW
    have b1 := e1
    have b2 := e2
    have b3 := e3
    have b4 := e4
    have b5 := hbc
    clear e1 e2 e3 e4 hbc eW
    have yb1 := b1.lt
    have yb2 := b2.lt
    have yb3 := b3.lt
    have yb4 := b4.lt
    have yb5 := b5.lt
    have k1 := b1.cell
    have f1 := b1.frozen
    have k2 := b2.cell
    have f2 := b2.frozen
    have k3 := b3.cell
    have f3 := b3.frozen
    have k4 := b4.cell
    have f4 := b4.frozen
    have k5 := b5.cell
    have f5 := b5.frozen
    go_wp2
    refine wp_loop (goRel w s ps cs po co fk o6 o7 GS GP g9 cp1) (fun a' _ => s.segs.length - (intAt (a'.tmps.getD 58 undef)).toNat) ?_ ?_
    · unfold goRel
      exact ⟨hW, b1, b2, b3, b5, 0, cs1, RL, frame_ex rfl, b4, hsc, hSC.out, hRs.out, fun k x hx => ⟨(hRp.out x (List.mem_of_getElem? hx)).2, fun hk => by omega, fun _ => (hRp.out x (List.mem_of_getElem? hx)).1⟩, Nat.zero_le _⟩
    clear hRp hRs hSC hsc hsS hsP b1 b2 b3 b4 b5 hW yb1 yb2 yb3 yb4 yb5 RL cs1 cuS cuP k1 f1 k2 f2 k3 f3 k4 f4 k5 f5
    rintro a' W ⟨hW, b1, b2, b3, b5, i, cur, RL, ⟨u, rfl⟩, b4, hsz, hSC, hRs, hGK, hi'⟩
    have hz := hW.size
    have yb1 := b1.lt
    have yb2 := b2.lt
    have yb3 := b3.lt
    have yb4 := b4.lt
    have yb5 := b5.lt
    have hRLn : RL.length = s.segs.length := by rw [← hRs, List.length_map]
    replace hsz := Lib.hid hsz
    replace hSC := Lib.hid hSC
    replace hRs := Lib.hid hRs
    rcases Nat.lt_or_ge i s.segs.length with hiM | hiM
    · obtain ⟨r0, hR0⟩ : ∃ x, RL[i]? = some x := ⟨RL[i]'(by omega), List.getElem?_eq_getElem (by omega)⟩
      have hSG := (hGK i r0 hR0).2.2 (Nat.le_refl _)
      replace hGK := Lib.hid hGK
      clear hRLn
      have k1 := b1.cell
      have f1 := b1.frozen
      have k2 := b2.cell
      have f2 := b2.frozen
      have k3 := b3.cell
      have f3 := b3.frozen
      have k4 := b4.cell
      have f4 := b4.frozen
      have k5 := b5.cell
      have f5 := b5.frozen
      have q0 : W.cell? ⟨GS, i * 8, none⟩ = some (.int .i64 r0.s.K) := (b4.cell _).trans (hSC.out i r0 hR0 0 _ rfl)
      have q1 : W.cell? ⟨GS, i * 8 + 1, none⟩ = some (.slice r0.p r0.s.runs.length r0.cap) := (b4.cell _).trans (hSC.out i r0 hR0 1 _ rfl)
      have q2 : W.cell? ⟨GS, i * 8 + 2, none⟩ = some (.int .i64 r0.s.A) := (b4.cell _).trans (hSC.out i r0 hR0 2 _ rfl)
      have q3 : W.cell? ⟨GS, i * 8 + 3, none⟩ = some (.int .i64 r0.s.R) := (b4.cell _).trans (hSC.out i r0 hR0 3 _ rfl)
      have q4 : W.cell? ⟨GS, i * 8 + 4, none⟩ = some (.int .i64 r0.s.n) := (b4.cell _).trans (hSC.out i r0 hR0 4 _ rfl)
      have q5 : W.cell? ⟨GS, i * 8 + 5, none⟩ = some (.int .i64 r0.s.d) := (b4.cell _).trans (hSC.out i r0 hR0 5 _ rfl)
      have q6 : W.cell? ⟨GS, i * 8 + 6, none⟩ = some (.slice r0.q r0.s.raw.length r0.vc) := (b4.cell _).trans (hSC.out i r0 hR0 6 _ rfl)
      have q7 : W.cell? ⟨GS, i * 8 + 7, none⟩ = some (.int .i64 r0.s.E) := (b4.cell _).trans (hSC.out i r0 hR0 7 _ rfl)
      clear k4 f4
      go_upto_region 11 with (fail)
      clear q0 q1 q2 q3 q4 q5 q6 q7
      clear k1 f1 k2 f2 k3 f3 k5 f5
      refine wp_cutB w (Bc w.heap.size #[.string s.name, .int .i64 s.eps, .int .i64 s.floor, .int .i64 s.last, .int .i64 s.scale, .slice ps s.segs.length cs, .slice po s.opn.length co] 26 <| Bc (w.heap.size + 1) #[.string .empty, .int .i64 0, .int .i64 0, .int .i64 0, .int .i64 0, .slice none 0 0, .slice none 0 0] 26 <| Bc o7 #[.string s.name, .int .i64 s.eps, .int .i64 s.floor, .int .i64 s.last, .int .i64 s.scale, .slice (some ⟨GS, 0, none⟩) s.segs.length s.segs.length, .slice (some ⟨GP, 0, none⟩) s.opn.length s.opn.length] 84 <| Bc GS cur 49 <| Bc GP cp1 53 <| Bc W.heap.size #[.int .i64 r0.s.K, .slice r0.p r0.s.runs.length r0.cap, .int .i64 r0.s.A, .int .i64 r0.s.R, .int .i64 r0.s.n, .int .i64 r0.s.d, .slice r0.q r0.s.raw.length r0.vc, .int .i64 r0.s.E] 49 <| Rc (fun W' => GoK w W' g9 RL i) <| Bz) ?_ (hI := by exact belowAny) (hR := (Bc.mk (by exact blkAny2) <| Bc.mk (by exact blkAny2) <| Bc.mk (by exact blkAny2) <| Bc.mk (by exact blkAny2) <| Bc.mk (by exact blkAny2) <| Bc.mk (by exact blkAny2) <| Rc.mk (by exact hGK.out.below (by exact belowAny)) <| trivial))
      clear b1 b2 b3 b4 b5 hW
      rintro W21 hW z22 ⟨⟨b1, yb1, k1, f1⟩, ⟨b2, yb2, k2, f2⟩, ⟨b3, yb3, k3, f3⟩, ⟨b4, yb4, k4, f4⟩, ⟨b5, yb5, k5, f5⟩, ⟨b6, yb6, k6, f6⟩, b7, -⟩
      clear k1 f1 k2 f2 k3 f3 k4 f4 k5 f5 k6 f6
      have hBs := hW.size
      have hfr : ∀ W', Rex [GS] W21 W' → SegIn W' r0.s r0.p r0.q := fun W' hr => hSG.below (hW.trans (hr.of_priv hBs (by simp; omega)))
      clear hGK
      refine wp_region_ndS 20 97 GS (fun W' => Rex [GS] W21 W' ∧ Blk W' o7 #[.string s.name, .int .i64 s.eps, .int .i64 s.floor, .int .i64 s.last, .int .i64 s.scale, .slice (some ⟨GS, 0, none⟩) s.segs.length s.segs.length, .slice (some ⟨GP, 0, none⟩) s.opn.length s.opn.length] 84 ∧ Blk W' W.heap.size #[.int .i64 r0.s.K, .slice r0.p r0.s.runs.length r0.cap, .int .i64 r0.s.A, .int .i64 r0.s.R, .int .i64 r0.s.n, .int .i64 r0.s.d, .slice r0.q r0.s.raw.length r0.vc, .int .i64 r0.s.E] 49 ∧ (Blk W' GS cur 49 ∨ ∃ v, RunD W21.heap.size r0.s.runs.length r0.s.runs v W' ∧ Blk W' GS (cur.setIfInBounds (i * 8 + 1) v) 49)) mixed (by kernel_rfl) rfl ⟨(Rex.refl _ _).drew, b3, b6, .inl b4⟩ (fun w w' ⟨h0, h1, h2, h3⟩ hr => ⟨h0.trans (hr.more (by simp)), h1.rex hr (by simp), h2.rex hr (by simp), h3.elim (fun h => .inl (h.rex hr (by simp))) (fun ⟨v, hv, h⟩ => .inr ⟨v, RunD.closed _ _ _ _ _ _ hr hv, h.rex hr (by simp)⟩)⟩) (fun c a d v w h => by cases d <;> exact h) _ rfl ?_
      iterate 14
        apply nd_det (hg := rfl) (hal := rfl)
        · intro a W' hC hE
          obtain ⟨_, k1, k2, k3⟩ := hC
          have k1 := k1.cell
          have k2 := k2.cell
          first
            | (simp [Oper.looksAt, Op.operands, Call.operands, envOf, Det] at hE; simp [go_sem, Act.eval, IntWalk.i64_left, hE, k1, k2, k3, hiM]; try rfl)
            | (clear hE; simp [go_sem, Act.eval, IntWalk.i64_left, k1, k2, k3, hiM]; try rfl)
      apply nd_call (RunD W21.heap.size r0.s.runs.length r0.s.runs) (hg := rfl) (hal := rfl)
      · exact RunD.closedL _ _ _ (by simp [others] <;> omega)
      · intro a' W' hC hE
        simp [Oper.looksAt, Op.operands, Call.operands, envOf, Det] at hE
        refine ⟨_, _, ?_, (goCloneR r0.p r0.cap r0.s.runs W' W21.heap.size hC.1.size (hfr _ hC.1).fewR (hfr _ hC.1).runs).mono ?_⟩
        · simp [go_sem, Act.eval, hE]
          try rfl
        · rintro e w' ⟨v, rfl, hB, hv⟩
          exact ⟨v, rfl, hB, hv⟩
      iterate 2
        apply nd_det (hg := rfl) (hal := rfl)
        · intro a W' hC hE
          obtain ⟨_, k1, k2, k3⟩ := hC
          have k1 := k1.cell
          have k2 := k2.cell
          first
            | (simp [Oper.looksAt, Op.operands, Call.operands, envOf, Det] at hE; simp [go_sem, Act.eval, IntWalk.i64_left, hE, k1, k2, k3, hiM]; try rfl)
            | (clear hE; simp [go_sem, Act.eval, IntWalk.i64_left, k1, k2, k3, hiM]; try rfl)
      apply nd_call (IntD W21.heap.size r0.s.raw.length r0.s.raw) (hg := rfl) (hal := rfl)
      · exact IntD.closedL _ _ _ (by simp [others] <;> omega)
      · intro a' W' hC hE
        simp [Oper.looksAt, Op.operands, Call.operands, envOf, Det] at hE
        refine ⟨_, _, ?_, (goCloneI r0.q r0.vc r0.s.raw W' W21.heap.size hC.1.size (hfr _ hC.1).fewV (hfr _ hC.1).raw).mono ?_⟩
        · simp [go_sem, Act.eval, hE]
          try rfl
        · rintro e w' ⟨v, rfl, hB, hv⟩
          exact ⟨v, rfl, hB, hv⟩
      iterate 2
        apply nd_det (hg := rfl) (hal := rfl)
        · intro a W' hC hE
          obtain ⟨_, k1, k2, k3⟩ := hC
          have k1 := k1.cell
          have k2 := k2.cell
          first
            | (simp [Oper.looksAt, Op.operands, Call.operands, envOf, Det] at hE; simp [go_sem, Act.eval, IntWalk.i64_left, hE, k1, k2, k3, hiM]; try rfl)
            | (clear hE; simp [go_sem, Act.eval, IntWalk.i64_left, k1, k2, k3, hiM]; try rfl)
      refine ⟨fun _ W' => Rex [GS] W21 W' ∧ Blk W' o7 #[.string s.name, .int .i64 s.eps, .int .i64 s.floor, .int .i64 s.last, .int .i64 s.scale, .slice (some ⟨GS, 0, none⟩) s.segs.length s.segs.length, .slice (some ⟨GP, 0, none⟩) s.opn.length s.opn.length] 84 ∧ Blk W' W.heap.size #[.int .i64 r0.s.K, .slice r0.p r0.s.runs.length r0.cap, .int .i64 r0.s.A, .int .i64 r0.s.R, .int .i64 r0.s.n, .int .i64 r0.s.d, .slice r0.q r0.s.raw.length r0.vc, .int .i64 r0.s.E] 49 ∧ ∃ v, RunD W21.heap.size r0.s.runs.length r0.s.runs v W' ∧ Blk W' GS (cur.setIfInBounds (i * 8 + 1) v) 49, fun _ w w' hr ⟨h0, h1, h2, v, hv, h⟩ => ⟨h0.trans (hr.more (by simp)), h1.rex hr (by simp), h2.rex hr (by simp), v, RunD.closed _ _ _ _ _ _ hr hv, h.rex hr (by simp)⟩, ?_, fun _ w ⟨h0, h1, h2, h⟩ => ⟨h0, h1, h2, .inr h⟩, ?_⟩
      · intro a' W' hC hE
        refine ⟨fun _ => ?_, fun e => by rw [wanted_none (by rfl)] at e; cases e⟩
        simp [Oper.looksAt, Op.operands, Call.operands, envOf, Det] at hE
        obtain ⟨hp, p1, c1, hv, hr1⟩ := hE
        obtain ⟨h0, h1, h2, h3⟩ := hC
        obtain ⟨x9, hx9⟩ : ∃ x, cur[i * 8 + 1]? = some x := ⟨_, hSC.out i r0 hR0 1 _ rfl⟩
        have hlt9 := (Array.getElem?_eq_some_iff.1 hx9).1
        obtain ⟨cur', hb', hs', x8, hx8⟩ : ∃ cur' : Array Value, Blk W' GS cur' 49 ∧ cur'.setIfInBounds (i * 8 + 1) (.slice p1 r0.s.runs.length c1) = cur.setIfInBounds (i * 8 + 1) (.slice p1 r0.s.runs.length c1) ∧ ∃ x, cur'[i * 8 + 1]? = some x := by
          rcases h3 with h | ⟨v, hv', h⟩
          · exact ⟨cur, h, rfl, x9, hx9⟩
          · exact ⟨_, h, by rw [Array.setIfInBounds_setIfInBounds], v, by rw [Array.getElem?_setIfInBounds, if_pos rfl, if_pos hlt9]⟩
        have hcl := RunD.closedL W21.heap.size r0.s.runs.length r0.s.runs (L := [GS]) (by simp; omega)
        have hRx : Rex [GS] W' (W'.setCell ⟨GS, i * 8 + 1, none⟩ (.slice p1 r0.s.runs.length c1)) := Rex.setOwn (Rex.refl _ _) hb' (by simp) _ _
        have hc8 : W'.cell? ⟨GS, i * 8 + 1, none⟩ = some x8 := (hb'.cell _).trans hx8
        have hf8 := hb'.frozen (i * 8 + 1)
        have hset := hb'.set (i * 8 + 1) (.slice p1 r0.s.runs.length c1)
        rw [hs'] at hset
        suffices hrun : (execOp a'.eval _).run Tryz.prog W' = .ok .skip (W'.setCell ⟨GS, i * 8 + 1, none⟩ (.slice p1 r0.s.runs.length c1)) by
          rw [hrun]
          exact ⟨hRx, ⟨h0.trans hRx, h1.rex hRx (by simp; omega), h2.rex hRx (by simp; omega), _, hcl _ _ _ hRx ⟨p1, c1, rfl, hr1⟩, hset⟩, rfl⟩
        simp [execOp, go_sem, Act.eval, hp, hv, hc8, hf8]
      · rintro W2 ⟨hR, d3, d6, -⟩
        simp only [ndFinR, Det, forall_eq]
        intros
        simp only [Act.put, List.setIfInBounds_toArray, List.set_cons_zero, List.set_cons_succ, List.drop_succ_cons, List.drop_zero]
        rename IntD _ _ _ _ _ => hI
        obtain ⟨p6, c6, rfl, hI6, hc6, hg6⟩ := hI
        obtain ⟨-, -, -, v5, ⟨p5, c5, rfl, hR5, hc5, hg5⟩, d4⟩ := ‹Rex [GS] W21 W2 ∧ _ ∧ _ ∧ _›
        repeat (rename RunD _ _ _ _ _ => hm; clear hm)
        have e1 := b1.rex hR (by simp; omega)
        have e2 := b2.rex hR (by simp; omega)
        have e5 := b5.rex hR (by simp; omega)
        have hGK9 := b7.rex hR (by simp; omega)
        replace hW := hW.trans (hR.of_priv (Nat.le_trans (Nat.le_refl _) hW.size) (by simp; omega))
        clear hR b1 b2 b3 b4 b5 b6 b7 hfr
        have b1 := e1
        have b2 := e2
        have b3 := d3
        have b4 := d4
        have b5 := e5
        clear d3 d4 d6 e1 e2 e5
        replace hc5 := Lib.hid hc5
        replace hc6 := Lib.hid hc6
        replace hGK9 := Lib.hid hGK9
        have zz1 := hW.size
        have zz2 := b1.lt
        have zz3 := b2.lt
        have zz4 := b3.lt
        have zz5 := b4.lt
        have zz6 := b5.lt
        have k1 := b1.cell
        have f1 := b1.frozen
        have k2 := b2.cell
        have f2 := b2.frozen
        have k3 := b3.cell
        have f3 := b3.frozen
        have k4 := b4.cell
        have f4 := b4.frozen
        have k5 := b5.cell
        have f5 := b5.frozen
        have x1 : (cur.setIfInBounds (i * 8 + 1) (.slice p5 r0.s.runs.length c5))[i * 8 + 6]? = some (.slice r0.q r0.s.raw.length r0.vc) := by rw [Array.getElem?_setIfInBounds, if_neg (by omega)]; exact hSC.out i r0 hR0 6 _ rfl
        have hRx9 : Rex [GS] W2 (W2.setCell ⟨GS, i * 8 + 6, none⟩ (.slice p6 r0.s.raw.length c6)) := Rex.setOwn (Rex.refl _ _) b4 (by simp) _ _
        go_upto_region 12 with (fail)
        clear x1
        clear k1 f1 k2 f2 k3 f3 k4 f4 k5 f5
        refine wp_cutB w (Bc w.heap.size #[.string s.name, .int .i64 s.eps, .int .i64 s.floor, .int .i64 s.last, .int .i64 s.scale, .slice ps s.segs.length cs, .slice po s.opn.length co] 26 <| Bc (w.heap.size + 1) #[.string .empty, .int .i64 0, .int .i64 0, .int .i64 0, .int .i64 0, .slice none 0 0, .slice none 0 0] 26 <| Bc o7 #[.string s.name, .int .i64 s.eps, .int .i64 s.floor, .int .i64 s.last, .int .i64 s.scale, .slice (some ⟨GS, 0, none⟩) s.segs.length s.segs.length, .slice (some ⟨GP, 0, none⟩) s.opn.length s.opn.length] 84 <| Bc GS ((cur.setIfInBounds (i * 8 + 1) (.slice p5 r0.s.runs.length c5)).setIfInBounds (i * 8 + 6) (.slice p6 r0.s.raw.length c6)) 49 <| Bc GP cp1 53 <| Rc (fun W' => RunsIn W' p5 r0.s.runs) <| Rc (fun W' => IntsIn W' p6 r0.s.raw) <| Rc (fun W' => GoK w W' g9 RL i) <| Bz) ?_ (hI := by exact belowAny) (hR := (Bc.mk (by exact blkAny2) <| Bc.mk (by exact blkAny2) <| Bc.mk (by exact blkAny2) <| Bc.mk (by exact blkAny2) <| Bc.mk (by exact blkAny2) <| Rc.mk (by exact hR5.rex1 (L := [GS]) (g := GS) (by simp) (fun a e => by have := hg5 a e; omega) hRx9) <| Rc.mk (by exact hI6.rex1 (L := [GS]) (g := GS) (by simp) (fun a e => by have := hg6 a e; omega) hRx9) <| Rc.mk (by exact hGK9.out.rex hRx9 (by simp; omega)) <| trivial))
        clear b1 b2 b3 b4 b5 hW
        rintro W61 hW z62 ⟨⟨b1, yb1, k1, f1⟩, ⟨b2, yb2, k2, f2⟩, ⟨b3, yb3, k3, f3⟩, ⟨b4, yb4, k4, f4⟩, ⟨b5, yb5, k5, f5⟩, b6, b7, b8, -⟩
        clear hRx9 hR5 hI6 hGK9
        go_wp2
        rw [show (i : Int) + 1 = ((i + 1 : Nat) : Int) by omega]
        refine ⟨?_, by simp [intAt]; omega⟩
        have s1 := hSC.out.set (r' := ⟨r0.s, p5, r0.q, c5, r0.vc⟩) (v := .slice p5 r0.s.runs.length c5) hR0 (by omega : 1 < 8) rfl
        have hR1 := List.getElem?_set_self (l := RL) (i := i) (a := (⟨r0.s, p5, r0.q, c5, r0.vc⟩ : SegR)) (List.getElem?_eq_some_iff.1 hR0).1
        have s2 := s1.set (r' := ⟨r0.s, p5, p6, c5, c6⟩) (v := .slice p6 r0.s.raw.length c6) hR1 (by omega : 6 < 8) rfl
        rw [List.set_set] at s2
        have hfew := hSG.fewR
        have hfew2 := hSG.fewV
        unfold goRel
        exact ⟨hW, b1, b2, b3, b5, i + 1, _, RL.set i ⟨r0.s, p5, p6, c5, c6⟩, frame_ex rfl, b4, by simp [hsz.out], s2, go_map hRs.out hR0, b8.set hR0 ⟨⟨b6, b7, hfew, hfew2⟩, hc6.out, fun a e => by have := hg5 a e; omega, fun a e => by have := hg6 a e; omega⟩, by omega⟩
    · have hGD := Lib.hid (fun x (hx : x ∈ RL) => (show RdR W g9 x by
        obtain ⟨k, hk⟩ := List.getElem?_of_mem hx
        exact (hGK k x hk).2.1 (by have := (List.getElem?_eq_some_iff.1 hk).1; omega)))
      clear hGK hRLn
      have k1 := b1.cell
      have f1 := b1.frozen
      have k2 := b2.cell
      have f2 := b2.frozen
      have k3 := b3.cell
      have f3 := b3.frozen
      have k4 := b4.cell
      have f4 := b4.frozen
      have k5 := b5.cell
      have f5 := b5.frozen
      have hW9 := hW
      go_wp2_with fail
      refine (cD.out W o7 GS GP g9 cur cp1 RL hW (by omega) hg7 hp7 hSP hgS9 hgP9 b3 b4 hsz.out hSC.out hRs.out hGD.out b5 hsp htp.out).mono ?_
      rintro e w9 ⟨rfl, hB9, hok⟩
      have e1 : Blk w9 (w.heap.size + 1) #[.string .empty, .int .i64 0, .int .i64 0, .int .i64 0, .int .i64 0, .slice none 0 0, .slice none 0 0] 26 := (hB9.block _ (by omega)).trans b2
      have hz9 := hB9.size
      have eW : Below w.heap.size w w9 := hW9.trans (hB9.mono (by omega))
      clear b1 b2 b3 b4 b5 hW hW9 hsz hSC hRs hGD hB9 k1 f1 k2 f2 k3 f3 k4 f4 k5 f5
      have b1 := e1
      have hW := eW
      clear e1 eW
      have yb1 := b1.lt
      by_cases hER : ER = 0
      · have hE9 : (ER != 0) = false := by simp [hER]
        obtain ⟨pR, cR, qR, vR, b2, hin⟩ := hok hER
        replace hER := Lib.hid hER
        replace hin := Lib.hid hin
        have yb2 := b2.lt
        clear hok cD
        have k1 := b1.cell
        have f1 := b1.frozen
        have k2 := b2.cell
        have f2 := b2.frozen
        go_wp2
        have d2 : Blk (((((((w9.setCell ⟨w.heap.size + 1, 0, none⟩ (.string R.name)).setCell ⟨w.heap.size + 1, 1, none⟩ (.int .i64 R.eps)).setCell ⟨w.heap.size + 1, 2, none⟩ (.int .i64 R.floor)).setCell ⟨w.heap.size + 1, 3, none⟩ (.int .i64 R.last)).setCell ⟨w.heap.size + 1, 4, none⟩ (.int .i64 R.scale)).setCell ⟨w.heap.size + 1, 5, none⟩ (.slice pR R.segs.length cR)).setCell ⟨w.heap.size + 1, 6, none⟩ (.slice qR R.opn.length vR)) (w.heap.size + 1) #[.string R.name, .int .i64 R.eps, .int .i64 R.floor, .int .i64 R.last, .int .i64 R.scale, .slice pR R.segs.length cR, .slice qR R.opn.length vR] 26 := blkAny2
        have hR9 : Rex [w.heap.size + 1] w9 (((((((w9.setCell ⟨w.heap.size + 1, 0, none⟩ (.string R.name)).setCell ⟨w.heap.size + 1, 1, none⟩ (.int .i64 R.eps)).setCell ⟨w.heap.size + 1, 2, none⟩ (.int .i64 R.floor)).setCell ⟨w.heap.size + 1, 3, none⟩ (.int .i64 R.last)).setCell ⟨w.heap.size + 1, 4, none⟩ (.int .i64 R.scale)).setCell ⟨w.heap.size + 1, 5, none⟩ (.slice pR R.segs.length cR)).setCell ⟨w.heap.size + 1, 6, none⟩ (.slice qR R.opn.length vR)) := ((((((((Rex.refl [w.heap.size + 1] w9).setOwn b1 (by simp) 0 _).setOwn (b1.set 0 _) (by simp) 1 _).setOwn ((b1.set 0 _).set 1 _) (by simp) 2 _).setOwn (((b1.set 0 _).set 1 _).set 2 _) (by simp) 3 _).setOwn ((((b1.set 0 _).set 1 _).set 2 _).set 3 _) (by simp) 4 _).setOwn (((((b1.set 0 _).set 1 _).set 2 _).set 3 _).set 4 _) (by simp) 5 _).setOwn ((((((b1.set 0 _).set 1 _).set 2 _).set 3 _).set 4 _).set 5 _) (by simp) 6 _)
        obtain ⟨W9, hW9⟩ : ∃ W9, W9 = (((((((w9.setCell ⟨w.heap.size + 1, 0, none⟩ (.string R.name)).setCell ⟨w.heap.size + 1, 1, none⟩ (.int .i64 R.eps)).setCell ⟨w.heap.size + 1, 2, none⟩ (.int .i64 R.floor)).setCell ⟨w.heap.size + 1, 3, none⟩ (.int .i64 R.last)).setCell ⟨w.heap.size + 1, 4, none⟩ (.int .i64 R.scale)).setCell ⟨w.heap.size + 1, 5, none⟩ (.slice pR R.segs.length cR)).setCell ⟨w.heap.size + 1, 6, none⟩ (.slice qR R.opn.length vR)) := ⟨_, rfl⟩
        rw [← hW9] at d2 hR9 ⊢
        clear hW9 b1 b2 k1 f1 k2 f2
        have k2 := d2.cell
        have f2 := d2.frozen
        have y_2 := d2.lt
        refine bodyPost_ret (v := .tuple #[.agg #[.string R.name, .int .i64 R.eps, .int .i64 R.floor, .int .i64 R.last, .int .i64 R.scale, .slice pR R.segs.length cR, .slice qR R.opn.length vR], .int .i64 0]) (by simp [results, Tryz.results56, go_sem, k2, f2, y_2]) rfl ⟨hW.trans (hR9.of_priv (by omega) (by simp)), .inr ⟨hER.out, pR, cR, qR, vR, rfl, fun L W' hL hr => hin.out ((w.heap.size + 1) :: L) W' (fun x hx => by rcases List.mem_cons.1 hx with rfl | hx; omega; have := hL _ hx; omega) ((hR9.more (by simp)).trans (hr.more fun x hx => List.mem_cons_of_mem _ hx))⟩⟩
      · have hE9 : (ER != 0) = true := by simpa using hER
        clear hok cD
        have k1 := b1.cell
        have f1 := b1.frozen
        go_wp2
        refine bodyPost_ret (v := .tuple #[.agg #[.string { data := #[] }, .int .i64 0, .int .i64 0, .int .i64 0, .int .i64 0, .slice none 0 0, .slice none 0 0], .int .i64 ER]) (by simp [results, Tryz.results56, go_sem, k1, f1, yb1]) rfl ⟨by exact belowAny, .inl ⟨hER, rfl⟩⟩
end Go.Proofs.YtpdhdjlhicceoaaGreatDoor
