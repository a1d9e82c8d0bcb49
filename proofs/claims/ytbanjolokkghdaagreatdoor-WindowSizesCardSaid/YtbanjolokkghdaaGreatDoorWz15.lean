/- Parts of the proof that follows: seg.Far$1, walked: how far a segment is from points. No condition. | A range over a function whose iterator writes a variable of its own ahead of the first round, and whose body never leaves: one law. No condition. | Layer vary: the iterator of a number's bytes. No condition. | How many bytes a segment has. Plain. -/
import Derived.Test.YtbanjolokkghdaaGreatDoorWz14
set_option linter.unusedSimpArgs false
set_option linter.unusedVariables false
namespace Go.Proofs.YtbanjolokkghdaaGreatDoor
open Go.RowKit Go.Shelf
attribute [local go_sem] Oper.semAt_some
/-- A point of a segment, and one that is held against it. -/
def okZ (z : (Int × Int) × (Int × Int)) : Bool := (z.2.1 == z.1.1) && isBack z.2.2
def farStep (f : Int) (z : (Int × Int) × (Int × Int)) : Int := mx (mx f (wrap64 (z.2.2 - z.1.2))) (wrap64 (z.1.2 - z.2.2))
def farOf (l : List ((Int × Int) × (Int × Int))) : Int := l.foldl farStep 0
/-- What a round of the loop keeps for the points' sake: what lay below, and all cells from a block on. -/
structure KF (B0 n₀ : Nat) (A B : World) : Prop where
  below : Below B0 A B
  rest : ∀ (b : Nat) (cs : Array Value) (t : TypeId) (f : Nat × Nat), n₀ ≤ b → A.heap[b]? = some (.cells cs t f) → B.heap[b]? = some (.cells cs t f)
theorem KF.refl (B0 n₀ : Nat) (A : World) : KF B0 n₀ A A := ⟨Below.refl _ _, fun _ _ _ _ _ h => h⟩
theorem KF.trans {B0 n₀ : Nat} {A B C : World} (h : KF B0 n₀ A B) (k : KF B0 n₀ B C) : KF B0 n₀ A C := ⟨h.below.trans k.below, fun b cs t f hb ha => k.rest b cs t f hb (h.rest b cs t f hb ha)⟩
theorem KF.alloc {B0 n₀ : Nat} {A B : World} (h : KF B0 n₀ A B) (hB : B0 ≤ B.heap.size) (o : Obj) : KF B0 n₀ A (B.alloc o) := ⟨h.below.alloc hB o, fun b cs t f hb ha => (Below.heap_alloc B o b (lt_of_heap (h.rest b cs t f hb ha))).trans (h.rest b cs t f hb ha)⟩
theorem KF.set {B0 n₀ : Nat} {A B : World} (h : KF B0 n₀ A B) {g i : Nat} (h1 : B0 ≤ g) (h2 : g < n₀) (v : Value) : KF B0 n₀ A (B.setCell ⟨g, i, none⟩ v) := ⟨h.below.setCell (p := ⟨g, i, none⟩) h1 v, fun b cs t f hb ha => (Below.heap_setCell B ⟨g, i, none⟩ v b (by simp; omega)).trans (h.rest b cs t f hb ha)⟩
theorem KF.calls {B0 n₀ : Nat} {A B C : World} (h : KF B0 n₀ A B) (hb : Below B.heap.size B C) (hB : B0 ≤ B.heap.size) : KF B0 n₀ A C := ⟨h.below.trans (hb.mono hB), fun b cs t f hn ha => (hb.block b (lt_of_heap (h.rest b cs t f hn ha))).trans (h.rest b cs t f hn ha)⟩
theorem KF.putObj {B0 n₀ : Nat} {w : World} (hB : B0 ≤ w.heap.size) (W : World) (l : Nat) (o o' : Obj) (hl : w.heap.size ≤ l) (h : W.heap[l]? = some o) (h1 : o.isCells = false) (h2 : o.isWalk = false) : KF B0 n₀ W (W.putObj l o') :=
  ⟨belowK_b hB W l o o' hl h h1 h2, fun b cs t f _ ha => keepsT_putObj o' h h1 b cs f ha⟩
theorem KeepsOthers.calls {A B C : World} (h : KeepsOthers A B) (hb : Below B.heap.size B C) : KeepsOthers A C := ⟨Nat.le_trans h.size hb.size, fun k o hk ho => by
  have e := h.same k o hk ho
  exact (hb.block k (lt_of_heap (e))).trans e⟩
def farR (s : SegT) (pts : List (Int × Int)) : Int × Int := if pts.length = (ptsL s).length then (if ((ptsL s).zip pts).all okZ then (farOf ((ptsL s).zip pts), 0) else (0, 2)) else (0, 2)
def FarOut (s : SegT) (pts : List (Int × Int)) (w : World) (e : Ending) (w' : World) : Prop := e = .returned (.tuple #[.int .i64 (farR s pts).1, .int .i64 (farR s pts).2]) ∧ Below w.heap.size w w'
end Go.Proofs.YtbanjolokkghdaaGreatDoor
namespace Go.Proofs.YtbanjolokkghdaaGreatDoor
open Go.RowKit Go.Shelf
attribute [local go_sem] Oper.semAt_some

/-- What such an iterator promises: its own variable lies in block Ba. -/
def SeqWr {α : Type} (F : Fence) (n : Nat) (P : Program) (g : Nat) (lb : Array Value) (encs : α → Array Value) (Kp : World → World → Prop) (xs : List α) (Ba : Nat) (w : World) : Prop :=
  ∀ (l : Nat) (J : List α → World → Prop) (W : World), Below w.heap.size w W → AbidesFrom W.heap.size J → (∀ pre W1 v, J pre W1 → J pre (W1.setCell ⟨Ba, 0, none⟩ v)) →
    (∀ pre x W1, J pre W1 → pre ++ [x] <+: xs → YieldAt F (n - 1) P l (encs x) W1 fun e W' => e = .returned (.bool true) ∧ J (pre ++ [x]) W' ∧ Kp W1 W') →
    J [] W → CallsIn F n P g (#[.func (.yield l) #[] #[]] ++ lb) W fun e W' => (∃ v, e = .returned v) ∧ J xs W'

/-- What a round of a body that never leaves must achieve. -/
def goesOn {α : Type} (B : Nat) (Kp : World → World → Prop) (I : List α → World → Prop) (pre : List α) (W : World) : Exit → Act → World → Prop
  | .normal, _, W' => KeepsFrom B W W' ∧ Kp W W' ∧ I pre W'
  | _, _, _ => False

set_option maxRecDepth 100000 in
theorem rangeFunc_wr {α : Type} {F : Fence} {P : Program} {n : Nat} {g : Operand} {ps : Array Tmp} {assign body : Code} {Q : Exit → Act → World → Prop} {a : Act} {w : World} (hro : F.round = none) (h1 : 1 ≤ n) {gf : Nat} {lb : Array Value}
    (hg : a.eval g = .func (.func gf) #[] lb) (hFg : F.fn gf) (eg : ∀ args w, (callFunc gf args).run P w = .ok (.enter gf args) w) {encs : α → Array Value} {Kp : World → World → Prop} {xs : List α} {Ba : Nat} (hBa : Ba < w.heap.size)
    (hseq : SeqWr F (n - 1) P gf lb encs Kp xs Ba w) (hKt : ∀ {A B C : World}, Kp A B → Kp B C → Kp A C)
    (hKb : ∀ (W : World) (l : Nat) (o o' : Obj), w.heap.size ≤ l → W.heap[l]? = some o → o.isCells = false → o.isWalk = false → Kp W (W.putObj l o')) (hps : ∀ x, (encs x).size = ps.size)
    (I : List α → World → Prop) (hI : OwnFrom w.heap.size I) (hIw : ∀ pre W v, I pre W → I pre (W.setCell ⟨Ba, 0, none⟩ v)) (h0 : I [] w) (Ax : α → Act → World → Prop) (hAx : ∀ x a', OwnFrom w.heap.size (fun (_ : Unit) W => Ax x a' W))
    (hassign : ∀ (l : Nat) (pre : List α) (x : α) (W : World) (K : Act → World → Prop), I pre W → (∀ a' W', KeepsFrom w.heap.size W W' → Kp W W' → I pre W' → Ax x a' W' → K a' W') →
      assign.wpIn (F.inRound l) (n - 1 - 1) P (Exit.then K (fun _ _ _ => False)) { tmps := (ps.zip (encs x)).foldl (fun t (p, v) => t.setIfInBounds p v) a.tmps, defers := [] } W)
    (hbody : ∀ (l : Nat) (pre : List α) (x : α) (a' : Act) (W : World), I pre W → Ax x a' W → pre ++ [x] <+: xs → body.wpIn (F.inRound l) (n - 1 - 1) P (goesOn w.heap.size Kp I (pre ++ [x]) W) a' W)
    (hdone : ∀ (D : Nat) (W : World), w.heap.size ≤ D → I xs W → W.heap[D]? = some (.deferred (some [])) → Q .normal { a with defers := { target := .collected D, args := #[] } :: a.defers } W) :
    (Code.rangeFunc g ps assign body).wpIn F n P Q a w := by
  refine wpIn_rangeFunc fun fn hfn => ?_
  rw [hro]
  let rec0 : LoopState → Option Code → Loop := fun st pe => { state := st, pending := pe, fn, tmps := a.tmps, params := ps, assign, body, defers := w.heap.size }
  obtain ⟨rc, hrc⟩ : ∃ r, r = rec0 := ⟨_, rfl⟩
  let D := w.heap.size
  obtain ⟨W1, e1⟩ : ∃ W1, W1 = (w.alloc (.deferred (some []))).alloc (.loop (rc .ready none)) := ⟨_, rfl⟩
  have hD : W1.heap[D]? = some (.deferred (some [])) := by rw [e1]; exact (Below.heap_alloc _ _ _ (by simp [D])).trans (World.alloc_heap_new w _)
  have hL : W1.heap[D + 1]? = some (.loop (rc .ready none)) := by
    rw [e1]; have := World.alloc_heap_new (w.alloc (.deferred (some []))) (.loop (rc .ready none)); rwa [World.size_alloc] at this
  have hB : Below w.heap.size w W1 := by rw [e1]; exact ((Below.refl _ w).alloc (Nat.le_refl _) _).alloc (by simp) _
  refine ⟨D + 1, [{ target := .collected D, args := #[] }], W1, { target := .fn (.func gf) lb, args := #[.func (.yield (D + 1)) #[] #[]] }, W1, gf, #[.func (.yield (D + 1)) #[] #[]] ++ lb, W1, ?_, ?_, ?_, ?_, fun _ => h1, ?_⟩
  · rw [e1, hrc]; exact run_enterLoop_outer _ _ _ _ _
  · simp only [resolve, hg]
    simp [go_sem]
  · intro f' hf'
    simp [Target.leads] at hf'
    exact hf' ▸ hFg
  · simp [invoke, go_sem, eg]
  · have hsz : W1.heap.size = D + 1 + 1 := by rw [e1]; simp [D]
    refine (hseq (D + 1) (fun pre W => I pre W ∧ W.heap[D + 1]? = some (.loop (rc .ready none)) ∧ W.heap[D]? = some (.deferred (some []))) W1 hB ?_ ?_ ?_ ⟨by rw [e1]; exact hI.alloc _ (hI.alloc _ h0), hL, hD⟩).mono ?_
    · -- what the iterator makes, and turns of its own
      intro pre A C row hs hgr hr
      refine ⟨hI pre A C row hs.1 hgr fun r e => ?_, (grownBy_keeps hgr (fun r e => (hr r e).2) hs.2.1 rfl).trans hs.2.1, (grownBy_keeps hgr (fun r e => (hr r e).2) hs.2.2 rfl).trans hs.2.2⟩
      obtain ⟨k1, o, k2, k3⟩ := hr r e
      exact ⟨by simp only [D] at hsz; omega, o, k2, Obj.not_cells_of_walk k3⟩
    · -- the variable of its own
      intro pre A v hs
      exact ⟨hIw pre A v hs.1, (heap_setCell_other A ⟨Ba, 0, none⟩ (D + 1) v (by simp only [D]; omega)).trans hs.2.1, (heap_setCell_other A ⟨Ba, 0, none⟩ D v (by simp only [D]; omega)).trans hs.2.2⟩
    · -- one round
      rintro pre x W ⟨hi, hl, hd⟩ hlen
      have hy := run_yield (P := P) (args := encs x) hl (by rw [hrc]; exact hps x)
      rw [hrc] at hy
      refine ⟨fn, _, assign, body, hy, roundIn_of_wpIn hfn (hassign _ pre x W _ hi fun a' V hkf hkp hiV hax => ?_)⟩
      have hlV : V.heap[D + 1]? = some (.loop (rc .ready none)) := hkf.same _ _ (by simp only [D]; omega) hl rfl
      have hdV : V.heap[D]? = some (.deferred (some [])) := hkf.same _ _ (Nat.le_refl _) hd rfl
      have hlt := lt_of_heap hlV
      refine ⟨_, run_beginRound hlV (by rw [hrc]), ?_⟩
      obtain ⟨V2, e2⟩ : ∃ V2, V2 = V.putObj (D + 1) (.loop { rc .ready none with state := .busy }) := ⟨_, rfl⟩
      rw [← e2]
      have hl2 : V2.heap[D + 1]? = some (.loop { rc .ready none with state := .busy }) := by rw [e2]; exact World.putObj_heap_same hlt
      have hd2 : V2.heap[D]? = some (.deferred (some [])) := by rw [e2]; exact (World.putObj_heap_other (by omega)).trans hdV
      have hk2 : Kp V V2 := by rw [e2]; exact hKb _ _ _ _ (by simp only [D]; omega) hlV rfl rfl
      refine wpIn_mono (hbody _ pre x a' V2 (by rw [e2]; exact hI.putObj _ hiV (by simp only [D]; omega) hlV rfl) (by rw [e2]; exact (hAx x a').putObj (s := ()) _ hax (by simp only [D]; omega) hlV rfl) hlen) ?_
      intro e a3 W3 hp
      cases e with
      | normal =>
        obtain ⟨q1, q2, q3⟩ := hp
        have hl3 := q1.same _ _ (by simp only [D]; omega) hl2 rfl
        have hd3 := q1.same _ _ (Nat.le_refl _) hd2 rfl
        have hr := run_endRound (P := P) none hl3
        refine ⟨_, _, hr, rfl, ⟨hI.putObj _ q3 (by simp only [D]; omega) hl3 rfl, ?_, (World.putObj_heap_other (by omega)).trans hd3⟩, hKt hkp (hKt (hKt hk2 q2) (hKb _ _ _ _ (by simp only [D]; omega) hl3 rfl rfl))⟩
        have := World.putObj_heap_same (w := W3) (r := D + 1) (o := .loop { rc .ready none with state := .ready, pending := none }) (lt_of_heap hl3)
        rw [hrc] at this ⊢
        exact this
      | ret => exact hp.elim
      | exit id => exact hp.elim
      | goto t => exact hp.elim
      | panic c => exact hp.elim
      | outgrown => exact hp.elim
    · -- behind the iterator
      rintro e W2 ⟨⟨v, rfl⟩, hi, hl, hd⟩
      refine ⟨none, _, by have := run_endLoop (P := P) hl (by rw [hrc]; simp [rec0]); rw [hrc] at this; exact this, hdone D _ (Nat.le_refl _) (hI.putObj _ hi (by simp only [D]; omega) hl rfl) ((World.putObj_heap_other (by omega)).trans hd)⟩
end Go.Proofs.YtbanjolokkghdaaGreatDoor
namespace Go.Proofs.YtbanjolokkghdaaGreatDoor
open Go.RowKit Go.Shelf
attribute [local go_sem] Oper.semAt_some
def loByte (n : Int) : Int := bits BinOp.and IntKind.u64 n 127 % 256
def hiByte (n : Int) : Int := bits BinOp.or IntKind.u8 (loByte n) 128
/-- The bytes of a number, one behind the other. -/
def byL (n : Nat) : List Int := if n < 128 then [loByte n] else hiByte n :: byL (n / 128)
termination_by n
decreasing_by omega
theorem byL_len (n : Nat) : (byL n).length = vlen n := by
  induction n using Nat.strongRecOn with
  | _ n ih =>
    rw [byL, vlen]
    by_cases h : n < 128
    · rw [if_pos h, if_pos h]; rfl
    · rw [if_neg h, if_neg h, List.length_cons, ih (n / 128) (by omega)]
theorem byL_great {n : Nat} (h : ¬ n < 128) : byL n = hiByte n :: byL (n / 128) := by rw [byL, if_neg h]
def numIn (W : World) (B : Nat) : Nat := match W.cell? ⟨B, 0, none⟩ with | some (.int _ n) => n.toNat | _ => 0
def byRel (z lr Bn : Nat) (J : List Int → World → Prop) (a' : Act) (W : World) : Prop :=
  ∃ (c : Nat) (pre : List Int), (∃ u : Nat → Value, a' = { tmps := #[.func (.yield lr) #[] #[], .pointer (some ⟨Bn, 0, none⟩), u 2, u 3, u 4, u 5, u 6, u 7, u 8, u 9, u 10, u 11, u 12, u 13, u 14, u 15, u 16, u 17, u 18, u 19, u 20], defers := [] }) ∧ pre ++ byL c = byL z ∧ J pre W ∧ Blk W Bn #[.int .u64 (c : Int)] 309 ∧ c < 18446744073709551616
set_option maxRecDepth 100000 in
set_option maxHeartbeats 4000000 in
theorem numB1_in (n : Nat) (hn : 1 ≤ n) (lr Bn z : Nat) (hz : z < 18446744073709551616) (Kp : World → World → Prop) (hK : ∀ {A B cs}, Kp A B → Blk A Bn cs 309 → Blk B Bn cs 309)
    (J : List Int → World → Prop) (hJw : ∀ pre W v, J pre W → J pre (W.setCell ⟨Bn, 0, none⟩ v))
    (hY : ∀ pre x W, J pre W → pre ++ [x] <+: byL z → YieldAt Fence.wide (n - 1) Tryz.prog lr #[.int .u8 x] W fun e W' => e = .returned (.bool true) ∧ J (pre ++ [x]) W' ∧ Kp W W')
    (W : World) (hb : Blk W Bn #[.int .u64 (z : Int)] 309) (h0 : J [] W) :
    CallsIn Fence.wide n Tryz.prog 257 #[.func (.yield lr) #[] #[], .pointer (some ⟨Bn, 0, none⟩)] W fun e W' => (∃ v, e = .returned v) ∧ J (byL z) W' := by
  refine callsIn_of_wp Tryz.func257 rfl trivial ?_ rfl
  simp only [Tryz.ntmps257, List.size_toArray, List.length_cons, List.length_nil, Nat.reduceAdd, Nat.reduceSub, Array.replicate_succ, Array.replicate_zero, List.push_toArray, List.append_toArray, List.nil_append, List.cons_append]
  refine wpIn_scope (wpIn_lab ?_)
  gi_wp2
  refine wpIn_loop (byRel z lr Bn J) (fun _ W => numIn W Bn) ?_ ?_
  · exact ⟨z, [], frame_ex rfl, by simp, h0, hb, hz⟩
  rintro a' W1 ⟨c, pre, ⟨u, rfl⟩, hpre, hJ, b1, hc⟩
  have k1 := b1.cell
  have f1 := b1.frozen
  have y1 := b1.lt
  obtain ⟨W2, hW2⟩ : ∃ W2, W2 = W1.setCell ⟨Bn, 0, none⟩ (.int .u64 ((c : Int) / 128)) := ⟨_, rfl⟩
  have b2 : Blk W2 Bn #[.int .u64 ((c : Int) / 128)] 309 := by rw [hW2]; exact b1.set2 (by rfl)
  have hJ2 : J pre W2 := by rw [hW2]; exact hJw _ _ _ hJ
  by_cases h : c < 128
  · have hp : pre ++ [loByte c] = byL z := by rw [← hpre, byL, if_pos h]
    obtain ⟨fn, tmps, assign, body, hy, hR'⟩ := hY pre (loByte c) W2 hJ2 (by rw [hp]; exact List.prefix_refl _)
    unfold loByte at hy
    rw [hW2] at hy
    gi_wp2
    rw [← hW2]
    refine hR'.mono ?_
    rintro e W3 ⟨rfl, hJ3, hk3⟩
    have b3 := hK hk3 b2
    have k3 := b3.cell
    rw [hp] at hJ3
    replace hp := Lib.hid hp
    replace hpre := Lib.hid hpre
    gi_wp2
    simp only [Exit.noGoto]
    refine bodyPost_end (results_none rfl _ _ _) rfl ?_
    exact ⟨⟨_, rfl⟩, hJ3⟩
  · have hp : (pre ++ [hiByte c]) ++ byL (c / 128) = byL z := by rw [← hpre, byL_great h, List.append_assoc]; rfl
    obtain ⟨fn, tmps, assign, body, hy, hR'⟩ := hY pre (hiByte c) W2 hJ2 ⟨_, hp⟩
    unfold hiByte loByte at hy
    rw [hW2] at hy
    gi_wp2
    rw [← hW2]
    refine hR'.mono ?_
    rintro e W3 ⟨rfl, hJ3, hk3⟩
    have b3 := hK hk3 b2
    have k3 := b3.cell
    replace hp := Lib.hid hp
    replace hpre := Lib.hid hpre
    gi_wp2
    refine ⟨⟨c / 128, pre ++ [hiByte c], frame_ex rfl, hp.out, hJ3, by rw [show (((c / 128 : Nat)) : Int) = (c : Int) / 128 by omega]; exact b3, by omega⟩, ?_⟩
    have e1 : numIn W3 Bn = c / 128 := by unfold numIn; rw [b3.cell]; simp; omega
    have e2 : numIn W1 Bn = c := by unfold numIn; rw [b1.cell]; simp
    rw [e1, e2]
    omega
set_option maxRecDepth 100000 in
set_option maxHeartbeats 2000000 in
theorem c_vyBytes (z : Int) (w : World) : Calls Tryz.prog 225 #[.int .u64 z] w fun e w' => e = .returned (.func (.func 257) #[] #[.pointer (some ⟨w.heap.size, 0, none⟩)]) ∧ w' = w.alloc (.cells #[.int .u64 z] 309) := by
  have hmf : ∀ (fn : Fn) (first cap : Array Value) (w : World), (Instr.makeFunc fn first cap).run Tryz.prog w = .ok (.func fn first cap) w := fun _ _ _ _ => rfl
  go_enter Tryz.func225, Tryz.ntmps225
  go_wp2
  go_ret
  exact ⟨by simp, rfl⟩
end Go.Proofs.YtbanjolokkghdaaGreatDoor
namespace Go.Proofs.YtbanjolokkghdaaGreatDoor
open Go.RowKit
/-- The last time ahead of a run. -/
def fromI (l : List RunT) : Nat → Int
  | 0 => 0
  | j + 1 => match l[j]? with | some r => lastI r | none => 0
def runSz (l : List RunT) (i : Nat) (r : RunT) : Nat := vlen (r.f - fromI l i).toNat + vlen r.c.toNat + (if 1 < r.c then vlen r.s.toNat else 0)
/-- Bytes of the first runs. -/
def szTo (l : List RunT) : Nat → Nat
  | 0 => 0
  | n + 1 => szTo l n + match l[n]? with | some r => runSz l n r | none => 0
def prevV (l : List Int) : Nat → Int
  | 0 => 0
  | j + 1 => match l[j]? with | some v => v | none => 0
/-- Bytes of the first values. -/
def rawTo (l : List Int) : Nat → Nat
  | 0 => 0
  | n + 1 => rawTo l n + match l[n]? with | some v => vlen (foldZ (v - prevV l n)) | none => 0
def lineSz (K A R n d : Int) : Nat := (if K = 3 then vlen R.toNat else 0) + ((if K = 2 ∨ K = 3 then vlen (foldZ n) + vlen d.toNat else 0) + (if K = 4 then 0 else vlen (foldZ A)))
def segSz (s : SegT) : Nat := 1 + vlen s.E.toNat + vlen s.runs.length + szTo s.runs s.runs.length + lineSz s.K s.A s.R s.n s.d + rawTo s.raw s.raw.length
theorem szTo_succ {l : List RunT} {i : Nat} {r : RunT} (h : l[i]? = some r) : szTo l (i + 1) = szTo l i + runSz l i r := by simp only [szTo, h]
theorem rawTo_succ {l : List Int} {i : Nat} {v : Int} (h : l[i]? = some v) : rawTo l (i + 1) = rawTo l i + vlen (foldZ (v - prevV l i)) := by simp only [rawTo, h]
theorem fromI_succ {l : List RunT} {j : Nat} {r : RunT} (h : l[j]? = some r) : fromI l (j + 1) = lastI r := by simp only [fromI, h]
theorem prevV_succ {l : List Int} {j : Nat} {v : Int} (h : l[j]? = some v) : prevV l (j + 1) = v := by simp only [prevV, h]
theorem fromI_le {l : List RunT} (hl : RunsOk l) {i : Nat} {r : RunT} (h : l[i]? = some r) : 0 ≤ fromI l i ∧ fromI l i ≤ r.f := by
  have hr := hl.each r (List.mem_of_getElem? h)
  cases i with
  | zero => exact ⟨Int.le_refl _, hr.f0⟩
  | succ j =>
    obtain ⟨q, hq⟩ : ∃ q, l[j]? = some q := ⟨_, List.getElem?_eq_getElem (by have := (List.getElem?_eq_some_iff.1 h).1; omega)⟩
    rw [fromI_succ hq]
    have h1 := ((chain_iff l).1 hl.chain j q r hq h).1.1
    have h2 := lastI_le (hl.each q (List.mem_of_getElem? hq))
    have h3 := (hl.each q (List.mem_of_getElem? hq)).f0
    omega
theorem prev_bd {l : List Int} (hl : l.all isBack = true) (i : Nat) : -2305844108725321728 ≤ prevV l i ∧ prevV l i ≤ 2305844108725321728 := by
  cases i with
  | zero =>
    show (-2305844108725321728 : Int) ≤ 0 ∧ (0 : Int) ≤ 2305844108725321728
    exact ⟨by decide, by decide⟩
  | succ j =>
    cases h : l[j]? with
    | none =>
      have e : prevV l (j + 1) = 0 := by simp only [prevV, h]
      rw [e]
      exact ⟨by decide, by decide⟩
    | some v =>
      rw [prevV_succ h]
      have h1 := List.all_eq_true.1 hl v (List.mem_of_getElem? h)
      unfold isBack at h1
      simp at h1
      exact h1
/-- What a segment that may be has for its bytes. -/
structure SzOk (s : SegT) : Prop where
  runs : RunsOk s.runs
  e0 : 0 ≤ s.E
  e1 : s.E ≤ 1099511627776
  k0 : 1 ≤ s.K
  k1 : s.K ≤ 4
  r0 : 0 ≤ s.R
  r1 : s.R ≤ 281474976710656
  n0 : I64 s.n
  d0 : 0 ≤ s.d
  d1 : s.d ≤ 281474976710656
  a0 : I64 s.A
  raw : s.raw.all isBack = true
  fewV : s.raw.length ≤ 256
  none : s.K ≠ 4 → s.raw = []
theorem sz_ok {s : SegT} (h : segB s = true) : SzOk s := by
  have hr := segB_runs h
  have hc := hr.count
  unfold segB kindB lineIsB isLine isSlope isBack lineZ at h
  simp only [Bool.and_eq_true, decide_eq_true_eq] at h
  obtain ⟨-, ⟨e0, e1⟩, hk⟩ := h
  by_cases k1 : s.K = 1
  · simp [k1] at hk
    obtain ⟨g1, ⟨⟨⟨⟨⟨g2, g3, g4⟩, -⟩, g5⟩, g6⟩, -⟩, hv⟩ := hk
    exact ⟨hr, e0, e1, by omega, by omega, by omega, by omega, by unfold I64; omega, by omega, by omega, by unfold I64; omega, by rw [hv]; rfl, by rw [hv]; decide, fun _ => hv⟩
  by_cases k2 : s.K = 2
  · simp [k2] at hk
    obtain ⟨g1, g7, ⟨⟨⟨⟨⟨g2, g3, g4⟩, -⟩, g5⟩, g6⟩, -⟩, hv⟩ := hk
    exact ⟨hr, e0, e1, by omega, by omega, by omega, by omega, by unfold I64; omega, by omega, by omega, by unfold I64; omega, by rw [hv]; rfl, by rw [hv]; decide, fun _ => hv⟩
  by_cases k3 : s.K = 3
  · simp [k3] at hk
    obtain ⟨g1, ⟨⟨⟨⟨⟨g2, g3, g4⟩, -⟩, g5⟩, g6⟩, -⟩, hv⟩ := hk
    exact ⟨hr, e0, e1, by omega, by omega, by omega, by omega, by unfold I64; omega, by omega, by omega, by unfold I64; omega, by rw [hv]; rfl, by rw [hv]; decide, fun _ => hv⟩
  by_cases k4 : s.K = 4
  · simp [k4] at hk
    obtain ⟨⟨⟨g1, g2, g3, g4⟩, g5⟩, g6⟩ := hk
    exact ⟨hr, e0, e1, by omega, by omega, by omega, by omega, by unfold I64; omega, by omega, by omega, by unfold I64; omega, by simp only [List.all_eq_true]; intro x hx; have := g6 x hx; unfold isBack; simp; exact this, by omega, fun e => absurd k4 e⟩
  · simp [k1, k2, k3, k4] at hk
end Go.Proofs.YtbanjolokkghdaaGreatDoor
