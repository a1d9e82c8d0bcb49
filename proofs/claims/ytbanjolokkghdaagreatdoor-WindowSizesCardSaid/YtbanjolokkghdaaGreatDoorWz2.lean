/- Parts of the proof that follows: The steps of a walk through a region that draws its order: one law a kind of operation. No condition. | The two functions of math/bits that the model stands in for, at this program; small facts for the walks. No condition but that what comes in are words. | Layer wide: what each function of numbers of 128 bits hands back. Every number of 128 bits. | Layer wide, going on: told, Add, Sub, Of, Compare. Every number of 128 bits. | Layer wide: Compare, Mul, Int, and math/bits.Mul64. Every number. -/
import Derived.ScopeJumps
import Derived.WalkMore
import Derived.WalkKit
import Derived.Test.YtbanjolokkghdaaGreatDoorProg
import Derived.WalkSpells
import Derived.WalkLawsBesides
import Derived.Lib.Mul64
import Derived.Test.YtbanjolokkghdaaGreatDoorWz1
set_option linter.unusedSimpArgs false
set_option linter.unusedVariables false
namespace Go.Proofs.YtbanjolokkghdaaGreatDoor
open Go.RowKit

def Det (c : Value) : Spec := fun v _ => v = c
def GDet (p : Bool) (c : Value) : Spec := fun v _ => if p = true then v = c else v = undef

theorem closed_det (L : List Nat) (c : Value) : Closed L (Det c) := fun _ _ _ _ h => h
theorem closed_gdet (L : List Nat) (p : Bool) (c : Value) : Closed L (GDet p c) := fun _ _ _ _ h => h

section
variable {P : Program} {ops : Array Oper} {C : World → Prop} {X : List (Nat × Nat)} {a0 : Act} {Fin : List (Option Tmp × Spec) → Prop} {i : Nat} {o : Oper} {rest : List Oper} {acc : List (Option Tmp × Spec)}

theorem wanted_none {o : Oper} {y : Nat → Option Bool} (h : o.guard = none) : Region.wanted o y = true := by simp [Region.wanted, h]
theorem wanted_some {o : Oper} {k : Nat} {want x : Bool} {d : Tmp} {a : Act} (h : o.guard = some (k, want)) (hd : wrOf ops k = some d) (hv : a.tmps.getD d undef = .bool x) :
    Region.wanted o (yielded ops a.tmps) = (x == want) := by
  have hx : a.tmps[d]? = some (.bool x) := by
    cases h : a.tmps[d]? with
    | none => simp [h, undef] at hv
    | some v => simpa [h] using hv
  unfold wrOf at hd
  simp only [Region.wanted, h, yielded, hd, Option.bind_some, hx]
  cases x <;> cases want <;> rfl
theorem wanted_undef {o : Oper} {k : Nat} {want : Bool} {d : Tmp} {a : Act} (h : o.guard = some (k, want)) (hd : wrOf ops k = some d) (hv : a.tmps.getD d undef = undef) :
    Region.wanted o (yielded ops a.tmps) = false := by
  unfold wrOf at hd
  have : ∀ b, a.tmps[d]? ≠ some (.bool b) := by
    intro b hb
    simp [hb, undef] at hv
  simp only [Region.wanted, h, yielded, hd, Option.bind_some]
  cases hx : a.tmps[d]? with
  | none => rfl
  | some v => cases v with
    | bool b => exact absurd hx (this b)
    | _ => rfl

/-- An operation that only reckons or reads: one value. -/
theorem nd_det (c : Value) (hg : o.guard = none) (hal : isAlloc o = false)
    (h : ∀ (a : Act) (w : World), C w → (∀ s ∈ o.looksAt ops, envOf a0 acc s (a.tmps.getD s undef) w) → (execOp a.eval o).run P w = .ok (.value c) w)
    (hr : ndWalk P ops C X a0 Fin (i + 1) rest ((o.dst, Det c) :: acc)) : ndWalk P ops C X a0 Fin i (o :: rest) acc :=
  ⟨Det c, closed_det _ _, fun a w hC hE => ⟨fun _ => by rw [h a w hC hE]; exact ⟨Rex.refl _ _, rfl, fun e => by rw [hal] at e; cases e⟩, fun e => by rw [wanted_none hg] at e; cases e⟩, hr⟩

/-- .. behind a guard: the guard's own operation is itself carried out where p. -/
theorem nd_detg (p x want : Bool) (k : Nat) (d : Tmp) (c : Value) (hg : o.guard = some (k, want)) (hd : wrOf ops k = some d) (hal : isAlloc o = false)
    (hx : ∀ v w, envOf a0 acc d v w → if p = true then v = .bool x else v = undef)
    (h : p = true → x = want → ∀ (a : Act) (w : World), C w → (∀ s ∈ o.looksAt ops, envOf a0 acc s (a.tmps.getD s undef) w) → (execOp a.eval o).run P w = .ok (.value c) w)
    (hr : ndWalk P ops C X a0 Fin (i + 1) rest ((o.dst, GDet (p && (x == want)) c) :: acc)) : ndWalk P ops C X a0 Fin i (o :: rest) acc := by
  refine ⟨GDet (p && (x == want)) c, closed_gdet _ _ _, fun a w hC hE => ?_, hr⟩
  have hin : d ∈ o.looksAt ops := by
    unfold wrOf at hd
    simp [Oper.looksAt, hg, hd]
  have hv := hx _ _ (hE d hin)
  cases p with
  | true =>
    have hw := wanted_some (o := o) hg hd (by simpa using hv)
    refine ⟨fun e => ?_, fun e => ?_⟩
    · rw [hw] at e
      rw [h rfl (by simpa using e) a w hC hE]
      exact ⟨Rex.refl _ _, by simp [GDet, e], fun e => by rw [hal] at e; cases e⟩
    · rw [hw] at e
      simp [GDet, e]
  | false =>
    have hw := wanted_undef (o := o) hg hd (by simpa using hv)
    exact ⟨fun e => (by rw [hw] at e; cases e), fun _ => (by simp [GDet])⟩

/-- 'a && b', 'a || b': what comes of both. -/
theorem run_pick {o : Oper} {a : Act} {c x y : Operand} {b : Bool} {w : World} (ho : o.op = .pick c x y) (hc : a.eval c = .bool b) : (execOp a.eval o).run P w = .ok (.value (if b = true then a.eval x else a.eval y)) w := by
  unfold execOp
  rw [ho]
  simp [hc, asBool]

theorem nd_pick_and (x y : Bool) (c t : Tmp) (ho : o.op = .pick (.tmp c) (.tmp t) (.const (.bool false))) (hg : o.guard = none)
    (hc : ∀ v w, envOf a0 acc c v w → v = .bool x) (ht : ∀ v w, envOf a0 acc t v w → x = true → v = .bool y)
    (hr : ndWalk P ops C X a0 Fin (i + 1) rest ((o.dst, Det (.bool (x && y))) :: acc)) : ndWalk P ops C X a0 Fin i (o :: rest) acc := by
  refine nd_det (.bool (x && y)) hg (by unfold isAlloc; rw [ho]) (fun a w hC hE => ?_) hr
  have h1 := hc _ _ (hE c (by simp [Oper.looksAt, ho, Op.operands]))
  have h2 := ht _ _ (hE t (by simp [Oper.looksAt, ho, Op.operands]))
  rw [run_pick (b := x) ho (by simpa [Act.eval] using h1)]
  cases x
  · simp [Act.eval]
  · simpa [Act.eval] using h2 rfl

theorem nd_pick_or (x y : Bool) (c t : Tmp) (ho : o.op = .pick (.tmp c) (.const (.bool true)) (.tmp t)) (hg : o.guard = none)
    (hc : ∀ v w, envOf a0 acc c v w → v = .bool x) (ht : ∀ v w, envOf a0 acc t v w → x = false → v = .bool y)
    (hr : ndWalk P ops C X a0 Fin (i + 1) rest ((o.dst, Det (.bool (x || y))) :: acc)) : ndWalk P ops C X a0 Fin i (o :: rest) acc := by
  refine nd_det (.bool (x || y)) hg (by unfold isAlloc; rw [ho]) (fun a w hC hE => ?_) hr
  have h1 := hc _ _ (hE c (by simp [Oper.looksAt, ho, Op.operands]))
  have h2 := ht _ _ (hE t (by simp [Oper.looksAt, ho, Op.operands]))
  rw [run_pick (b := x) ho (by simpa [Act.eval] using h1)]
  cases x
  · simpa [Act.eval] using h2 rfl
  · simp [Act.eval]

/-- The same behind a guard. -/
theorem nd_pickg_and (p g want x y : Bool) (k : Nat) (d c t : Tmp) (ho : o.op = .pick (.tmp c) (.tmp t) (.const (.bool false))) (hg : o.guard = some (k, want)) (hd : wrOf ops k = some d)
    (hx : ∀ v w, envOf a0 acc d v w → if p = true then v = .bool g else v = undef)
    (hc : p = true → g = want → ∀ v w, envOf a0 acc c v w → v = .bool x) (ht : p = true → g = want → ∀ v w, envOf a0 acc t v w → x = true → v = .bool y)
    (hr : ndWalk P ops C X a0 Fin (i + 1) rest ((o.dst, GDet (p && (g == want)) (.bool (x && y))) :: acc)) : ndWalk P ops C X a0 Fin i (o :: rest) acc := by
  refine nd_detg p g want k d (.bool (x && y)) hg hd (by unfold isAlloc; rw [ho]) hx (fun e1 e2 a w hC hE => ?_) hr
  have h1 := hc e1 e2 _ _ (hE c (by simp [Oper.looksAt, ho, Op.operands]))
  have h2 := ht e1 e2 _ _ (hE t (by simp [Oper.looksAt, ho, Op.operands]))
  rw [run_pick (b := x) ho (by simpa [Act.eval] using h1)]
  cases x
  · simp [Act.eval]
  · simpa [Act.eval] using h2 rfl

theorem nd_pickg_or (p g want x y : Bool) (k : Nat) (d c t : Tmp) (ho : o.op = .pick (.tmp c) (.const (.bool true)) (.tmp t)) (hg : o.guard = some (k, want)) (hd : wrOf ops k = some d)
    (hx : ∀ v w, envOf a0 acc d v w → if p = true then v = .bool g else v = undef)
    (hc : p = true → g = want → ∀ v w, envOf a0 acc c v w → v = .bool x) (ht : p = true → g = want → ∀ v w, envOf a0 acc t v w → x = false → v = .bool y)
    (hr : ndWalk P ops C X a0 Fin (i + 1) rest ((o.dst, GDet (p && (g == want)) (.bool (x || y))) :: acc)) : ndWalk P ops C X a0 Fin i (o :: rest) acc := by
  refine nd_detg p g want k d (.bool (x || y)) hg hd (by unfold isAlloc; rw [ho]) hx (fun e1 e2 a w hC hE => ?_) hr
  have h1 := hc e1 e2 _ _ (hE c (by simp [Oper.looksAt, ho, Op.operands]))
  have h2 := ht e1 e2 _ _ (hE t (by simp [Oper.looksAt, ho, Op.operands]))
  rw [run_pick (b := x) ho (by simpa [Act.eval] using h1)]
  cases x
  · simpa [Act.eval] using h2 rfl
  · simp [Act.eval]

/-- A call, by its contract: its value by a specification that lasts. -/
theorem nd_call (Φ : Spec) (hcl : Closed (others X i) Φ) (hg : o.guard = none) (hal : isAlloc o = false)
    (h : ∀ (a : Act) (w : World), C w → (∀ s ∈ o.looksAt ops, envOf a0 acc s (a.tmps.getD s undef) w) →
      ∃ f args, (execOp a.eval o).run P w = .ok (.enter f args) w ∧ Calls P f args w fun e w' => ∃ u, e = .returned u ∧ Below w.heap.size w w' ∧ Φ u w')
    (hr : ndWalk P ops C X a0 Fin (i + 1) rest ((o.dst, Φ) :: acc)) : ndWalk P ops C X a0 Fin i (o :: rest) acc :=
  ⟨Φ, hcl, fun a w hC hE => ⟨fun _ => by
    obtain ⟨f, args, h1, h2⟩ := h a w hC hE
    rw [h1]
    exact ⟨rfl, hal, h2.mono fun e w' ⟨u, he, hb, hΦ⟩ => ⟨u, he, Rex.of_below hb, hΦ⟩⟩, fun e => by rw [wanted_none hg] at e; cases e⟩, hr⟩

/-- A call whose value is known. -/
theorem nd_callv (c : Value) (hg : o.guard = none) (hal : isAlloc o = false)
    (h : ∀ (a : Act) (w : World), C w → (∀ s ∈ o.looksAt ops, envOf a0 acc s (a.tmps.getD s undef) w) →
      ∃ f args, (execOp a.eval o).run P w = .ok (.enter f args) w ∧ Calls P f args w fun e w' => e = .returned c ∧ Below w.heap.size w w')
    (hr : ndWalk P ops C X a0 Fin (i + 1) rest ((o.dst, Det c) :: acc)) : ndWalk P ops C X a0 Fin i (o :: rest) acc :=
  nd_call (Det c) (closed_det _ _) hg hal (fun a w hC hE => by
    obtain ⟨f, args, h1, h2⟩ := h a w hC hE
    exact ⟨f, args, h1, h2.mono fun e w' ⟨he, hb⟩ => ⟨c, he, hb, rfl⟩⟩) hr

theorem nd_callv2 {f : FuncId} {args : Array Value} {c : Value} (hg : o.guard = none) (hal : isAlloc o = false) (hc : ∀ w, C w → Calls P f args w fun e w' => e = .returned c ∧ Below w.heap.size w w')
    (h : ∀ (a : Act) (w : World), C w → (∀ s ∈ o.looksAt ops, envOf a0 acc s (a.tmps.getD s undef) w) → (execOp a.eval o).run P w = .ok (.enter f args) w)
    (hr : ndWalk P ops C X a0 Fin (i + 1) rest ((o.dst, Det c) :: acc)) : ndWalk P ops C X a0 Fin i (o :: rest) acc :=
  nd_callv c hg hal (fun a w hC hE => ⟨f, args, h a w hC hE, hc w hC⟩) hr

/-- .. behind a guard. -/
theorem nd_callvg (p x want : Bool) (k : Nat) (d : Tmp) (c : Value) (hg : o.guard = some (k, want)) (hd : wrOf ops k = some d) (hal : isAlloc o = false)
    (hx : ∀ v w, envOf a0 acc d v w → if p = true then v = .bool x else v = undef)
    (h : p = true → x = want → ∀ (a : Act) (w : World), C w → (∀ s ∈ o.looksAt ops, envOf a0 acc s (a.tmps.getD s undef) w) →
      ∃ f args, (execOp a.eval o).run P w = .ok (.enter f args) w ∧ Calls P f args w fun e w' => e = .returned c ∧ Below w.heap.size w w')
    (hr : ndWalk P ops C X a0 Fin (i + 1) rest ((o.dst, GDet (p && (x == want)) c) :: acc)) : ndWalk P ops C X a0 Fin i (o :: rest) acc := by
  refine ⟨GDet (p && (x == want)) c, closed_gdet _ _ _, fun a w hC hE => ?_, hr⟩
  have hin : d ∈ o.looksAt ops := by
    unfold wrOf at hd
    simp [Oper.looksAt, hg, hd]
  have hv := hx _ _ (hE d hin)
  cases p with
  | true =>
    have hw := wanted_some (o := o) hg hd (by simpa using hv)
    refine ⟨fun e => ?_, fun e => ?_⟩
    · rw [hw] at e
      obtain ⟨f, args, h1, h2⟩ := h rfl (by simpa using e) a w hC hE
      rw [h1]
      exact ⟨rfl, hal, h2.mono fun e' w' ⟨he, hb⟩ => ⟨c, he, Rex.of_below hb, by simp [GDet, e]⟩⟩
    · rw [hw] at e
      simp [GDet, e]
  | false =>
    have hw := wanted_undef (o := o) hg hd (by simpa using hv)
    exact ⟨fun e => (by rw [hw] at e; cases e), fun _ => (by simp [GDet])⟩

theorem nd_callvg2 {f : FuncId} {args : Array Value} {c : Value} (p x want : Bool) (k : Nat) (d : Tmp) (hg : o.guard = some (k, want)) (hd : wrOf ops k = some d) (hal : isAlloc o = false)
    (hx : ∀ v w, envOf a0 acc d v w → if p = true then v = .bool x else v = undef)
    (hc : p = true → x = want → ∀ w, C w → Calls P f args w fun e w' => e = .returned c ∧ Below w.heap.size w w')
    (h : p = true → x = want → ∀ (a : Act) (w : World), C w → (∀ s ∈ o.looksAt ops, envOf a0 acc s (a.tmps.getD s undef) w) → (execOp a.eval o).run P w = .ok (.enter f args) w)
    (hr : ndWalk P ops C X a0 Fin (i + 1) rest ((o.dst, GDet (p && (x == want)) c) :: acc)) : ndWalk P ops C X a0 Fin i (o :: rest) acc :=
  nd_callvg p x want k d c hg hd hal hx (fun e1 e2 a w hC hE => ⟨f, args, h e1 e2 a w hC hE, hc e1 e2 w hC⟩) hr

/-- Block b is just these cells. -/
def Blk (w : World) (b : Nat) (cs : Array Value) (t : TypeId) : Prop := w.heap[b]? = some (.cells cs t (0, 0))

theorem Blk.lt {w : World} {b : Nat} {cs : Array Value} {t : TypeId} (h : Blk w b cs t) : b < w.heap.size := by
  rcases Nat.lt_or_ge b w.heap.size with h1 | h1
  · exact h1
  · unfold Blk at h; rw [Array.getElem?_eq_none h1] at h; cases h
theorem Blk.rex {L : List Nat} {w w' : World} {b : Nat} {cs : Array Value} {t : TypeId} (h : Blk w b cs t) (hr : Rex L w w') (hb : b ∉ L) : Blk w' b cs t :=
  (hr.block b h.lt hb).trans h
theorem Blk.below {w w' : World} {b : Nat} {cs : Array Value} {t : TypeId} (h : Blk w b cs t) (hr : Below w.heap.size w w') : Blk w' b cs t :=
  (hr.block b h.lt).trans h
theorem Blk.shape {L : List Nat} {w w' : World} {b : Nat} {cs : Array Value} {t : TypeId} (h : Blk w b cs t) (hr : Rex L w w') (hb : b ∈ L) : ∃ cs' : Array Value, cs'.size = cs.size ∧ Blk w' b cs' t := hr.shape b hb cs t _ h
theorem Blk.cell {w : World} {b : Nat} {cs : Array Value} {t : TypeId} (h : Blk w b cs t) (i : Nat) : w.cell? ⟨b, i, none⟩ = cs[i]? := cell_of_row w b i cs t (0, 0) h
theorem Blk.frozen {w : World} {b : Nat} {cs : Array Value} {t : TypeId} (h : Blk w b cs t) (i : Nat) : w.frozen? ⟨b, i, none⟩ = false := frozen_of_row w b i cs t h

/-- A whole variable, whose block is known, is written. -/
theorem nd_store (b : Nat) (old cs : Array Value) (v : Value) (t ty : TypeId) (p x : Operand) (ho : o.op = .store ty p x) (hg : o.guard = none) (hpr : priv X i = [b]) (hn : b ∉ others X i) (hsz : cs.size = old.size)
    (hb : ∀ w, C w → ∃ old' : Array Value, old'.size = old.size ∧ Blk w b old' t)
    (hE : ∀ (a : Act) (w : World), (∀ s ∈ o.looksAt ops, envOf a0 acc s (a.tmps.getD s undef) w) → a.eval p = .pointer (some ⟨b, 0, none⟩) ∧ a.eval x = v)
    (hst : ∀ w old', old'.size = old.size → Blk w b old' t → (storeVar ty ⟨b, 0, none⟩ v).run P w = .ok () (w.setRow b cs))
    (hr : ndWalk P ops C X a0 Fin (i + 1) rest ((o.dst, fun _ w => Blk w b cs t) :: acc)) : ndWalk P ops C X a0 Fin i (o :: rest) acc := by
  refine ⟨fun _ w => Blk w b cs t, fun v w w' hr h => h.rex hr hn, fun a w hC hE' => ⟨fun _ => ?_, fun e => by rw [wanted_none hg] at e; cases e⟩, hr⟩
  obtain ⟨e1, e2⟩ := hE a w hE'
  obtain ⟨old', h1, h2⟩ := hb w hC
  have : (execOp a.eval o).run P w = .ok .skip (w.setRow b cs) := by
    unfold execOp
    rw [ho]
    simp [e1, e2, Instr.storeAt, Instr.sureAddr, hst w old' h1 h2]
  rw [this]
  refine ⟨⟨rfl, rfl, rfl, by simp, fun k hk hL => ?_, fun k hk c t' f hc => ?_⟩, setRow_heap w b old' cs t (0, 0) h2, by unfold isAlloc; rw [ho]⟩
  · rw [hpr] at hL
    exact setRow_other w b k cs (by simpa using hL)
  · rw [hpr] at hk
    obtain rfl : k = b := by simpa using hk
    unfold Blk at h2
    rw [h2] at hc
    injection hc with hc
    injection hc with e1 e2 e3
    subst e1; subst e2; subst e3
    exact ⟨cs, by rw [hsz, h1], setRow_heap w k old' cs t (0, 0) h2⟩

theorem nd_storeA (b : Nat) (old cs : Array Value) (t ty : TypeId) (p x : Operand) (ho : o.op = .store ty p x) (hg : o.guard = none) (hpr : priv X i = [b]) (hn : b ∉ others X i) (hsz : cs.size = old.size)
    (hi : (P.info? ty).map (·.size) = some cs.size) (h1 : cs.all (·.oneCell') = true)
    (hb : ∀ w, C w → ∃ old' : Array Value, old'.size = old.size ∧ Blk w b old' t)
    (hE : ∀ (a : Act) (w : World), (∀ s ∈ o.looksAt ops, envOf a0 acc s (a.tmps.getD s undef) w) → a.eval p = .pointer (some ⟨b, 0, none⟩) ∧ a.eval x = .agg cs)
    (hr : ndWalk P ops C X a0 Fin (i + 1) rest ((o.dst, fun _ w => Blk w b cs t) :: acc)) : ndWalk P ops C X a0 Fin i (o :: rest) acc :=
  nd_store b old cs (.agg cs) t ty p x ho hg hpr hn hsz hb hE (fun w old' e h => run_storeVar_row w b t ty old' cs h hi (by omega) h1) hr

/-- A new variable. -/
def NewVar (B : Nat) (cs : Array Value) (t : TypeId) : Spec := fun v w => ∃ b, v = .pointer (some ⟨b, 0, none⟩) ∧ B ≤ b ∧ Blk w b cs t
theorem closed_new {L : List Nat} (B : Nat) (cs : Array Value) (t : TypeId) (hL : ∀ x, x ∈ L → x < B) : Closed L (NewVar B cs t) := by
  rintro v w w' hr ⟨b, rfl, hb, h⟩
  exact ⟨b, rfl, hb, h.rex hr fun hx => by have := hL b hx; omega⟩

theorem nd_alloc (B : Nat) (cs : Array Value) (t : TypeId) (ho : o.op = .alloc t) (hg : o.guard = none) (hB : ∀ w, C w → B ≤ w.heap.size) (hL : ∀ x, x ∈ others X i → x < B)
    (hz : ∀ w, (Instr.alloc t true (.tuple #[])).run P w = .ok (.pointer (some ⟨w.heap.size, 0, none⟩)) (w.alloc (.cells cs t)))
    (hr : ndWalk P ops C X a0 Fin (i + 1) rest ((o.dst, NewVar B cs t) :: acc)) : ndWalk P ops C X a0 Fin i (o :: rest) acc := by
  refine ⟨NewVar B cs t, closed_new B cs t hL, fun a w hC hE => ⟨fun _ => ?_, fun e => by rw [wanted_none hg] at e; cases e⟩, hr⟩
  have : (execOp a.eval o).run P w = .ok (.value (.pointer (some ⟨w.heap.size, 0, none⟩))) (w.alloc (.cells cs t)) := by
    unfold execOp
    rw [ho]
    simp [hz w]
  rw [this]
  refine ⟨Rex.of_below ⟨rfl, rfl, rfl, by simp, fun k hk => Go.RowKit.Below.heap_alloc w _ k hk⟩, ⟨w.heap.size, rfl, hB w hC, heap_alloc_new w _⟩, fun _ => ⟨w.heap.size, rfl, Nat.le_refl _, by simp⟩⟩

end


/-- From here on the world is a letter, of which this is known. -/
theorem wp_facts {P : Program} {c : Code} {Q : Exit → Act → World → Prop} {a : Act} {w : World} (F : World → Prop) (h : F w) (hr : ∀ W, F W → c.wp P Q a W) : c.wp P Q a w := hr w h
theorem Blk.new' {w : World} {b : Nat} {cs : Array Value} {t : TypeId} (h : w.heap.size = b) : Blk (w.alloc (.cells cs t)) b cs t := by subst h; exact heap_alloc_new w _
theorem Blk.alloc {w : World} {b : Nat} {cs : Array Value} {t : TypeId} (h : Blk w b cs t) (o : Obj) : Blk (w.alloc o) b cs t := (Go.RowKit.Below.heap_alloc w o b h.lt).trans h
theorem Blk.drew {w : World} {b : Nat} {cs : Array Value} {t : TypeId} (h : Blk w b cs t) : Blk w.drew b cs t := h

theorem Blk.set {w : World} {b : Nat} {cs : Array Value} {t : TypeId} (h : Blk w b cs t) (i : Nat) (v : Value) : Blk (w.setCell ⟨b, i, none⟩ v) b (cs.setIfInBounds i v) t := heap_setCell_same w b i cs t v h
theorem Blk.setO {w : World} {b g : Nat} {cs : Array Value} {t : TypeId} (h : Blk w b cs t) (hne : b ≠ g) (i : Nat) (v : Value) : Blk (w.setCell ⟨g, i, none⟩ v) b cs t := (heap_setCell_other w ⟨g, i, none⟩ b v hne).trans h
theorem Blk.calls {w w' : World} {b : Nat} {cs : Array Value} {t : TypeId} (h : Blk w b cs t) (hb : Go.RowKit.Below w.heap.size w w') : Blk w' b cs t := (hb.block b h.lt).trans h
theorem Blk.set2 {w : World} {b : Nat} {cs cs' : Array Value} {t : TypeId} {i : Nat} {v : Value} (h : Blk w b cs t) (e : cs.setIfInBounds i v = cs') : Blk (w.setCell ⟨b, i, none⟩ v) b cs' t := e ▸ h.set i v
theorem BelowCalls {n : Nat} {w W W' : World} (h : Go.RowKit.Below n w W) (hb : Go.RowKit.Below W.heap.size W W') (hn : n ≤ W.heap.size) : Go.RowKit.Below n w W' := h.trans (hb.mono hn)
theorem BelowRex {n : Nat} {L : List Nat} {w W W' : World} (h : Go.RowKit.Below n w W) (hr : Rex L W W') (hn : n ≤ W.heap.size) (hL : ∀ x, x ∈ L → n ≤ x) : Go.RowKit.Below n w W' := h.trans (hr.of_priv hn hL)
theorem Blk.new2 {w : World} {b : Nat} {cs : Array Value} {t : TypeId} {o : Obj} (h : w.heap.size = b) (e : o = .cells cs t) : Blk (w.alloc o) b cs t := e ▸ Blk.new' h
theorem blkAny {w : World} {b : Nat} {cs : Array Value} {t : TypeId} (h : Blk w b cs t := by repeat (first | with_reducible assumption | with_reducible (refine Blk.new2 (by first | rfl | (simp; done) | (simp; omega) | omega) ?_) | (show (_ : Obj) = _; rfl) | with_reducible (refine Blk.alloc ?_ _) | with_reducible (apply Blk.set2) | with_reducible (refine Blk.setO ?_ (by first | omega | (simp; done) | (simp; omega)) _ _) | (show Array.setIfInBounds _ _ _ = _; rfl) | with_reducible (refine Blk.calls ?_ (by assumption)) | with_reducible (refine Blk.rex ?_ (by assumption) (by first | (simp; done) | (simp; omega))))) : Blk w b cs t := h
theorem belowAny {n : Nat} {w W : World} (h : Go.RowKit.Below n w W := by repeat (first | with_reducible assumption | with_reducible (exact Go.RowKit.Below.refl _ _) | with_reducible (refine Go.RowKit.Below.setCell ?_ (by first | omega | (simp; done) | (simp; omega)) _) | with_reducible (refine Go.RowKit.Below.alloc ?_ (by first | omega | (simp; done) | (simp; omega)) _) | with_reducible (refine BelowCalls ?_ (by assumption) (by first | omega | (simp; done) | (simp; omega))) | with_reducible (refine BelowRex ?_ (by assumption) (by first | omega | (simp; done) | (simp; omega)) (by first | (simp; done) | (simp; omega))))) : Go.RowKit.Below n w W := h
theorem Rex.alloc {L : List Nat} {w W : World} (h : Rex L w W) (o : Obj) : Rex L w (W.alloc o) := h.trans (Rex.of_below ((Go.RowKit.Below.refl _ _).alloc (Nat.le_refl _) o))
theorem Rex.calls {L : List Nat} {w W W' : World} (h : Rex L w W) (hb : Go.RowKit.Below W.heap.size W W') : Rex L w W' := h.trans (Rex.of_below hb)
theorem Rex.setOwn {L : List Nat} {w W : World} (h : Rex L w W) {g : Nat} {cs : Array Value} {t : TypeId} (hb : Blk W g cs t) (hg : g ∈ L) (i : Nat) (v : Value) : Rex L w (W.setCell ⟨g, i, none⟩ v) := by
  refine h.trans ⟨rfl, rfl, rfl, by simp [World.setCell], fun k hk hL => heap_setCell_other W ⟨g, i, none⟩ k v fun e => hL (by simp at e; exact e ▸ hg), fun k hk c t' f hc => ?_⟩
  by_cases e : k = g
  · subst e
    unfold Blk at hb
    rw [hb] at hc
    injection hc with hc
    injection hc with e1 e2 e3
    subst e1; subst e2; subst e3
    exact ⟨_, by simp, heap_setCell_same W k i cs t v hb⟩
  · exact ⟨c, rfl, (heap_setCell_other W ⟨g, i, none⟩ k v (by simpa using e)).trans hc⟩
theorem frame_ex {a : Act} {F : (Nat → Value) → Act} (h : a = F (fun k => a.tmps.getD k undef)) : ∃ u, a = F u := ⟨_, h⟩
end Go.Proofs.YtbanjolokkghdaaGreatDoor
namespace Go.Proofs.YtbanjolokkghdaaGreatDoor
open Go.RowKit
theorem mixed : Tryz.prog.follows .mixedOrders = true := by kernel_rfl
def sumLo (x y c : Int) : Int := (x + y + c) % 18446744073709551616
def sumC (x y c : Int) : Int := (x + y + c) / 18446744073709551616
def difLo (x y c : Int) : Int := (x - y - c) % 18446744073709551616
def difC (x y c : Int) : Int := if x < y + c then 1 else 0
theorem add64 (x y c : Int) (hx : 0 ≤ x) (hy : 0 ≤ y) (hc0 : 0 ≤ c) (hc : c ≤ 1) (w : World) :
    (callFunc 263 #[.int .u64 x, .int .u64 y, .int .u64 c]).run Tryz.prog w = .ok (.value (.tuple #[.int .u64 (sumLo x y c), .int .u64 (sumC x y c)])) w := by
  rw [run_callFunc_extern (e := add64Entry) Tryz.func263 (by kernel_rfl) (by kernel_rfl) (by kernel_rfl) (by kernel_rfl), run_add64 x y c hx hy hc0 hc w]
  rfl

def sub64Entry : Array Value → Sem Value := fun args => do
  let (x, y, b) ← Extern.MathBitsCarry.three "Sub64" args
  pure (Extern.MathBitsCarry.pair ((x + Extern.MathBitsCarry.m64 - y - b) % Extern.MathBitsCarry.m64) (if x < y + b then 1 else 0))

theorem run_sub64 {P : Program} (x y c : Int) (hx : 0 ≤ x) (hx' : x < 18446744073709551616) (hy : 0 ≤ y) (hy' : y < 18446744073709551616) (hc0 : 0 ≤ c) (hc : c ≤ 1) (w : World) :
    (sub64Entry #[.int .u64 x, .int .u64 y, .int .u64 c]).run P w = .ok (.tuple #[.int .u64 (difLo x y c), .int .u64 (difC x y c)]) w := by
  have key : ∀ k : Nat, k ≤ 1 → (sub64Entry #[.int .u64 x, .int .u64 y, .int .u64 (k : Int)]).run P w =
      .ok (Extern.MathBitsCarry.pair ((x.toNat + Extern.MathBitsCarry.m64 - y.toNat - k) % Extern.MathBitsCarry.m64) (if x.toNat < y.toNat + k then 1 else 0)) w := by
    intro k hk
    have : k = 0 ∨ k = 1 := by omega
    rcases this with rfl | rfl <;> rfl
  obtain ⟨k, rfl⟩ := Int.eq_ofNat_of_zero_le hc0
  rw [key k (by omega)]
  obtain ⟨X, rfl⟩ := Int.eq_ofNat_of_zero_le hx
  obtain ⟨Y, rfl⟩ := Int.eq_ofNat_of_zero_le hy
  have e1 : Int.ofNat ((X + 2 ^ 64 - Y - k) % 2 ^ 64) = difLo X Y k := by
    unfold difLo
    simp only [Int.ofNat_eq_natCast]
    omega
  have e2 : Int.ofNat (if X < Y + k then 1 else 0) = difC X Y k := by
    unfold difC
    split <;> split <;> first | rfl | omega
  simp only [Extern.MathBitsCarry.pair, Extern.MathBitsCarry.m64, Int.toNat_natCast, e1, e2]

theorem sub64 (x y c : Int) (hx : 0 ≤ x) (hx' : x < 18446744073709551616) (hy : 0 ≤ y) (hy' : y < 18446744073709551616) (hc0 : 0 ≤ c) (hc : c ≤ 1) (w : World) :
    (callFunc 268 #[.int .u64 x, .int .u64 y, .int .u64 c]).run Tryz.prog w = .ok (.value (.tuple #[.int .u64 (difLo x y c), .int .u64 (difC x y c)])) w := by
  rw [run_callFunc_extern (e := sub64Entry) Tryz.func268 (by kernel_rfl) (by kernel_rfl) (by kernel_rfl) (by kernel_rfl), run_sub64 x y c hx hx' hy hy' hc0 hc w]
  rfl

/-- A word of 64 bits, without a sign. -/
theorem u64_bd (x : Int) : 0 ≤ IntKind.u64.wrap x ∧ IntKind.u64.wrap x < 18446744073709551616 := by
  simp [IntKind.wrap, IntKind.bits, IntKind.signed]; omega
theorem u64_eq (x : Int) : IntKind.u64.wrap x = x % 18446744073709551616 := by
  simp [IntKind.wrap, IntKind.bits, IntKind.signed]
theorem wrap64_eq (x : Int) : wrap64 x = (x + 9223372036854775808) % 18446744073709551616 - 9223372036854775808 := by unfold wrap64; rfl
theorem sumC_bd (x y : Int) (hx : 0 ≤ x) (hx' : x < 18446744073709551616) (hy : 0 ≤ y) (hy' : y < 18446744073709551616) : 0 ≤ sumC x y 0 ∧ sumC x y 0 ≤ 1 := by
  unfold sumC; omega
theorem difC_bd (x y c : Int) : 0 ≤ difC x y c ∧ difC x y c ≤ 1 := by
  unfold difC; split <;> decide

/-! ### What a function hands back that lies in a variable -/
section
variable {P : Program}
theorem res_loadVar {w : World} {g : Nat} {ty : TypeId} {cs : Array Value} {t : TypeId} {d : TypeDesc} (hg : Blk w g cs t) (hu : P.underlying ty = some d) (hd : (match d with | .struct _ | .array _ _ => true | _ => false) = true)
    (hi : (P.info? ty).map (·.size) = some cs.size) : (loadVar ty ⟨g, 0, none⟩).run P w = .ok (.agg cs) w := run_loadVar_row w g t ty cs (0, 0) d hg hu hd hi
theorem results_ct {fn : Func} {p t1 : Tmp} {ty : TypeId} (h : fn.results = #[.cell p ty, .tmp t1]) {tmps : Array Value} {w : World} {g : Nat} {t : TypeId} {cs : Array Value} {d : TypeDesc}
    (hp : tmps.getD p undef = .pointer (some ⟨g, 0, none⟩)) (hg : Blk w g cs t) (hu : P.underlying ty = some d) (hd : (match d with | .struct _ | .array _ _ => true | _ => false) = true)
    (hi : (P.info? ty).map (·.size) = some cs.size) : (results fn tmps).run P w = .ok (.tuple #[.agg cs, tmps.getD t1 undef]) w := by
  have hp' : tmps[p]?.getD undef = .pointer (some ⟨g, 0, none⟩) := by simpa using hp
  simp [results, h, hp', asAddr, res_loadVar hg hu hd hi]
end

end Go.Proofs.YtbanjolokkghdaaGreatDoor
namespace Go.Proofs.YtbanjolokkghdaaGreatDoor
open Go.RowKit

/-- The number n as a wide one. -/
def hiW (n : Int) : Int := n / 18446744073709551616
def loW (n : Int) : Int := n % 18446744073709551616
def W128 (n : Int) : Prop := -170141183460469231731687303715884105728 ≤ n ∧ n < 170141183460469231731687303715884105728
instance (n : Int) : Decidable (W128 n) := by unfold W128; infer_instance
def wideV (n : Int) : Value := .agg #[.int .i64 (hiW n), .int .u64 (loW n)]
def wrapW (n : Int) : Int := (n + 170141183460469231731687303715884105728) % 340282366920938463463374607431768211456 - 170141183460469231731687303715884105728
def inW (n : Int) : Bool := decide (W128 n)
theorem wrapW_in {n : Int} (h : W128 n) : wrapW n = n := by unfold wrapW; obtain ⟨_, _⟩ := h; omega
theorem inW_in {n : Int} (h : W128 n) : inW n = true := by simp [inW, h]
theorem loW_bd (n : Int) : 0 ≤ loW n ∧ loW n < 18446744073709551616 := by unfold loW; omega
theorem W128_wrap (n : Int) : W128 (wrapW n) := by unfold W128 wrapW; omega
theorem W128_small {n : Int} (h : -9223372036854775808 ≤ n ∧ n ≤ 9223372036854775807) : W128 n := by unfold W128; omega

theorem sum_hi (a b : Int) (ha : W128 a) (hb : W128 b) : wrap64 (sumLo (IntKind.u64.wrap (hiW a)) (IntKind.u64.wrap (hiW b)) (sumC (loW a) (loW b) 0)) = hiW (wrapW (a + b)) := by
  obtain ⟨_, _⟩ := ha; obtain ⟨_, _⟩ := hb
  rw [wrap64_eq, u64_eq, u64_eq]; unfold sumLo sumC hiW loW wrapW; omega
theorem sum_lo (a b : Int) : sumLo (loW a) (loW b) 0 = loW (wrapW (a + b)) := by unfold sumLo loW wrapW; omega
theorem sum_fits (a b : Int) (ha : W128 a) (hb : W128 b) : (!decide (hiW a < 0) == decide (hiW b < 0) || decide (hiW (wrapW (a + b)) < 0) == decide (hiW a < 0)) = inW (a + b) := by
  have e1 : (hiW a < 0) ↔ a < 0 := by unfold hiW; omega
  have e2 : (hiW b < 0) ↔ b < 0 := by unfold hiW; omega
  have e3 : (hiW (wrapW (a + b)) < 0) ↔ wrapW (a + b) < 0 := by unfold hiW; omega
  simp only [e1, e2, e3, inW]
  obtain ⟨_, _⟩ := ha; obtain ⟨_, _⟩ := hb
  by_cases h1 : a < 0 <;> by_cases h2 : b < 0 <;> by_cases h3 : wrapW (a + b) < 0 <;> by_cases h4 : W128 (a + b) <;> simp [h1, h2, h3, h4] <;> unfold W128 wrapW at * <;> omega
theorem dif_hi (a b : Int) (ha : W128 a) (hb : W128 b) : wrap64 (difLo (IntKind.u64.wrap (hiW a)) (IntKind.u64.wrap (hiW b)) (difC (loW a) (loW b) 0)) = hiW (wrapW (a - b)) := by
  obtain ⟨_, _⟩ := ha; obtain ⟨_, _⟩ := hb
  rw [wrap64_eq, u64_eq, u64_eq]; unfold difLo difC hiW loW wrapW; split <;> omega
theorem dif_lo (a b : Int) : difLo (loW a) (loW b) 0 = loW (wrapW (a - b)) := by unfold difLo loW wrapW; omega
theorem dif_fits (a b : Int) (ha : W128 a) (hb : W128 b) : (decide (hiW a < 0) == decide (hiW b < 0) || decide (hiW (wrapW (a - b)) < 0) == decide (hiW a < 0)) = inW (a - b) := by
  have e1 : (hiW a < 0) ↔ a < 0 := by unfold hiW; omega
  have e2 : (hiW b < 0) ↔ b < 0 := by unfold hiW; omega
  have e3 : (hiW (wrapW (a - b)) < 0) ↔ wrapW (a - b) < 0 := by unfold hiW; omega
  simp only [e1, e2, e3, inW]
  obtain ⟨_, _⟩ := ha; obtain ⟨_, _⟩ := hb
  by_cases h1 : a < 0 <;> by_cases h2 : b < 0 <;> by_cases h3 : wrapW (a - b) < 0 <;> by_cases h4 : W128 (a - b) <;> simp [h1, h2, h3, h4] <;> unfold W128 wrapW at * <;> omega

theorem below4 (w : World) (o1 o2 o3 o4 : Obj) : Below w.heap.size w ((((w.alloc o1).alloc o2).alloc o3).alloc o4) :=
  ((((Below.refl _ _).alloc (Nat.le_refl _) _).alloc (by simp) _).alloc (by simp; omega) _).alloc (by simp; omega) _

set_option maxRecDepth 100000 in
set_option maxHeartbeats 400000 in
theorem c_sum (a b : Int) (w : World) (ha : W128 a) (hb : W128 b) :
    Calls Tryz.prog 238 #[wideV a, wideV b] w fun e w' => e = .returned (.tuple #[wideV (wrapW (a + b)), .bool (inW (a + b))]) ∧ Below w.heap.size w w' := by
  have E1 := sum_hi a b ha hb
  have E2 := sum_lo a b
  have E3 := sum_fits a b ha hb
  have L1 := loW_bd a
  have L2 := loW_bd b
  have U1 := u64_bd (hiW a)
  have U2 := u64_bd (hiW b)
  unfold wideV
  generalize hiW a = ah at *
  generalize hiW b = bh at *
  generalize loW a = al at *
  generalize loW b = bl at *
  rw [← E3, ← E1, ← E2]
  clear E1 E2 E3 ha hb
  have hc := sumC_bd al bl L1.1 L1.2 L2.1 L2.2
  have a1 := add64 al bl 0 L1.1 L2.1 (by decide) (by decide)
  have a2 := add64 (IntKind.u64.wrap ah) (IntKind.u64.wrap bh) (sumC al bl 0) U1.1 U2.1 hc.1 hc.2
  clear hc L1 L2 U1 U2
  go_enter Tryz.func238, Tryz.ntmps238
  go_wp2
  clear a1 a2
  refine wp_facts (fun W => Below w.heap.size w W ∧ Blk W w.heap.size #[.int .i64 ah, .int .u64 al] 238 ∧ Blk W (w.heap.size + 1) #[.int .i64 bh, .int .u64 bl] 238 ∧ Blk W (w.heap.size + 1 + 1) #[.int .i64 0, .int .u64 0] 238 ∧ Blk W (w.heap.size + 1 + 1 + 1) #[.int .i64 (wrap64 (sumLo (IntKind.u64.wrap ah) (IntKind.u64.wrap bh) (sumC al bl 0))), .int .u64 (sumLo al bl 0)] 238) ?_ ?_
  · exact ⟨below4 _ _ _ _ _, (by repeat (first | (refine Blk.new' ?_; simp; done) | refine Blk.alloc ?_ _)), (by repeat (first | (refine Blk.new' ?_; simp; done) | refine Blk.alloc ?_ _)), (by repeat (first | (refine Blk.new' ?_; simp; done) | refine Blk.alloc ?_ _)), (by repeat (first | (refine Blk.new' ?_; simp; done) | refine Blk.alloc ?_ _))⟩
  rintro W ⟨hW, b1, b2, b3, b4⟩
  refine wp_region_nd 19 51 [(17, w.heap.size + 1 + 1)] (fun W' => Rex [w.heap.size + 1 + 1] W W' ∧ Blk W' w.heap.size #[.int .i64 ah, .int .u64 al] 238 ∧ Blk W' (w.heap.size + 1) #[.int .i64 bh, .int .u64 bl] 238 ∧ Blk W' (w.heap.size + 1 + 1 + 1) #[.int .i64 (wrap64 (sumLo (IntKind.u64.wrap ah) (IntKind.u64.wrap bh) (sumC al bl 0))), .int .u64 (sumLo al bl 0)] 238) mixed (by kernel_rfl) rfl ⟨(Rex.refl _ _).drew, b1, b2, b4⟩ (fun w w' ⟨h0, h1, h2, h3⟩ hr => ⟨h0.trans hr, h1.rex hr (by simp <;> omega), h2.rex hr (by simp <;> omega), h3.rex hr (by simp <;> omega)⟩) (fun c a d v w h => by cases d <;> exact h) ?_
  iterate 9
    apply nd_det (hg := rfl) (hal := rfl)
    · intro a W' hC hE
      obtain ⟨_, k1, k2, k3⟩ := hC
      have k1 := k1.cell
      have k2 := k2.cell
      have k3 := k3.cell
      first
        | (simp [Oper.looksAt, Op.operands, Call.operands, envOf, Det] at hE; simp [go_sem, Act.eval, IntWalk.i64_left, hE, k1, k2, k3]; try rfl)
        | (clear hE; simp [go_sem, Act.eval, IntWalk.i64_left, k1, k2, k3]; try rfl)
  iterate 7
    apply nd_detg (p := true) (hg := rfl) (hd := rfl) (hal := rfl)
    · intro v W' h
      simp [envOf, Det, GDet] at h
      simp
      exact h
    · intro hp hx a W' hC hE
      obtain ⟨_, k1, k2, k3⟩ := hC
      have k1 := k1.cell
      have k2 := k2.cell
      have k3 := k3.cell
      simp [Oper.looksAt, Op.operands, Call.operands, envOf, Det, GDet, hx] at hE
      simp [go_sem, Act.eval, IntWalk.i64_left, hE, k1, k2, k3]
      try rfl
  apply nd_pick_or (ho := rfl) (hg := rfl)
  · intro v W' h
    simp [envOf, Det] at h
    exact h
  · intro v W' h hx
    simp [envOf, GDet, hx] at h
    exact h
  apply nd_storeA (w.heap.size + 1 + 1) #[.int .i64 0, .int .u64 0] #[.int .i64 (wrap64 (sumLo (IntKind.u64.wrap ah) (IntKind.u64.wrap bh) (sumC al bl 0))), .int .u64 (sumLo al bl 0)] 238 238 _ _ rfl rfl rfl (by simp [others]) rfl (by kernel_rfl) (by simp [Value.oneCell'])
  · exact fun W' hC => b3.shape hC.1 (by simp)
  · intro a W' hE
    simp [Oper.looksAt, Op.operands, envOf, Det] at hE
    simp [Act.eval, hE]
  iterate 1
    apply nd_det (hg := rfl) (hal := rfl)
    · intro a W' hC hE
      obtain ⟨_, k1, k2, k3⟩ := hC
      have k1 := k1.cell
      have k2 := k2.cell
      have k3 := k3.cell
      first
        | (simp [Oper.looksAt, Op.operands, Call.operands, envOf, Det] at hE; simp [go_sem, Act.eval, IntWalk.i64_left, hE, k1, k2, k3]; try rfl)
        | (clear hE; simp [go_sem, Act.eval, IntWalk.i64_left, k1, k2, k3]; try rfl)
  rintro W2 ⟨hR, c1, c2, c3⟩
  simp only [ndFinR, Det, forall_eq]
  intros
  repeat (rename GDet _ _ _ _ => hgd; clear hgd)
  simp only [Act.put, List.setIfInBounds_toArray, List.set_cons_zero, List.set_cons_succ]
  refine wpList_nil ?_
  go_wp2
  exact bodyPost_ret (results_ct (d := (Tryz.prog.underlying 238).getD default) rfl rfl (by assumption) (by kernel_rfl) (by kernel_rfl) (by kernel_rfl)) rfl ⟨rfl, hW.trans (hR.of_priv hW.size)⟩


set_option maxRecDepth 100000 in
set_option maxHeartbeats 400000 in
theorem c_difference (a b : Int) (w : World) (ha : W128 a) (hb : W128 b) :
    Calls Tryz.prog 254 #[wideV a, wideV b] w fun e w' => e = .returned (.tuple #[wideV (wrapW (a - b)), .bool (inW (a - b))]) ∧ Below w.heap.size w w' := by
  have E1 := dif_hi a b ha hb
  have E2 := dif_lo a b
  have E3 := dif_fits a b ha hb
  have L1 := loW_bd a
  have L2 := loW_bd b
  have U1 := u64_bd (hiW a)
  have U2 := u64_bd (hiW b)
  unfold wideV
  generalize hiW a = ah at *
  generalize hiW b = bh at *
  generalize loW a = al at *
  generalize loW b = bl at *
  rw [← E3, ← E1, ← E2]
  clear E1 E2 E3 ha hb
  have hc := difC_bd al bl 0
  have a1 := sub64 al bl 0 L1.1 L1.2 L2.1 L2.2 (by decide) (by decide)
  have a2 := sub64 (IntKind.u64.wrap ah) (IntKind.u64.wrap bh) (difC al bl 0) U1.1 U1.2 U2.1 U2.2 hc.1 hc.2
  clear hc L1 L2 U1 U2
  go_enter Tryz.func254, Tryz.ntmps254
  go_wp2
  clear a1 a2
  refine wp_facts (fun W => Below w.heap.size w W ∧ Blk W w.heap.size #[.int .i64 ah, .int .u64 al] 238 ∧ Blk W (w.heap.size + 1) #[.int .i64 bh, .int .u64 bl] 238 ∧ Blk W (w.heap.size + 1 + 1) #[.int .i64 0, .int .u64 0] 238 ∧ Blk W (w.heap.size + 1 + 1 + 1) #[.int .i64 (wrap64 (difLo (IntKind.u64.wrap ah) (IntKind.u64.wrap bh) (difC al bl 0))), .int .u64 (difLo al bl 0)] 238) ?_ ?_
  · exact ⟨below4 _ _ _ _ _, (by repeat (first | (refine Blk.new' ?_; simp; done) | refine Blk.alloc ?_ _)), (by repeat (first | (refine Blk.new' ?_; simp; done) | refine Blk.alloc ?_ _)), (by repeat (first | (refine Blk.new' ?_; simp; done) | refine Blk.alloc ?_ _)), (by repeat (first | (refine Blk.new' ?_; simp; done) | refine Blk.alloc ?_ _))⟩
  rintro W ⟨hW, b1, b2, b3, b4⟩
  refine wp_region_nd 19 51 [(17, w.heap.size + 1 + 1)] (fun W' => Rex [w.heap.size + 1 + 1] W W' ∧ Blk W' w.heap.size #[.int .i64 ah, .int .u64 al] 238 ∧ Blk W' (w.heap.size + 1) #[.int .i64 bh, .int .u64 bl] 238 ∧ Blk W' (w.heap.size + 1 + 1 + 1) #[.int .i64 (wrap64 (difLo (IntKind.u64.wrap ah) (IntKind.u64.wrap bh) (difC al bl 0))), .int .u64 (difLo al bl 0)] 238) mixed (by kernel_rfl) rfl ⟨(Rex.refl _ _).drew, b1, b2, b4⟩ (fun w w' ⟨h0, h1, h2, h3⟩ hr => ⟨h0.trans hr, h1.rex hr (by simp <;> omega), h2.rex hr (by simp <;> omega), h3.rex hr (by simp <;> omega)⟩) (fun c a d v w h => by cases d <;> exact h) ?_
  iterate 9
    apply nd_det (hg := rfl) (hal := rfl)
    · intro a W' hC hE
      obtain ⟨_, k1, k2, k3⟩ := hC
      have k1 := k1.cell
      have k2 := k2.cell
      have k3 := k3.cell
      first
        | (simp [Oper.looksAt, Op.operands, Call.operands, envOf, Det] at hE; simp [go_sem, Act.eval, IntWalk.i64_left, hE, k1, k2, k3]; try rfl)
        | (clear hE; simp [go_sem, Act.eval, IntWalk.i64_left, k1, k2, k3]; try rfl)
  iterate 7
    apply nd_detg (p := true) (hg := rfl) (hd := rfl) (hal := rfl)
    · intro v W' h
      simp [envOf, Det, GDet] at h
      simp
      exact h
    · intro hp hx a W' hC hE
      obtain ⟨_, k1, k2, k3⟩ := hC
      have k1 := k1.cell
      have k2 := k2.cell
      have k3 := k3.cell
      simp [Oper.looksAt, Op.operands, Call.operands, envOf, Det, GDet, hx] at hE
      simp [go_sem, Act.eval, IntWalk.i64_left, hE, k1, k2, k3]
      try rfl
  apply nd_pick_or (ho := rfl) (hg := rfl)
  · intro v W' h
    simp [envOf, Det] at h
    exact h
  · intro v W' h hx
    simp [envOf, GDet, hx] at h
    exact h
  apply nd_storeA (w.heap.size + 1 + 1) #[.int .i64 0, .int .u64 0] #[.int .i64 (wrap64 (difLo (IntKind.u64.wrap ah) (IntKind.u64.wrap bh) (difC al bl 0))), .int .u64 (difLo al bl 0)] 238 238 _ _ rfl rfl rfl (by simp [others]) rfl (by kernel_rfl) (by simp [Value.oneCell'])
  · exact fun W' hC => b3.shape hC.1 (by simp)
  · intro a W' hE
    simp [Oper.looksAt, Op.operands, envOf, Det] at hE
    simp [Act.eval, hE]
  iterate 1
    apply nd_det (hg := rfl) (hal := rfl)
    · intro a W' hC hE
      obtain ⟨_, k1, k2, k3⟩ := hC
      have k1 := k1.cell
      have k2 := k2.cell
      have k3 := k3.cell
      first
        | (simp [Oper.looksAt, Op.operands, Call.operands, envOf, Det] at hE; simp [go_sem, Act.eval, IntWalk.i64_left, hE, k1, k2, k3]; try rfl)
        | (clear hE; simp [go_sem, Act.eval, IntWalk.i64_left, k1, k2, k3]; try rfl)
  rintro W2 ⟨hR, c1, c2, c3⟩
  simp only [ndFinR, Det, forall_eq]
  intros
  repeat (rename GDet _ _ _ _ => hgd; clear hgd)
  simp only [Act.put, List.setIfInBounds_toArray, List.set_cons_zero, List.set_cons_succ]
  refine wpList_nil ?_
  go_wp2
  exact bodyPost_ret (results_ct (d := (Tryz.prog.underlying 238).getD default) rfl rfl (by assumption) (by kernel_rfl) (by kernel_rfl) (by kernel_rfl)) rfl ⟨rfl, hW.trans (hR.of_priv hW.size)⟩


end Go.Proofs.YtbanjolokkghdaaGreatDoor
namespace Go.Proofs.YtbanjolokkghdaaGreatDoor
open Go.RowKit

/-- What 'told' makes of a number and of whether it fits. -/
def wv (f : Bool) (n : Int) : Int := if f = true then n else 0
def we (f : Bool) : Int := if f = true then 0 else 5

theorem bcell {W w1 : World} (hb : Below W.heap.size W w1) : (∀ b o, b < W.heap.size → w1.cell? ⟨b, o, none⟩ = W.cell? ⟨b, o, none⟩) ∧ (∀ b o, b < W.heap.size → w1.frozen? ⟨b, o, none⟩ = W.frozen? ⟨b, o, none⟩) :=
  ⟨fun b o h => hb.cell (p := ⟨b, o, none⟩) h, fun b o h => hb.frozen (p := ⟨b, o, none⟩) h⟩

theorem wide0 : wideV 0 = .agg #[.int .i64 0, .int .u64 0] := by rfl

set_option maxRecDepth 100000 in
set_option maxHeartbeats 400000 in
theorem c_told (a : Int) (f : Bool) (w : World) :
    Calls Tryz.prog 237 #[wideV a, .bool f] w fun e w' => e = .returned (.tuple #[wideV (wv f a), .int .i64 (we f)]) ∧ Below w.heap.size w w' := by
  cases f with
  | true =>
    have e1 : wv true a = a := rfl
    have e2 : we true = 0 := rfl
    rw [e1, e2]
    unfold wideV
    generalize hiW a = ah
    generalize loW a = al
    clear e1 e2
    go_enter Tryz.func237, Tryz.ntmps237
    go_wp2
    refine bodyPost_ret (v := .tuple #[.agg #[.int .i64 ah, .int .u64 al], .int .i64 0]) (by simp [results, Tryz.results237, go_sem]) rfl ⟨rfl, ?_⟩
    exact ((Below.refl _ _).alloc (Nat.le_refl _) _).alloc (by simp) _
  | false =>
    have e1 : wv false a = 0 := rfl
    have e2 : we false = 5 := rfl
    rw [e1, e2, wide0]
    unfold wideV
    generalize hiW a = ah
    generalize loW a = al
    clear e1 e2
    go_enter Tryz.func237, Tryz.ntmps237
    go_wp2
    refine bodyPost_ret (v := .tuple #[.agg #[.int .i64 0, .int .u64 0], .int .i64 5]) (by simp [results, Tryz.results237, go_sem]) rfl ⟨rfl, ?_⟩
    exact (((Below.refl _ _).alloc (Nat.le_refl _) _).alloc (by simp) _).alloc (by simp; omega) _

set_option maxRecDepth 100000 in
set_option maxHeartbeats 400000 in
theorem c_Of (n : Int) (w : World) (hn : -9223372036854775808 ≤ n ∧ n ≤ 9223372036854775807) :
    Calls Tryz.prog 199 #[.int .i64 n] w fun e w' => e = .returned (wideV n) ∧ Below w.heap.size w w' := by
  unfold wideV
  go_enter Tryz.func199, Tryz.ntmps199
  go_wp2
  have e1 : n / 9223372036854775808 = hiW n := by unfold hiW; omega
  have e2 : IntKind.u64.wrap n = loW n := u64_eq n
  rw [e1, e2]
  exact bodyPost_ret (v := .agg #[.int .i64 (hiW n), .int .u64 (loW n)]) (by simp [results, Tryz.results199, go_sem]) rfl ⟨rfl, (Below.refl _ _).alloc (Nat.le_refl _) _⟩

set_option maxRecDepth 100000 in
set_option maxHeartbeats 400000 in
theorem c_Add (a b : Int) (w : World) (ha : W128 a) (hb : W128 b) :
    Calls Tryz.prog 194 #[wideV a, wideV b] w fun e w' => e = .returned (.tuple #[wideV (wv (inW (a + b)) (wrapW (a + b))), .int .i64 (we (inW (a + b)))]) ∧ Below w.heap.size w w' := by
  have c1 := fun w => c_sum a b w ha hb
  have c2 := fun f w => c_told (wrapW (a + b)) f w
  clear ha hb
  unfold wideV at *
  generalize inW (a + b) = f at *
  go_enter Tryz.func194, Tryz.ntmps194
  go_wp2_with fail
  refine (c1 _).mono ?_
  rintro e w1 ⟨rfl, hb1⟩
  obtain ⟨hc1, hf1⟩ := bcell hb1
  have hz1 := hb1.size
  simp at hz1
  go_wp2_with fail
  refine (c2 _ _).mono ?_
  rintro e w2 ⟨rfl, hb2⟩
  obtain ⟨hc2, hf2⟩ := bcell hb2
  have hz2 := hb2.size
  clear c1 c2
  have z0 : w.heap.size < w2.heap.size := by omega
  have z1 : w.heap.size + 1 < w2.heap.size := by omega
  have z2 : w.heap.size + 1 + 1 < w2.heap.size := by omega
  have y0 : w.heap.size < w1.heap.size := by omega
  have y1 : w.heap.size + 1 < w1.heap.size := by omega
  have y2 : w.heap.size + 1 + 1 < w1.heap.size := by omega
  go_wp2
  refine bodyPost_ret (v := .tuple #[.agg #[.int .i64 (hiW (wv f (wrapW (a + b)))), .int .u64 (loW (wv f (wrapW (a + b))))], .int .i64 (we f)]) (by simp [results, Tryz.results194, go_sem, hc1, hc2, y0, y1, y2]) rfl ⟨rfl, ?_⟩
  have h0 : Below w.heap.size w w1 := ((((Below.refl _ _).alloc (Nat.le_refl _) _).alloc (by simp) _).alloc (by simp; omega) _).trans (hb1.mono (by simp; omega))
  exact (((h0.trans (hb2.mono (by omega))).setCell (by simp; omega) _).setCell (by simp; omega) _)



end Go.Proofs.YtbanjolokkghdaaGreatDoor
namespace Go.Proofs.YtbanjolokkghdaaGreatDoor
open Go.RowKit

def cmpI (a b : Int) : Int := if a = b then 0 else if a < b then -1 else 1
/-! ### math/bits.Mul64 -/
theorem low32 (a : Nat) (ha : a < 18446744073709551616) : bits .and .u64 (a : Int) 4294967295 = ((a % 4294967296 : Nat) : Int) := by
  rw [← Nat.and_two_pow_sub_one_eq_mod a 32]
  exact bits_and_u64_nat a 4294967295 ha (by omega)
theorem div32 (a : Nat) : (a : Int) / 4294967296 = ((a / 4294967296 : Nat) : Int) := by omega
theorem u64_mod (a : Nat) : IntKind.u64.wrap (a : Int) = ((a % 18446744073709551616 : Nat) : Int) := by rw [u64_eq]; omega
theorem u64_nat (a : Nat) (ha : a < 18446744073709551616) : IntKind.u64.wrap (a : Int) = (a : Int) := by rw [u64_eq]; omega

set_option maxRecDepth 100000 in
set_option maxHeartbeats 1000000 in
theorem mul64_nat (x y : Nat) (hx : x < 18446744073709551616) (hy : y < 18446744073709551616) (w : World) :
    Calls Tryz.prog 256 #[.int .u64 x, .int .u64 y] w fun e w' => e = .returned (.tuple #[.int .u64 ((x * y / 18446744073709551616 : Nat) : Int), .int .u64 ((x * y % 18446744073709551616 : Nat) : Int)]) ∧ w' = w := by
  obtain ⟨b1, b2, b3, hhi⟩ := Lib.mul64_hi x y hx hy
  have p1 := Lib.half_mul_le (a := x / 4294967296) (b := y / 4294967296) (by omega) (by omega)
  have p2 := Lib.half_mul_le (a := x / 4294967296) (b := y % 4294967296) (by omega) (by omega)
  have p3 := Lib.half_mul_le (a := x % 4294967296) (b := y / 4294967296) (by omega) (by omega)
  have q1 : x / 4294967296 * (y / 4294967296) < 18446744073709551616 := by omega
  have q2 : x / 4294967296 * (y % 4294967296) < 18446744073709551616 := by omega
  have q3 : x % 4294967296 * (y / 4294967296) < 18446744073709551616 := by omega
  have q4 : x / 4294967296 * (y / 4294967296) + (x / 4294967296 * (y % 4294967296) + x % 4294967296 * (y % 4294967296) / 4294967296) / 4294967296 < 18446744073709551616 := by omega
  have q5 : x / 4294967296 * (y / 4294967296) + (x / 4294967296 * (y % 4294967296) + x % 4294967296 * (y % 4294967296) / 4294967296) / 4294967296 + ((x / 4294967296 * (y % 4294967296) + x % 4294967296 * (y % 4294967296) / 4294967296) % 4294967296 + x % 4294967296 * (y / 4294967296)) / 4294967296 < 18446744073709551616 := by omega
  go_enter Tryz.func256, Tryz.ntmps256
  go_wp2
  simp only [low32 x hx, low32 y hy, div32, ← Int.natCast_mul, ← Int.natCast_add, u64_nat _ b1, u64_nat _ q2, u64_nat _ b2, low32 _ b2, u64_nat _ q3, u64_nat _ b3, u64_nat _ q1, u64_nat _ q4, u64_nat _ q5, u64_mod (x * y)]
  rw [hhi]
  go_ret2
  exact ⟨rfl, rfl⟩

end Go.Proofs.YtbanjolokkghdaaGreatDoor
