/- Parts of the proof that follows: The steps of a walk through a region that draws its order: one law a kind of operation. No condition. | The two functions of math/bits that the model stands in for, at this program; small facts for the walks. No condition but that what comes in are words. | Layer wide: what each function of numbers of 128 bits hands back. Every number of 128 bits. | Layer wide, going on: told, Add, Sub, Of, Compare. Every number of 128 bits. | Layer wide: Compare, Mul, Int, and math/bits.Mul64. Every number. -/
import Derived.ScopeJumps
import Derived.WalkMore
import Derived.WalkKit
import Derived.Test.YtbanjolokkghdaaGreatDoorProg
import Derived.WalkSpells
import Derived.WalkLawsBesides
import Derived.Lib.Mul64
import Derived.Test.YtbanjolokkghdaaGreatDoorWf1
set_option linter.unusedSimpArgs false
set_option linter.unusedVariables false
namespace Go.Proofs.YtbanjolokkghdaaGreatDoor
open Go.RowKit

def Det (c : Value) : Spec := fun v _ => v = c
def GDet (p : Bool) (c : Value) : Spec := fun v _ => if p = true then v = c else v = undef

theorem closed_det (L : List Nat) (c : Value) : Closed L (Det c) := fun _ _ _ _ h => h
theorem closed_gdet (L : List Nat) (p : Bool) (c : Value) : Closed L (GDet p c) := fun _ _ _ _ h => h

section
variable {P : Program} {ops : Array Oper} {C : World → Prop} {X : List (Nat × Nat)} {a0 : Act} {Fin : List (Option Tmp × Spec) → Prop} {i : Nat} {o : Oper} {rest : List Oper} {acc : List (Option Tmp × Spec)}

theorem wanted_none {o : Oper} {y : Nat → Option Bool} (h : o.guard = none) : Region.wanted o y = true := by simp [Region.wanted, h]
theorem wanted_some {o : Oper} {k : Nat} {want x : Bool} {d : Tmp} {a : Act} (h : o.guard = some (k, want)) (hd : wrOf ops k = some d) (hv : a.tmps.getD d undef = .bool x) :
    Region.wanted o (yielded ops a.tmps) = (x == want) := by
  have hx : a.tmps[d]? = some (.bool x) := by
    cases h : a.tmps[d]? with
    | none => simp [h, undef] at hv
    | some v => simpa [h] using hv
  unfold wrOf at hd
  simp only [Region.wanted, h, yielded, hd, Option.bind_some, hx]
  cases x <;> cases want <;> rfl
theorem wanted_undef {o : Oper} {k : Nat} {want : Bool} {d : Tmp} {a : Act} (h : o.guard = some (k, want)) (hd : wrOf ops k = some d) (hv : a.tmps.getD d undef = undef) :
    Region.wanted o (yielded ops a.tmps) = false := by
  unfold wrOf at hd
  have : ∀ b, a.tmps[d]? ≠ some (.bool b) := by
    intro b hb
    simp [hb, undef] at hv
  simp only [Region.wanted, h, yielded, hd, Option.bind_some]
  cases hx : a.tmps[d]? with
  | none => rfl
  | some v => cases v with
    | bool b => exact absurd hx (this b)
    | _ => rfl

/-- An operation that only reckons or reads: one value. -/
theorem nd_det (c : Value) (hg : o.guard = none) (hal : isAlloc o = false)
    (h : ∀ (a : Act) (w : World), C w → (∀ s ∈ o.looksAt ops, envOf a0 acc s (a.tmps.getD s undef) w) → (execOp a.eval o).run P w = .ok (.value c) w)
    (hr : ndWalk P ops C X a0 Fin (i + 1) rest ((o.dst, Det c) :: acc)) : ndWalk P ops C X a0 Fin i (o :: rest) acc :=
  ⟨Det c, closed_det _ _, fun a w hC hE => ⟨fun _ => by rw [h a w hC hE]; exact ⟨Rex.refl _ _, rfl, fun e => by rw [hal] at e; cases e⟩, fun e => by rw [wanted_none hg] at e; cases e⟩, hr⟩

/-- .. behind a guard: the guard's own operation is itself carried out where p. -/
theorem nd_detg (p x want : Bool) (k : Nat) (d : Tmp) (c : Value) (hg : o.guard = some (k, want)) (hd : wrOf ops k = some d) (hal : isAlloc o = false)
    (hx : ∀ v w, envOf a0 acc d v w → if p = true then v = .bool x else v = undef)
    (h : p = true → x = want → ∀ (a : Act) (w : World), C w → (∀ s ∈ o.looksAt ops, envOf a0 acc s (a.tmps.getD s undef) w) → (execOp a.eval o).run P w = .ok (.value c) w)
    (hr : ndWalk P ops C X a0 Fin (i + 1) rest ((o.dst, GDet (p && (x == want)) c) :: acc)) : ndWalk P ops C X a0 Fin i (o :: rest) acc := by
  refine ⟨GDet (p && (x == want)) c, closed_gdet _ _ _, fun a w hC hE => ?_, hr⟩
  have hin : d ∈ o.looksAt ops := by
    unfold wrOf at hd
    simp [Oper.looksAt, hg, hd]
  have hv := hx _ _ (hE d hin)
  cases p with
  | true =>
    have hw := wanted_some (o := o) hg hd (by simpa using hv)
    refine ⟨fun e => ?_, fun e => ?_⟩
    · rw [hw] at e
      rw [h rfl (by simpa using e) a w hC hE]
      exact ⟨Rex.refl _ _, by simp [GDet, e], fun e => by rw [hal] at e; cases e⟩
    · rw [hw] at e
      simp [GDet, e]
  | false =>
    have hw := wanted_undef (o := o) hg hd (by simpa using hv)
    exact ⟨fun e => (by rw [hw] at e; cases e), fun _ => (by simp [GDet])⟩

/-- 'a && b', 'a || b': what comes of both. -/
theorem run_pick {o : Oper} {a : Act} {c x y : Operand} {b : Bool} {w : World} (ho : o.op = .pick c x y) (hc : a.eval c = .bool b) : (execOp a.eval o).run P w = .ok (.value (if b = true then a.eval x else a.eval y)) w := by
  unfold execOp
  rw [ho]
  simp [hc, asBool]

theorem nd_pick_and (x y : Bool) (c t : Tmp) (ho : o.op = .pick (.tmp c) (.tmp t) (.const (.bool false))) (hg : o.guard = none)
    (hc : ∀ v w, envOf a0 acc c v w → v = .bool x) (ht : ∀ v w, envOf a0 acc t v w → x = true → v = .bool y)
    (hr : ndWalk P ops C X a0 Fin (i + 1) rest ((o.dst, Det (.bool (x && y))) :: acc)) : ndWalk P ops C X a0 Fin i (o :: rest) acc := by
  refine nd_det (.bool (x && y)) hg (by unfold isAlloc; rw [ho]) (fun a w hC hE => ?_) hr
  have h1 := hc _ _ (hE c (by simp [Oper.looksAt, ho, Op.operands]))
  have h2 := ht _ _ (hE t (by simp [Oper.looksAt, ho, Op.operands]))
  rw [run_pick (b := x) ho (by simpa [Act.eval] using h1)]
  cases x
  · simp [Act.eval]
  · simpa [Act.eval] using h2 rfl

theorem nd_pick_or (x y : Bool) (c t : Tmp) (ho : o.op = .pick (.tmp c) (.const (.bool true)) (.tmp t)) (hg : o.guard = none)
    (hc : ∀ v w, envOf a0 acc c v w → v = .bool x) (ht : ∀ v w, envOf a0 acc t v w → x = false → v = .bool y)
    (hr : ndWalk P ops C X a0 Fin (i + 1) rest ((o.dst, Det (.bool (x || y))) :: acc)) : ndWalk P ops C X a0 Fin i (o :: rest) acc := by
  refine nd_det (.bool (x || y)) hg (by unfold isAlloc; rw [ho]) (fun a w hC hE => ?_) hr
  have h1 := hc _ _ (hE c (by simp [Oper.looksAt, ho, Op.operands]))
  have h2 := ht _ _ (hE t (by simp [Oper.looksAt, ho, Op.operands]))
  rw [run_pick (b := x) ho (by simpa [Act.eval] using h1)]
  cases x
  · simpa [Act.eval] using h2 rfl
  · simp [Act.eval]

/-- The same behind a guard. -/
theorem nd_pickg_and (p g want x y : Bool) (k : Nat) (d c t : Tmp) (ho : o.op = .pick (.tmp c) (.tmp t) (.const (.bool false))) (hg : o.guard = some (k, want)) (hd : wrOf ops k = some d)
    (hx : ∀ v w, envOf a0 acc d v w → if p = true then v = .bool g else v = undef)
    (hc : p = true → g = want → ∀ v w, envOf a0 acc c v w → v = .bool x) (ht : p = true → g = want → ∀ v w, envOf a0 acc t v w → x = true → v = .bool y)
    (hr : ndWalk P ops C X a0 Fin (i + 1) rest ((o.dst, GDet (p && (g == want)) (.bool (x && y))) :: acc)) : ndWalk P ops C X a0 Fin i (o :: rest) acc := by
  refine nd_detg p g want k d (.bool (x && y)) hg hd (by unfold isAlloc; rw [ho]) hx (fun e1 e2 a w hC hE => ?_) hr
  have h1 := hc e1 e2 _ _ (hE c (by simp [Oper.looksAt, ho, Op.operands]))
  have h2 := ht e1 e2 _ _ (hE t (by simp [Oper.looksAt, ho, Op.operands]))
  rw [run_pick (b := x) ho (by simpa [Act.eval] using h1)]
  cases x
  · simp [Act.eval]
  · simpa [Act.eval] using h2 rfl

theorem nd_pickg_or (p g want x y : Bool) (k : Nat) (d c t : Tmp) (ho : o.op = .pick (.tmp c) (.const (.bool true)) (.tmp t)) (hg : o.guard = some (k, want)) (hd : wrOf ops k = some d)
    (hx : ∀ v w, envOf a0 acc d v w → if p = true then v = .bool g else v = undef)
    (hc : p = true → g = want → ∀ v w, envOf a0 acc c v w → v = .bool x) (ht : p = true → g = want → ∀ v w, envOf a0 acc t v w → x = false → v = .bool y)
    (hr : ndWalk P ops C X a0 Fin (i + 1) rest ((o.dst, GDet (p && (g == want)) (.bool (x || y))) :: acc)) : ndWalk P ops C X a0 Fin i (o :: rest) acc := by
  refine nd_detg p g want k d (.bool (x || y)) hg hd (by unfold isAlloc; rw [ho]) hx (fun e1 e2 a w hC hE => ?_) hr
  have h1 := hc e1 e2 _ _ (hE c (by simp [Oper.looksAt, ho, Op.operands]))
  have h2 := ht e1 e2 _ _ (hE t (by simp [Oper.looksAt, ho, Op.operands]))
  rw [run_pick (b := x) ho (by simpa [Act.eval] using h1)]
  cases x
  · simpa [Act.eval] using h2 rfl
  · simp [Act.eval]

/-- A call, by its contract: its value by a specification that lasts. -/
theorem nd_call (Φ : Spec) (hcl : Closed (others X i) Φ) (hg : o.guard = none) (hal : isAlloc o = false)
    (h : ∀ (a : Act) (w : World), C w → (∀ s ∈ o.looksAt ops, envOf a0 acc s (a.tmps.getD s undef) w) →
      ∃ f args, (execOp a.eval o).run P w = .ok (.enter f args) w ∧ Calls P f args w fun e w' => ∃ u, e = .returned u ∧ Below w.heap.size w w' ∧ Φ u w')
    (hr : ndWalk P ops C X a0 Fin (i + 1) rest ((o.dst, Φ) :: acc)) : ndWalk P ops C X a0 Fin i (o :: rest) acc :=
  ⟨Φ, hcl, fun a w hC hE => ⟨fun _ => by
    obtain ⟨f, args, h1, h2⟩ := h a w hC hE
    rw [h1]
    exact ⟨rfl, hal, h2.mono fun e w' ⟨u, he, hb, hΦ⟩ => ⟨u, he, Rex.of_below hb, hΦ⟩⟩, fun e => by rw [wanted_none hg] at e; cases e⟩, hr⟩

/-- A call whose value is known. -/
theorem nd_callv (c : Value) (hg : o.guard = none) (hal : isAlloc o = false)
    (h : ∀ (a : Act) (w : World), C w → (∀ s ∈ o.looksAt ops, envOf a0 acc s (a.tmps.getD s undef) w) →
      ∃ f args, (execOp a.eval o).run P w = .ok (.enter f args) w ∧ Calls P f args w fun e w' => e = .returned c ∧ Below w.heap.size w w')
    (hr : ndWalk P ops C X a0 Fin (i + 1) rest ((o.dst, Det c) :: acc)) : ndWalk P ops C X a0 Fin i (o :: rest) acc :=
  nd_call (Det c) (closed_det _ _) hg hal (fun a w hC hE => by
    obtain ⟨f, args, h1, h2⟩ := h a w hC hE
    exact ⟨f, args, h1, h2.mono fun e w' ⟨he, hb⟩ => ⟨c, he, hb, rfl⟩⟩) hr

theorem nd_callv2 {f : FuncId} {args : Array Value} {c : Value} (hg : o.guard = none) (hal : isAlloc o = false) (hc : ∀ w, C w → Calls P f args w fun e w' => e = .returned c ∧ Below w.heap.size w w')
    (h : ∀ (a : Act) (w : World), C w → (∀ s ∈ o.looksAt ops, envOf a0 acc s (a.tmps.getD s undef) w) → (execOp a.eval o).run P w = .ok (.enter f args) w)
    (hr : ndWalk P ops C X a0 Fin (i + 1) rest ((o.dst, Det c) :: acc)) : ndWalk P ops C X a0 Fin i (o :: rest) acc :=
  nd_callv c hg hal (fun a w hC hE => ⟨f, args, h a w hC hE, hc w hC⟩) hr

/-- .. behind a guard. -/
theorem nd_callvg (p x want : Bool) (k : Nat) (d : Tmp) (c : Value) (hg : o.guard = some (k, want)) (hd : wrOf ops k = some d) (hal : isAlloc o = false)
    (hx : ∀ v w, envOf a0 acc d v w → if p = true then v = .bool x else v = undef)
    (h : p = true → x = want → ∀ (a : Act) (w : World), C w → (∀ s ∈ o.looksAt ops, envOf a0 acc s (a.tmps.getD s undef) w) →
      ∃ f args, (execOp a.eval o).run P w = .ok (.enter f args) w ∧ Calls P f args w fun e w' => e = .returned c ∧ Below w.heap.size w w')
    (hr : ndWalk P ops C X a0 Fin (i + 1) rest ((o.dst, GDet (p && (x == want)) c) :: acc)) : ndWalk P ops C X a0 Fin i (o :: rest) acc := by
  refine ⟨GDet (p && (x == want)) c, closed_gdet _ _ _, fun a w hC hE => ?_, hr⟩
  have hin : d ∈ o.looksAt ops := by
    unfold wrOf at hd
    simp [Oper.looksAt, hg, hd]
  have hv := hx _ _ (hE d hin)
  cases p with
  | true =>
    have hw := wanted_some (o := o) hg hd (by simpa using hv)
    refine ⟨fun e => ?_, fun e => ?_⟩
    · rw [hw] at e
      obtain ⟨f, args, h1, h2⟩ := h rfl (by simpa using e) a w hC hE
      rw [h1]
      exact ⟨rfl, hal, h2.mono fun e' w' ⟨he, hb⟩ => ⟨c, he, Rex.of_below hb, by simp [GDet, e]⟩⟩
    · rw [hw] at e
      simp [GDet, e]
  | false =>
    have hw := wanted_undef (o := o) hg hd (by simpa using hv)
    exact ⟨fun e => (by rw [hw] at e; cases e), fun _ => (by simp [GDet])⟩

theorem nd_callvg2 {f : FuncId} {args : Array Value} {c : Value} (p x want : Bool) (k : Nat) (d : Tmp) (hg : o.guard = some (k, want)) (hd : wrOf ops k = some d) (hal : isAlloc o = false)
    (hx : ∀ v w, envOf a0 acc d v w → if p = true then v = .bool x else v = undef)
    (hc : p = true → x = want → ∀ w, C w → Calls P f args w fun e w' => e = .returned c ∧ Below w.heap.size w w')
    (h : p = true → x = want → ∀ (a : Act) (w : World), C w → (∀ s ∈ o.looksAt ops, envOf a0 acc s (a.tmps.getD s undef) w) → (execOp a.eval o).run P w = .ok (.enter f args) w)
    (hr : ndWalk P ops C X a0 Fin (i + 1) rest ((o.dst, GDet (p && (x == want)) c) :: acc)) : ndWalk P ops C X a0 Fin i (o :: rest) acc :=
  nd_callvg p x want k d c hg hd hal hx (fun e1 e2 a w hC hE => ⟨f, args, h e1 e2 a w hC hE, hc e1 e2 w hC⟩) hr

/-- Block b is just these cells. -/
def Blk (w : World) (b : Nat) (cs : Array Value) (t : TypeId) : Prop := w.heap[b]? = some (.cells cs t (0, 0))

theorem Blk.lt {w : World} {b : Nat} {cs : Array Value} {t : TypeId} (h : Blk w b cs t) : b < w.heap.size := by
  rcases Nat.lt_or_ge b w.heap.size with h1 | h1
  · exact h1
  · unfold Blk at h; rw [Array.getElem?_eq_none h1] at h; cases h
theorem Blk.rex {L : List Nat} {w w' : World} {b : Nat} {cs : Array Value} {t : TypeId} (h : Blk w b cs t) (hr : Rex L w w') (hb : b ∉ L) : Blk w' b cs t :=
  (hr.block b h.lt hb).trans h
theorem Blk.below {w w' : World} {b : Nat} {cs : Array Value} {t : TypeId} (h : Blk w b cs t) (hr : Below w.heap.size w w') : Blk w' b cs t :=
  (hr.block b h.lt).trans h
theorem Blk.shape {L : List Nat} {w w' : World} {b : Nat} {cs : Array Value} {t : TypeId} (h : Blk w b cs t) (hr : Rex L w w') (hb : b ∈ L) : ∃ cs' : Array Value, cs'.size = cs.size ∧ Blk w' b cs' t := hr.shape b hb cs t _ h
theorem Blk.cell {w : World} {b : Nat} {cs : Array Value} {t : TypeId} (h : Blk w b cs t) (i : Nat) : w.cell? ⟨b, i, none⟩ = cs[i]? := cell_of_row w b i cs t (0, 0) h
theorem Blk.frozen {w : World} {b : Nat} {cs : Array Value} {t : TypeId} (h : Blk w b cs t) (i : Nat) : w.frozen? ⟨b, i, none⟩ = false := frozen_of_row w b i cs t h

/-- A new variable. -/
def NewVar (B : Nat) (cs : Array Value) (t : TypeId) : Spec := fun v w => ∃ b, v = .pointer (some ⟨b, 0, none⟩) ∧ B ≤ b ∧ Blk w b cs t
end


theorem Blk.new' {w : World} {b : Nat} {cs : Array Value} {t : TypeId} (h : w.heap.size = b) : Blk (w.alloc (.cells cs t)) b cs t := by subst h; exact heap_alloc_new w _
theorem Blk.alloc {w : World} {b : Nat} {cs : Array Value} {t : TypeId} (h : Blk w b cs t) (o : Obj) : Blk (w.alloc o) b cs t := (Go.RowKit.Below.heap_alloc w o b h.lt).trans h
theorem Blk.drew {w : World} {b : Nat} {cs : Array Value} {t : TypeId} (h : Blk w b cs t) : Blk w.drew b cs t := h

theorem Blk.set {w : World} {b : Nat} {cs : Array Value} {t : TypeId} (h : Blk w b cs t) (i : Nat) (v : Value) : Blk (w.setCell ⟨b, i, none⟩ v) b (cs.setIfInBounds i v) t := heap_setCell_same w b i cs t v h
theorem Blk.setO {w : World} {b g : Nat} {cs : Array Value} {t : TypeId} (h : Blk w b cs t) (hne : b ≠ g) (i : Nat) (v : Value) : Blk (w.setCell ⟨g, i, none⟩ v) b cs t := (heap_setCell_other w ⟨g, i, none⟩ b v hne).trans h
theorem Blk.calls {w w' : World} {b : Nat} {cs : Array Value} {t : TypeId} (h : Blk w b cs t) (hb : Go.RowKit.Below w.heap.size w w') : Blk w' b cs t := (hb.block b h.lt).trans h
theorem Blk.set2 {w : World} {b : Nat} {cs cs' : Array Value} {t : TypeId} {i : Nat} {v : Value} (h : Blk w b cs t) (e : cs.setIfInBounds i v = cs') : Blk (w.setCell ⟨b, i, none⟩ v) b cs' t := e ▸ h.set i v
theorem BelowCalls {n : Nat} {w W W' : World} (h : Go.RowKit.Below n w W) (hb : Go.RowKit.Below W.heap.size W W') (hn : n ≤ W.heap.size) : Go.RowKit.Below n w W' := h.trans (hb.mono hn)
theorem BelowRex {n : Nat} {L : List Nat} {w W W' : World} (h : Go.RowKit.Below n w W) (hr : Rex L W W') (hn : n ≤ W.heap.size) (hL : ∀ x, x ∈ L → n ≤ x) : Go.RowKit.Below n w W' := h.trans (hr.of_priv hn hL)
theorem Blk.new2 {w : World} {b : Nat} {cs : Array Value} {t : TypeId} {o : Obj} (h : w.heap.size = b) (e : o = .cells cs t) : Blk (w.alloc o) b cs t := e ▸ Blk.new' h
theorem blkAny {w : World} {b : Nat} {cs : Array Value} {t : TypeId} (h : Blk w b cs t := by repeat (first | with_reducible assumption | with_reducible (refine Blk.new2 (by first | rfl | (simp; done) | (simp; omega) | omega) ?_) | (show (_ : Obj) = _; rfl) | with_reducible (refine Blk.alloc ?_ _) | with_reducible (apply Blk.set2) | with_reducible (refine Blk.setO ?_ (by first | omega | (simp; done) | (simp; omega)) _ _) | (show Array.setIfInBounds _ _ _ = _; rfl) | with_reducible (refine Blk.calls ?_ (by assumption)) | with_reducible (refine Blk.rex ?_ (by assumption) (by first | (simp; done) | (simp; omega))))) : Blk w b cs t := h
theorem belowAny {n : Nat} {w W : World} (h : Go.RowKit.Below n w W := by repeat (first | with_reducible assumption | with_reducible (exact Go.RowKit.Below.refl _ _) | with_reducible (refine Go.RowKit.Below.setCell ?_ (by first | omega | (simp; done) | (simp; omega)) _) | with_reducible (refine Go.RowKit.Below.alloc ?_ (by first | omega | (simp; done) | (simp; omega)) _) | with_reducible (refine BelowCalls ?_ (by assumption) (by first | omega | (simp; done) | (simp; omega))) | with_reducible (refine BelowRex ?_ (by assumption) (by first | omega | (simp; done) | (simp; omega)) (by first | (simp; done) | (simp; omega))))) : Go.RowKit.Below n w W := h
theorem Rex.alloc {L : List Nat} {w W : World} (h : Rex L w W) (o : Obj) : Rex L w (W.alloc o) := h.trans (Rex.of_below ((Go.RowKit.Below.refl _ _).alloc (Nat.le_refl _) o))
theorem Rex.calls {L : List Nat} {w W W' : World} (h : Rex L w W) (hb : Go.RowKit.Below W.heap.size W W') : Rex L w W' := h.trans (Rex.of_below hb)
theorem frame_ex {a : Act} {F : (Nat → Value) → Act} (h : a = F (fun k => a.tmps.getD k undef)) : ∃ u, a = F u := ⟨_, h⟩
end Go.Proofs.YtbanjolokkghdaaGreatDoor
namespace Go.Proofs.YtbanjolokkghdaaGreatDoor
open Go.RowKit
theorem mixed : Tryz.prog.follows .mixedOrders = true := by kernel_rfl
def sumLo (x y c : Int) : Int := (x + y + c) % 18446744073709551616
def sumC (x y c : Int) : Int := (x + y + c) / 18446744073709551616
def difLo (x y c : Int) : Int := (x - y - c) % 18446744073709551616
def difC (x y c : Int) : Int := if x < y + c then 1 else 0
def sub64Entry : Array Value → Sem Value := fun args => do
  let (x, y, b) ← Extern.MathBitsCarry.three "Sub64" args
  pure (Extern.MathBitsCarry.pair ((x + Extern.MathBitsCarry.m64 - y - b) % Extern.MathBitsCarry.m64) (if x < y + b then 1 else 0))

theorem u64_eq (x : Int) : IntKind.u64.wrap x = x % 18446744073709551616 := by
  simp [IntKind.wrap, IntKind.bits, IntKind.signed]
theorem wrap64_eq (x : Int) : wrap64 x = (x + 9223372036854775808) % 18446744073709551616 - 9223372036854775808 := by unfold wrap64; rfl
/-! ### What a function hands back that lies in a variable -/
section
variable {P : Program}
end

end Go.Proofs.YtbanjolokkghdaaGreatDoor
namespace Go.Proofs.YtbanjolokkghdaaGreatDoor
open Go.RowKit

/-- The number n as a wide one. -/
def hiW (n : Int) : Int := n / 18446744073709551616
def loW (n : Int) : Int := n % 18446744073709551616
def W128 (n : Int) : Prop := -170141183460469231731687303715884105728 ≤ n ∧ n < 170141183460469231731687303715884105728
instance (n : Int) : Decidable (W128 n) := by unfold W128; infer_instance
def wideV (n : Int) : Value := .agg #[.int .i64 (hiW n), .int .u64 (loW n)]
def wrapW (n : Int) : Int := (n + 170141183460469231731687303715884105728) % 340282366920938463463374607431768211456 - 170141183460469231731687303715884105728
def inW (n : Int) : Bool := decide (W128 n)
theorem wrapW_in {n : Int} (h : W128 n) : wrapW n = n := by unfold wrapW; obtain ⟨_, _⟩ := h; omega
theorem W128_small {n : Int} (h : -9223372036854775808 ≤ n ∧ n ≤ 9223372036854775807) : W128 n := by unfold W128; omega

end Go.Proofs.YtbanjolokkghdaaGreatDoor
namespace Go.Proofs.YtbanjolokkghdaaGreatDoor
open Go.RowKit

/-- What 'told' makes of a number and of whether it fits. -/
def wv (f : Bool) (n : Int) : Int := if f = true then n else 0
def we (f : Bool) : Int := if f = true then 0 else 5

theorem bcell {W w1 : World} (hb : Below W.heap.size W w1) : (∀ b o, b < W.heap.size → w1.cell? ⟨b, o, none⟩ = W.cell? ⟨b, o, none⟩) ∧ (∀ b o, b < W.heap.size → w1.frozen? ⟨b, o, none⟩ = W.frozen? ⟨b, o, none⟩) :=
  ⟨fun b o h => hb.cell (p := ⟨b, o, none⟩) h, fun b o h => hb.frozen (p := ⟨b, o, none⟩) h⟩

end Go.Proofs.YtbanjolokkghdaaGreatDoor
namespace Go.Proofs.YtbanjolokkghdaaGreatDoor
open Go.RowKit

def cmpI (a b : Int) : Int := if a = b then 0 else if a < b then -1 else 1
/-! ### math/bits.Mul64 -/
end Go.Proofs.YtbanjolokkghdaaGreatDoor
