/- Parts of the proof that follows: Layer line: over. | The facts on a world in one piece; steps of a walk whose proofs are found by defaults. No condition. | Layer line: over, value, Check, timeIs, At. | Layer line: Check, timeIs, At. -/
import Derived.Test.YtbanjolokkghdaaGreatDoorWf4
set_option linter.unusedSimpArgs false
set_option linter.unusedVariables false
namespace Go.Proofs.YtbanjolokkghdaaGreatDoor
open Go.RowKit

end Go.Proofs.YtbanjolokkghdaaGreatDoor
namespace Go.Proofs.YtbanjolokkghdaaGreatDoor
open Go.RowKit
/-- As blkAny, but quick where a great world has been written into. -/
theorem blkAny2 {w : World} {b : Nat} {cs : Array Value} {t : TypeId} (h : Blk w b cs t := by repeat (first | with_reducible assumption | with_reducible (apply Blk.set2) | with_reducible (apply Blk.setO) | ((with_reducible (show _ ≠ _)); omega) | with_reducible (refine Blk.new2 (by first | rfl | (simp; done) | (simp; omega) | omega) ?_) | with_reducible (refine Blk.alloc ?_ _) | with_reducible (refine Blk.calls ?_ (by assumption)) | with_reducible (refine Blk.rex ?_ (by assumption) (by first | (simp; done) | (simp; omega))) | ((with_reducible (show @Eq (Array Value) _ _)); rfl) | ((with_reducible (show @Eq Obj _ _)); rfl))) : Blk w b cs t := h
def Bz (_ : World) : Prop := True
def Bc (b : Nat) (cs : Array Value) (t : TypeId) (R : World → Prop) (w : World) : Prop := (Blk w b cs t ∧ b < w.heap.size ∧ (∀ i, w.cell? ⟨b, i, none⟩ = cs[i]?) ∧ ∀ i, w.frozen? ⟨b, i, none⟩ = false) ∧ R w
def Rc (F R : World → Prop) (w : World) : Prop := F w ∧ R w
theorem Bc.mk {b : Nat} {cs : Array Value} {t : TypeId} {R : World → Prop} {w : World} (h : Blk w b cs t) (r : R w) : Bc b cs t R w := ⟨⟨h, h.lt, h.cell, h.frozen⟩, r⟩
theorem Rc.mk {F R : World → Prop} {w : World} (h : F w) (r : R w) : Rc F R w := ⟨h, r⟩
def Cl (R : World → Prop) : Prop := ∀ w w', R w → Rex [] w w' → R w'
theorem Cl.z : Cl Bz := fun _ _ _ _ => trivial
theorem Cl.b {b : Nat} {cs : Array Value} {t : TypeId} {R : World → Prop} (h : Cl R) : Cl (Bc b cs t R) := fun w w' hr hx => Bc.mk (hr.1.1.rex hx (by simp)) (h _ _ hr.2 hx)
theorem Cl.r {F R : World → Prop} (hF : ∀ w w', F w → Rex [] w w' → F w') (h : Cl R) : Cl (Rc F R) := fun w w' hr hx => ⟨hF _ _ hr.1 hx, h _ _ hr.2 hx⟩
theorem wp_cutB {P : Program} {c : Code} {Q : Exit → Act → World → Prop} {a : Act} {w : World} (w0 : World) (R : World → Prop) (hr : ∀ W, Below w0.heap.size w0 W → w0.heap.size ≤ W.heap.size → R W → c.wp P Q a W)
    (hI : Below w0.heap.size w0 w := by exact belowAny) (hR : R w := by repeat (first | exact trivial | refine Bc.mk (by exact blkAny2) ?_)) : c.wp P Q a w := hr w hI hI.size hR
section
variable {P : Program} {ops : Array Oper} {C : World → Prop} {X : List (Nat × Nat)} {a0 : Act} {Fin : List (Option Tmp × Spec) → Prop} {i : Nat} {o : Oper} {rest : List Oper} {acc : List (Option Tmp × Spec)}
theorem dA {c : Value} (hr : ndWalk P ops C X a0 Fin (i + 1) rest ((o.dst, Det c) :: acc)) (hg : o.guard = none := by exact rfl) (hal : isAlloc o = false := by exact rfl)
    (h : ∀ (a : Act) (w : World), C w → (∀ s ∈ o.looksAt ops, envOf a0 acc s (a.tmps.getD s undef) w) → (execOp a.eval o).run P w = .ok (.value c) w := by
      intro a W' hC hE
      simp only [Bc, Bz, Rc] at hC
      first
        | (simp [Oper.looksAt, Op.operands, Call.operands, envOf, Det] at hE; simp [go_sem, Act.eval, IntWalk.i64_left, hE, hC]; try rfl)
        | (clear hE; simp [go_sem, Act.eval, IntWalk.i64_left, hC]; try rfl)) : ndWalk P ops C X a0 Fin i (o :: rest) acc := nd_det c hg hal h hr
theorem gA {x want : Bool} {k : Nat} {d : Tmp} {c : Value} (hr : ndWalk P ops C X a0 Fin (i + 1) rest ((o.dst, GDet (true && (x == want)) c) :: acc)) (hg : o.guard = some (k, want) := by exact rfl) (hd : wrOf ops k = some d := by exact rfl) (hal : isAlloc o = false := by exact rfl)
    (hx : ∀ v w, envOf a0 acc d v w → if true = true then v = .bool x else v = undef := by
      intro v W' h
      simp [envOf, Det, GDet] at h
      simp
      exact h)
    (h : true = true → x = want → ∀ (a : Act) (w : World), C w → (∀ s ∈ o.looksAt ops, envOf a0 acc s (a.tmps.getD s undef) w) → (execOp a.eval o).run P w = .ok (.value c) w := by
      intro hp hx a W' hC hE
      simp only [Bc, Bz, Rc] at hC
      simp [Oper.looksAt, Op.operands, Call.operands, envOf, Det, GDet, hx] at hE
      simp [go_sem, Act.eval, IntWalk.i64_left, hE, hC]
      try rfl) : ndWalk P ops C X a0 Fin i (o :: rest) acc := nd_detg true x want k d c hg hd hal hx h hr
theorem pA {x y : Bool} {c t : Tmp} (hr : ndWalk P ops C X a0 Fin (i + 1) rest ((o.dst, Det (.bool (x && y))) :: acc)) (ho : o.op = .pick (.tmp c) (.tmp t) (.const (.bool false)) := by exact rfl) (hg : o.guard = none := by exact rfl)
    (hc : ∀ v w, envOf a0 acc c v w → v = .bool x := by
      intro v W' h
      simp [envOf, Det] at h
      exact h)
    (ht : ∀ v w, envOf a0 acc t v w → x = true → v = .bool y := by
      intro v W' h hx
      simp [envOf, GDet, hx] at h
      exact h) : ndWalk P ops C X a0 Fin i (o :: rest) acc := nd_pick_and x y c t ho hg hc ht hr
theorem pO {x y : Bool} {c t : Tmp} (hr : ndWalk P ops C X a0 Fin (i + 1) rest ((o.dst, Det (.bool (x || y))) :: acc)) (ho : o.op = .pick (.tmp c) (.const (.bool true)) (.tmp t) := by exact rfl) (hg : o.guard = none := by exact rfl)
    (hc : ∀ v w, envOf a0 acc c v w → v = .bool x := by
      intro v W' h
      simp [envOf, Det] at h
      exact h)
    (ht : ∀ v w, envOf a0 acc t v w → x = false → v = .bool y := by
      intro v W' h hx
      simp [envOf, GDet, hx] at h
      exact h) : ndWalk P ops C X a0 Fin i (o :: rest) acc := nd_pick_or x y c t ho hg hc ht hr
theorem pgA {g want x y : Bool} {k : Nat} {d c t : Tmp} (hr : ndWalk P ops C X a0 Fin (i + 1) rest ((o.dst, GDet (true && (g == want)) (.bool (x && y))) :: acc)) (ho : o.op = .pick (.tmp c) (.tmp t) (.const (.bool false)) := by exact rfl) (hg : o.guard = some (k, want) := by exact rfl) (hd : wrOf ops k = some d := by exact rfl)
    (hx : ∀ v w, envOf a0 acc d v w → if true = true then v = .bool g else v = undef := by
      intro v W' h
      simp [envOf, Det, GDet] at h
      simp
      exact h)
    (hc : true = true → g = want → ∀ v w, envOf a0 acc c v w → v = .bool x := by
      intro _ hx v W' h
      simp [envOf, Det, GDet, hx] at h
      exact h)
    (ht : true = true → g = want → ∀ v w, envOf a0 acc t v w → x = true → v = .bool y := by
      intro _ hx v W' h hy
      simp [envOf, GDet, hx, hy] at h
      exact h) : ndWalk P ops C X a0 Fin i (o :: rest) acc := nd_pickg_and true g want x y k d c t ho hg hd hx hc ht hr
theorem pgO {g want x y : Bool} {k : Nat} {d c t : Tmp} (hr : ndWalk P ops C X a0 Fin (i + 1) rest ((o.dst, GDet (true && (g == want)) (.bool (x || y))) :: acc)) (ho : o.op = .pick (.tmp c) (.const (.bool true)) (.tmp t) := by exact rfl) (hg : o.guard = some (k, want) := by exact rfl) (hd : wrOf ops k = some d := by exact rfl)
    (hx : ∀ v w, envOf a0 acc d v w → if true = true then v = .bool g else v = undef := by
      intro v W' h
      simp [envOf, Det, GDet] at h
      simp
      exact h)
    (hc : true = true → g = want → ∀ v w, envOf a0 acc c v w → v = .bool x := by
      intro _ hx v W' h
      simp [envOf, Det, GDet, hx] at h
      exact h)
    (ht : true = true → g = want → ∀ v w, envOf a0 acc t v w → x = false → v = .bool y := by
      intro _ hx v W' h hy
      simp [envOf, GDet, hx, hy] at h
      exact h) : ndWalk P ops C X a0 Fin i (o :: rest) acc := nd_pickg_or true g want x y k d c t ho hg hd hx hc ht hr
theorem cA {f : FuncId} {args : Array Value} {c : Value} (hc : ∀ w, C w → Calls P f args w fun e w' => e = .returned c ∧ Below w.heap.size w w') (hr : ndWalk P ops C X a0 Fin (i + 1) rest ((o.dst, Det c) :: acc)) (hg : o.guard = none := by exact rfl) (hal : isAlloc o = false := by exact rfl)
    (h : ∀ (a : Act) (w : World), C w → (∀ s ∈ o.looksAt ops, envOf a0 acc s (a.tmps.getD s undef) w) → (execOp a.eval o).run P w = .ok (.enter f args) w := by
      intro a W' hC hE
      simp only [Bc, Bz, Rc] at hC
      first
        | (simp [Oper.looksAt, Op.operands, Call.operands, envOf, Det] at hE; simp [go_sem, Act.eval, IntWalk.i64_left, hE, hC]; try rfl)
        | (clear hE; simp [go_sem, Act.eval, IntWalk.i64_left, hC]; try rfl)) : ndWalk P ops C X a0 Fin i (o :: rest) acc := nd_callv2 hg hal hc h hr
/-- The same where more facts are wanted: E tells them. -/
theorem dE {c : Value} {E : World → Prop} (e : ∀ w, C w → E w) (hr : ndWalk P ops C X a0 Fin (i + 1) rest ((o.dst, Det c) :: acc)) (hg : o.guard = none := by exact rfl) (hal : isAlloc o = false := by exact rfl)
    (h : ∀ (a : Act) (w : World), C w → E w → (∀ s ∈ o.looksAt ops, envOf a0 acc s (a.tmps.getD s undef) w) → (execOp a.eval o).run P w = .ok (.value c) w := by
      intro a W' hC hX hE
      simp only [Bc, Bz, Rc] at hC
      try simp only [Nat.zero_mul, Nat.one_mul, Nat.add_zero, Nat.zero_add] at hX
      first
        | (simp [Oper.looksAt, Op.operands, Call.operands, envOf, Det] at hE; simp [go_sem, Act.eval, IntWalk.i64_left, hE, hC, hX]; try rfl)
        | (clear hE; simp [go_sem, Act.eval, IntWalk.i64_left, hC, hX]; try rfl)) : ndWalk P ops C X a0 Fin i (o :: rest) acc := nd_det c hg hal (fun a w hC hE => h a w hC (e w hC) hE) hr
theorem gE {x want : Bool} {k : Nat} {d : Tmp} {c : Value} {E : World → Prop} (e : ∀ w, C w → E w) (hr : ndWalk P ops C X a0 Fin (i + 1) rest ((o.dst, GDet (true && (x == want)) c) :: acc)) (hg : o.guard = some (k, want) := by exact rfl) (hd : wrOf ops k = some d := by exact rfl) (hal : isAlloc o = false := by exact rfl)
    (hx : ∀ v w, envOf a0 acc d v w → if true = true then v = .bool x else v = undef := by
      intro v W' h
      simp [envOf, Det, GDet] at h
      simp
      exact h)
    (h : true = true → x = want → ∀ (a : Act) (w : World), C w → E w → (∀ s ∈ o.looksAt ops, envOf a0 acc s (a.tmps.getD s undef) w) → (execOp a.eval o).run P w = .ok (.value c) w := by
      intro hp hx a W' hC hX hE
      simp only [Bc, Bz, Rc] at hC
      try simp only [Nat.zero_mul, Nat.one_mul, Nat.add_zero, Nat.zero_add] at hX
      simp [Oper.looksAt, Op.operands, Call.operands, envOf, Det, GDet, hx] at hE
      simp [go_sem, Act.eval, IntWalk.i64_left, hE, hC, hX]
      try rfl) : ndWalk P ops C X a0 Fin i (o :: rest) acc := nd_detg true x want k d c hg hd hal hx (fun hp hx a w hC hE => h hp hx a w hC (e w hC) hE) hr
theorem gF {p x want : Bool} {k : Nat} {d : Tmp} {c : Value} {E : World → Prop} (e : ∀ w, C w → E w) (hr : ndWalk P ops C X a0 Fin (i + 1) rest ((o.dst, GDet (p && (x == want)) c) :: acc)) (hg : o.guard = some (k, want) := by exact rfl) (hd : wrOf ops k = some d := by exact rfl) (hal : isAlloc o = false := by exact rfl)
    (hx : ∀ v w, envOf a0 acc d v w → if p = true then v = .bool x else v = undef := by
      intro v W' h
      exact h)
    (h : p = true → x = want → ∀ (a : Act) (w : World), C w → E w → (∀ s ∈ o.looksAt ops, envOf a0 acc s (a.tmps.getD s undef) w) → (execOp a.eval o).run P w = .ok (.value c) w := by
      intro hp hx a W' hC hX hE
      simp only [Bc, Bz, Rc] at hC
      try simp only [Nat.zero_mul, Nat.one_mul, Nat.add_zero, Nat.zero_add] at hX
      try simp at hp
      try simp at hx
      simp [Oper.looksAt, Op.operands, Call.operands, envOf, Det, GDet, hp, hx] at hE
      simp [go_sem, Act.eval, IntWalk.i64_left, hE, hC, hX]
      try rfl) : ndWalk P ops C X a0 Fin i (o :: rest) acc := nd_detg p x want k d c hg hd hal hx (fun hp hx a w hC hE => h hp hx a w hC (e w hC) hE) hr
theorem cE {f : FuncId} {args : Array Value} {c : Value} {E : World → Prop} (e : ∀ w, C w → E w) (hc : ∀ w, C w → Calls P f args w fun e w' => e = .returned c ∧ Below w.heap.size w w') (hr : ndWalk P ops C X a0 Fin (i + 1) rest ((o.dst, Det c) :: acc)) (hg : o.guard = none := by exact rfl) (hal : isAlloc o = false := by exact rfl)
    (h : ∀ (a : Act) (w : World), C w → E w → (∀ s ∈ o.looksAt ops, envOf a0 acc s (a.tmps.getD s undef) w) → (execOp a.eval o).run P w = .ok (.enter f args) w := by
      intro a W' hC hX hE
      simp only [Bc, Bz, Rc] at hC
      try simp only [Nat.zero_mul, Nat.one_mul, Nat.add_zero, Nat.zero_add] at hX
      first
        | (simp [Oper.looksAt, Op.operands, Call.operands, envOf, Det] at hE; simp [go_sem, Act.eval, IntWalk.i64_left, hE, hC, hX]; try rfl)
        | (clear hE; simp [go_sem, Act.eval, IntWalk.i64_left, hC, hX]; try rfl)) : ndWalk P ops C X a0 Fin i (o :: rest) acc := nd_callv2 hg hal hc (fun a w hC hE => h a w hC (e w hC) hE) hr
theorem aI {a b : Prop} (x : a) (y : b) : a ∧ b := ⟨x, y⟩
end
section
variable {P : Program} {Q : Exit → Act → World → Prop} {a0 : Act} {id : Nat} {l : List Oper} {w0 W : World} {R : World → Prop}
/-- A region that draws its order, with its facts in one piece. -/
theorem wp_regD (n m : Nat) (hW : Below w0.heap.size w0 W) (hR : R W)
    (h : ndWalk P l.toArray (fun W' => Rex [] W W' ∧ R W') [] a0 (fun acc => ∀ w, Below w0.heap.size w0 w → w0.heap.size ≤ w.heap.size → R w → ndFinR w a0 acc fun a => wpList P l.toArray Q (l.drop n) a w) 0 (l.take n) [])
    (hf : P.follows .mixedOrders = true := by exact mixed) (hB : okB l.toArray n m = true := by kernel_rfl) (hm : m = a0.tmps.size := by exact rfl)
    (hcl : Cl R := by repeat (first | exact Cl.z | refine Cl.b ?_ | refine Cl.r (fun w w' h hr => h.rex hr (by simp <;> omega)) ?_))
    (hQ : ∀ c a d v w, Q (.panic c) (Act.put a d v) w → Q (.panic c) a w := by exact fun c a d v w h => by cases d <;> exact h) : (Code.region id l.toArray true).wp P Q a0 W :=
  wp_region_nd n m [] (fun W' => Rex [] W W' ∧ R W') hf hB hm ⟨(Rex.refl _ _).drew, hcl _ _ hR (Rex.refl _ _).drew⟩ (fun _ _ h hr => ⟨h.1.trans hr, hcl _ _ h.2 hr⟩) hQ
    (ndWalk_mono (fun acc hacc w hc => hacc w (hW.trans (hc.1.of_priv hW.size)) (hW.trans (hc.1.of_priv hW.size)).size hc.2) _ _ _ h)
theorem wp_regQ (n m : Nat) (hW : Below w0.heap.size w0 W) (hR : R W)
    (h : ndWalk P l.toArray (fun W' => Rex [] W W' ∧ R W') [] a0 (fun acc => ∀ w, Below w0.heap.size w0 w → w0.heap.size ≤ w.heap.size → R w → ndFinR w a0 acc fun a => wpList P l.toArray Q (l.drop n) a w) 0 (l.take n) [])
    (hf : P.follows .mixedOrders = true := by exact mixed) (hB : okB l.toArray n m = true := by kernel_rfl) (hm : m = a0.tmps.size := by exact rfl)
    (hcl : Cl R := by repeat (first | exact Cl.z | refine Cl.b ?_ | refine Cl.r (fun w w' h hr => h.rex hr (by simp <;> omega)) ?_))
    (hn : l.drop n = [] := by exact rfl) : (Code.region id l.toArray true).wp P Q a0 W :=
  wp_region_ndQ n m [] (fun W' => Rex [] W W' ∧ R W') hf hB hm ⟨(Rex.refl _ _).drew, hcl _ _ hR (Rex.refl _ _).drew⟩ (fun _ _ h hr => ⟨h.1.trans hr, hcl _ _ h.2 hr⟩) hn
    (ndWalk_mono (fun acc hacc w hc => hacc w (hW.trans (hc.1.of_priv hW.size)) (hW.trans (hc.1.of_priv hW.size)).size hc.2) _ _ _ h)
theorem wp_regS (n m : Nat) (hW : Below w0.heap.size w0 W) (hR : R W)
    (h : ndWalk P l.toArray (fun W' => Rex [] W W' ∧ R W') [] a0 (fun acc => ∀ w, Below w0.heap.size w0 w → w0.heap.size ≤ w.heap.size → R w → ndFinR w a0 acc fun a => wpList P l.toArray Q (l.drop n) a w) 0 (l.take n) [])
    (hB : InB m l = true := by kernel_rfl) (hm : m = a0.tmps.size := by exact rfl)
    (hcl : Cl R := by repeat (first | exact Cl.z | refine Cl.b ?_ | refine Cl.r (fun w w' h hr => h.rex hr (by simp <;> omega)) ?_)) : (Code.region id l.toArray false).wp P Q a0 W :=
  wp_region_sq n m [] (fun W' => Rex [] W W' ∧ R W') hB hm ⟨Rex.refl _ _, hR⟩ (fun _ _ h hr => ⟨h.1.trans hr, hcl _ _ h.2 hr⟩)
    (ndWalk_mono (fun acc hacc w hc => hacc w (hW.trans (hc.1.of_priv hW.size)) (hW.trans (hc.1.of_priv hW.size)).size hc.2) _ _ _ h)
end
theorem ndR : (∀ (w : World) (a0 : Act) (K : Act → Prop), ndFinR w a0 [] K = K a0) ∧ (∀ (w : World) (a0 : Act) (K : Act → Prop) (d : Option Tmp) (Φ : Spec) (r : List (Option Tmp × Spec)), ndFinR w a0 ((d, Φ) :: r) K = ndFinR w a0 r fun a => ∀ v, Φ v w → K (a.put d v)) ∧
    (∀ (c : Value) (w : World) (K : Value → Prop), (∀ v, Det c v w → K v) ↔ K c) := ⟨fun _ _ _ => rfl, fun _ _ _ _ _ _ => rfl, fun _ _ _ => ⟨fun h => h _ rfl, fun h _ e => e ▸ h⟩⟩
theorem ndS : (∀ (a : Act) (d : Tmp) (v : Value), Act.put a (some d) v = { a with tmps := a.tmps.setIfInBounds d v }) ∧ (∀ (a : Act) (v : Value), Act.put a none v = a) ∧ (∀ (l : List Value) (i : Nat) (a : Value), l.toArray.setIfInBounds i a = (l.set i a).toArray) ∧
    (∀ (a b : Value) (l : List Value), (a :: l).set 0 b = b :: l) ∧ (∀ (a b : Value) (l : List Value) (i : Nat), (a :: l).set (i + 1) b = a :: l.set i b) ∧ (∀ (a : Oper) (l : List Oper) (i : Nat), (a :: l).drop (i + 1) = l.drop i) ∧ (∀ l : List Oper, l.drop 0 = l) :=
  ⟨fun _ _ _ => rfl, fun _ _ => rfl, fun _ _ _ => List.setIfInBounds_toArray .., fun _ _ _ => rfl, fun _ _ _ _ => rfl, fun _ _ _ => rfl, fun _ => rfl⟩
end Go.Proofs.YtbanjolokkghdaaGreatDoor
namespace Go.Proofs.YtbanjolokkghdaaGreatDoor
open Go.RowKit

/-- The line's value, exact. -/
def lineVal (A R n d t : Int) : Int := (n * t + R) / d + A
def lineRest (R n d t : Int) : Int := (n * t + R) % d
structure LineOk (A R n d : Int) : Prop where
  A0 : -2305844108725321728 ≤ A
  A1 : A ≤ 2305844108725321728
  n0 : -4611688217450643456 ≤ n
  n1 : n ≤ 4611688217450643456
  d0 : 1 ≤ d
  d1 : d ≤ 281474976710656
  g : gcdI n d = 1
  R0 : 0 ≤ R
  R1 : R < d
end Go.Proofs.YtbanjolokkghdaaGreatDoor
namespace Go.Proofs.YtbanjolokkghdaaGreatDoor
open Go.RowKit
def isTime (t : Int) : Bool := decide (0 ≤ t) && decide (t ≤ 281474976710656)
def eLine (b : Bool) : Int := if b = true then 0 else 150
end Go.Proofs.YtbanjolokkghdaaGreatDoor
