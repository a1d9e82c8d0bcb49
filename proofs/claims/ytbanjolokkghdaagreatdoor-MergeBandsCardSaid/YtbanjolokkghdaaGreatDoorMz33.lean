/- Parts of the proof that follows: A run of closed code: what the steps leave as it was; a step taken apart. No condition. | A run of closed code: what the steps of the machine do: ranges over functions, rounds, calls. No condition. | A run of closed code: a step of the runner is a walk of the machine. No condition. | What is known of runs.rises, for the runner. No condition. -/
import Derived.RangeFuncNested
import Derived.RangeFuncRecord
import Derived.LoopNIn
import Derived.Scope
import Derived.Test.YtbanjolokkghdaaGreatDoorMz32
set_option maxRecDepth 100000
set_option maxHeartbeats 8000000
set_option linter.unusedSimpArgs false
set_option linter.unusedVariables false
namespace Go.Proofs.YtbanjolokkghdaaGreatDoor
open Go.RowKit
set_option maxRecDepth 100000
section
variable {P : Program} {R : Rec} {fr fr' : Fr} {s s' : St} {e : Exit} {v : Value}
/-- the block for deferred calls: a new one, or that of the loop around -/
def EntB (fr : Fr) (s : St) (d : Nat) (mk : List Nat) (s1 : St) : Prop :=
  (fr.round = none ∧ s.new (.dfr true) = some (d, s1) ∧ mk = [d]) ∨
  (∃ l a b c m ps asg body, fr.round = some l ∧ s.get l = some (.loop a b c m ps asg body d) ∧ mk = [] ∧ s1 = s)
theorem rangeB {f : Operand} {ps : Array Tmp} {asg body : Code} (h : stepCode P R (.rangeFunc f ps asg body) fr s = some (e, fr', s')) : okOpd s.ng f = true ∧ entersB P (fr.ev f) = true ∧ ∃ d mk s1 l s2 v s3 st pend t m ps' asg' body' d', EntB fr s d mk s1 ∧ s1.new (.loop .ready none fr.t fr.m ps asg body d) = some (l, s2) ∧
    callV R (fr.ev f) [.func (.yield l) #[] #[]] s2 = some (v, s3) ∧ s3.get l = some (.loop st pend t m ps' asg' body' d') ∧ st ≠ .busy ∧ s3.put l (some (.loop .exhausted pend t m ps' asg' body' d')) = some s' ∧ fr' = { fr with marks := mk ++ fr.marks } ∧
    ((pend = none ∧ e = .normal) ∨ (pend = some .ret ∧ e = .ret) ∨ ∃ k, pend = some (.exit k) ∧ e = .exit k) := by
  unfold stepCode at h
  simp only at h
  obtain ⟨hok, h⟩ := bif_some h
  rw [Bool.and_eq_true] at hok
  refine ⟨hok.1, hok.2, ?_⟩
  split at h
  · cases h
  rename_i d mk s1 hent
  have hE : EntB fr s d mk s1 := by
    split at hent
    · rename_i l hl
      split at hent
      · rename_i a b c m ps asg body d' hg
        injection hent with hent; injection hent with e1 e2; injection e2 with e2 e3
        subst e1; subst e2; subst e3
        exact .inr ⟨l, _, _, _, _, _, _, _, hl, hg, rfl, rfl⟩
      · cases hent
    · rename_i hl
      obtain ⟨k, t1, h1, h2⟩ := map_new hent
      injection h2 with e1 e2; injection e2 with e2 e3
      subst e1; subst e2; subst e3
      exact .inl ⟨hl, h1, rfl⟩
  split at h
  · cases h
  rename_i l s2 hn
  split at h
  · cases h
  rename_i v s3 hc
  split at h
  · rename_i st pend t m ps' asg' body' d' hg
    split at h
    · cases h
    rename_i hne
    have hb : st ≠ .busy := hne
    split at h
    · cases h
    rename_i s4 hp
    refine ⟨d, mk, s1, l, s2, v, s3, st, pend, t, m, ps', asg', body', d', hE, hn, hc, hg, hb, ?_⟩
    split at h
    · injection h with h; injection h with e1 e2; injection e2 with e2 e3
      subst e3
      exact ⟨hp, e2.symm, .inl ⟨rfl, e1.symm⟩⟩
    · injection h with h; injection h with e1 e2; injection e2 with e2 e3
      subst e3
      exact ⟨hp, e2.symm, .inr (.inl ⟨rfl, e1.symm⟩)⟩
    · injection h with h; injection h with e1 e2; injection e2 with e2 e3
      subst e3
      exact ⟨hp, e2.symm, .inr (.inr ⟨_, rfl, e1.symm⟩)⟩
    · cases h
  · cases h
theorem EntB.mb {d : Nat} {mk : List Nat} {s1 : St} (h : EntB fr s d mk s1) : MB s s1 := by
  rcases h with ⟨_, h, _⟩ | ⟨_, _, _, _, _, _, _, _, _, _, _, rfl⟩
  · exact new_mb h
  · exact MB.refl _
theorem stepCode_mb (hR : RM R) {c : Code} (h : stepCode P R c fr s = some (e, fr', s')) : MB s s' ∧ fr'.round = fr.round ∧ fr'.m = fr.m := by
  have refl : some (e, fr', s') = some (e, fr, s) → MB s s' ∧ fr'.round = fr.round ∧ fr'.m = fr.m := by
    rintro h; injection h with h; injection h with _ h; injection h with h1 h2; subst h1; subst h2; exact ⟨MB.refl _, rfl, rfl⟩
  have tr : ∀ {c1 c2 : Code} {e1 fr1 s1}, R.code c1 fr s = some (e1, fr1, s1) → R.code c2 fr1 s1 = some (e, fr', s') → MB s s' ∧ fr'.round = fr.round ∧ fr'.m = fr.m := by
    intro c1 c2 e1 fr1 s1 h1 h2
    obtain ⟨a1, a2, a3⟩ := hR.code _ _ _ _ _ _ h1
    obtain ⟨b1, b2, b3⟩ := hR.code _ _ _ _ _ _ h2
    exact ⟨a1.trans b1, b2.trans a2, b3.trans a3⟩
  cases c with
  | rangeFunc f ps asg body =>
    obtain ⟨_, _, d, mk, s1, l, s2, v, s3, st, pend, t, m, ps', asg', body', d', h1, h2, h3, h4, _, h5, rfl, _⟩ := rangeB h
    exact ⟨((h1.mb.trans (new_mb h2)).trans (callV_mb hR h3)).trans (put_mb h4 h5), rfl, rfl⟩
  | region id ops draw =>
    unfold stepCode at h
    simp only [Option.map_eq_some_iff, Prod.mk.injEq] at h
    obtain ⟨q, hq, _, rfl, rfl⟩ := h
    obtain ⟨h1, h2⟩ := regB_mb hR (fr' := q.1) (s' := q.2) hq
    exact ⟨h1, h2.1, h2.2.1⟩
  | seq a b =>
    unfold stepCode at h
    simp only at h
    split at h
    · rename_i hq; exact tr hq h
    · exact hR.code _ _ _ _ _ _ h
  | loop b =>
    unfold stepCode at h
    simp only at h
    split at h
    · rename_i hq; exact tr hq h
    · exact hR.code _ _ _ _ _ _ h
  | block id b =>
    unfold stepCode at h
    simp only at h
    split at h
    · rename_i k fr1 s1 hq
      have := hR.code _ _ _ _ _ _ hq
      rcases bif_or h with ⟨_, h⟩ | ⟨_, h⟩ <;> (injection h with h; injection h with _ h; injection h with h1 h2; subst h1; subst h2; exact this)
    · exact hR.code _ _ _ _ _ _ h
  | cond c a b =>
    unfold stepCode at h
    simp only at h
    have h := (bif_some h).2
    split at h
    · rcases bif_or h with ⟨_, h⟩ | ⟨_, h⟩ <;> exact hR.code _ _ _ _ _ _ h
    · cases h
  | scope b =>
    unfold stepCode at h
    simp only at h
    split at h
    · exact hR.back _ _ _ _ _ _ _ h
    · cases h
  | skip => exact refl (by unfold stepCode at h; simp only at h; injection h with h; injection h with h1 h2; injection h2 with h2 h3; subst h1; subst h2; subst h3; rfl)
  | label l => exact refl (by unfold stepCode at h; simp only at h; injection h with h; injection h with h1 h2; injection h2 with h2 h3; subst h1; subst h2; subst h3; rfl)
  | exit l => exact refl (by unfold stepCode at h; simp only at h; injection h with h; injection h with h1 h2; injection h2 with h2 h3; subst h1; subst h2; subst h3; rfl)
  | goto l => exact refl (by unfold stepCode at h; simp only at h; injection h with h; injection h with h1 h2; injection h2 with h2 h3; subst h1; subst h2; subst h3; rfl)
  | ret => exact refl (by unfold stepCode at h; simp only at h; injection h with h; injection h with h1 h2; injection h2 with h2 h3; subst h1; subst h2; subst h3; rfl)
  | _ => unfold stepCode at h; cases h
def tupV : List Value → Value
  | [v] => v
  | vs => .tuple vs.toArray
theorem tupB : ∀ vs : List Value, (∀ u, vs = [u] → False) → Value.tuple vs.toArray = tupV vs
  | [], _ => rfl
  | [u], h => (h u rfl).elim
  | _ :: _ :: _, _ => rfl
theorem callB {f : FuncId} {args : List Value} {O : Orc} (h : stepCall P O R f args s = some (v, s')) : O f args s = some (v, s') ∨ ∃ fn, P.funcs[f]? = some fn ∧ (fn.name == "runtime.NumGoroutine") = false ∧
    ((fn.body = none ∧ pls args = true ∧ pv P (callFunc f args.toArray) = some (.value v) ∧ pl v = true ∧ s' = s) ∨
     ∃ c e fr s1 vs, fn.body = some c ∧ args.length ≤ fn.ntmps ∧ fn.ntmps ≤ big ∧ R.code c ⟨putAll args 0 .nil, fn.ntmps, [], none⟩ s = some (e, fr, s1) ∧ (e = .normal ∨ e = .ret) ∧ takeMarks fr.marks s1 = some s' ∧ resB P s' fr fn.results.toList = some vs ∧ v = tupV vs) := by
  unfold stepCall at h
  split at h
  · rename_i u hu
    injection h with h; subst h
    exact .inl hu
  refine .inr ?_
  split at h
  · cases h
  rename_i fn hfn
  rcases bif_or h with ⟨_, h⟩ | ⟨hn, h⟩
  · cases h
  refine ⟨fn, hfn, hn, ?_⟩
  split at h
  · rename_i hb
    obtain ⟨hp, h⟩ := bif_some h
    split at h
    · rename_i u hu
      obtain ⟨hpl, h⟩ := bif_some h
      injection h with h; injection h with h1 h2; subst h1; subst h2
      exact .inl ⟨hb, hp, hu, hpl, rfl⟩
    · cases h
  · rename_i c hb
    obtain ⟨hle, h⟩ := bif_some h
    simp only [Bool.and_eq_true, Nat.ble_eq] at hle
    refine .inr ?_
    split at h
    · rename_i e fr s1 hc
      have h2 : (e = .normal ∨ e = .ret) ∧ (match takeMarks fr.marks s1 with
          | none => none
          | some st => match resB P st fr fn.results.toList with
            | some [v] => some (v, st)
            | some vs => some (Value.tuple vs.toArray, st)
            | none => none) = some (v, s') := by
        split at h
        · exact ⟨.inl rfl, h⟩
        · exact ⟨.inr rfl, h⟩
        · cases h
      obtain ⟨he, h⟩ := h2
      split at h
      · cases h
      rename_i s2 ht
      split at h
      · rename_i u hu
        injection h with h; injection h with h1 h2; subst h1; subst h2
        exact ⟨c, e, fr, s1, _, hb, hle.1, hle.2, hc, he, ht, hu, rfl⟩
      · rename_i vs hne hu
        injection h with h; injection h with h1 h2; subst h1; subst h2
        refine ⟨c, e, fr, s1, vs, hb, hle.1, hle.2, hc, he, ht, hu, tupB vs hne⟩
      · cases h
    · cases h
theorem stepCall_mb {O : Orc} (hO : ∀ f args s v s', O f args s = some (v, s') → MB s s') (hR : RM R) {f : FuncId} {args : List Value} (h : stepCall P O R f args s = some (v, s')) : MB s s' := by
  rcases callB h with h | ⟨fn, _, _, h⟩
  · exact hO _ _ _ _ _ h
  rcases h with ⟨_, _, _, _, rfl⟩ | ⟨c, e, fr, s1, vs, _, _, _, h1, _, h2, _⟩
  · exact MB.refl _
  · exact (hR.code _ _ _ _ _ _ h1).1.trans (takeMarks_mb _ _ _ h2)
def jumpOf : Exit → Option (Option Code)
  | .normal => some none
  | .ret => some (some .ret)
  | .exit k => some (some (.exit k))
  | _ => none
theorem yieldB {l : Nat} {args : List Value} (h : stepYield P R l args s = some (v, s')) : ∃ pend t m ps asg body d t' fr1 s1 pend2 t2 m2 ps2 asg2 body2 d2 s2 e fr3 s3 st3 pend3 t3 m3 ps3 asg3 body3 d3 jump, s.get l = some (.loop .ready pend t m ps asg body d) ∧ args.length = ps.size ∧ putPar m (ps.toList.zip args) t = some t' ∧
    R.code asg ⟨t', m, [], some l⟩ s = some (.normal, fr1, s1) ∧ s1.get l = some (.loop .ready pend2 t2 m2 ps2 asg2 body2 d2) ∧ s1.put l (some (.loop .busy pend2 t2 m2 ps2 asg2 body2 d2)) = some s2 ∧ R.code body fr1 s2 = some (e, fr3, s3) ∧
    s3.get l = some (.loop st3 pend3 t3 m3 ps3 asg3 body3 d3) ∧ jumpOf e = some jump ∧ s3.put l (some (.loop (bif jump.isNone then .ready else .done) jump t3 m3 ps3 asg3 body3 d3)) = some s' ∧ v = .bool jump.isNone := by
  unfold stepYield at h
  split at h
  · rename_i pend t m ps asg body d hg
    obtain ⟨hl, h⟩ := bif_some h
    have hl := Nat.eq_of_beq_eq_true hl
    split at h
    · cases h
    rename_i t' ht
    split at h
    · rename_i fr1 s1 hc
      split at h
      · rename_i pend2 t2 m2 ps2 asg2 body2 d2 hg2
        split at h
        · cases h
        rename_i s2 hp
        split at h
        · cases h
        rename_i e fr3 s3 hb
        split at h
        · rename_i st3 pend3 t3 m3 ps3 asg3 body3 d3 jump hg3 hj
          simp only [Option.map_eq_some_iff, Prod.mk.injEq] at h
          obtain ⟨s4, hp4, e1, e2⟩ := h
          subst e2
          refine ⟨pend, t, m, ps, asg, body, d, t', fr1, s1, pend2, t2, m2, ps2, asg2, body2, d2, s2, e, fr3, s3, st3, pend3, t3, m3, ps3, asg3, body3, d3, jump, hg, hl, ht, hc, hg2, hp, hb, hg3, ?_, hp4, e1.symm⟩
          cases e <;> first | exact hj | (simp at hj; done) | (cases hj; done) | (unfold jumpOf; exact hj)
        · cases h
      · cases h
    · cases h
  · cases h
theorem stepYield_mb (hR : RM R) {l : Nat} {args : List Value} (h : stepYield P R l args s = some (v, s')) : MB s s' := by
  obtain ⟨pend, t, m, ps, asg, body, d, t', fr1, s1, pend2, t2, m2, ps2, asg2, body2, d2, s2, e, fr3, s3, st3, pend3, t3, m3, ps3, asg3, body3, d3, jump, _, _, _, h1, h2, h3, h4, h5, _, h6, _⟩ := yieldB h
  exact (((hR.code _ _ _ _ _ _ h1).1.trans (put_mb h2 h3)).trans (hR.code _ _ _ _ _ _ h4).1).trans (put_mb h5 h6)
theorem stepBack_mb (hR : RM R) {b c : Code} (h : stepBack R b c fr s = some (e, fr', s')) : MB s s' ∧ fr'.round = fr.round ∧ fr'.m = fr.m := by
  unfold stepBack at h
  split at h
  · rename_i l fr1 s1 hq
    obtain ⟨a1, a2, a3⟩ := hR.code _ _ _ _ _ _ hq
    split at h
    · obtain ⟨b1, b2, b3⟩ := hR.back _ _ _ _ _ _ _ h
      exact ⟨a1.trans b1, b2.trans a2, b3.trans a3⟩
    · injection h with h; injection h with h1 h2; injection h2 with h2 h3; subst h1; subst h2; subst h3
      exact ⟨a1, a2, a3⟩
  · exact hR.code _ _ _ _ _ _ h
theorem step_rm {O : Orc} (hO : ∀ f args s v s', O f args s = some (v, s') → MB s s') (hR : RM R) : RM ⟨stepCode P R, stepCall P O R, stepYield P R, stepBack R⟩ :=
  ⟨fun _ _ _ _ _ _ h => stepCode_mb hR h, fun _ _ _ _ _ h => stepCall_mb hO hR h, fun _ _ _ _ _ h => stepYield_mb (P := P) hR h, fun _ _ _ _ _ _ _ h => stepBack_mb hR h⟩
end
set_option maxRecDepth 100000
def RoR (r : Rn) : Option Nat → Option Nat → Prop
  | none, none => True
  | some l, some b => ∃ x, r l = some (b, x)
  | _, _ => False
theorem RoR.mono {r r' : Rn} (hr : ∀ k p, r k = some p → r' k = some p) : ∀ {x y : Option Nat}, RoR r x y → RoR r' x y
  | none, none, _ => trivial
  | some _, some _, ⟨x, h⟩ => ⟨x, hr _ _ h⟩
/-- what is known without a walk is so, and leaves what is there -/
structure OrcOk (P : Program) (O : Orc) : Prop where
  mb : ∀ f args s v s', O f args s = some (v, s') → MB s s'
  ok : ∀ f args s v s', O f args s = some (v, s') → ∀ B r w args', Rel P B r s w → s'.next ≤ B → LR r args args' → Upon P (Res P B s s' r w v) ((callFunc f args'.toArray).run P w)
/-- what a run of code says -/
def CodeS (P : Program) (fr : Fr) (s : St) (e : Exit) (fr' : Fr) (s' : St) (W : Option Nat → Nat → (Exit → Act → World → Prop) → Act → World → Prop) : Prop :=
  ∀ (B : Nat) (r : Rn) (w : World) (a : Act) (ro : Option Nat) (n : Nat) (Q : Exit → Act → World → Prop), Rel P B r s w → s'.next ≤ B → FrR r fr a → RoR r fr.round ro → (∀ r' a' w', FrR r' fr' a' → Good P B s s' r r' w w' → Q e a' w') → W ro n Q a w
/-- code within a scope -/
def InSc (P : Program) (b c : Code) (Q : Exit → Act → World → Prop) (a : Act) (w : World) : Prop :=
  ∀ (f : Frame) (k : List Item) (cs : List Frame), ∃ e a' w', Q e a' w' ∧ Arrives P (lone (f.at a (.code c :: .inScope b :: k)) cs w) f k cs e a' w'
structure SoundK (P : Program) (R : Rec) : Prop extends SoundC P R where
  code : ∀ c fr s e fr' s', R.code c fr s = some (e, fr', s') → CodeS P fr s e fr' s' fun ro n Q a w => c.wpIn (FO ro) n P Q a w
  back : ∀ b c fr s e fr' s', R.back b c fr s = some (e, fr', s') → fr.round = none → CodeS P fr s e fr' s' fun _ _ Q a w => InSc P b c Q a w
  loop : ∀ c fr s e fr' s', R.code (.loop c) fr s = some (e, fr', s') → ∃ m, CodeS P fr s e fr' s' fun ro n Q a w => Code.roundsIn (FO ro) n P c Q m a w
section
variable {P : Program} {R : Rec} {B : Nat} {r : Rn} {fr fr' : Fr} {s s' : St} {e : Exit} {v : Value} {w : World} {a : Act} {ro : Option Nat}
theorem sem_pure {α : Type} : ∀ x : Sem α, x.bind Sem.pure = x
  | .pure a => rfl
  | .load m a k => congrArg (Sem.load m a) (funext fun v => sem_pure (k v))
  | .store m a v k => congrArg (Sem.store m a v) (sem_pure k)
  | .new o k => congrArg (Sem.new o) (funext fun v => sem_pure (k v))
  | .shape r k => congrArg (Sem.shape r) (funext fun v => sem_pure (k v))
  | .freeze a n k => congrArg (Sem.freeze a n) (sem_pure k)
  | .frozen a k => congrArg (Sem.frozen a) (funext fun v => sem_pure (k v))
  | .getObj r k => congrArg (Sem.getObj r) (funext fun v => sem_pure (k v))
  | .setObj r o k => congrArg (Sem.setObj r o) (sem_pure k)
  | .choose q k => congrArg (Sem.choose q) (funext fun v => sem_pure (k v))
  | .sys c k => congrArg (Sem.sys c) (funext fun v => sem_pure (k v))
  | .program k => congrArg Sem.program (funext fun v => sem_pure (k v))
  | .mark m k => congrArg (Sem.mark m) (sem_pure k)
  | .halt h => rfl
theorem sem_assoc {α β γ : Type} (f : α → Sem β) (g : β → Sem γ) : ∀ x : Sem α, (x.bind f).bind g = x.bind fun a => (f a).bind g
  | .pure a => rfl
  | .load m a k => congrArg (Sem.load m a) (funext fun v => sem_assoc f g (k v))
  | .store m a v k => congrArg (Sem.store m a v) (sem_assoc f g k)
  | .new o k => congrArg (Sem.new o) (funext fun v => sem_assoc f g (k v))
  | .shape r k => congrArg (Sem.shape r) (funext fun v => sem_assoc f g (k v))
  | .freeze a n k => congrArg (Sem.freeze a n) (sem_assoc f g k)
  | .frozen a k => congrArg (Sem.frozen a) (funext fun v => sem_assoc f g (k v))
  | .getObj r k => congrArg (Sem.getObj r) (funext fun v => sem_assoc f g (k v))
  | .setObj r o k => congrArg (Sem.setObj r o) (sem_assoc f g k)
  | .choose q k => congrArg (Sem.choose q) (funext fun v => sem_assoc f g (k v))
  | .sys c k => congrArg (Sem.sys c) (funext fun v => sem_assoc f g (k v))
  | .program k => congrArg Sem.program (funext fun v => sem_assoc f g (k v))
  | .mark m k => congrArg (Sem.mark m) (sem_assoc f g k)
  | .halt h => rfl
theorem semLaw : LawfulMonad Sem := LawfulMonad.mk' Sem (fun x => sem_pure x) (fun _ _ => rfl) (fun x f g => sem_assoc f g x)
theorem MB.nx (h : MB s s') (hb : s.next ≤ big) : s.next ≤ s'.next := (h hb).1.next
theorem Rel.at_loop (h : Rel P B r s w) {l b x : Nat} {st : LoopState} {pend : Option Code} {t : Tr Value} {m : Nat} {ps : Array Tmp} {asg body : Code} {d : Nat} (hg : s.get l = some (.loop st pend t m ps asg body d)) (hr : r l = some (b, x)) :
    ∃ fn tm d' y, w.heap[b]? = some (.loop { state := st, pending := pend, fn := fn, tmps := tm, params := ps, assign := asg, body := body, defers := d' }) ∧ r d = some (d', y) ∧ SlR r t m tm := by
  obtain ⟨b', x', o', h1, h2, fn, tm, d', y, h3, h4, h5⟩ := h.obj _ _ hg
  rw [hr] at h1; injection h1 with h1; injection h1 with e1 e2
  subst e1; subst h3
  exact ⟨fn, tm, d', y, h2, h4, h5⟩
theorem put_loop (h : Rel P B r s w) {l b x : Nat} {st st2 : LoopState} {pend pend2 : Option Code} {t : Tr Value} {m : Nat} {ps : Array Tmp} {asg body : Code} {d : Nat} (hg : s.get l = some (.loop st pend t m ps asg body d)) (hp : s.put l (some (.loop st2 pend2 t m ps asg body d)) = some s') (hr : r l = some (b, x))
    {fn : FuncId} {tm : Array Value} {d' y : Nat} (hw : w.heap[b]? = some (.loop { state := st, pending := pend, fn := fn, tmps := tm, params := ps, assign := asg, body := body, defers := d' })) (hd : r d = some (d', y)) (ht : SlR r t m tm) :
    Good P B s s' r r w (w.putObj b (.loop { state := st2, pending := pend2, fn := fn, tmps := tm, params := ps, assign := asg, body := body, defers := d' })) :=
  put_ok h hp hg hr (Set1.obj _ (Array.getElem?_eq_some_iff.1 hw).1) ⟨fn, tm, d', y, rfl, hd, ht⟩
theorem ent_ok {d : Nat} {mk : List Nat} {s1 s2 : St} {l : Nat} {ps : Array Tmp} {asg body : Code} (hE : EntB fr s d mk s1) (hn : s1.new (.loop .ready none fr.t fr.m ps asg body d) = some (l, s2)) (hB : s2.next ≤ B) (h : Rel P B r s w) (hf : FrR r fr a) (ho : RoR r fr.round ro) (fn : FuncId) :
    ∃ lb mark w2 r2 x, (Instr.enterLoop fn a.tmps ps asg body ro).run P w = .ok (lb, mark) w2 ∧ Good P B s s2 r r2 w w2 ∧ r2 l = some (lb, x) ∧ FrR r2 { fr with marks := mk ++ fr.marks } { a with defers := mark ++ a.defers } := by
  rcases hE with ⟨hro, hd, rfl⟩ | ⟨l0, st, pend, t, m, ps0, asg0, body0, hro, hg, rfl, rfl⟩
  · rw [hro] at ho
    cases ro with
    | some _ => cases ho
    | none =>
    have hB1 : s1.next ≤ B := Nat.le_trans ((new_mb hn).nx ((new_mb hd) h.nb).2) hB
    have g1 := new_ok h hB1 hd (Push1.alloc w (.deferred (some []))) (x := 0) rfl
    have hk : upd r d (w.heap.size, 0) d = some (w.heap.size, 0) := upd_self _ _ _
    have hup1 := g1.up h
    have hsz : (w.alloc (.deferred (some []))).heap.size = w.heap.size + 1 := World.size_alloc _ _
    have hne : d ≠ l := by
      obtain ⟨_, e1, e2⟩ := new_some hd
      obtain ⟨_, e3, _⟩ := new_some hn
      rw [e1, e3, e2]; exact Nat.ne_of_lt (Nat.lt_succ_self _)
    have g2 := new_ok g1.rel hB hn (Push1.alloc (w.alloc (.deferred (some []))) (.loop { state := .ready, pending := none, fn := fn, tmps := a.tmps, params := ps, assign := asg, body := body, defers := w.heap.size })) (x := 0) (by
      refine ⟨fn, a.tmps, w.heap.size, 0, rfl, ?_, ?_⟩
      · rw [upd_ne hne]; exact hk
      · refine (hf.1.mono hup1).mono fun k p hkp => ?_
        by_cases e : k = l
        · subst e
          have := (g1.rel).fresh hn hB
          rw [this] at hkp; cases hkp
        · rw [upd_ne e]; exact hkp)
    rw [hsz] at g2
    refine ⟨_, _, _, _, 0, run_enterLoop_outer _ _ _ _ _, g1.trans g2, upd_self _ _ _, ?_, ?_⟩
    · exact (hf.1.mono hup1).mono (g2.up g1.rel)
    · have hm := (hf.2.mono hup1).mono (g2.up g1.rel)
      refine ⟨by simp [hm.1], fun i k hi => ?_⟩
      cases i with
      | zero =>
        simp at hi; subst hi
        exact ⟨w.heap.size, 0, by rw [upd_ne hne]; exact hk, by simp⟩
      | succ i =>
        have hi : fr.marks[i]? = some k := by simpa using hi
        obtain ⟨b, x, h1, h2⟩ := hm.2 i k hi
        exact ⟨b, x, h1, by simpa using h2⟩
  · rw [hro] at ho
    cases ro with
    | none => cases ho
    | some b0 =>
    obtain ⟨x0, hr0⟩ := ho
    obtain ⟨fn0, tm0, d', y, h1, h2, h3⟩ := h.at_loop hg hr0
    have hup : ∀ k p, r k = some p → upd r l (w.heap.size, 0) k = some p := fun k p hkp => by
      by_cases e : k = l
      · subst e
        have := h.fresh hn hB
        rw [this] at hkp; cases hkp
      · rw [upd_ne e]; exact hkp
    have g := new_ok h hB hn (Push1.alloc w (.loop { state := .ready, pending := none, fn := fn, tmps := a.tmps, params := ps, assign := asg, body := body, defers := d' })) (x := 0) ⟨fn, a.tmps, d', y, rfl, hup _ _ h2, hf.1.mono hup⟩
    exact ⟨_, _, _, _, 0, run_enterLoop_inner h1 _ _ _ _ _, g, upd_self _ _ _, hf.1.mono hup, hf.2.mono hup⟩
theorem putPar_ok {m : Nat} : ∀ {l : List Tmp} {zs zs' : List Value} {t t' : Tr Value} {tm : Array Value}, zs.length = l.length → LR r zs zs' → SlR r t m tm → putPar m (l.zip zs) t = some t' → SlR r t' m ((l.zip zs').foldl (fun tmps p => tmps.setIfInBounds p.1 p.2) tm)
  | [], _, _, t, t', tm, _, _, hs, h => by
    simp only [List.zip_nil_left, putPar] at h ⊢
    injection h with h; subst h; exact hs
  | d :: l, [], _, _, _, _, hl, _, _, _ => by simp at hl
  | d :: l, v :: zs, zs', t, t', tm, hl, ha, hs, h => by
    obtain ⟨v', q, rfl, h1, h2⟩ := ha.uncons
    simp only [List.zip_cons_cons, putPar] at h ⊢
    obtain ⟨hd, h⟩ := bif_some h
    exact putPar_ok (by simpa using hl) h2 (hs.put (blt_lt hd) h1) h
theorem roundPost_of {l : Nat} {K : Ending → World → Prop} {jump : Option Code} (hj : jumpOf e = some jump) (h : ∃ v w', (Instr.endRound l jump).run P w = .ok v w' ∧ K (.returned v) w') : roundPost P l K e a w := by
  cases e <;> simp [jumpOf] at hj <;> subst hj <;> exact h
theorem marks_ok {fn : Func} {tm : Array Value} {K : Ending → World → Prop} {n : Nat} : ∀ {ms : List Nat} {ds : List Deferred} {s : St} {w : World}, MkR r ms ds → takeMarks ms s = some s' → Rel P B r s w → (∀ w', Good P B s s' r r w w' → LeavesInM Fence.wide n P fn tm K [] .returning w') → LeavesInM Fence.wide n P fn tm K ds .returning w
  | [], ds, s, w, hm, h, hr, hK => by
    have : ds = [] := by have := hm.1; simpa using this
    subst this
    injection h with h; subst h
    exact hK w (Good.refl hr)
  | d :: ms, [], s, w, hm, h, hr, hK => by have := hm.1; simp at this
  | d :: ms, x :: ds, s, w, hm, h, hr, hK => by
    simp only [takeMarks] at h
    split at h
    · rename_i hg
      split at h
      · rename_i s1 hp
        obtain ⟨b, y, h1, h2⟩ := hm.2 0 d rfl
        simp at h2; subst h2
        obtain ⟨b', y', o', h3, h4, h5⟩ := hr.obj _ _ hg
        rw [h1] at h3; injection h3 with h3; injection h3 with e1 e2; subst e1; subst e2
        have h5 : o' = .deferred (some []) := h5
        subst h5
        have g := put_ok hr hp hg h1 (Set1.obj (.deferred none) (Array.getElem?_eq_some_iff.1 h4).1) rfl
        refine ⟨by simp, .inl ⟨_, _, rfl, run_takeDeferred h4, ?_⟩⟩
        refine marks_ok (ms := ms) ⟨by have := hm.1; simpa using this, fun i k hi => hm.2 (i + 1) k (by simpa using hi)⟩ h g.rel fun w' g2 => hK w' (g.trans g2)
      · cases h
    · cases h
theorem mapM_run {α β : Type} {f : α → Sem β} : ∀ (zs : List α) (vs : List β), vs.length = zs.length → (∀ j (hj : j < zs.length) (hj' : j < vs.length), (f zs[j]).run P w = .ok (vs[j]) w) → (zs.mapM f).run P w = .ok vs w
  | [], [], _, _ => rfl
  | [], _ :: _, hl, _ => by simp at hl
  | _ :: _, [], hl, _ => by simp at hl
  | x :: zs, v :: vs, hl, h => by
    have := semLaw
    have h0 := h 0 (by simp) (by simp)
    have ih := mapM_run zs vs (by simpa using hl) fun j hj hj' => h (j + 1) (by simpa using hj) (by simpa using hj')
    rw [List.mapM_cons, Sem.run_bind, show (f x).run P w = _ from h0]
    simp only [Result.andThen]
    rw [Sem.run_bind, ih]
    rfl
def resF (tm : Array Value) : ResultVar → Sem Value
  | .tmp t => pure (tm.getD t undef)
  | .cell b t => do loadVar t (← asAddr (tm.getD b undef))
theorem resF_eq (fn : Func) (tm : Array Value) : results fn tm = (do let vs ← fn.results.mapM (resF tm); pure (if h : vs.size = 1 then vs[0] else .tuple vs)) := rfl
theorem res_ok (hr : Rel P B r s w) (hf : SlR r fr.t fr.m a.tmps) : ∀ {l : List ResultVar} {vs : List Value}, resB P s fr l = some vs → ∃ vs' : List Value, LR r vs vs' ∧ vs'.length = l.length ∧ ∀ j (hj : j < l.length) (hj' : j < vs'.length), (resF a.tmps l[j]).run P w = .ok (vs'[j]) w
  | [], vs, h => by
    injection h with h; subst h
    exact ⟨[], LR.nil, rfl, fun j hj => by simp at hj⟩
  | .tmp t :: l, vs, h => by
    simp only [resB] at h
    split at h
    · rename_i us hu
      injection h with h; subst h
      obtain ⟨us', h1, h2, h3⟩ := res_ok hr hf hu
      refine ⟨a.tmps.getD t undef :: us', LR.cons (hf.2.2 t) h1, by simp [h2], fun j hj hj' => ?_⟩
      cases j with
      | zero => rfl
      | succ j => exact h3 j (by simpa using hj) (by simpa using hj')
    · cases h
  | .cell b t :: l, vs, h => by
    simp only [resB] at h
    split at h
    · rename_i k off hk
      split at h
      · rename_i u us hl hu
        injection h with h; subst h
        obtain ⟨us', h1, h2, h3⟩ := res_ok hr hf hu
        have hv : VR r (fr.get b) (a.tmps.getD b undef) := hf.2.2 b
        rw [hk] at hv
        have hp : ∃ b' x, r k = some (b', x) ∧ a.tmps.getD b undef = .pointer (some ⟨b', off, none⟩) := by
          generalize hq : a.tmps.getD b undef = q at hv
          cases hv with
          | pln h => simp [pl] at h
          | ptr h => exact ⟨_, _, h, rfl⟩
        obtain ⟨b', x, hx, hp⟩ := hp
        obtain ⟨u', hu1, hu2⟩ := ld_ok hr hl hx
        refine ⟨u' :: us', LR.cons hu1 h1, by simp [h2], fun j hj hj' => ?_⟩
        cases j with
        | zero =>
          show (Bind.bind (asAddr (a.tmps.getD b undef)) (loadVar t)).run P w = _
          rw [hp]
          simpa [asAddr, Sem.run_bind, Result.andThen] using hu2
        | succ j => exact h3 j (by simpa using hj) (by simpa using hj')
      · cases h
    · cases h
theorem results_ok (hr : Rel P B r s w) (hf : SlR r fr.t fr.m a.tmps) {fn : Func} {vs : List Value} (h : resB P s fr fn.results.toList = some vs) : ∃ v', (results fn a.tmps).run P w = .ok v' w ∧ VR r (tupV vs) v' := by
  obtain ⟨vs', h1, h2, h3⟩ := res_ok hr hf h
  have hm := mapM_run (P := P) (w := w) fn.results.toList vs' h2 h3
  have e1 : (results fn a.tmps).run P w = .ok (if h : vs'.toArray.size = 1 then vs'.toArray[0] else .tuple vs'.toArray) w := by
    have := semLaw
    rw [resF_eq, Array.mapM_eq_mapM_toList, Sem.run_bind, map_eq_pure_bind, Sem.run_bind]
    rw [hm]
    rfl
  refine ⟨_, e1, ?_⟩
  match vs, vs', h1 with
  | [], vs', h1 => rw [h1.nil']; exact .pln rfl
  | [v], vs', h1 =>
    obtain ⟨v', rfl, hv⟩ := h1.un1
    exact hv
  | v :: u :: vs, vs', h1 =>
    have hl := h1.1
    have : ¬ vs'.toArray.size = 1 := by simp [← hl]
    rw [dif_neg this]
    exact .tu h1.arr.1 h1.arr.2
end
set_option maxRecDepth 100000
section
variable {P : Program} {R : Rec} {B : Nat} {r : Rn} {fr fr' : Fr} {s s' : St} {e : Exit} {v : Value} {w : World} {a : Act} {ro : Option Nat}
theorem putAll_get : ∀ (l : List Value) (i : Nat) (t : Tr Value) (k : Nat), i + l.length ≤ big → (putAll l i t).get k = if i ≤ k ∧ k < i + l.length then l[k - i]? else t.get k
  | [], i, t, k, _ => by rw [if_neg (by simp)]; rfl
  | v :: l, i, t, k, h => by
    have hl : (v :: l).length = l.length + 1 := rfl
    rw [hl] at h ⊢
    show (putAll l (i + 1) (t.set 24 i (some v))).get k = _
    rw [putAll_get l (i + 1) _ k (by omega), Tr.get_set 24 t i _ k (by unfold big at h; omega)]
    by_cases e : k = i
    · subst e
      rw [if_neg (by omega), if_pos rfl, if_pos (by omega)]
      simp
    · rw [if_neg e]
      by_cases h2 : i ≤ k ∧ k < i + (l.length + 1)
      · rw [if_pos (by omega), if_pos h2]
        have : k - i = (k - (i + 1)) + 1 := by omega
        rw [this]; rfl
      · rw [if_neg (by omega), if_neg h2]
theorem enter_sl {args args' : List Value} {m : Nat} (ha : LR r args args') (hle : args.length ≤ m) (hm : m ≤ big) : SlR r (putAll args 0 .nil) m (args'.toArray ++ Array.replicate (m - args'.toArray.size) undef) := by
  have hl := ha.1
  refine ⟨by simp [← hl]; omega, hm, fun k => ?_⟩
  rw [putAll_get args 0 .nil k (by omega)]
  by_cases h : 0 ≤ k ∧ k < 0 + args.length
  · rw [if_pos h]
    have hk : k < args.length := by omega
    have h1 : args[k - 0]? = some args[k] := by simp [hk]
    obtain ⟨v', h2, h3⟩ := ha.get (i := k) (v := args[k]) (by simp [hk])
    have hk' : k < args'.length := by omega
    have h4 : (args'.toArray ++ Array.replicate (m - args'.toArray.size) undef).getD k undef = v' := by
      rw [List.getElem?_eq_getElem hk'] at h2; injection h2 with h2
      simp [Array.getD_eq_getD_getElem?, Array.getElem?_append, hk', h2]
    rw [h1, h4]; exact h3
  · rw [if_neg h]
    have hk : args'.length ≤ k := by omega
    have h4 : (args'.toArray ++ Array.replicate (m - args'.toArray.size) undef).getD k undef = undef := by
      rw [Array.getD_eq_getD_getElem?, Array.getElem?_append]
      rw [if_neg (by simpa using hk)]
      simp [Array.getElem?_replicate]
      split <;> rfl
    rw [h4]; exact VR.undef
theorem call_ok {O : Orc} (hO : OrcOk P O) (hM : RM R) (hK : SoundK P R) {f : FuncId} {args args' : List Value} (h : stepCall P O R f args s = some (v, s')) (hr : Rel P B r s w) (hB : s'.next ≤ B) (ha : LR r args args') : Upon P (Res P B s s' r w v) ((callFunc f args'.toArray).run P w) := by
  rcases callB h with h | ⟨fn, hfn, hng, h⟩
  · exact hO.ok _ _ _ _ _ h B r w args' hr hB ha
  rcases h with ⟨hb, hp, hv, hpl, rfl⟩ | ⟨c, e, fr, s1, vs, hb, hle, hbig, hc, he, ht, hres, rfl⟩
  · rw [ha.same hp, pv_run hv w]
    exact ⟨r, .pln hpl, Good.refl hr⟩
  · have e1 : (callFunc f args'.toArray).run P w = .ok (.enter f args'.toArray) w := by
      simp [callFunc, Sem.run_bind, hfn, hb] at hng ⊢
      simp [hng]
    rw [e1]
    intro n
    have hb1 := ((hM.code _ _ _ _ _ _ hc).1 hr.nb).2
    have hB1 : s1.next ≤ B := Nat.le_trans ((takeMarks_mb _ _ _ ht).nx hb1) hB
    refine callsIn_of_wp_marks (F := Fence.wide) hfn hb trivial (hK.code _ _ _ _ _ _ hc B r w _ none n _ hr hB1 ⟨enter_sl ha hle hbig, rfl, fun i d hd => by simp at hd⟩ trivial fun r1 a1 w1 hf1 g1 => ?_)
    have key : LeavesInM Fence.wide n P fn a1.tmps (fun e w' => ∃ v', e = .returned v' ∧ Res P B s s' r w (tupV vs) v' w') a1.defers .returning w1 := by
      refine marks_ok (r := r1) hf1.2 ht g1.rel fun w2 g2 => ?_
      obtain ⟨v', h1, h2⟩ := results_ok g2.rel hf1.1 hres
      exact ⟨v', h1, v', rfl, r1, h2, g1.trans g2⟩
    rcases he with rfl | rfl <;> exact key
theorem yield_ok (hM : RM R) (hK : SoundK P R) {l : Nat} {args args' : List Value} (h : stepYield P R l args s = some (v, s')) (hr : Rel P B r s w) (hB : s'.next ≤ B) (ha : LR r args args') {b x : Nat} (hl : r l = some (b, x)) : Upon P (Res P B s s' r w v) ((Instr.yield b args'.toArray).run P w) := by
  obtain ⟨pend, t, m, ps, asg, body, d, t', fr1, s1, pend2, t2, m2, ps2, asg2, body2, d2, s2, e, fr3, s3, st3, pend3, t3, m3, ps3, asg3, body3, d3, jump, hg, hlen, ht', hc, hg2, hp2, hbd, hg3, hj, hp3, rfl⟩ := yieldB h
  have b1 := (hM.code _ _ _ _ _ _ hc).1 hr.nb
  have b2 := put_mb hg2 hp2 b1.2
  have b3 := (hM.code _ _ _ _ _ _ hbd).1 b2.2
  have b4 := put_mb hg3 hp3 b3.2
  have hB3 : s3.next ≤ B := Nat.le_trans b4.1.next hB
  have hB2 : s2.next ≤ B := Nat.le_trans b3.1.next hB3
  have hB1 : s1.next ≤ B := Nat.le_trans b2.1.next hB2
  obtain ⟨fn, tm, d', y, h1, h2, h3⟩ := hr.at_loop hg hl
  rw [run_yield h1 (by simp [← ha.1, hlen])]
  intro n
  have hsl : SlR r t' m ((ps.zip args'.toArray).foldl (fun tmps (t, a) => tmps.setIfInBounds t a) tm) := by
    have := putPar_ok (l := ps.toList) (by simpa using hlen) ha h3 ht'
    rw [← Array.foldl_toList, Array.toList_zip]
    exact this
  refine roundIn_of_wpIn (F := Fence.wide) trivial ?_
  refine hK.code _ _ _ _ _ _ hc B r w _ (some b) n _ hr hB1 ⟨hsl, rfl, fun i d hd => by simp at hd⟩ ⟨x, hl⟩ fun r1 a1 w1 hf1 g1 => ?_
  have hl1 := g1.up hr _ _ hl
  obtain ⟨fn1, tm1, d1', y1, k1, k2, k3⟩ := g1.rel.at_loop hg2 hl1
  refine ⟨_, run_beginRound k1 rfl, ?_⟩
  have g2 := put_loop g1.rel hg2 hp2 hl1 k1 k2 k3
  have hro : fr1.round = some l := (hM.code _ _ _ _ _ _ hc).2.1
  refine hK.code _ _ _ _ _ _ hbd B r1 _ a1 (some b) n _ g2.rel hB3 hf1 (by rw [hro]; exact ⟨x, hl1⟩) fun r3 a3 w3 hf3 g3 => ?_
  have hl3 := g3.up g2.rel _ _ hl1
  obtain ⟨fn3, tm3, d3', y3, q1, q2, q3⟩ := g3.rel.at_loop hg3 hl3
  refine roundPost_of hj ⟨_, _, run_endRound jump q1, _, rfl, r3, .pln rfl, ((g1.trans g2).trans g3).trans ?_⟩
  have hb : (if jump.isNone = true then LoopState.ready else LoopState.done) = (bif jump.isNone then LoopState.ready else LoopState.done) := by cases jump <;> rfl
  have g4 := put_loop g3.rel hg3 hp3 hl3 q1 q2 q3
  rw [← hb] at g4
  exact g4
theorem enters {f : Value} {f' : Value} (h : entersB P f = true) (hv : VR r f f') : ∃ g first' cap' fn c, f' = .func (.func g) first' cap' ∧ P.funcs[g]? = some fn ∧ fn.body = some c ∧ (fn.name == "runtime.NumGoroutine") = false := by
  unfold entersB at h
  split at h
  · rename_i g first cap
    split at h
    · rename_i fn hfn
      simp only [Bool.and_eq_true, Bool.not_eq_true'] at h
      obtain ⟨hb, hn⟩ := h
      obtain ⟨c, hc⟩ := Option.isSome_iff_exists.1 hb
      have hff : ∃ first' cap', f' = .func (.func g) first' cap' := by
        cases hv with
        | pln h => exact ⟨_, _, rfl⟩
        | fn h1 h2 h3 h4 => exact ⟨_, _, rfl⟩
      obtain ⟨first', cap', rfl⟩ := hff
      exact ⟨g, first', cap', fn, c, rfl, hfn, hc, hn⟩
    · cases h
  · cases h
theorem range_ok (hM : RM R) (hK : SoundK P R) {f : Operand} {ps : Array Tmp} {asg body : Code} (h : stepCode P R (.rangeFunc f ps asg body) fr s = some (e, fr', s')) : CodeS P fr s e fr' s' fun ro n Q a w => (Code.rangeFunc f ps asg body).wpIn (FO ro) n P Q a w := by
  obtain ⟨hok, hent, d, mk, s1, l, s2, v, s3, st, pend, t, m, ps', asg', body', d', hE, hn, hc, hg, hb, hp, rfl, hj⟩ := rangeB h
  intro B r w a ro n Q hr hB hf ho hQ
  have b1 := hE.mb hr.nb
  have b2 := new_mb hn b1.2
  have b3 := callV_mb hM hc b2.2
  have b4 := put_mb hg hp b3.2
  have hB3 : s3.next ≤ B := Nat.le_trans b4.1.next hB
  have hB2 : s2.next ≤ B := Nat.le_trans b3.1.next hB3
  refine wpIn_rangeFunc fun fn _ => ?_
  obtain ⟨lb, mark, w2, r2, x, he, g, hl, hf2⟩ := ent_ok hE hn hB2 hr hf ho fn
  have hv := (ev_ok hr.gl hf.1 hok).mono (g.up hr)
  obtain ⟨g0, first', cap', fn0, c0, hev, hfn0, hb0, hn0⟩ := enters hent hv
  have hinv : (invoke (.fn (.func g0) cap') (first' ++ #[.func (.yield lb) #[] #[]])).run P w2 = .ok (.enter g0 (first' ++ #[.func (.yield lb) #[] #[]] ++ cap')) w2 := by
    simp [invoke, callFunc, Sem.run_bind, hfn0, hb0] at hn0 ⊢
    simp [hn0]
  have hup := callV_ok hK.toSoundC (args' := [.func (.yield lb) #[] #[]]) g.rel hB3 hc hv (LR.cons (.yl hl) LR.nil)
  rw [hev] at hup
  have e0 : (do let d ← Deferred.ofValue (.func (.func g0) first' cap') [Value.func (.yield lb) #[] #[]].toArray; invoke d.target d.args : Sem Go.Next).run P w2 = .ok (.enter g0 (first' ++ #[.func (.yield lb) #[] #[]] ++ cap')) w2 := by
    rw [← hinv]; rfl
  rw [e0] at hup
  refine ⟨lb, mark, w2, { target := .fn (.func g0) cap', args := first' ++ #[.func (.yield lb) #[] #[]] }, w2, g0, _, w2, he, ?_, fun _ _ => trivial, hinv, fun h => by simp [FO, Fence.wide] at h, ?_⟩
  · have e2 : Go.resolve a.eval (rangeCall f lb) 0 = Deferred.ofValue (a.eval f) #[Value.func (.yield lb) #[] #[]] := by simp [Go.resolve, Act.eval]
    rw [e2, hev]; rfl
  · have hcall := (hup (n - 1)).mono (R' := rangePost (FO ro) n P lb Q { a with defers := mark ++ a.defers }) (by
      rintro e w3 ⟨v', rfl, r3, _, g3⟩
      have hl3 := g3.up g.rel _ _ hl
      obtain ⟨fn3, tm3, dd, y, h1, h2, h3⟩ := g3.rel.at_loop hg hl3
      refine ⟨_, _, run_endLoop h1 hb, ?_⟩
      have g4 := put_loop g3.rel hg hp hl3 h1 h2 h3
      have hfin := hQ r3 { a with defers := mark ++ a.defers } _ (hf2.mono (g3.up g.rel)) ((g.trans g3).trans g4)
      rcases hj with ⟨rfl, rfl⟩ | ⟨rfl, rfl⟩ | ⟨k, rfl, rfl⟩
      · exact hfin
      · exact wpIn_ret hfin
      · exact wpIn_exit hfin)
    exact hcall
theorem then_of {K : Act → World → Prop} {Q : Exit → Act → World → Prop} (hn : e ≠ .normal) (h : Q e a w) : Exit.then K Q e a w := by
  cases e <;> first | exact absurd rfl hn | exact h
theorem scope_in {b : Code} {Q : Exit → Act → World → Prop} (h : InSc P b b Q a w) : (Code.scope b).wp P Q a w := by
  intro f k cs
  obtain ⟨e, a', w', hq, harr⟩ := h f k cs
  exact ⟨e, a', w', hq, .of_steps (.one step_scope) harr⟩
theorem jback_ok (hM : RM R) (hK : SoundK P R) {b c : Code} (h : stepBack R b c fr s = some (e, fr', s')) (hro : fr.round = none) : CodeS P fr s e fr' s' fun _ _ Q a w => InSc P b c Q a w := by
  intro B r w a ro n Q hr hB hf ho hQ f k cs
  have ho' : RoR r fr.round none := by rw [hro]; trivial
  unfold stepBack at h
  split at h
  · rename_i l fr1 s1 hq
    have m1 := hM.code _ _ _ _ _ _ hq
    have b1 := m1.1 hr.nb
    split at h
    · rename_i rest hl
      have hB1 : s1.next ≤ B := Nat.le_trans ((hM.back _ _ _ _ _ _ _ h).1.nx b1.2) hB
      obtain ⟨e1, a1, w1, ⟨rfl, hin⟩, harr⟩ := wpIn_wide.1 (hK.code _ _ _ _ _ _ hq B r w a none n (fun e1 a1 w1 => e1 = .goto l ∧ InSc P b rest Q a1 w1) hr hB1 hf ho' fun r1 a1 w1 hf1 g1 => ⟨rfl, hK.back _ _ _ _ _ _ _ h (by rw [m1.2.1]; exact hro) B r1 w1 a1 none n Q g1.rel hB hf1 (by rw [m1.2.1, hro]; trivial) fun r2 a2 w2 hf2 g2 => hQ r2 a2 w2 hf2 (g1.trans g2)⟩) f (.inScope b :: k) cs
      obtain ⟨e2, a2, w2, hq2, harr2⟩ := hin f k cs
      exact ⟨e2, a2, w2, hq2, .of_steps (harr _ (by simp [gotoIn, hl])) harr2⟩
    · rename_i hl
      injection h with h; injection h with e1 h; injection h with e2 e3
      subst e1; subst e2; subst e3
      obtain ⟨e1, a1, w1, ⟨rfl, hq1⟩, harr⟩ := wpIn_wide.1 (hK.code _ _ _ _ _ _ hq B r w a none n (fun e1 a1 w1 => e1 = .goto l ∧ Q (.goto l) a1 w1) hr hB hf ho' fun r1 a1 w1 hf1 g1 => ⟨rfl, hQ r1 a1 w1 hf1 g1⟩) f (.inScope b :: k) cs
      exact ⟨.goto l, a1, w1, hq1, fun k' hk => harr k' (by simp [gotoIn, hl, hk])⟩
  · rename_i hne
    obtain ⟨e1, a1, w1, ⟨rfl, hq1⟩, harr⟩ := wpIn_wide.1 (hK.code _ _ _ _ _ _ h B r w a none n (fun e1 a1 w1 => e1 = e ∧ Q e a1 w1) hr hB hf ho' fun r1 a1 w1 hf1 g1 => ⟨rfl, hQ r1 a1 w1 hf1 g1⟩) f (.inScope b :: k) cs
    cases e1 with
    | normal => exact ⟨.normal, a1, w1, hq1, Steps.trans harr (.one step_inScope)⟩
    | exit id => exact ⟨.exit id, a1, w1, hq1, fun k' hk => harr k' (by simp [exitTo, hk])⟩
    | goto l => exact absurd h (hne _ _ _)
    | ret => exact ⟨_, a1, w1, hq1, harr⟩
    | panic ch => exact ⟨_, a1, w1, hq1, harr⟩
    | outgrown => exact ⟨_, a1, w1, hq1, harr⟩
theorem code_ok (hfo : P.follows .mixedOrders = true) (hM : RM R) (hK : SoundK P R) {c : Code} (h : stepCode P R c fr s = some (e, fr', s')) : CodeS P fr s e fr' s' fun ro n Q a w => c.wpIn (FO ro) n P Q a w := by
  have two : ∀ {c1 c2 : Code} {fr1 s1} (h1 : R.code c1 fr s = some (.normal, fr1, s1)) (h2 : R.code c2 fr1 s1 = some (e, fr', s')) {B r w a ro n} {Q : Exit → Act → World → Prop}, Rel P B r s w → s'.next ≤ B → FrR r fr a → RoR r fr.round ro → (∀ r' a' w', FrR r' fr' a' → Good P B s s' r r' w w' → Q e a' w') → c1.wpIn (FO ro) n P (Exit.then (c2.wpIn (FO ro) n P Q) Q) a w := by
    intro c1 c2 fr1 s1 h1 h2 B r w a ro n Q hr hB hf ho hQ
    have m1 := hM.code _ _ _ _ _ _ h1
    have b1 := m1.1 hr.nb
    refine hK.code _ _ _ _ _ _ h1 B r w a ro n _ hr (Nat.le_trans ((hM.code _ _ _ _ _ _ h2).1.nx b1.2) hB) hf ho fun r1 a1 w1 hf1 g1 => ?_
    exact hK.code _ _ _ _ _ _ h2 B r1 w1 a1 ro n Q g1.rel hB hf1 (by rw [m1.2.1]; exact ho.mono (g1.up hr)) fun r2 a2 w2 hf2 g2 => hQ r2 a2 w2 hf2 (g1.trans g2)
  cases c with
  | rangeFunc f ps asg body =>
    exact range_ok hM hK h
  | region id ops draw =>
    unfold stepCode at h
    simp only [Option.map_eq_some_iff, Prod.mk.injEq] at h
    obtain ⟨q, hq, rfl, rfl, rfl⟩ := h
    exact fun B r w a ro n Q hr hB hf ho hQ => regB_ok hfo hM hK.toSoundC (fr' := q.1) (s' := q.2) hq hB hr hf hQ
  | seq c1 c2 =>
    unfold stepCode at h
    simp only at h
    split at h
    · rename_i fr1 s1 hq
      exact fun B r w a ro n Q hr hB hf ho hQ => wpIn_seq (two hq h hr hB hf ho hQ)
    · rename_i hne
      refine fun B r w a ro n Q hr hB hf ho hQ => wpIn_seq (hK.code _ _ _ _ _ _ h B r w a ro n _ hr hB hf ho fun r1 a1 w1 hf1 g1 => then_of ?_ (hQ r1 a1 w1 hf1 g1))
      rintro rfl; exact hne _ _ h
  | loop c1 =>
    unfold stepCode at h
    simp only at h
    split at h
    · rename_i fr1 s1 hq
      obtain ⟨m, hm⟩ := hK.loop _ _ _ _ _ _ h
      intro B r w a ro n Q hr hB hf ho hQ
      have m1 := hM.code _ _ _ _ _ _ hq
      have b1 := m1.1 hr.nb
      refine wpIn_loop_rounds (m + 1) (hK.code _ _ _ _ _ _ hq B r w a ro n _ hr (Nat.le_trans ((hM.code _ _ _ _ _ _ h).1.nx b1.2) hB) hf ho fun r1 a1 w1 hf1 g1 => ?_)
      exact hm B r1 w1 a1 ro n Q g1.rel hB hf1 (by rw [m1.2.1]; exact ho.mono (g1.up hr)) fun r2 a2 w2 hf2 g2 => hQ r2 a2 w2 hf2 (g1.trans g2)
    · rename_i hne
      refine fun B r w a ro n Q hr hB hf ho hQ => wpIn_loop_rounds 1 (hK.code _ _ _ _ _ _ h B r w a ro n _ hr hB hf ho fun r1 a1 w1 hf1 g1 => then_of ?_ (hQ r1 a1 w1 hf1 g1))
      rintro rfl; exact hne _ _ h
  | block id c1 =>
    unfold stepCode at h
    simp only at h
    split at h
    · rename_i k fr1 s1 hq
      rcases bif_or h with ⟨hk, h⟩ | ⟨hk, h⟩
      · have hk := Nat.eq_of_beq_eq_true hk
        injection h with h; injection h with e1 h; injection h with e2 e3
        subst e1; subst e2; subst e3
        refine fun B r w a ro n Q hr hB hf ho hQ => wpIn_block (hK.code _ _ _ _ _ _ hq B r w a ro n _ hr hB hf ho fun r1 a1 w1 hf1 g1 => ?_)
        show (if k = id then _ else _)
        rw [if_pos hk]; exact hQ r1 a1 w1 hf1 g1
      · have hk : k ≠ id := fun e => by rw [e] at hk; simp at hk
        injection h with h; injection h with e1 h; injection h with e2 e3
        subst e1; subst e2; subst e3
        refine fun B r w a ro n Q hr hB hf ho hQ => wpIn_block (hK.code _ _ _ _ _ _ hq B r w a ro n _ hr hB hf ho fun r1 a1 w1 hf1 g1 => ?_)
        show (if k = id then _ else _)
        rw [if_neg hk]; exact hQ r1 a1 w1 hf1 g1
    · rename_i hne
      refine fun B r w a ro n Q hr hB hf ho hQ => wpIn_block (hK.code _ _ _ _ _ _ h B r w a ro n _ hr hB hf ho fun r1 a1 w1 hf1 g1 => ?_)
      have := hQ r1 a1 w1 hf1 g1
      cases e <;> first | exact this | exact absurd h (hne _ _ _)
  | cond c c1 c2 =>
    unfold stepCode at h
    simp only at h
    obtain ⟨hok, h⟩ := bif_some h
    split at h
    · rename_i t ht
      rcases bif_or h with ⟨rfl, h⟩ | ⟨rfl, h⟩
      · refine fun B r w a ro n Q hr hB hf ho hQ => wpIn_cond_true ?_ (hK.code _ _ _ _ _ _ h B r w a ro n Q hr hB hf ho hQ)
        have := ev_ok hr.gl hf.1 hok; rw [ht] at this; exact this.bool
      · refine fun B r w a ro n Q hr hB hf ho hQ => wpIn_cond_false ?_ (hK.code _ _ _ _ _ _ h B r w a ro n Q hr hB hf ho hQ)
        have := ev_ok hr.gl hf.1 hok; rw [ht] at this; exact this.bool
    · cases h
  | scope c1 =>
    unfold stepCode at h
    simp only at h
    split at h
    · rename_i hro
      refine fun B r w a ro n Q hr hB hf ho hQ => ?_
      rw [hro] at ho
      cases ro with
      | some _ => cases ho
      | none => exact wpIn_wide.2 (scope_in (hK.back _ _ _ _ _ _ _ h hro B r w a none n Q hr hB hf (by rw [hro]; trivial) hQ))
    · cases h
  | goto l =>
    unfold stepCode at h
    simp only at h
    injection h with h; injection h with e1 h; injection h with e2 e3
    subst e1; subst e2; subst e3
    exact fun B r w a ro n Q hr hB hf ho hQ => wpIn_goto (hQ r a w hf (Good.refl hr))
  | skip =>
    unfold stepCode at h
    simp only at h
    injection h with h; injection h with e1 h; injection h with e2 e3
    subst e1; subst e2; subst e3
    exact fun B r w a ro n Q hr hB hf ho hQ => wpIn_skip (hQ r a w hf (Good.refl hr))
  | label l =>
    unfold stepCode at h
    simp only at h
    injection h with h; injection h with e1 h; injection h with e2 e3
    subst e1; subst e2; subst e3
    exact fun B r w a ro n Q hr hB hf ho hQ => wpIn_label (hQ r a w hf (Good.refl hr))
  | exit l =>
    unfold stepCode at h
    simp only at h
    injection h with h; injection h with e1 h; injection h with e2 e3
    subst e1; subst e2; subst e3
    exact fun B r w a ro n Q hr hB hf ho hQ => wpIn_exit (hQ r a w hf (Good.refl hr))
  | ret =>
    unfold stepCode at h
    simp only at h
    injection h with h; injection h with e1 h; injection h with e2 e3
    subst e1; subst e2; subst e3
    exact fun B r w a ro n Q hr hB hf ho hQ => wpIn_ret (hQ r a w hf (Good.refl hr))
  | _ => unfold stepCode at h; cases h
theorem loop_ok (hM : RM R) (hK : SoundK P R) {c : Code} (h : stepCode P R (.loop c) fr s = some (e, fr', s')) : ∃ m, CodeS P fr s e fr' s' fun ro n Q a w => Code.roundsIn (FO ro) n P c Q m a w := by
  unfold stepCode at h
  simp only at h
  split at h
  · rename_i fr1 s1 hq
    obtain ⟨m, hm⟩ := hK.loop _ _ _ _ _ _ h
    refine ⟨m + 1, ?_⟩
    intro B r w a ro n Q hr hB hf ho hQ
    have m1 := hM.code _ _ _ _ _ _ hq
    have b1 := m1.1 hr.nb
    refine hK.code _ _ _ _ _ _ hq B r w a ro n _ hr (Nat.le_trans ((hM.code _ _ _ _ _ _ h).1.nx b1.2) hB) hf ho fun r1 a1 w1 hf1 g1 => ?_
    exact hm B r1 w1 a1 ro n Q g1.rel hB hf1 (by rw [m1.2.1]; exact ho.mono (g1.up hr)) fun r2 a2 w2 hf2 g2 => hQ r2 a2 w2 hf2 (g1.trans g2)
  · rename_i hne
    refine ⟨1, fun B r w a ro n Q hr hB hf ho hQ => hK.code _ _ _ _ _ _ h B r w a ro n _ hr hB hf ho fun r1 a1 w1 hf1 g1 => then_of ?_ (hQ r1 a1 w1 hf1 g1)⟩
    rintro rfl; exact hne _ _ h
theorem step_ok {O : Orc} (hO : OrcOk P O) (hfo : P.follows .mixedOrders = true) (hM : RM R) (hK : SoundK P R) : SoundK P ⟨stepCode P R, stepCall P O R, stepYield P R, stepBack R⟩ where
  call := fun _ _ _ _ _ h _ _ _ _ hr hB ha => call_ok hO hM hK h hr hB ha
  yield := fun _ _ _ _ _ h _ _ _ _ hr hB ha _ _ hl => yield_ok hM hK h hr hB ha hl
  code := fun _ _ _ _ _ _ h => code_ok hfo hM hK h
  back := fun _ _ _ _ _ _ _ h hro => jback_ok hM hK h hro
  loop := fun _ _ _ _ _ _ h => loop_ok hM hK h
theorem ev_all {O : Orc} (hO : OrcOk P O) (hfo : P.follows .mixedOrders = true) : ∀ n, RM (ev P O n) ∧ SoundK P (ev P O n)
  | 0 => ⟨⟨(fun _ _ _ _ _ _ h => by cases h), (fun _ _ _ _ _ h => by cases h), (fun _ _ _ _ _ h => by cases h), (fun _ _ _ _ _ _ _ h => by cases h)⟩, ⟨⟨(fun _ _ _ _ _ h => by cases h), (fun _ _ _ _ _ h => by cases h)⟩, (fun _ _ _ _ _ _ h => by cases h), (fun _ _ _ _ _ _ _ h => by cases h), (fun _ _ _ _ _ _ h => by cases h)⟩⟩
  | n + 1 => ⟨step_rm hO.mb (ev_all hO hfo n).1, step_ok hO hfo (ev_all hO hfo n).1 (ev_all hO hfo n).2⟩
theorem orc_none : OrcOk P fun _ _ _ => none := ⟨(fun _ _ _ _ _ h => by cases h), (fun _ _ _ _ _ h => by cases h)⟩
/-- Memory that was left as it was, and blocks behind it. -/
theorem good_below {w' : World} (hr : Rel P B r s w) (hb : Below w.heap.size w w') : Good P B s s r r w w' :=
  ⟨Mono.refl s, ⟨fun _ _ => rfl, hb.size, hb.os, hb.tape, hb.output, fun b h _ => hb.block b h, fun k b x hk hg _ => absurd (hr.lt hg) (by omega)⟩,
   ⟨hr.nb, hr.le, hr.dom, fun k o hk => by
      obtain ⟨b, x, o', h1, h2, h3⟩ := hr.obj k o hk
      exact ⟨b, x, o', h1, by rw [hb.block b (Array.getElem?_eq_some_iff.1 h2).1]; exact h2, h3⟩, hr.inj, hr.up, hr.hlt, hr.gl, hr.gn⟩⟩
/-- no memory -/
def st0 : St := ⟨.nil, 0, 0, big, [], 0⟩
theorem rel_st0 (B : Nat) (w : World) : Rel P B (fun _ => none) st0 w := by
  have hnone : ∀ k, st0.get k = none := fun _ => rfl
  exact ⟨Nat.zero_le _, Nat.zero_le _, fun _ _ _ => rfl, (fun k o hk => by rw [hnone] at hk; cases hk), fun k k' b x x' hk => absurd (hnone k) hk, fun _ _ => rfl, (fun k hk => by cases hk), (fun g hg => by cases hg), Nat.zero_le _⟩
end
set_option maxRecDepth 100000
def runsV : List Value → Option (List RunT)
  | [] => some []
  | .int .i64 a :: .int .i64 b :: .int .i64 c :: l => (runsV l).map (⟨a, b, c⟩ :: ·)
  | _ => none
noncomputable def runsB (s : St) : Value → Option (List RunT)
  | .slice none n _ => bif Nat.beq n 0 then some [] else none
  | .slice (some ⟨k, off, _⟩) n _ => bif Nat.ble n 1000 then (rd s k off (Nat.mul n 3)).bind runsV else none
  | _ => none
noncomputable def orcR (P : Program) (F : FuncId) : Orc := fun f args s => bif Nat.beq f F && entersB P (.func (.func F) #[] #[]) then (match args with | [v] => (runsB s v).map fun l => (.bool (risesB l), s) | _ => none) else none
theorem runsV_at : ∀ {vs : List Value} {l : List RunT}, runsV vs = some l → vs.length = l.length * 3 ∧ ∀ (i : Nat) (r : RunT), l[i]? = some r → vs[i * 3]? = some (.int .i64 r.f) ∧ vs[i * 3 + 1]? = some (.int .i64 r.s) ∧ vs[i * 3 + 2]? = some (.int .i64 r.c)
  | [], l, h => by injection h with h; subst h; exact ⟨rfl, fun i r hr => by simp at hr⟩
  | .int .i64 a :: .int .i64 b :: .int .i64 c :: vs, l, h => by
    simp only [runsV, Option.map_eq_some_iff] at h
    obtain ⟨q, hq, rfl⟩ := h
    obtain ⟨h1, h2⟩ := runsV_at hq
    refine ⟨by simp [h1]; omega, fun i r hr => ?_⟩
    cases i with
    | zero => simp at hr; subst hr; exact ⟨rfl, rfl, rfl⟩
    | succ i =>
      obtain ⟨k1, k2, k3⟩ := h2 i r (by simpa using hr)
      have e : (i + 1) * 3 = i * 3 + 1 + 1 + 1 := by omega
      rw [e]
      exact ⟨by simpa using k1, by simpa using k2, by simpa using k3⟩
theorem runsB_ok {P : Program} {B : Nat} {r : Rn} {s : St} {w : World} {v v' : Value} {l : List RunT} (h : runsB s v = some l) (hr : Rel P B r s w) (hv : VR r v v') : ∃ p cap, v' = .slice p l.length cap ∧ RunsIn w p l ∧ l.length ≤ 1000 := by
  unfold runsB at h
  split at h
  · rename_i n c
    obtain ⟨hn, h⟩ := bif_some h
    injection h with h; subst h
    have hn := Nat.eq_of_beq_eq_true hn
    subst hn
    rw [hv.same rfl]
    exact ⟨none, c, rfl, ⟨fun i r hr => by simp at hr⟩, by simp⟩
  · rename_i k off q n c
    obtain ⟨hn, h⟩ := bif_some h
    have hn : n ≤ 1000 := by simpa using hn
    cases e : rd s k off (Nat.mul n 3) with
    | none => rw [e] at h; cases h
    | some vs =>
      rw [e] at h
      have h : runsV vs = some l := h
      obtain ⟨b, x, c', hb, rfl⟩ := hv.spt
      obtain ⟨h1, l', h2, h3, _⟩ := rd_ok hr e hb
      obtain ⟨k1, k2⟩ := runsV_at h
      have hlen : l.length = n := by
        have : vs.length = n * 3 := h1
        omega
      subst hlen
      obtain ⟨_, off', _, _, hb', hs⟩ := hv.slc
      refine ⟨_, _, rfl, ⟨fun i u hu => ?_⟩, hn⟩
      obtain ⟨a1, a2, a3⟩ := k2 i u hu
      have g : ∀ {j : Nat} {kd : IntKind} {z : Int}, vs[j]? = some (.int kd z) → w.cell? ⟨b, off + j, none⟩ = some (.int kd z) := fun {j kd z} hj => by
        obtain ⟨v', e1, e2⟩ := h2.get hj
        rw [e2.int] at e1
        have := h3 j _ e1
        cases j <;> simpa [Addr.add] using this
      exact ⟨b, off, rfl, g a1, g a2, g a3⟩
  · cases h
theorem orc_rises : OrcOk Tryz.prog (orcR Tryz.prog 128) := by
  have key : ∀ f args s v s', orcR Tryz.prog 128 f args s = some (v, s') → s' = s ∧ (bif Nat.beq f 128 && entersB Tryz.prog (.func (.func 128) #[] #[]) then (match args with | [v] => (runsB s v).map fun l => Value.bool (risesB l) | _ => none) else none) = some v := by
    intro f args s v s' h
    unfold orcR at h
    obtain ⟨hf, h⟩ := bif_some h
    rw [hf]
    match args, h with
    | [], h => cases h
    | _ :: _ :: _, h => cases h
    | [u], h =>
      have h : (runsB s u).map (fun l => (Value.bool (risesB l), s)) = some (v, s') := h
      rw [Option.map_eq_some_iff] at h
      obtain ⟨l, hl, he⟩ := h
      injection he with h1 h2
      subst h1; subst h2
      exact ⟨rfl, by show (runsB s u).map (fun l => Value.bool (risesB l)) = _; rw [hl]; rfl⟩
  refine ⟨(fun f args s v s' h => by rw [(key f args s v s' h).1]; exact MB.refl _), ?_⟩
  intro f args s v s' h B r w args' hr _ ha
  obtain ⟨e0, h⟩ := key f args s v s' h
  rw [e0]
  clear e0
  obtain ⟨hf, h⟩ := bif_some h
  rw [Bool.and_eq_true] at hf
  have e := Nat.eq_of_beq_eq_true hf.1
  subst e
  match args, ha, h with
  | [], _, h => cases h
  | _ :: _ :: _, _, h => cases h
  | [u], ha, h =>
    have h : (runsB s u).map (fun l => Value.bool (risesB l)) = some v := h
    rw [Option.map_eq_some_iff] at h
    obtain ⟨l, hl, rfl⟩ := h
    obtain ⟨u', rfl, hv⟩ := ha.un1
    obtain ⟨p, cap, rfl, hR, hn⟩ := runsB_ok hl hr hv
    obtain ⟨g, first', cap', fn, c, e0, hfn, hb, hn0⟩ := enters (r := fun _ => none) hf.2 (.pln rfl)
    injection e0 with e0; injection e0 with e0; subst e0
    have e1 : (callFunc 128 [Value.slice p l.length cap].toArray).run Tryz.prog w = .ok (.enter 128 #[.slice p l.length cap]) w := by
      have hn1 : ¬ fn.name = "runtime.NumGoroutine" := by simpa using hn0
      simp [callFunc, Sem.run_bind, hfn, hb, hn1]
    rw [e1]
    intro n
    refine (callsIn_wide.2 (c_rises p cap l w (by omega) hR (risesB l) rfl)).mono ?_
    rintro e w' ⟨rfl, hb⟩
    exact ⟨_, rfl, r, .pln rfl, good_below hr hb⟩
end Go.Proofs.YtbanjolokkghdaaGreatDoor
