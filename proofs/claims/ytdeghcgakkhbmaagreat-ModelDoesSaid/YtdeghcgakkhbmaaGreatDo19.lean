/- For every model and every mutation that come in: ModelDoes returns true; the arguments read as before. No condition. -/
import Derived.RangeFuncNested
import Derived.RangeFuncRecord
import Derived.LoopNIn
import Derived.Scope
import Derived.Test.YtdeghcgakkhbmaaGreatProg
import Derived.Test.YtdeghcgakkhbmaaGreatDo18
set_option linter.unusedSimpArgs false
set_option linter.unusedVariables false
namespace Go.Proofs.YtdeghcgakkhbmaaGreat
open Go.RowKit
set_option maxRecDepth 100000
def RoR (r : Rn) : Option Nat → Option Nat → Prop
  | none, none => True
  | some l, some b => ∃ x, r l = some (b, x)
  | _, _ => False
theorem RoR.mono {r r' : Rn} (hr : ∀ k p, r k = some p → r' k = some p) : ∀ {x y : Option Nat}, RoR r x y → RoR r' x y
  | none, none, _ => trivial
  | some _, some _, ⟨x, h⟩ => ⟨x, hr _ _ h⟩
/-- what is known without a walk is so, and leaves what is there -/
structure OrcOk (P : Program) (O : Orc) : Prop where
  mb : ∀ f args s v s', O f args s = some (v, s') → MB s s'
  ok : ∀ f args s v s', O f args s = some (v, s') → ∀ B r w args', Rel P B r s w → s'.next ≤ B → LR r args args' → Upon P (Res P B s s' r w v) ((callFunc f args'.toArray).run P w)
/-- what a run of code says -/
def CodeS (P : Program) (fr : Fr) (s : St) (e : Exit) (fr' : Fr) (s' : St) (W : Option Nat → Nat → (Exit → Act → World → Prop) → Act → World → Prop) : Prop :=
  ∀ (B : Nat) (r : Rn) (w : World) (a : Act) (ro : Option Nat) (n : Nat) (Q : Exit → Act → World → Prop), Rel P B r s w → s'.next ≤ B → FrR r fr a → RoR r fr.round ro → (∀ r' a' w', FrR r' fr' a' → Good P B s s' r r' w w' → Q e a' w') → W ro n Q a w
/-- code within a scope -/
def InSc (P : Program) (b c : Code) (Q : Exit → Act → World → Prop) (a : Act) (w : World) : Prop :=
  ∀ (f : Frame) (k : List Item) (cs : List Frame), ∃ e a' w', Q e a' w' ∧ Arrives P (lone (f.at a (.code c :: .inScope b :: k)) cs w) f k cs e a' w'
structure SoundK (P : Program) (R : Rec) : Prop extends SoundC P R where
  code : ∀ c fr s e fr' s', R.code c fr s = some (e, fr', s') → CodeS P fr s e fr' s' fun ro n Q a w => c.wpIn (FO ro) n P Q a w
  back : ∀ b c fr s e fr' s', R.back b c fr s = some (e, fr', s') → fr.round = none → CodeS P fr s e fr' s' fun _ _ Q a w => InSc P b c Q a w
  loop : ∀ c fr s e fr' s', R.code (.loop c) fr s = some (e, fr', s') → ∃ m, CodeS P fr s e fr' s' fun ro n Q a w => Code.roundsIn (FO ro) n P c Q m a w
section
variable {P : Program} {R : Rec} {B : Nat} {r : Rn} {fr fr' : Fr} {s s' : St} {e : Exit} {v : Value} {w : World} {a : Act} {ro : Option Nat}
theorem sem_pure {α : Type} : ∀ x : Sem α, x.bind Sem.pure = x
  | .pure a => rfl
  | .load m a k => congrArg (Sem.load m a) (funext fun v => sem_pure (k v))
  | .store m a v k => congrArg (Sem.store m a v) (sem_pure k)
  | .new o k => congrArg (Sem.new o) (funext fun v => sem_pure (k v))
  | .shape r k => congrArg (Sem.shape r) (funext fun v => sem_pure (k v))
  | .freeze a n k => congrArg (Sem.freeze a n) (sem_pure k)
  | .frozen a k => congrArg (Sem.frozen a) (funext fun v => sem_pure (k v))
  | .getObj r k => congrArg (Sem.getObj r) (funext fun v => sem_pure (k v))
  | .setObj r o k => congrArg (Sem.setObj r o) (sem_pure k)
  | .choose q k => congrArg (Sem.choose q) (funext fun v => sem_pure (k v))
  | .sys c k => congrArg (Sem.sys c) (funext fun v => sem_pure (k v))
  | .program k => congrArg Sem.program (funext fun v => sem_pure (k v))
  | .mark m k => congrArg (Sem.mark m) (sem_pure k)
  | .halt h => rfl
theorem sem_assoc {α β γ : Type} (f : α → Sem β) (g : β → Sem γ) : ∀ x : Sem α, (x.bind f).bind g = x.bind fun a => (f a).bind g
  | .pure a => rfl
  | .load m a k => congrArg (Sem.load m a) (funext fun v => sem_assoc f g (k v))
  | .store m a v k => congrArg (Sem.store m a v) (sem_assoc f g k)
  | .new o k => congrArg (Sem.new o) (funext fun v => sem_assoc f g (k v))
  | .shape r k => congrArg (Sem.shape r) (funext fun v => sem_assoc f g (k v))
  | .freeze a n k => congrArg (Sem.freeze a n) (sem_assoc f g k)
  | .frozen a k => congrArg (Sem.frozen a) (funext fun v => sem_assoc f g (k v))
  | .getObj r k => congrArg (Sem.getObj r) (funext fun v => sem_assoc f g (k v))
  | .setObj r o k => congrArg (Sem.setObj r o) (sem_assoc f g k)
  | .choose q k => congrArg (Sem.choose q) (funext fun v => sem_assoc f g (k v))
  | .sys c k => congrArg (Sem.sys c) (funext fun v => sem_assoc f g (k v))
  | .program k => congrArg Sem.program (funext fun v => sem_assoc f g (k v))
  | .mark m k => congrArg (Sem.mark m) (sem_assoc f g k)
  | .halt h => rfl
theorem semLaw : LawfulMonad Sem := LawfulMonad.mk' Sem (fun x => sem_pure x) (fun _ _ => rfl) (fun x f g => sem_assoc f g x)
theorem MB.nx (h : MB s s') (hb : s.next ≤ big) : s.next ≤ s'.next := (h hb).1.next
theorem Rel.at_loop (h : Rel P B r s w) {l b x : Nat} {st : LoopState} {pend : Option Code} {t : Tr Value} {m : Nat} {ps : Array Tmp} {asg body : Code} {d : Nat} (hg : s.get l = some (.loop st pend t m ps asg body d)) (hr : r l = some (b, x)) :
    ∃ fn tm d' y, w.heap[b]? = some (.loop { state := st, pending := pend, fn := fn, tmps := tm, params := ps, assign := asg, body := body, defers := d' }) ∧ r d = some (d', y) ∧ SlR r t m tm := by
  obtain ⟨b', x', o', h1, h2, fn, tm, d', y, h3, h4, h5⟩ := h.obj _ _ hg
  rw [hr] at h1; injection h1 with h1; injection h1 with e1 e2
  subst e1; subst h3
  exact ⟨fn, tm, d', y, h2, h4, h5⟩
theorem put_loop (h : Rel P B r s w) {l b x : Nat} {st st2 : LoopState} {pend pend2 : Option Code} {t : Tr Value} {m : Nat} {ps : Array Tmp} {asg body : Code} {d : Nat} (hg : s.get l = some (.loop st pend t m ps asg body d)) (hp : s.put l (some (.loop st2 pend2 t m ps asg body d)) = some s') (hr : r l = some (b, x))
    {fn : FuncId} {tm : Array Value} {d' y : Nat} (hw : w.heap[b]? = some (.loop { state := st, pending := pend, fn := fn, tmps := tm, params := ps, assign := asg, body := body, defers := d' })) (hd : r d = some (d', y)) (ht : SlR r t m tm) :
    Good P B s s' r r w (w.putObj b (.loop { state := st2, pending := pend2, fn := fn, tmps := tm, params := ps, assign := asg, body := body, defers := d' })) :=
  put_ok h hp hg hr (Set1.obj _ (Array.getElem?_eq_some_iff.1 hw).1) ⟨fn, tm, d', y, rfl, hd, ht⟩
theorem ent_ok {d : Nat} {mk : List Nat} {s1 s2 : St} {l : Nat} {ps : Array Tmp} {asg body : Code} (hE : EntB fr s d mk s1) (hn : s1.new (.loop .ready none fr.t fr.m ps asg body d) = some (l, s2)) (hB : s2.next ≤ B) (h : Rel P B r s w) (hf : FrR r fr a) (ho : RoR r fr.round ro) (fn : FuncId) :
    ∃ lb mark w2 r2 x, (Instr.enterLoop fn a.tmps ps asg body ro).run P w = .ok (lb, mark) w2 ∧ Good P B s s2 r r2 w w2 ∧ r2 l = some (lb, x) ∧ FrR r2 { fr with marks := mk ++ fr.marks } { a with defers := mark ++ a.defers } := by
  rcases hE with ⟨hro, hd, rfl⟩ | ⟨l0, st, pend, t, m, ps0, asg0, body0, hro, hg, rfl, rfl⟩
  · rw [hro] at ho
    cases ro with
    | some _ => cases ho
    | none =>
    have hB1 : s1.next ≤ B := Nat.le_trans ((new_mb hn).nx ((new_mb hd) h.nb).2) hB
    have g1 := new_ok h hB1 hd (Push1.alloc w (.deferred (some []))) (x := 0) rfl
    have hk : upd r d (w.heap.size, 0) d = some (w.heap.size, 0) := upd_self _ _ _
    have hup1 := g1.up h
    have hsz : (w.alloc (.deferred (some []))).heap.size = w.heap.size + 1 := World.size_alloc _ _
    have hne : d ≠ l := by
      obtain ⟨_, e1, e2⟩ := new_some hd
      obtain ⟨_, e3, _⟩ := new_some hn
      rw [e1, e3, e2]; exact Nat.ne_of_lt (Nat.lt_succ_self _)
    have g2 := new_ok g1.rel hB hn (Push1.alloc (w.alloc (.deferred (some []))) (.loop { state := .ready, pending := none, fn := fn, tmps := a.tmps, params := ps, assign := asg, body := body, defers := w.heap.size })) (x := 0) (by
      refine ⟨fn, a.tmps, w.heap.size, 0, rfl, ?_, ?_⟩
      · rw [upd_ne hne]; exact hk
      · refine (hf.1.mono hup1).mono fun k p hkp => ?_
        by_cases e : k = l
        · subst e
          have := (g1.rel).fresh hn hB
          rw [this] at hkp; cases hkp
        · rw [upd_ne e]; exact hkp)
    rw [hsz] at g2
    refine ⟨_, _, _, _, 0, run_enterLoop_outer _ _ _ _ _, g1.trans g2, upd_self _ _ _, ?_, ?_⟩
    · exact (hf.1.mono hup1).mono (g2.up g1.rel)
    · have hm := (hf.2.mono hup1).mono (g2.up g1.rel)
      refine ⟨by simp [hm.1], fun i k hi => ?_⟩
      cases i with
      | zero =>
        simp at hi; subst hi
        exact ⟨w.heap.size, 0, by rw [upd_ne hne]; exact hk, by simp⟩
      | succ i =>
        have hi : fr.marks[i]? = some k := by simpa using hi
        obtain ⟨b, x, h1, h2⟩ := hm.2 i k hi
        exact ⟨b, x, h1, by simpa using h2⟩
  · rw [hro] at ho
    cases ro with
    | none => cases ho
    | some b0 =>
    obtain ⟨x0, hr0⟩ := ho
    obtain ⟨fn0, tm0, d', y, h1, h2, h3⟩ := h.at_loop hg hr0
    have hup : ∀ k p, r k = some p → upd r l (w.heap.size, 0) k = some p := fun k p hkp => by
      by_cases e : k = l
      · subst e
        have := h.fresh hn hB
        rw [this] at hkp; cases hkp
      · rw [upd_ne e]; exact hkp
    have g := new_ok h hB hn (Push1.alloc w (.loop { state := .ready, pending := none, fn := fn, tmps := a.tmps, params := ps, assign := asg, body := body, defers := d' })) (x := 0) ⟨fn, a.tmps, d', y, rfl, hup _ _ h2, hf.1.mono hup⟩
    exact ⟨_, _, _, _, 0, run_enterLoop_inner h1 _ _ _ _ _, g, upd_self _ _ _, hf.1.mono hup, hf.2.mono hup⟩
theorem putPar_ok {m : Nat} : ∀ {l : List Tmp} {zs zs' : List Value} {t t' : Tr Value} {tm : Array Value}, zs.length = l.length → LR r zs zs' → SlR r t m tm → putPar m (l.zip zs) t = some t' → SlR r t' m ((l.zip zs').foldl (fun tmps p => tmps.setIfInBounds p.1 p.2) tm)
  | [], _, _, t, t', tm, _, _, hs, h => by
    simp only [List.zip_nil_left, putPar] at h ⊢
    injection h with h; subst h; exact hs
  | d :: l, [], _, _, _, _, hl, _, _, _ => by simp at hl
  | d :: l, v :: zs, zs', t, t', tm, hl, ha, hs, h => by
    obtain ⟨v', q, rfl, h1, h2⟩ := ha.uncons
    simp only [List.zip_cons_cons, putPar] at h ⊢
    obtain ⟨hd, h⟩ := bif_some h
    exact putPar_ok (by simpa using hl) h2 (hs.put (blt_lt hd) h1) h
theorem roundPost_of {l : Nat} {K : Ending → World → Prop} {jump : Option Code} (hj : jumpOf e = some jump) (h : ∃ v w', (Instr.endRound l jump).run P w = .ok v w' ∧ K (.returned v) w') : roundPost P l K e a w := by
  cases e <;> simp [jumpOf] at hj <;> subst hj <;> exact h
theorem marks_ok {fn : Func} {tm : Array Value} {K : Ending → World → Prop} {n : Nat} : ∀ {ms : List Nat} {ds : List Deferred} {s : St} {w : World}, MkR r ms ds → takeMarks ms s = some s' → Rel P B r s w → (∀ w', Good P B s s' r r w w' → LeavesInM Fence.wide n P fn tm K [] .returning w') → LeavesInM Fence.wide n P fn tm K ds .returning w
  | [], ds, s, w, hm, h, hr, hK => by
    have : ds = [] := by have := hm.1; simpa using this
    subst this
    injection h with h; subst h
    exact hK w (Good.refl hr)
  | d :: ms, [], s, w, hm, h, hr, hK => by have := hm.1; simp at this
  | d :: ms, x :: ds, s, w, hm, h, hr, hK => by
    simp only [takeMarks] at h
    split at h
    · rename_i hg
      split at h
      · rename_i s1 hp
        obtain ⟨b, y, h1, h2⟩ := hm.2 0 d rfl
        simp at h2; subst h2
        obtain ⟨b', y', o', h3, h4, h5⟩ := hr.obj _ _ hg
        rw [h1] at h3; injection h3 with h3; injection h3 with e1 e2; subst e1; subst e2
        have h5 : o' = .deferred (some []) := h5
        subst h5
        have g := put_ok hr hp hg h1 (Set1.obj (.deferred none) (Array.getElem?_eq_some_iff.1 h4).1) rfl
        refine ⟨by simp, .inl ⟨_, _, rfl, run_takeDeferred h4, ?_⟩⟩
        refine marks_ok (ms := ms) ⟨by have := hm.1; simpa using this, fun i k hi => hm.2 (i + 1) k (by simpa using hi)⟩ h g.rel fun w' g2 => hK w' (g.trans g2)
      · cases h
    · cases h
theorem mapM_run {α β : Type} {f : α → Sem β} : ∀ (zs : List α) (vs : List β), vs.length = zs.length → (∀ j (hj : j < zs.length) (hj' : j < vs.length), (f zs[j]).run P w = .ok (vs[j]) w) → (zs.mapM f).run P w = .ok vs w
  | [], [], _, _ => rfl
  | [], _ :: _, hl, _ => by simp at hl
  | _ :: _, [], hl, _ => by simp at hl
  | x :: zs, v :: vs, hl, h => by
    have := semLaw
    have h0 := h 0 (by simp) (by simp)
    have ih := mapM_run zs vs (by simpa using hl) fun j hj hj' => h (j + 1) (by simpa using hj) (by simpa using hj')
    rw [List.mapM_cons, Sem.run_bind, show (f x).run P w = _ from h0]
    simp only [Result.andThen]
    rw [Sem.run_bind, ih]
    rfl
def resF (tm : Array Value) : ResultVar → Sem Value
  | .tmp t => pure (tm.getD t undef)
  | .cell b t => do loadVar t (← asAddr (tm.getD b undef))
theorem resF_eq (fn : Func) (tm : Array Value) : results fn tm = (do let vs ← fn.results.mapM (resF tm); pure (if h : vs.size = 1 then vs[0] else .tuple vs)) := rfl
theorem res_ok (hr : Rel P B r s w) (hf : SlR r fr.t fr.m a.tmps) : ∀ {l : List ResultVar} {vs : List Value}, resB P s fr l = some vs → ∃ vs' : List Value, LR r vs vs' ∧ vs'.length = l.length ∧ ∀ j (hj : j < l.length) (hj' : j < vs'.length), (resF a.tmps l[j]).run P w = .ok (vs'[j]) w
  | [], vs, h => by
    injection h with h; subst h
    exact ⟨[], LR.nil, rfl, fun j hj => by simp at hj⟩
  | .tmp t :: l, vs, h => by
    simp only [resB] at h
    split at h
    · rename_i us hu
      injection h with h; subst h
      obtain ⟨us', h1, h2, h3⟩ := res_ok hr hf hu
      refine ⟨a.tmps.getD t undef :: us', LR.cons (hf.2.2 t) h1, by simp [h2], fun j hj hj' => ?_⟩
      cases j with
      | zero => rfl
      | succ j => exact h3 j (by simpa using hj) (by simpa using hj')
    · cases h
  | .cell b t :: l, vs, h => by
    simp only [resB] at h
    split at h
    · rename_i k off hk
      split at h
      · rename_i u us hl hu
        injection h with h; subst h
        obtain ⟨us', h1, h2, h3⟩ := res_ok hr hf hu
        have hv : VR r (fr.get b) (a.tmps.getD b undef) := hf.2.2 b
        rw [hk] at hv
        have hp : ∃ b' x, r k = some (b', x) ∧ a.tmps.getD b undef = .pointer (some ⟨b', off, none⟩) := by
          generalize hq : a.tmps.getD b undef = q at hv
          cases hv with
          | pln h => simp [pl] at h
          | ptr h => exact ⟨_, _, h, rfl⟩
        obtain ⟨b', x, hx, hp⟩ := hp
        obtain ⟨u', hu1, hu2⟩ := ld_ok hr hl hx
        refine ⟨u' :: us', LR.cons hu1 h1, by simp [h2], fun j hj hj' => ?_⟩
        cases j with
        | zero =>
          show (Bind.bind (asAddr (a.tmps.getD b undef)) (loadVar t)).run P w = _
          rw [hp]
          simpa [asAddr, Sem.run_bind, Result.andThen] using hu2
        | succ j => exact h3 j (by simpa using hj) (by simpa using hj')
      · cases h
    · cases h
theorem results_ok (hr : Rel P B r s w) (hf : SlR r fr.t fr.m a.tmps) {fn : Func} {vs : List Value} (h : resB P s fr fn.results.toList = some vs) : ∃ v', (results fn a.tmps).run P w = .ok v' w ∧ VR r (tupV vs) v' := by
  obtain ⟨vs', h1, h2, h3⟩ := res_ok hr hf h
  have hm := mapM_run (P := P) (w := w) fn.results.toList vs' h2 h3
  have e1 : (results fn a.tmps).run P w = .ok (if h : vs'.toArray.size = 1 then vs'.toArray[0] else .tuple vs'.toArray) w := by
    have := semLaw
    rw [resF_eq, Array.mapM_eq_mapM_toList, Sem.run_bind, map_eq_pure_bind, Sem.run_bind]
    rw [hm]
    rfl
  refine ⟨_, e1, ?_⟩
  match vs, vs', h1 with
  | [], vs', h1 => rw [h1.nil']; exact .pln rfl
  | [v], vs', h1 =>
    obtain ⟨v', rfl, hv⟩ := h1.un1
    exact hv
  | v :: u :: vs, vs', h1 =>
    have hl := h1.1
    have : ¬ vs'.toArray.size = 1 := by simp [← hl]
    rw [dif_neg this]
    exact .tu h1.arr.1 h1.arr.2
end
end Go.Proofs.YtdeghcgakkhbmaaGreat
namespace Go.Proofs.YtdeghcgakkhbmaaGreat
open Go.RowKit
set_option maxRecDepth 100000
section
variable {P : Program} {R : Rec} {B : Nat} {r : Rn} {fr fr' : Fr} {s s' : St} {e : Exit} {v : Value} {w : World} {a : Act} {ro : Option Nat}
theorem putAll_get : ∀ (l : List Value) (i : Nat) (t : Tr Value) (k : Nat), i + l.length ≤ big → (putAll l i t).get k = if i ≤ k ∧ k < i + l.length then l[k - i]? else t.get k
  | [], i, t, k, _ => by rw [if_neg (by simp)]; rfl
  | v :: l, i, t, k, h => by
    have hl : (v :: l).length = l.length + 1 := rfl
    rw [hl] at h ⊢
    show (putAll l (i + 1) (t.set 24 i (some v))).get k = _
    rw [putAll_get l (i + 1) _ k (by omega), Tr.get_set 24 t i _ k (by unfold big at h; omega)]
    by_cases e : k = i
    · subst e
      rw [if_neg (by omega), if_pos rfl, if_pos (by omega)]
      simp
    · rw [if_neg e]
      by_cases h2 : i ≤ k ∧ k < i + (l.length + 1)
      · rw [if_pos (by omega), if_pos h2]
        have : k - i = (k - (i + 1)) + 1 := by omega
        rw [this]; rfl
      · rw [if_neg (by omega), if_neg h2]
theorem enter_sl {args args' : List Value} {m : Nat} (ha : LR r args args') (hle : args.length ≤ m) (hm : m ≤ big) : SlR r (putAll args 0 .nil) m (args'.toArray ++ Array.replicate (m - args'.toArray.size) undef) := by
  have hl := ha.1
  refine ⟨by simp [← hl]; omega, hm, fun k => ?_⟩
  rw [putAll_get args 0 .nil k (by omega)]
  by_cases h : 0 ≤ k ∧ k < 0 + args.length
  · rw [if_pos h]
    have hk : k < args.length := by omega
    have h1 : args[k - 0]? = some args[k] := by simp [hk]
    obtain ⟨v', h2, h3⟩ := ha.get (i := k) (v := args[k]) (by simp [hk])
    have hk' : k < args'.length := by omega
    have h4 : (args'.toArray ++ Array.replicate (m - args'.toArray.size) undef).getD k undef = v' := by
      rw [List.getElem?_eq_getElem hk'] at h2; injection h2 with h2
      simp [Array.getD_eq_getD_getElem?, Array.getElem?_append, hk', h2]
    rw [h1, h4]; exact h3
  · rw [if_neg h]
    have hk : args'.length ≤ k := by omega
    have h4 : (args'.toArray ++ Array.replicate (m - args'.toArray.size) undef).getD k undef = undef := by
      rw [Array.getD_eq_getD_getElem?, Array.getElem?_append]
      rw [if_neg (by simpa using hk)]
      simp [Array.getElem?_replicate]
      split <;> rfl
    rw [h4]; exact VR.undef
theorem call_ok {O : Orc} (hO : OrcOk P O) (hM : RM R) (hK : SoundK P R) {f : FuncId} {args args' : List Value} (h : stepCall P O R f args s = some (v, s')) (hr : Rel P B r s w) (hB : s'.next ≤ B) (ha : LR r args args') : Upon P (Res P B s s' r w v) ((callFunc f args'.toArray).run P w) := by
  rcases callB h with h | ⟨fn, hfn, hng, h⟩
  · exact hO.ok _ _ _ _ _ h B r w args' hr hB ha
  rcases h with ⟨hb, hp, hv, hpl, rfl⟩ | ⟨c, e, fr, s1, vs, hb, hle, hbig, hc, he, ht, hres, rfl⟩
  · rw [ha.same hp, pv_run hv w]
    exact ⟨r, .pln hpl, Good.refl hr⟩
  · have e1 : (callFunc f args'.toArray).run P w = .ok (.enter f args'.toArray) w := by
      simp [callFunc, Sem.run_bind, hfn, hb] at hng ⊢
      simp [hng]
    rw [e1]
    intro n
    have hb1 := ((hM.code _ _ _ _ _ _ hc).1 hr.nb).2
    have hB1 : s1.next ≤ B := Nat.le_trans ((takeMarks_mb _ _ _ ht).nx hb1) hB
    refine callsIn_of_wp_marks (F := Fence.wide) hfn hb trivial (hK.code _ _ _ _ _ _ hc B r w _ none n _ hr hB1 ⟨enter_sl ha hle hbig, rfl, fun i d hd => by simp at hd⟩ trivial fun r1 a1 w1 hf1 g1 => ?_)
    have key : LeavesInM Fence.wide n P fn a1.tmps (fun e w' => ∃ v', e = .returned v' ∧ Res P B s s' r w (tupV vs) v' w') a1.defers .returning w1 := by
      refine marks_ok (r := r1) hf1.2 ht g1.rel fun w2 g2 => ?_
      obtain ⟨v', h1, h2⟩ := results_ok g2.rel hf1.1 hres
      exact ⟨v', h1, v', rfl, r1, h2, g1.trans g2⟩
    rcases he with rfl | rfl <;> exact key
theorem yield_ok (hM : RM R) (hK : SoundK P R) {l : Nat} {args args' : List Value} (h : stepYield P R l args s = some (v, s')) (hr : Rel P B r s w) (hB : s'.next ≤ B) (ha : LR r args args') {b x : Nat} (hl : r l = some (b, x)) : Upon P (Res P B s s' r w v) ((Instr.yield b args'.toArray).run P w) := by
  obtain ⟨pend, t, m, ps, asg, body, d, t', fr1, s1, pend2, t2, m2, ps2, asg2, body2, d2, s2, e, fr3, s3, st3, pend3, t3, m3, ps3, asg3, body3, d3, jump, hg, hlen, ht', hc, hg2, hp2, hbd, hg3, hj, hp3, rfl⟩ := yieldB h
  have b1 := (hM.code _ _ _ _ _ _ hc).1 hr.nb
  have b2 := put_mb hg2 hp2 b1.2
  have b3 := (hM.code _ _ _ _ _ _ hbd).1 b2.2
  have b4 := put_mb hg3 hp3 b3.2
  have hB3 : s3.next ≤ B := Nat.le_trans b4.1.next hB
  have hB2 : s2.next ≤ B := Nat.le_trans b3.1.next hB3
  have hB1 : s1.next ≤ B := Nat.le_trans b2.1.next hB2
  obtain ⟨fn, tm, d', y, h1, h2, h3⟩ := hr.at_loop hg hl
  rw [run_yield h1 (by simp [← ha.1, hlen])]
  intro n
  have hsl : SlR r t' m ((ps.zip args'.toArray).foldl (fun tmps (t, a) => tmps.setIfInBounds t a) tm) := by
    have := putPar_ok (l := ps.toList) (by simpa using hlen) ha h3 ht'
    rw [← Array.foldl_toList, Array.toList_zip]
    exact this
  refine roundIn_of_wpIn (F := Fence.wide) trivial ?_
  refine hK.code _ _ _ _ _ _ hc B r w _ (some b) n _ hr hB1 ⟨hsl, rfl, fun i d hd => by simp at hd⟩ ⟨x, hl⟩ fun r1 a1 w1 hf1 g1 => ?_
  have hl1 := g1.up hr _ _ hl
  obtain ⟨fn1, tm1, d1', y1, k1, k2, k3⟩ := g1.rel.at_loop hg2 hl1
  refine ⟨_, run_beginRound k1 rfl, ?_⟩
  have g2 := put_loop g1.rel hg2 hp2 hl1 k1 k2 k3
  have hro : fr1.round = some l := (hM.code _ _ _ _ _ _ hc).2.1
  refine hK.code _ _ _ _ _ _ hbd B r1 _ a1 (some b) n _ g2.rel hB3 hf1 (by rw [hro]; exact ⟨x, hl1⟩) fun r3 a3 w3 hf3 g3 => ?_
  have hl3 := g3.up g2.rel _ _ hl1
  obtain ⟨fn3, tm3, d3', y3, q1, q2, q3⟩ := g3.rel.at_loop hg3 hl3
  refine roundPost_of hj ⟨_, _, run_endRound jump q1, _, rfl, r3, .pln rfl, ((g1.trans g2).trans g3).trans ?_⟩
  have hb : (if jump.isNone = true then LoopState.ready else LoopState.done) = (bif jump.isNone then LoopState.ready else LoopState.done) := by cases jump <;> rfl
  have g4 := put_loop g3.rel hg3 hp3 hl3 q1 q2 q3
  rw [← hb] at g4
  exact g4
theorem enters {f : Value} {f' : Value} (h : entersB P f = true) (hv : VR r f f') : ∃ g first' cap' fn c, f' = .func (.func g) first' cap' ∧ P.funcs[g]? = some fn ∧ fn.body = some c ∧ (fn.name == "runtime.NumGoroutine") = false := by
  unfold entersB at h
  split at h
  · rename_i g first cap
    split at h
    · rename_i fn hfn
      simp only [Bool.and_eq_true, Bool.not_eq_true'] at h
      obtain ⟨hb, hn⟩ := h
      obtain ⟨c, hc⟩ := Option.isSome_iff_exists.1 hb
      have hff : ∃ first' cap', f' = .func (.func g) first' cap' := by
        cases hv with
        | pln h => exact ⟨_, _, rfl⟩
        | fn h1 h2 h3 h4 => exact ⟨_, _, rfl⟩
      obtain ⟨first', cap', rfl⟩ := hff
      exact ⟨g, first', cap', fn, c, rfl, hfn, hc, hn⟩
    · cases h
  · cases h
theorem range_ok (hM : RM R) (hK : SoundK P R) {f : Operand} {ps : Array Tmp} {asg body : Code} (h : stepCode P R (.rangeFunc f ps asg body) fr s = some (e, fr', s')) : CodeS P fr s e fr' s' fun ro n Q a w => (Code.rangeFunc f ps asg body).wpIn (FO ro) n P Q a w := by
  obtain ⟨hok, hent, d, mk, s1, l, s2, v, s3, st, pend, t, m, ps', asg', body', d', hE, hn, hc, hg, hb, hp, rfl, hj⟩ := rangeB h
  intro B r w a ro n Q hr hB hf ho hQ
  have b1 := hE.mb hr.nb
  have b2 := new_mb hn b1.2
  have b3 := callV_mb hM hc b2.2
  have b4 := put_mb hg hp b3.2
  have hB3 : s3.next ≤ B := Nat.le_trans b4.1.next hB
  have hB2 : s2.next ≤ B := Nat.le_trans b3.1.next hB3
  refine wpIn_rangeFunc fun fn _ => ?_
  obtain ⟨lb, mark, w2, r2, x, he, g, hl, hf2⟩ := ent_ok hE hn hB2 hr hf ho fn
  have hv := (ev_ok hr.gl hf.1 hok).mono (g.up hr)
  obtain ⟨g0, first', cap', fn0, c0, hev, hfn0, hb0, hn0⟩ := enters hent hv
  have hinv : (invoke (.fn (.func g0) cap') (first' ++ #[.func (.yield lb) #[] #[]])).run P w2 = .ok (.enter g0 (first' ++ #[.func (.yield lb) #[] #[]] ++ cap')) w2 := by
    simp [invoke, callFunc, Sem.run_bind, hfn0, hb0] at hn0 ⊢
    simp [hn0]
  have hup := callV_ok hK.toSoundC (args' := [.func (.yield lb) #[] #[]]) g.rel hB3 hc hv (LR.cons (.yl hl) LR.nil)
  rw [hev] at hup
  have e0 : (do let d ← Deferred.ofValue (.func (.func g0) first' cap') [Value.func (.yield lb) #[] #[]].toArray; invoke d.target d.args : Sem Go.Next).run P w2 = .ok (.enter g0 (first' ++ #[.func (.yield lb) #[] #[]] ++ cap')) w2 := by
    rw [← hinv]; rfl
  rw [e0] at hup
  refine ⟨lb, mark, w2, { target := .fn (.func g0) cap', args := first' ++ #[.func (.yield lb) #[] #[]] }, w2, g0, _, w2, he, ?_, fun _ _ => trivial, hinv, fun h => by simp [FO, Fence.wide] at h, ?_⟩
  · have e2 : Go.resolve a.eval (rangeCall f lb) 0 = Deferred.ofValue (a.eval f) #[Value.func (.yield lb) #[] #[]] := by simp [Go.resolve, Act.eval]
    rw [e2, hev]; rfl
  · have hcall := (hup (n - 1)).mono (R' := rangePost (FO ro) n P lb Q { a with defers := mark ++ a.defers }) (by
      rintro e w3 ⟨v', rfl, r3, _, g3⟩
      have hl3 := g3.up g.rel _ _ hl
      obtain ⟨fn3, tm3, dd, y, h1, h2, h3⟩ := g3.rel.at_loop hg hl3
      refine ⟨_, _, run_endLoop h1 hb, ?_⟩
      have g4 := put_loop g3.rel hg hp hl3 h1 h2 h3
      have hfin := hQ r3 { a with defers := mark ++ a.defers } _ (hf2.mono (g3.up g.rel)) ((g.trans g3).trans g4)
      rcases hj with ⟨rfl, rfl⟩ | ⟨rfl, rfl⟩ | ⟨k, rfl, rfl⟩
      · exact hfin
      · exact wpIn_ret hfin
      · exact wpIn_exit hfin)
    exact hcall
theorem then_of {K : Act → World → Prop} {Q : Exit → Act → World → Prop} (hn : e ≠ .normal) (h : Q e a w) : Exit.then K Q e a w := by
  cases e <;> first | exact absurd rfl hn | exact h
theorem scope_in {b : Code} {Q : Exit → Act → World → Prop} (h : InSc P b b Q a w) : (Code.scope b).wp P Q a w := by
  intro f k cs
  obtain ⟨e, a', w', hq, harr⟩ := h f k cs
  exact ⟨e, a', w', hq, .of_steps (.one step_scope) harr⟩
theorem jback_ok (hM : RM R) (hK : SoundK P R) {b c : Code} (h : stepBack R b c fr s = some (e, fr', s')) (hro : fr.round = none) : CodeS P fr s e fr' s' fun _ _ Q a w => InSc P b c Q a w := by
  intro B r w a ro n Q hr hB hf ho hQ f k cs
  have ho' : RoR r fr.round none := by rw [hro]; trivial
  unfold stepBack at h
  split at h
  · rename_i l fr1 s1 hq
    have m1 := hM.code _ _ _ _ _ _ hq
    have b1 := m1.1 hr.nb
    split at h
    · rename_i rest hl
      have hB1 : s1.next ≤ B := Nat.le_trans ((hM.back _ _ _ _ _ _ _ h).1.nx b1.2) hB
      obtain ⟨e1, a1, w1, ⟨rfl, hin⟩, harr⟩ := wpIn_wide.1 (hK.code _ _ _ _ _ _ hq B r w a none n (fun e1 a1 w1 => e1 = .goto l ∧ InSc P b rest Q a1 w1) hr hB1 hf ho' fun r1 a1 w1 hf1 g1 => ⟨rfl, hK.back _ _ _ _ _ _ _ h (by rw [m1.2.1]; exact hro) B r1 w1 a1 none n Q g1.rel hB hf1 (by rw [m1.2.1, hro]; trivial) fun r2 a2 w2 hf2 g2 => hQ r2 a2 w2 hf2 (g1.trans g2)⟩) f (.inScope b :: k) cs
      obtain ⟨e2, a2, w2, hq2, harr2⟩ := hin f k cs
      exact ⟨e2, a2, w2, hq2, .of_steps (harr _ (by simp [gotoIn, hl])) harr2⟩
    · rename_i hl
      injection h with h; injection h with e1 h; injection h with e2 e3
      subst e1; subst e2; subst e3
      obtain ⟨e1, a1, w1, ⟨rfl, hq1⟩, harr⟩ := wpIn_wide.1 (hK.code _ _ _ _ _ _ hq B r w a none n (fun e1 a1 w1 => e1 = .goto l ∧ Q (.goto l) a1 w1) hr hB hf ho' fun r1 a1 w1 hf1 g1 => ⟨rfl, hQ r1 a1 w1 hf1 g1⟩) f (.inScope b :: k) cs
      exact ⟨.goto l, a1, w1, hq1, fun k' hk => harr k' (by simp [gotoIn, hl, hk])⟩
  · rename_i hne
    obtain ⟨e1, a1, w1, ⟨rfl, hq1⟩, harr⟩ := wpIn_wide.1 (hK.code _ _ _ _ _ _ h B r w a none n (fun e1 a1 w1 => e1 = e ∧ Q e a1 w1) hr hB hf ho' fun r1 a1 w1 hf1 g1 => ⟨rfl, hQ r1 a1 w1 hf1 g1⟩) f (.inScope b :: k) cs
    cases e1 with
    | normal => exact ⟨.normal, a1, w1, hq1, Steps.trans harr (.one step_inScope)⟩
    | exit id => exact ⟨.exit id, a1, w1, hq1, fun k' hk => harr k' (by simp [exitTo, hk])⟩
    | goto l => exact absurd h (hne _ _ _)
    | ret => exact ⟨_, a1, w1, hq1, harr⟩
    | panic ch => exact ⟨_, a1, w1, hq1, harr⟩
    | outgrown => exact ⟨_, a1, w1, hq1, harr⟩
theorem code_ok (hfo : P.follows .mixedOrders = true) (hM : RM R) (hK : SoundK P R) {c : Code} (h : stepCode P R c fr s = some (e, fr', s')) : CodeS P fr s e fr' s' fun ro n Q a w => c.wpIn (FO ro) n P Q a w := by
  have two : ∀ {c1 c2 : Code} {fr1 s1} (h1 : R.code c1 fr s = some (.normal, fr1, s1)) (h2 : R.code c2 fr1 s1 = some (e, fr', s')) {B r w a ro n} {Q : Exit → Act → World → Prop}, Rel P B r s w → s'.next ≤ B → FrR r fr a → RoR r fr.round ro → (∀ r' a' w', FrR r' fr' a' → Good P B s s' r r' w w' → Q e a' w') → c1.wpIn (FO ro) n P (Exit.then (c2.wpIn (FO ro) n P Q) Q) a w := by
    intro c1 c2 fr1 s1 h1 h2 B r w a ro n Q hr hB hf ho hQ
    have m1 := hM.code _ _ _ _ _ _ h1
    have b1 := m1.1 hr.nb
    refine hK.code _ _ _ _ _ _ h1 B r w a ro n _ hr (Nat.le_trans ((hM.code _ _ _ _ _ _ h2).1.nx b1.2) hB) hf ho fun r1 a1 w1 hf1 g1 => ?_
    exact hK.code _ _ _ _ _ _ h2 B r1 w1 a1 ro n Q g1.rel hB hf1 (by rw [m1.2.1]; exact ho.mono (g1.up hr)) fun r2 a2 w2 hf2 g2 => hQ r2 a2 w2 hf2 (g1.trans g2)
  cases c with
  | rangeFunc f ps asg body =>
    exact range_ok hM hK h
  | region id ops draw =>
    unfold stepCode at h
    simp only [Option.map_eq_some_iff, Prod.mk.injEq] at h
    obtain ⟨q, hq, rfl, rfl, rfl⟩ := h
    exact fun B r w a ro n Q hr hB hf ho hQ => regB_ok hfo hM hK.toSoundC (fr' := q.1) (s' := q.2) hq hB hr hf hQ
  | seq c1 c2 =>
    unfold stepCode at h
    simp only at h
    split at h
    · rename_i fr1 s1 hq
      exact fun B r w a ro n Q hr hB hf ho hQ => wpIn_seq (two hq h hr hB hf ho hQ)
    · rename_i hne
      refine fun B r w a ro n Q hr hB hf ho hQ => wpIn_seq (hK.code _ _ _ _ _ _ h B r w a ro n _ hr hB hf ho fun r1 a1 w1 hf1 g1 => then_of ?_ (hQ r1 a1 w1 hf1 g1))
      rintro rfl; exact hne _ _ h
  | loop c1 =>
    unfold stepCode at h
    simp only at h
    split at h
    · rename_i fr1 s1 hq
      obtain ⟨m, hm⟩ := hK.loop _ _ _ _ _ _ h
      intro B r w a ro n Q hr hB hf ho hQ
      have m1 := hM.code _ _ _ _ _ _ hq
      have b1 := m1.1 hr.nb
      refine wpIn_loop_rounds (m + 1) (hK.code _ _ _ _ _ _ hq B r w a ro n _ hr (Nat.le_trans ((hM.code _ _ _ _ _ _ h).1.nx b1.2) hB) hf ho fun r1 a1 w1 hf1 g1 => ?_)
      exact hm B r1 w1 a1 ro n Q g1.rel hB hf1 (by rw [m1.2.1]; exact ho.mono (g1.up hr)) fun r2 a2 w2 hf2 g2 => hQ r2 a2 w2 hf2 (g1.trans g2)
    · rename_i hne
      refine fun B r w a ro n Q hr hB hf ho hQ => wpIn_loop_rounds 1 (hK.code _ _ _ _ _ _ h B r w a ro n _ hr hB hf ho fun r1 a1 w1 hf1 g1 => then_of ?_ (hQ r1 a1 w1 hf1 g1))
      rintro rfl; exact hne _ _ h
  | block id c1 =>
    unfold stepCode at h
    simp only at h
    split at h
    · rename_i k fr1 s1 hq
      rcases bif_or h with ⟨hk, h⟩ | ⟨hk, h⟩
      · have hk := Nat.eq_of_beq_eq_true hk
        injection h with h; injection h with e1 h; injection h with e2 e3
        subst e1; subst e2; subst e3
        refine fun B r w a ro n Q hr hB hf ho hQ => wpIn_block (hK.code _ _ _ _ _ _ hq B r w a ro n _ hr hB hf ho fun r1 a1 w1 hf1 g1 => ?_)
        show (if k = id then _ else _)
        rw [if_pos hk]; exact hQ r1 a1 w1 hf1 g1
      · have hk : k ≠ id := fun e => by rw [e] at hk; simp at hk
        injection h with h; injection h with e1 h; injection h with e2 e3
        subst e1; subst e2; subst e3
        refine fun B r w a ro n Q hr hB hf ho hQ => wpIn_block (hK.code _ _ _ _ _ _ hq B r w a ro n _ hr hB hf ho fun r1 a1 w1 hf1 g1 => ?_)
        show (if k = id then _ else _)
        rw [if_neg hk]; exact hQ r1 a1 w1 hf1 g1
    · rename_i hne
      refine fun B r w a ro n Q hr hB hf ho hQ => wpIn_block (hK.code _ _ _ _ _ _ h B r w a ro n _ hr hB hf ho fun r1 a1 w1 hf1 g1 => ?_)
      have := hQ r1 a1 w1 hf1 g1
      cases e <;> first | exact this | exact absurd h (hne _ _ _)
  | cond c c1 c2 =>
    unfold stepCode at h
    simp only at h
    obtain ⟨hok, h⟩ := bif_some h
    split at h
    · rename_i t ht
      rcases bif_or h with ⟨rfl, h⟩ | ⟨rfl, h⟩
      · refine fun B r w a ro n Q hr hB hf ho hQ => wpIn_cond_true ?_ (hK.code _ _ _ _ _ _ h B r w a ro n Q hr hB hf ho hQ)
        have := ev_ok hr.gl hf.1 hok; rw [ht] at this; exact this.bool
      · refine fun B r w a ro n Q hr hB hf ho hQ => wpIn_cond_false ?_ (hK.code _ _ _ _ _ _ h B r w a ro n Q hr hB hf ho hQ)
        have := ev_ok hr.gl hf.1 hok; rw [ht] at this; exact this.bool
    · cases h
  | scope c1 =>
    unfold stepCode at h
    simp only at h
    split at h
    · rename_i hro
      refine fun B r w a ro n Q hr hB hf ho hQ => ?_
      rw [hro] at ho
      cases ro with
      | some _ => cases ho
      | none => exact wpIn_wide.2 (scope_in (hK.back _ _ _ _ _ _ _ h hro B r w a none n Q hr hB hf (by rw [hro]; trivial) hQ))
    · cases h
  | goto l =>
    unfold stepCode at h
    simp only at h
    injection h with h; injection h with e1 h; injection h with e2 e3
    subst e1; subst e2; subst e3
    exact fun B r w a ro n Q hr hB hf ho hQ => wpIn_goto (hQ r a w hf (Good.refl hr))
  | skip =>
    unfold stepCode at h
    simp only at h
    injection h with h; injection h with e1 h; injection h with e2 e3
    subst e1; subst e2; subst e3
    exact fun B r w a ro n Q hr hB hf ho hQ => wpIn_skip (hQ r a w hf (Good.refl hr))
  | label l =>
    unfold stepCode at h
    simp only at h
    injection h with h; injection h with e1 h; injection h with e2 e3
    subst e1; subst e2; subst e3
    exact fun B r w a ro n Q hr hB hf ho hQ => wpIn_label (hQ r a w hf (Good.refl hr))
  | exit l =>
    unfold stepCode at h
    simp only at h
    injection h with h; injection h with e1 h; injection h with e2 e3
    subst e1; subst e2; subst e3
    exact fun B r w a ro n Q hr hB hf ho hQ => wpIn_exit (hQ r a w hf (Good.refl hr))
  | ret =>
    unfold stepCode at h
    simp only at h
    injection h with h; injection h with e1 h; injection h with e2 e3
    subst e1; subst e2; subst e3
    exact fun B r w a ro n Q hr hB hf ho hQ => wpIn_ret (hQ r a w hf (Good.refl hr))
  | _ => unfold stepCode at h; cases h
theorem loop_ok (hM : RM R) (hK : SoundK P R) {c : Code} (h : stepCode P R (.loop c) fr s = some (e, fr', s')) : ∃ m, CodeS P fr s e fr' s' fun ro n Q a w => Code.roundsIn (FO ro) n P c Q m a w := by
  unfold stepCode at h
  simp only at h
  split at h
  · rename_i fr1 s1 hq
    obtain ⟨m, hm⟩ := hK.loop _ _ _ _ _ _ h
    refine ⟨m + 1, ?_⟩
    intro B r w a ro n Q hr hB hf ho hQ
    have m1 := hM.code _ _ _ _ _ _ hq
    have b1 := m1.1 hr.nb
    refine hK.code _ _ _ _ _ _ hq B r w a ro n _ hr (Nat.le_trans ((hM.code _ _ _ _ _ _ h).1.nx b1.2) hB) hf ho fun r1 a1 w1 hf1 g1 => ?_
    exact hm B r1 w1 a1 ro n Q g1.rel hB hf1 (by rw [m1.2.1]; exact ho.mono (g1.up hr)) fun r2 a2 w2 hf2 g2 => hQ r2 a2 w2 hf2 (g1.trans g2)
  · rename_i hne
    refine ⟨1, fun B r w a ro n Q hr hB hf ho hQ => hK.code _ _ _ _ _ _ h B r w a ro n _ hr hB hf ho fun r1 a1 w1 hf1 g1 => then_of ?_ (hQ r1 a1 w1 hf1 g1)⟩
    rintro rfl; exact hne _ _ h
theorem step_ok {O : Orc} (hO : OrcOk P O) (hfo : P.follows .mixedOrders = true) (hM : RM R) (hK : SoundK P R) : SoundK P ⟨stepCode P R, stepCall P O R, stepYield P R, stepBack R⟩ where
  call := fun _ _ _ _ _ h _ _ _ _ hr hB ha => call_ok hO hM hK h hr hB ha
  yield := fun _ _ _ _ _ h _ _ _ _ hr hB ha _ _ hl => yield_ok hM hK h hr hB ha hl
  code := fun _ _ _ _ _ _ h => code_ok hfo hM hK h
  back := fun _ _ _ _ _ _ _ h hro => jback_ok hM hK h hro
  loop := fun _ _ _ _ _ _ h => loop_ok hM hK h
theorem ev_all {O : Orc} (hO : OrcOk P O) (hfo : P.follows .mixedOrders = true) : ∀ n, RM (ev P O n) ∧ SoundK P (ev P O n)
  | 0 => ⟨⟨(fun _ _ _ _ _ _ h => by cases h), (fun _ _ _ _ _ h => by cases h), (fun _ _ _ _ _ h => by cases h), (fun _ _ _ _ _ _ _ h => by cases h)⟩, ⟨⟨(fun _ _ _ _ _ h => by cases h), (fun _ _ _ _ _ h => by cases h)⟩, (fun _ _ _ _ _ _ h => by cases h), (fun _ _ _ _ _ _ _ h => by cases h), (fun _ _ _ _ _ _ h => by cases h)⟩⟩
  | n + 1 => ⟨step_rm hO.mb (ev_all hO hfo n).1, step_ok hO hfo (ev_all hO hfo n).1 (ev_all hO hfo n).2⟩
theorem orc_none : OrcOk P fun _ _ _ => none := ⟨(fun _ _ _ _ _ h => by cases h), (fun _ _ _ _ _ h => by cases h)⟩
/-- **CLOSED CODE THAT THE RUNNER SAYS ANSWERS true, ANSWERS true**, and leaves all that is there as it was. -/
theorem run_true {O : Orc} (hO : OrcOk P O) (hfo : P.follows .mixedOrders = true) {f : FuncId} {s0 : St} {r : Rn} (h : runB P O s0 f = true) (hen : entersB P (.func (.func f) #[] #[]) = true) (w : World) (hl : ∀ k, k < s0.next → ¬ wrt s0 k) (hr : ∀ B, s0.next ≤ B → Rel P B r s0 w) : Calls P f #[] w fun e w' => e = .returned (.bool true) ∧ Below w.heap.size w w' := by
  unfold runB at h
  split at h
  · rename_i s' hc
    have hc : (ev P O 1000000).call f [] s0 = some (.bool true, s') := hc
    obtain ⟨hM, hK⟩ := ev_all hO hfo 1000000
    obtain ⟨g, first', cap', fn, c, e0, hfn, hb, hn⟩ := enters (r := fun _ => none) hen (.pln rfl)
    injection e0 with e0; injection e0 with e0; subst e0
    have hr := hr s'.next ((hM.call _ _ _ _ _ hc).nx (hr _ (Nat.le_refl _)).nb)
    have hup := hK.call _ _ _ _ _ hc s'.next r w [] hr (Nat.le_refl _) LR.nil
    have e1 : (callFunc f ([] : List Value).toArray).run P w = .ok (.enter f #[]) w := by
      simp [callFunc, Sem.run_bind, hfn, hb] at hn ⊢
      simp [hn]
    rw [e1] at hup
    refine callsIn_wide.1 ((hup 0).mono ?_)
    rintro e w' ⟨v, rfl, r', hv, hg⟩
    exact ⟨by rw [hv.bool], hg.ext.os, hg.ext.tape, hg.ext.output, hg.ext.size, fun k hk => hg.ext.frame k hk fun k x h1 h2 => absurd h2 (hl k h1)⟩
  · cases h
/-- no memory -/
def st0 : St := ⟨.nil, 0, 0, big, [], 0⟩
theorem rel_st0 (B : Nat) (w : World) : Rel P B (fun _ => none) st0 w := by
  have hnone : ∀ k, st0.get k = none := fun _ => rfl
  exact ⟨Nat.zero_le _, Nat.zero_le _, fun _ _ _ => rfl, (fun k o hk => by rw [hnone] at hk; cases hk), fun k k' b x x' hk => absurd (hnone k) hk, fun _ _ => rfl, (fun k hk => by cases hk), (fun g hg => by cases hg), Nat.zero_le _⟩
theorem run_true0 {O : Orc} (hO : OrcOk P O) (hfo : P.follows .mixedOrders = true) {f : FuncId} (h : runB P O st0 f = true) (hen : entersB P (.func (.func f) #[] #[]) = true) (w : World) : Calls P f #[] w fun e w' => e = .returned (.bool true) ∧ Below w.heap.size w w' :=
  run_true hO hfo h hen w (fun k hk => absurd hk (Nat.not_lt_zero _)) fun B _ => rel_st0 B w
end
end Go.Proofs.YtdeghcgakkhbmaaGreat
namespace Go.Proofs.YtdeghcgakkhbmaaGreat
open Go.RowKit
set_option maxRecDepth 1000000
theorem wakes28_run : runB Tryz.prog (fun _ _ _ => none) st0 8 = true := by kernel_rfl
theorem wakes28_w (w : World) : Calls Tryz.prog 8 #[] w fun e w' => e = .returned (.bool true) ∧ Below w.heap.size w w' := run_true0 orc_none (by kernel_rfl) wakes28_run (by kernel_rfl) w
#print axioms wakes28_w
end Go.Proofs.YtdeghcgakkhbmaaGreat
namespace Go.Proofs.YtdeghcgakkhbmaaGreat
open Go.ChangeShapes Go.WideShapes Go.ChangeAt Go.RowKit Go.Deep
section
variable {H : Type} {enc : TypeId × Value → H} {w : World} {base : Nat} {spare : Nat → Bool} {held : Bool}
theorem Tryz.fieldsRaw : fieldsOf Tryz.prog 35 = #[(9, 0), (2, 1), (2, 2), (2, 3), (3, 4), (33, 5)] := by kernel_rfl
set_option maxRecDepth 100000 in
theorem open_raw_trod {fuel : Nat} {cs : List Value} {x : DataW H × List MemPlace} (hf : DataW.trod enc Tryz.prog w base spare held fuel 35 cs = some x) :
    ∃ r p cap, cs = (rawA r p cap).toList ∧ RawCame w r p cap := by
  have hC : Tryz.prog.cellsOf 35 = 6 := by kernel_rfl
  have hV : Tryz.prog.cellsOf 33 = 1 := by kernel_rfl
  have hS : Tryz.prog.cellsOf 9 = 1 := by kernel_rfl
  obtain ⟨hsz, hat⟩ := open_struct Tryz.fieldsRaw (by simp) hf
  rw [hC] at hsz
  match cs, hsz with
  | [c0, c1, c2, c3, c4, c5], _ =>
    obtain ⟨n0, y0, h0⟩ := hat 0 _ _ rfl
    obtain ⟨n1, y1, h1⟩ := hat 1 _ _ rfl
    obtain ⟨n2, y2, h2⟩ := hat 2 _ _ rfl
    obtain ⟨n3, y3, h3⟩ := hat 3 _ _ rfl
    obtain ⟨n4, y4, h4⟩ := hat 4 _ _ rfl
    obtain ⟨n5, y5, h5⟩ := hat 5 _ _ rfl
    rw [hS] at h0
    rw [Tryz.isInt64.2] at h1 h2 h3
    rw [Tryz.isInt.2] at h4
    rw [hV] at h5
    obtain ⟨nm, e0, _⟩ := DataW.trod_string (by kernel_rfl) h0
    obtain ⟨ep, e1, _, _⟩ := DataW.trod_int Tryz.isInt64.1 h1
    obtain ⟨fl, e2, _, _⟩ := DataW.trod_int Tryz.isInt64.1 h2
    obtain ⟨la, e3, _, _⟩ := DataW.trod_int Tryz.isInt64.1 h3
    obtain ⟨sc, e4, _, _⟩ := DataW.trod_int Tryz.isInt.1 h4
    obtain ⟨q, pts, co, e5, s1, s2, s3⟩ := open_pts h5
    simp [Value.cells] at e0 e1 e2 e3 e4 e5
    subst e0; subst e1; subst e2; subst e3; subst e4; subst e5
    exact ⟨⟨nm, ep, fl, la, sc, pts⟩, q, co, rfl, ⟨s3, s1, s2⟩⟩
/-- A row of what is told at times. -/
structure BksIn (w : World) (p : Option Addr) (l : List (Int × Int × Int)) : Prop where
  at' : ∀ (i : Nat) (r : Int × Int × Int), l[i]? = some r → ∃ b o, p = some ⟨b, o, none⟩ ∧ w.cell? ⟨b, o + i * 3, none⟩ = some (.int .i64 r.1) ∧ w.cell? ⟨b, o + i * 3 + 1, none⟩ = some (.int .i64 r.2.1) ∧ w.cell? ⟨b, o + i * 3 + 2, none⟩ = some (.int .i64 r.2.2)
end
end Go.Proofs.YtdeghcgakkhbmaaGreat
namespace Go.Proofs.YtdeghcgakkhbmaaGreat
open Go.ChangeShapes Go.WideShapes Go.ChangeAt Go.RowKit Go.Deep
section
variable {H : Type} {enc : TypeId × Value → H} {w : World} {base : Nat} {spare : Nat → Bool} {held : Bool}
theorem open_raws {fuel : Nat} {cs : List Value} {x : DataW H × List MemPlace} (h : DataW.trod enc Tryz.prog w base spare held fuel 25 cs = some x) :
    ∃ (p : Option Addr) (rows : List RawT) (cap : Nat), cs = [.slice p rows.length cap] ∧ (p = none → rows.length = 0 ∧ cap = 0) ∧ rows.length ≤ cap ∧ RawsCame w p rows ∧ rows.length ≤ 9223372036854775807 := by
  have hC : Tryz.prog.cellsOf 35 = 6 := by kernel_rfl
  rcases open_slice (e := 35) (by kernel_rfl) h with ⟨rfl, rfl⟩ | ⟨a, len, cap, m, k, D, Pl, rfl, hb, hl, hm, hmm, hx, hi⟩
  · exact ⟨none, [], 0, rfl, fun _ => ⟨rfl, rfl⟩, Nat.le_refl _, ⟨fun i r hr => by simp at hr⟩, by simp⟩
  · have hlm : len ≤ m := by rw [hmm]; split <;> omega
    have hs : 0 < len → a = ⟨a.block, a.off, none⟩ := fun h0 => by
      obtain ⟨cs', hc, ht'⟩ := hi 0 (by omega)
      rw [hC] at hc
      obtain ⟨_, hcl, hat⟩ := World.cells?_some hc
      have h1 := hat 0 (by omega)
      rw [List.getElem?_eq_getElem (by omega)] at h1
      simp [Addr.add] at h1
      exact spot_none h1
    obtain ⟨rows, rfl, hq⟩ := list_of (Q := fun i (r : RawT) => ∃ b o p' cap', a = ⟨b, o, none⟩ ∧ (∀ j v, (rawA r p' cap')[j]? = some v → w.cell? ⟨b, o + i * 6 + j, none⟩ = some v) ∧ RawCame w r p' cap') len (fun i hilt => by
      obtain ⟨cs', hc, ht'⟩ := hi i (by omega)
      rw [hC] at hc
      obtain ⟨_, hcl, hat⟩ := World.cells?_some hc
      obtain ⟨r, p', cap', rfl, hcm⟩ := open_raw_trod ht'
      refine ⟨r, a.block, a.off, p', cap', hs (by omega), fun j v hv => ?_, hcm⟩
      have hj : j < 6 := by have := (Array.getElem?_eq_some_iff.1 hv).1; rw [show (rawA r p' cap').size = 6 from rfl] at this; exact this
      have h1 := hat j hj
      rw [add_add, hs (by omega), add_at, Array.getElem?_toList, hv] at h1
      rw [Nat.add_assoc]
      exact h1)
    exact ⟨some a, rows, cap, rfl, (fun e => by cases e), hl, ⟨fun i r hr => by
      obtain ⟨b, o, p', cap', e, h1, h2⟩ := hq i r hr
      exact ⟨b, o, p', cap', by rw [e], h1, h2⟩⟩, by have := hm; simp [maxLen] at *; omega⟩
theorem Tryz.fieldsModel : fieldsOf Tryz.prog 27 = #[(25, 0)] := by kernel_rfl
set_option maxRecDepth 100000 in
theorem open_model {r : Reach} {b0 : Nat} {v : Value} {d : DataW H} {ps : List MemPlace} (hv : Value.okWide Tryz.prog w r b0 27 v) (h : DataW.Trod enc Tryz.prog w base spare held 27 v d ps) :
    ∃ p rows cap, v = .agg #[.slice p rows.length cap] ∧ RawsCame w p rows ∧ rows.length ≤ 9223372036854775807 := by
  have hC : Tryz.prog.cellsOf 27 = 1 := by kernel_rfl
  have hV : Tryz.prog.cellsOf 25 = 1 := by kernel_rfl
  obtain ⟨fs, hfs⟩ : ∃ fs, Tryz.prog.underlying 27 = some (.struct fs) := struct_of Tryz.fieldsModel (by simp)
  obtain ⟨cs, rfl, hsz⟩ := okWide_struct hfs hv
  obtain ⟨fuel, hf⟩ := h
  obtain ⟨hsz, hat⟩ := open_struct Tryz.fieldsModel (by simp) hf
  rw [hC] at hsz
  obtain ⟨n0, y0, h0⟩ := hat 0 _ _ rfl
  rw [hV] at h0
  obtain ⟨p, rows, cap, e, _, _, h1, h2⟩ := open_raws h0
  refine ⟨p, rows, cap, ?_, h1, h2⟩
  congr 1
  rw [← Array.toList_inj]
  have h3 : cs.toList.length = 1 := by simpa [Value.cells] using hsz
  match hcs : cs.toList, h3 with
  | [c0], _ => simp [Value.cells, hcs] at e; rw [e]
end
end Go.Proofs.YtdeghcgakkhbmaaGreat
namespace Go.Proofs.YtdeghcgakkhbmaaGreat
open Go.ChangeShapes Go.WideShapes Go.ChangeAt Go.RowKit Go.Deep
theorem c_modelDoes (px qx : Option Addr) (cx dx : Nat) (X : List RawT) (x : MutT) (w : World) (h : RawsCame w px X) (h' : MutCame w x qx dx) (hx : X.length ≤ 9223372036854775807)
    (c1 : ∀ W, Below w.heap.size w W → Calls Tryz.prog 8 #[] W fun e w' => e = .returned (.bool true) ∧ Below W.heap.size W w') :
    Calls Tryz.prog 5 #[.agg #[.slice px X.length cx], .agg #[.int .i64 x.kind, .string x.name, .int .i64 x.eps, .int .i64 x.floor, .int .i64 x.scale, .slice qx x.pts.length dx]] w fun e w' => e = .returned (.bool true) ∧ Below w.heap.size w w' := by
  obtain ⟨A, hA⟩ : ∃ A, (X.take 9).map rawOf = A := ⟨_, rfl⟩
  obtain ⟨z, hz⟩ : ∃ z, mutOf x = z := ⟨_, rfl⟩
  have hpA : FewP A := hA ▸ fewP_own X
  have hnA : FewN A := hA ▸ fewN_own X
  have hlA : A.length ≤ 100 := hA ▸ own_len X
  have hfA : ∀ r, r ∈ A → r.name.size ≤ 20 ∧ r.pts.length ≤ 1025 := fun r hr => by
    rw [← hA] at hr
    obtain ⟨y, -, rfl⟩ := List.mem_map.1 hr
    exact ⟨rawOf_name y, rawOf_len y⟩
  have hfz : z.name.size ≤ 20 ∧ z.pts.length ≤ 20 := hz ▸ ⟨mutOf_name x, mutOf_len x⟩
  have hR := doR_few hfA hfz
  have hRl : (doR A z).1.length ≤ 100 := by
    have h1 := doR_len A z
    have h2 : A.length ≤ 9 := by rw [← hA, List.length_map, List.length_take]; omega
    omega
  have hRp : FewP (doR A z).1 := fun i r hr => (hR r (List.mem_of_getElem? hr)).2
  have c2 := fun W (hW : Below w.heap.size w W) => c_own28M px cx X W (h.below hW) hx
  have c3 := fun W (hW : Below w.heap.size w W) => c_mut28 x qx dx W (h'.below hW)
  rw [hA] at c2
  rw [hz] at c3
  refine mdoes_w px qx X.length cx dx x z A (doR A z).1 (modelB A) (doR A z).2 w (fun hb => ?_) (by omega) hR c1
    (fun W hW => (c2 W hW).mono ?_) (fun W hW => (c3 W hW).mono ?_) (fun W p c hm => c_ref28Right p c A W hm.got.1 hpA hnA hlA)
    (fun W p c q d hm hq => (c_mdDo p c A z q d W hm.got.1 hpA hlA hm.got.2 hq.got (by omega)).mono ?_)
    (fun hb W p c q d hm hq => ?_)
    (fun W p c p' c' B hm hI => sameM_refl (doR A z).1 ▸ c_ref28Same (doR A z).1 (doR A z).1 p p' c c' W hm.got.1 hI hRl hRp hRp)
    (fun W p c p' c' hm hm' => sameM_refl A ▸ c_ref28Same A A p p' c c' W hm.got.1 hm'.got.1 hlA hpA hpA)
    (fun W p c p' c' hp hp' => (c_eqPtsG p c p' c' z.pts z.pts W (by omega) hp hp').mono ?_)
  · unfold doR
    rw [hb]
    exact ⟨rfl, rfl⟩
  · rintro e w' ⟨v, rfl, hB', hv⟩
    exact ⟨v, rfl, hB', hv.mono (Nat.zero_le _)⟩
  · rintro e w' ⟨v, rfl, hB', hv⟩
    exact ⟨v, rfl, hB', hv.mono (Nat.zero_le _)⟩
  · rintro e w' ⟨v, rfl, hB', hv⟩
    obtain ⟨p9, c9, e9, -, -⟩ := hv.form
    simp only [Value.agg.injEq, Array.mk.injEq, List.cons.injEq, and_true] at e9
    subst e9
    exact ⟨p9, c9, rfl, hB', hv⟩
  · have e : doR A z = doM A z := by unfold doR; rw [if_pos hb]
    rw [e]
    exact c_ref28Do p c A z q d W hm.got.1 hpA hlA hq.got (by omega) hb
  · rintro e w' ⟨rfl, hB'⟩
    exact ⟨by simp, hB'⟩
section
variable {H : Type} {enc : TypeId × Value → H} {w : World} {base : Nat} {spare : Nat → Bool} {held : Bool}
theorem Tryz.fieldsMut : fieldsOf Tryz.prog 52 = #[(3, 0), (9, 1), (2, 2), (2, 3), (3, 4), (33, 5)] := by kernel_rfl
set_option maxRecDepth 100000 in
/-- A mutation that came in. -/
theorem open_mut {r : Reach} {b0 : Nat} {v : Value} {d : DataW H} {ps : List MemPlace} (hv : Value.okWide Tryz.prog w r b0 52 v) (h : DataW.Trod enc Tryz.prog w base spare held 52 v d ps) :
    ∃ x p cap, v = .agg #[.int .i64 x.kind, .string x.name, .int .i64 x.eps, .int .i64 x.floor, .int .i64 x.scale, .slice p x.pts.length cap] ∧ MutCame w x p cap := by
  obtain ⟨fs, hfs⟩ : ∃ fs, Tryz.prog.underlying 52 = some (.struct fs) := struct_of Tryz.fieldsMut (by simp)
  obtain ⟨cs', rfl, hsz'⟩ := okWide_struct hfs hv
  obtain ⟨fuel, hf⟩ := h
  have hC : Tryz.prog.cellsOf 52 = 6 := by kernel_rfl
  have hV : Tryz.prog.cellsOf 33 = 1 := by kernel_rfl
  have hS : Tryz.prog.cellsOf 9 = 1 := by kernel_rfl
  obtain ⟨hsz, hat⟩ := open_struct Tryz.fieldsMut (by simp) hf
  rw [hC] at hsz
  have hl : ∃ x : MutT, ∃ p cap, cs'.toList = [.int .i64 x.kind, .string x.name, .int .i64 x.eps, .int .i64 x.floor, .int .i64 x.scale, .slice p x.pts.length cap] ∧ MutCame w x p cap := by
    have hcs : (Value.agg cs').cells.toList = cs'.toList := by simp [Value.cells]
    rw [hcs] at hsz hat
    generalize cs'.toList = l at hsz hat ⊢
    match l, hsz with
    | [c0, c1, c2, c3, c4, c5], _ =>
      obtain ⟨n0, y0, h0⟩ := hat 0 _ _ rfl
      obtain ⟨n1, y1, h1⟩ := hat 1 _ _ rfl
      obtain ⟨n2, y2, h2⟩ := hat 2 _ _ rfl
      obtain ⟨n3, y3, h3⟩ := hat 3 _ _ rfl
      obtain ⟨n4, y4, h4⟩ := hat 4 _ _ rfl
      obtain ⟨n5, y5, h5⟩ := hat 5 _ _ rfl
      rw [hS] at h1
      rw [Tryz.isInt64.2] at h2 h3
      rw [Tryz.isInt.2] at h0 h4
      rw [hV] at h5
      obtain ⟨kd, e0, _, _⟩ := DataW.trod_int Tryz.isInt.1 h0
      obtain ⟨nm, e1, _⟩ := DataW.trod_string (by kernel_rfl) h1
      obtain ⟨ep, e2, _, _⟩ := DataW.trod_int Tryz.isInt64.1 h2
      obtain ⟨fl, e3, _, _⟩ := DataW.trod_int Tryz.isInt64.1 h3
      obtain ⟨sc, e4, _, _⟩ := DataW.trod_int Tryz.isInt.1 h4
      obtain ⟨q, pts, co, e5, s1, s2, s3⟩ := open_pts h5
      simp [Value.cells] at e0 e1 e2 e3 e4 e5
      subst e0; subst e1; subst e2; subst e3; subst e4; subst e5
      exact ⟨⟨kd, nm, ep, fl, sc, pts⟩, q, co, rfl, ⟨s3, s1, s2⟩⟩
  obtain ⟨x, p, cap, e, hm⟩ := hl
  refine ⟨x, p, cap, ?_, hm⟩
  congr 1
  rw [← Array.toList_inj]
  exact e
end
set_option maxRecDepth 100000 in
theorem does_lifted (os : Os) (started : os.Started) (H : Type) (enc : TypeId × Value → H) :
    ReturnsInHanded {} Tryz.checked os 5 .any (Rows.modelDoesSpec.pre6 enc Tryz.prog Tryz.f5 Rows.modelDoesRow.domain false) (Rows.modelDoesSpec.post enc Tryz.prog Tryz.f5 false true false false) := by
  refine returnsInHanded_of_change (C := Tryz.checked) Tryz.ownKnob started (by kernel_rfl) Tryz.func5
    (ChangeSpec.witness6 (enc := enc) (C := Tryz.checked) false ⟨#[], #[.agg #[.slice none 0 0], .agg #[.int .i64 0, .string .empty, .int .i64 0, .int .i64 0, .int .i64 0, .slice none 0 0]], []⟩ 8 (by kernel_rfl) (by kernel_rfl) (by kernel_rfl) (by kernel_rfl)) ?_
  intro W base args ds gs before hval0 hW hcnd _
  have hval : ∀ (j : Nat) t v, Tryz.f5.params[j]? = some t → args[j]? = some v → Value.okWide Tryz.prog W .any base t v := hval0
  have hW' := hW
  obtain ⟨p, q, hA0, hV, rfl, hfz, hnd⟩ := hW
  have hA : DataW.TrodAll enc Tryz.prog W 0 (fun _ => true) true Tryz.f5.params.toList args.toList ds p := hA0
  rw [Tryz.params5] at hA hval
  obtain ⟨v0, vs0, d0, ds0, p0, q0, hargs, rfl, rfl, h0, hA⟩ := trodAll_cons hA
  obtain ⟨v1, vs1, d1, ds1, p1, q1, rfl, rfl, rfl, h1, hA⟩ := trodAll_cons hA
  obtain ⟨rfl, rfl, rfl⟩ := trodAll_nil hA
  obtain rfl : args = #[v0, v1] := by rw [← Array.toList_inj, hargs]
  obtain ⟨rfl, rfl⟩ := trodVars_none hV
  obtain ⟨px, X, cx, rfl, hx, hlx⟩ := open_model (hval 0 _ v0 rfl rfl) h0
  obtain ⟨x, qx, dx, rfl, hy⟩ := open_mut (hval 1 _ v1 rfl rfl) h1
  clear hA0 hval0
  refine (c_modelDoes px qx cx dx X x W hx hy hlx (fun W' _ => wakes28_w W')).mono fun e W' ⟨he, hb⟩ => ?_
  subst he
  exact ⟨_, rfl, law_post Tryz.laidOut (pars_ok (by kernel_rfl)) rfl (by kernel_rfl) rfl hW' hb rfl⟩
theorem modelDoes_holds : Rows.ModelDoesSaid :=
  OpenClaim.holds_of_wide 5 Tryz.f5 rfl rfl rfl rfl rfl rfl rfl ⟨rfl, rfl, rfl, rfl, rfl⟩ rfl rfl rfl rfl rfl (by kernel_rfl) Tryz.func5 (by kernel_rfl)
    (of_decide_eq_true (by kernel_rfl)) (by unfold Func.isWrapper; first | (rw [if_pos (by decide +kernel)]; kernel_rfl) | (rw [if_neg (by decide +kernel)]; exact ⟨rfl, rfl⟩))
    (fun os started H enc _ => does_lifted os started H enc)
#print axioms modelDoes_holds
end Go.Proofs.YtdeghcgakkhbmaaGreat
