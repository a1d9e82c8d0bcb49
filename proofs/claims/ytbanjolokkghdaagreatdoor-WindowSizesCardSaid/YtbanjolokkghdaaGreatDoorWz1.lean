/- Parts of the proof that follows: A region that draws its order, walked once in the order of the text: every operation by a specification of its value that later steps keep; values may hang on the order (new memory). No condition. -/
import Derived.StillTail
import Derived.Below
import Derived.KernelRfl
import Derived.Laws.World
import Derived.Tactics
set_option linter.unusedSimpArgs false
set_option linter.unusedVariables false
namespace Go.Proofs.YtbanjolokkghdaaGreatDoor
open Go.RowKit

/-- What a value is good for, in a world. -/
abbrev Spec := Value → World → Prop

/-- Nothing that was there has turned, but for the blocks in L. -/
structure Rex (L : List Nat) (w w' : World) : Prop where
  os : w'.os = w.os
  tape : w'.tape = w.tape
  output : w'.output = w.output
  size : w.heap.size ≤ w'.heap.size
  block : ∀ k, k < w.heap.size → k ∉ L → w'.heap[k]? = w.heap[k]?
  shape : ∀ k, k ∈ L → ∀ c t f, w.heap[k]? = some (.cells c t f) → ∃ c', c'.size = c.size ∧ w'.heap[k]? = some (.cells c' t f)

theorem lt_of_heap {w : World} {k : Nat} {o : Obj} (h : w.heap[k]? = some o) : k < w.heap.size := (Array.getElem?_eq_some_iff.1 h).1

theorem Rex.refl (L : List Nat) (w : World) : Rex L w w := ⟨rfl, rfl, rfl, Nat.le_refl _, fun _ _ _ => rfl, fun _ _ c _ _ h => ⟨c, rfl, h⟩⟩
theorem Rex.trans {L : List Nat} {a b c : World} (h : Rex L a b) (k : Rex L b c) : Rex L a c :=
  ⟨k.os.trans h.os, k.tape.trans h.tape, k.output.trans h.output, Nat.le_trans h.size k.size, fun i hi hl => (k.block i (Nat.lt_of_lt_of_le hi h.size) hl).trans (h.block i hi hl), fun i hi c t f hc => by
    obtain ⟨c1, e1, h1⟩ := h.shape i hi c t f hc
    obtain ⟨c2, e2, h2⟩ := k.shape i hi c1 t f h1
    exact ⟨c2, e2.trans e1, h2⟩⟩
theorem Rex.more {L L' : List Nat} {a b : World} (h : Rex L a b) (hs : ∀ x, x ∈ L → x ∈ L') : Rex L' a b :=
  ⟨h.os, h.tape, h.output, h.size, fun i hi hl => h.block i hi fun hx => hl (hs _ hx), fun i _ c t f hc => by
    by_cases hi : i ∈ L
    · exact h.shape i hi c t f hc
    · exact ⟨c, rfl, (h.block i (lt_of_heap hc) hi).trans hc⟩⟩
theorem Rex.of_below {L : List Nat} {a b : World} (h : Below a.heap.size a b) : Rex L a b := ⟨h.os, h.tape, h.output, h.size, fun k hk _ => h.block k hk, fun k _ c _ _ hc => ⟨c, rfl, (h.block k (lt_of_heap hc)).trans hc⟩⟩
theorem Rex.below {a b : World} (h : Rex [] a b) : Below a.heap.size a b := ⟨h.os, h.tape, h.output, h.size, fun k hk => h.block k hk (by simp)⟩
/-- What a block is, behind steps that leave it alone; and that a block which may turn keeps its make. -/
theorem Rex.of_priv {L : List Nat} {B : Nat} {w w' : World} (h : Rex L w w') (hB : B ≤ w.heap.size) (hL : ∀ x, x ∈ L → B ≤ x := by simp <;> omega) : Below B w w' :=
  ⟨h.os, h.tape, h.output, h.size, fun k hk => h.block k (by omega) fun hx => by have := hL k hx; omega⟩
theorem Rex.drew {L : List Nat} {w w' : World} (h : Rex L w w') : Rex L w w'.drew := ⟨h.os, h.tape, h.output, h.size, h.block, h.shape⟩

def isAlloc (o : Oper) : Bool := match o.op with | .alloc _ => true | .box _ _ => true | _ => false

/-- The claim of a new block: no other claims it. -/
def NewPtr (w w' : World) (u : Value) : Prop := ∃ b, u = .pointer (some ⟨b, 0, none⟩) ∧ w.heap.size ≤ b ∧ b < w'.heap.size

def runND (P : Program) (o : Oper) (L : List Nat) (Φ : Spec) (w : World) : Result Next → Prop
  | .ok (.value u) w' => Rex L w w' ∧ Φ u w' ∧ (isAlloc o = true → NewPtr w w' u)
  | .ok .skip w' => Rex L w w' ∧ Φ undef w' ∧ isAlloc o = false
  | .ok (.enter f args) w' => w' = w ∧ isAlloc o = false ∧ Calls P f args w (fun e w'' => ∃ u, e = .returned u ∧ Rex L w w'' ∧ Φ u w'')
  | _ => False

def priv (X : List (Nat × Nat)) (i : Nat) : List Nat := (X.filter fun p => p.1 == i).map (·.2)
def others (X : List (Nat × Nat)) (i : Nat) : List Nat := (X.filter fun p => p.1 != i).map (·.2)

theorem priv_sub {X : List (Nat × Nat)} {i j : Nat} (h : i ≠ j) : ∀ x, x ∈ priv X i → x ∈ others X j := by
  intro x hx
  simp only [priv, others, List.mem_map, List.mem_filter] at hx ⊢
  obtain ⟨p, ⟨hp, hi⟩, rfl⟩ := hx
  refine ⟨p, ⟨hp, ?_⟩, rfl⟩
  have : p.1 = i := by simpa using hi
  simp [this, h]
theorem priv_all {X : List (Nat × Nat)} {i : Nat} : ∀ x, x ∈ priv X i → x ∈ X.map (·.2) := by
  intro x hx
  simp only [priv, List.mem_map, List.mem_filter] at hx ⊢
  obtain ⟨p, ⟨hp, _⟩, rfl⟩ := hx
  exact ⟨p, hp, rfl⟩

def Closed (L : List Nat) (Φ : Spec) : Prop := ∀ v w w', Rex L w w' → Φ v w → Φ v w'

def okOp (P : Program) (ops : Array Oper) (C : World → Prop) (L : List Nat) (E : Tmp → Spec) (o : Oper) (Φ : Spec) : Prop :=
  ∀ (a : Act) (w : World), C w → (∀ s ∈ o.looksAt ops, E s (a.tmps.getD s undef) w) →
    (Region.wanted o (yielded ops a.tmps) = true → runND P o L Φ w ((execOp a.eval o).run P w)) ∧ (Region.wanted o (yielded ops a.tmps) = false → Φ undef w)

def envOf (a0 : Act) (acc : List (Option Tmp × Spec)) (s : Tmp) : Spec :=
  match acc.find? (fun p => p.1 == some s) with
  | some p => p.2
  | none => fun v _ => v = a0.tmps.getD s undef

def ndWalk (P : Program) (ops : Array Oper) (C : World → Prop) (X : List (Nat × Nat)) (a0 : Act) (Fin : List (Option Tmp × Spec) → Prop) : Nat → List Oper → List (Option Tmp × Spec) → Prop
  | _, [], acc => Fin acc
  | i, o :: rest, acc => ∃ Φ : Spec, Closed (others X i) Φ ∧ okOp P ops C (priv X i) (envOf a0 acc) o Φ ∧ ndWalk P ops C X a0 Fin (i + 1) rest ((o.dst, Φ) :: acc)

/-- The frame behind the region: each slot's value, by its specification. -/
def ndFinR (w : World) (a0 : Act) : List (Option Tmp × Spec) → (Act → Prop) → Prop
  | [], K => K a0
  | (d, Φ) :: r, K => ndFinR w a0 r (fun a => ∀ v, Φ v w → K (a.put d v))

def allocDsts (l : List Oper) : List Tmp := l.filterMap fun o => if isAlloc o then o.dst else none
/-- What has been made is apart. -/
def AllocApart (ds : List Tmp) (a : Act) : Prop := ∀ d d', d ∈ ds → d' ∈ ds → d ≠ d' → ∀ x, a.tmps.getD d undef = .pointer (some x) → a.tmps.getD d' undef ≠ .pointer (some x)

/-! ### The check of a region, by the kernel -/
def dirB (ops : Array Oper) (i j : Nat) : Bool := match ops[i]? with | some o => o.after.any fun e => Region.binds .any e && e.on == j | none => false
def ancB (ops : Array Oper) : Nat → Nat → Nat → Bool
  | 0, _, _ => false
  | f + 1, i, j => match ops[i]? with | some o => o.after.any fun e => Region.binds .any e && (e.on == j || ancB ops f e.on j) | none => false
def pureB (o : Oper) : Bool := match o.op with | .move _ => true | .assign _ => true | .extract _ _ => true | _ => false
def wrOf (ops : Array Oper) (i : Nat) : Option Tmp := (ops[i]?).bind (·.dst)
def backB (ops : Array Oper) : Bool := (List.range ops.size).all fun i => match ops[i]? with | some o => o.after.all fun e => !Region.binds .any e || decide (e.on < i) | none => true
def uniqB (ops : Array Oper) (n : Nat) : Bool := (List.range n).all fun i => (List.range n).all fun j => i == j || (wrOf ops i).isNone || wrOf ops i != wrOf ops j
def readsB (ops : Array Oper) (n : Nat) : Bool := (List.range n).all fun i => match ops[i]? with
  | some o => (o.looksAt ops).all fun s => (List.range n).all fun j => wrOf ops j != some s || (if j < i then dirB ops i j else if i < j then dirB ops j i else true)
  | none => true
def lateB (ops : Array Oper) (n : Nat) : Bool := (List.range n).all fun i => match ops[i]? with
  | some o => if pureB o then (List.range ops.size).all fun j => decide (j ≤ i) || dirB ops j i || (match ops[j]? with | some oj => o.apart ops oj | none => true)
      else (List.range ops.size).all fun t => decide (t < n) || ancB ops 8 t i
  | none => true
def seqTailB (ops : Array Oper) (n : Nat) : Bool := Region.seqB .any ops (ops.size - n) n ((Array.replicate n true) ++ Array.replicate (ops.size - n) false)
def sizeB (ops : Array Oper) (n m : Nat) : Bool := (List.range n).all fun i => match wrOf ops i with | some d => decide (d < m) | none => true
def okB (ops : Array Oper) (n m : Nat) : Bool := decide (n ≤ ops.size) && Region.noSelect ops && backB ops && uniqB ops n && readsB ops n && lateB ops n && seqTailB ops n && sizeB ops n m

/-! ### The proof -/
section
variable {P : Program} {ops : Array Oper} {C : World → Prop} {X : List (Nat × Nat)} {a0 : Act} {n : Nat} {Q : Exit → Act → World → Prop}

def accAt (ops : Array Oper) (Ψ : Nat → Spec) : Nat → List (Option Tmp × Spec)
  | 0 => []
  | k + 1 => (wrOf ops k, Ψ k) :: accAt ops Ψ k

theorem accAt_congr {Ψ Ψ' : Nat → Spec} : ∀ k, (∀ i, i < k → Ψ i = Ψ' i) → accAt ops Ψ k = accAt ops Ψ' k
  | 0, _ => rfl
  | k + 1, h => by
    simp only [accAt]
    rw [h k (by omega), accAt_congr k fun i hi => h i (by omega)]

theorem walk_spec {Fin : List (Option Tmp × Spec) → Prop} : ∀ (l : List Oper) (k : Nat) (acc : List (Option Tmp × Spec)) (Ψ0 : Nat → Spec), (∀ j, j < l.length → l[j]? = ops[k + j]?) → acc = accAt ops Ψ0 k →
    ndWalk P ops C X a0 Fin k l acc → ∃ Ψ : Nat → Spec, (∀ i, i < k → Ψ i = Ψ0 i) ∧
      (∀ i, k ≤ i → i < k + l.length → Closed (others X i) (Ψ i) ∧ ∃ o, ops[i]? = some o ∧ okOp P ops C (priv X i) (envOf a0 (accAt ops Ψ i)) o (Ψ i)) ∧ Fin (accAt ops Ψ (k + l.length))
  | [], k, acc, Ψ0, _, ha, h => ⟨Ψ0, fun _ _ => rfl, fun i h1 h2 => absurd h2 (by simp; omega), by simpa [ha, ndWalk] using h⟩
  | o :: l, k, acc, Ψ0, hl, ha, h => by
    obtain ⟨Φ, hc, ho, hr⟩ := h
    have h0 : ops[k]? = some o := by simpa using (hl 0 (by simp)).symm
    let Ψ1 : Nat → Spec := fun i => if i = k then Φ else Ψ0 i
    have h1 : ∀ i, i < k → Ψ1 i = Ψ0 i := fun i hi => by simp only [Ψ1]; rw [if_neg (by omega)]
    have hk : Ψ1 k = Φ := by simp [Ψ1]
    obtain ⟨Ψ, e1, e2, e3⟩ := walk_spec l (k + 1) ((o.dst, Φ) :: acc) Ψ1 (fun j hj => by have := hl (j + 1) (by simpa using hj); simpa [Nat.add_assoc, Nat.add_comm 1 j] using this)
      (by simp only [accAt]; rw [hk, ha, accAt_congr k h1]; simp [wrOf, h0]) hr
    refine ⟨Ψ, fun i hi => (e1 i (by omega)).trans (h1 i hi), fun i hi1 hi2 => ?_, by simpa [Nat.add_assoc, Nat.add_comm 1] using e3⟩
    by_cases hik : i = k
    · subst hik
      have hΨ : Ψ i = Φ := (e1 i (by omega)).trans hk
      refine ⟨by rw [hΨ]; exact hc, o, h0, ?_⟩
      rw [hΨ, accAt_congr i fun j hj => (e1 j (by omega)).trans (h1 j hj), ← ha]
      exact ho
    · exact e2 i (by omega) (by simp only [List.length_cons] at hi2; omega)

theorem env_acc (Ψ : Nat → Spec) (s : Tmp) : ∀ k, (∃ j, j < k ∧ wrOf ops j = some s ∧ envOf a0 (accAt ops Ψ k) s = Ψ j) ∨
    ((∀ j, j < k → wrOf ops j ≠ some s) ∧ envOf a0 (accAt ops Ψ k) s = fun v _ => v = a0.tmps.getD s undef)
  | 0 => .inr ⟨fun j hj => by omega, rfl⟩
  | k + 1 => by
    by_cases hk : wrOf ops k = some s
    · refine .inl ⟨k, by omega, hk, ?_⟩
      simp [envOf, accAt, hk]
    · have hfind : envOf a0 (accAt ops Ψ (k + 1)) s = envOf a0 (accAt ops Ψ k) s := by
        have : (wrOf ops k == some s) = false := by simpa using hk
        simp [envOf, accAt, this]
      rcases env_acc Ψ s k with ⟨j, hj, hw, he⟩ | ⟨hn, he⟩
      · exact .inl ⟨j, by omega, hw, hfind.trans he⟩
      · refine .inr ⟨fun j hj => ?_, hfind.trans he⟩
        by_cases hjk : j = k
        · subst hjk; exact hk
        · exact hn j (by omega)

theorem getD_put_ne {a : Act} {d s : Tmp} {v : Value} (h : d ≠ s) : (a.put (some d) v).tmps.getD s undef = a.tmps.getD s undef := by
  simp [Act.put, Array.getElem?_setIfInBounds_ne h]
theorem getD_put_eq {a : Act} {d : Tmp} {v : Value} (h : d < a.tmps.size) : (a.put (some d) v).tmps.getD d undef = v := by
  simp [Act.put, h]

structure Inv (ops : Array Oper) (C : World → Prop) (a0 : Act) (n : Nat) (Ψ : Nat → Spec) (listed : Array Bool) (a : Act) (w : World) : Prop where
  c : C w
  size : a.tmps.size = a0.tmps.size
  defers : a.defers = a0.defers
  lsize : listed.size = ops.size
  down : ∀ i o, ops[i]? = some o → listed.getD i false = true → ∀ e ∈ o.after, Region.binds .any e = true → listed.getD e.on false = true
  val : ∀ i, i < n → listed.getD i false = true → ∀ d, wrOf ops i = some d → Ψ i (a.tmps.getD d undef) w
  eff : ∀ i, i < n → listed.getD i false = true → wrOf ops i = none → ∃ u, Ψ i u w
  old : ∀ s, (∀ i, i < n → listed.getD i false = true → wrOf ops i ≠ some s) → a.tmps.getD s undef = a0.tmps.getD s undef
  new : ∀ i o d, i < n → listed.getD i false = true → ops[i]? = some o → isAlloc o = true → o.dst = some d → ∀ x, a.tmps.getD d undef = .pointer (some x) → x.block < w.heap.size
  apart : ∀ i o d j o' d', i < n → j < n → i ≠ j → listed.getD i false = true → listed.getD j false = true → ops[i]? = some o → ops[j]? = some o' → isAlloc o = true → isAlloc o' = true →
    o.dst = some d → o'.dst = some d' → ∀ x, a.tmps.getD d undef = .pointer (some x) → a.tmps.getD d' undef ≠ .pointer (some x)

structure Ok (ops : Array Oper) (n m : Nat) : Prop where
  le : n ≤ ops.size
  nosel : Region.noSelect ops = true
  back : ∀ i o, ops[i]? = some o → ∀ e ∈ o.after, Region.binds .any e = true → e.on < i
  uniq : ∀ i j d, i < n → j < n → wrOf ops i = some d → wrOf ops j = some d → i = j
  reads : ∀ i o s j, i < n → ops[i]? = some o → s ∈ o.looksAt ops → j < n → wrOf ops j = some s → (j < i → dirB ops i j = true) ∧ (i < j → dirB ops j i = true)
  late : ∀ i o, i < n → ops[i]? = some o → (pureB o = true ∧ ∀ j oj, ops[j]? = some oj → i < j → dirB ops j i = false → o.apart ops oj = true) ∨ (pureB o = false ∧ ∀ t, n ≤ t → t < ops.size → ancB ops 8 t i = true)
  seq : seqTailB ops n = true
  dst : ∀ i d, i < n → wrOf ops i = some d → d < m

theorem ok_of_okB {m : Nat} (h : okB ops n m = true) : Ok ops n m := by
  simp only [okB, Bool.and_eq_true, decide_eq_true_eq] at h
  obtain ⟨⟨⟨⟨⟨⟨⟨h1, h2⟩, h3⟩, h4⟩, h5⟩, h6⟩, h7⟩, h8⟩ := h
  refine ⟨h1, h2, ?_, ?_, ?_, ?_, h7, ?_⟩
  · intro i o ho e he hb
    have := List.all_eq_true.1 h3 i (List.mem_range.2 (Array.getElem?_eq_some_iff.1 ho).1)
    simp only [ho] at this
    have := Array.all_eq_true_iff_forall_mem.1 this e he
    simpa [hb] using this
  · intro i j d hi hj h1 h2
    have := List.all_eq_true.1 (List.all_eq_true.1 h4 i (List.mem_range.2 hi)) j (List.mem_range.2 hj)
    simpa [h1, h2] using this
  · intro i o s j hi ho hs hj hw
    have := List.all_eq_true.1 h5 i (List.mem_range.2 hi)
    simp only [ho] at this
    have := List.all_eq_true.1 (List.all_eq_true.1 this s hs) j (List.mem_range.2 hj)
    simp only [hw, bne_self_eq_false, Bool.false_or] at this
    refine ⟨fun hlt => by simpa [hlt] using this, fun hlt => ?_⟩
    rw [if_neg (by omega), if_pos hlt] at this
    exact this
  · intro i o hi ho
    have := List.all_eq_true.1 h6 i (List.mem_range.2 hi)
    simp only [ho] at this
    by_cases hp : pureB o = true
    · refine .inl ⟨hp, fun j oj hj hlt hd => ?_⟩
      simp only [hp, if_true] at this
      have := List.all_eq_true.1 this j (List.mem_range.2 (Array.getElem?_eq_some_iff.1 hj).1)
      simpa [hj, hd, Nat.not_le.2 hlt] using this
    · have hp' : pureB o = false := by simpa using hp
      refine .inr ⟨hp', fun t h1 h2 => ?_⟩
      simp only [hp', Bool.false_eq_true, if_false] at this
      have := List.all_eq_true.1 this t (List.mem_range.2 h2)
      simpa [Nat.not_lt.2 h1] using this
  · intro i d hi hd
    have := List.all_eq_true.1 h8 i (List.mem_range.2 hi)
    simpa [hd] using this

theorem getD_false_of {listed : Array Bool} {i : Nat} (hi : i < listed.size) (h : listed.getD i true = false) : listed.getD i false = false := by
  simp [hi] at h ⊢; exact h

theorem inv_put {m i : Nat} {o : Oper} {Ψ : Nat → Spec} {listed : Array Bool} {a : Act} {w w' : World} {u : Value} (hok : Ok ops n m) (hm : m = a0.tmps.size) (hC : ∀ w w', C w → Rex (X.map (·.2)) w w' → C w')
    (hcl : ∀ i, i < n → Closed (others X i) (Ψ i)) (inv : Inv ops C a0 n Ψ listed a w) (hr : i ∈ Region.ready .any ops listed) (hi : i < n) (ho : ops[i]? = some o)
    (hR : Rex (priv X i) w w') (hΨ : Ψ i u w') (hnew : isAlloc o = true → u = undef ∨ NewPtr w w' u) : Inv ops C a0 n Ψ (listed.setIfInBounds i true) (a.put o.dst u) w' := by
  obtain ⟨hun, o', ho', hall⟩ := mem_ready.1 hr
  obtain rfl : o' = o := by rw [ho] at ho'; injection ho' with h; exact h.symm
  have hil : i < listed.size := by rw [inv.lsize]; exact (Array.getElem?_eq_some_iff.1 ho).1
  have hwi : wrOf ops i = o'.dst := by simp [wrOf, ho]
  have hset : ∀ j, (listed.setIfInBounds i true).getD j false = true → j = i ∨ listed.getD j false = true := by
    intro j hj
    by_cases hji : j = i
    · exact .inl hji
    · exact .inr (by rwa [getD_set_ne false (Ne.symm hji)] at hj)
  have hdsz : ∀ d, o'.dst = some d → d < a.tmps.size := fun d hd => by rw [inv.size, ← hm]; exact hok.dst i d hi (by rw [hwi, hd])
  have hkeep : ∀ s, o'.dst ≠ some s → (a.put o'.dst u).tmps.getD s undef = a.tmps.getD s undef := by
    intro s hs
    cases hd : o'.dst with
    | none => rfl
    | some d => exact getD_put_ne (fun e => hs (by rw [hd, e]))
  have hput : ∀ d, o'.dst = some d → (a.put o'.dst u).tmps.getD d undef = u := by
    intro d hd
    rw [hd]
    exact getD_put_eq (hdsz d hd)
  have hclosed : ∀ j, j < n → j ≠ i → ∀ v, Ψ j v w → Ψ j v w' := fun j hj hji v hv => hcl j hj v w w' (hR.more (priv_sub (Ne.symm hji))) hv
  have hother : ∀ j, j < n → j ≠ i → ∀ d, wrOf ops j = some d → o'.dst ≠ some d := fun j hj hji d hd e => hji (hok.uniq j i d hj hi hd (by rw [hwi, e]))
  refine ⟨hC _ _ inv.c (hR.more priv_all), ?_, ?_, by simp [inv.lsize], ?_, ?_, ?_, ?_, ?_, ?_⟩
  · cases hd : o'.dst <;> simp [Act.put, inv.size]
  · cases hd : o'.dst <;> simp [Act.put, inv.defers]
  · intro j oj hj hl e he hb
    rcases hset j hl with rfl | hl
    · have : oj = o' := by rw [ho] at hj; injection hj with h; exact h.symm
      subst this
      exact getD_set_true (hall e he hb)
    · exact getD_set_true (inv.down j oj hj hl e he hb)
  · intro j hj hl d hd
    by_cases hji : j = i
    · subst hji
      rw [hput d (by rw [← hwi, hd])]
      exact hΨ
    · rw [hkeep d (hother j hj hji d hd)]
      exact hclosed j hj hji _ (inv.val j hj ((hset j hl).resolve_left hji) d hd)
  · intro j hj hl hd
    by_cases hji : j = i
    · subst hji; exact ⟨u, hΨ⟩
    · obtain ⟨u', hu'⟩ := inv.eff j hj ((hset j hl).resolve_left hji) hd
      exact ⟨u', hclosed j hj hji _ hu'⟩
  · intro s hs
    have h1 : o'.dst ≠ some s := by
      have := hs i hi (by simp [hil])
      rwa [hwi] at this
    rw [hkeep s h1]
    exact inv.old s fun j hj hl => hs j hj (getD_set_true hl)
  · intro j oj d hj hl hoj hal hd x hx
    by_cases hji : j = i
    · subst hji
      have : oj = o' := by rw [ho] at hoj; injection hoj with h; exact h.symm
      subst this
      rw [hput d hd] at hx
      rcases hnew hal with h | ⟨b, h, _, hb⟩
      · rw [h] at hx; simp [undef] at hx
      · rw [h] at hx; injection hx with hx; injection hx with hx; subst hx; exact hb
    · have hne := hother j hj hji d (by simp [wrOf, hoj, hd])
      rw [hkeep d hne] at hx
      exact Nat.lt_of_lt_of_le (inv.new j oj d hj ((hset j hl).resolve_left hji) hoj hal hd x hx) hR.size
  · intro j oj d k ok d' hj hk hjk hlj hlk hoj hok' haj hak hd hd' x hx hx'
    by_cases hji : j = i
    · subst hji
      have : oj = o' := by rw [ho] at hoj; injection hoj with h; exact h.symm
      subst this
      rw [hput d hd] at hx
      have hne := hother k hk (Ne.symm hjk) d' (by simp [wrOf, hok', hd'])
      rw [hkeep d' hne] at hx'
      have h2 := inv.new k ok d' hk ((hset k hlk).resolve_left (Ne.symm hjk)) hok' hak hd' x hx'
      rcases hnew haj with h | ⟨b, h, hb, _⟩
      · rw [h] at hx; simp [undef] at hx
      · rw [h] at hx; injection hx with hx; injection hx with hx; subst hx; simp at h2; omega
    · by_cases hki : k = i
      · subst hki
        have : ok = o' := by rw [ho] at hok'; injection hok' with h; exact h.symm
        subst this
        rw [hput d' hd'] at hx'
        have hne := hother j hj hji d (by simp [wrOf, hoj, hd])
        rw [hkeep d hne] at hx
        have h2 := inv.new j oj d hj ((hset j hlj).resolve_left hji) hoj haj hd x hx
        rcases hnew hak with h | ⟨b, h, hb, _⟩
        · rw [h] at hx'; simp [undef] at hx'
        · rw [h] at hx'; injection hx' with hx'; injection hx' with hx'; subst hx'; simp at h2; omega
      · have hne := hother j hj hji d (by simp [wrOf, hoj, hd])
        have hne' := hother k hk hki d' (by simp [wrOf, hok', hd'])
        rw [hkeep d hne] at hx
        rw [hkeep d' hne'] at hx'
        exact inv.apart j oj d k ok d' hj hk hjk ((hset j hlj).resolve_left hji) ((hset k hlk).resolve_left hki) hoj hok' haj hak hd hd' x hx hx'

/-- What an operation that comes up may look at. -/
theorem inv_env {m i : Nat} {o : Oper} {Ψ : Nat → Spec} {listed : Array Bool} {a : Act} {w : World} (hok : Ok ops n m) (inv : Inv ops C a0 n Ψ listed a w) (hr : i ∈ Region.ready .any ops listed) (hi : i < n) (ho : ops[i]? = some o) :
    ∀ s ∈ o.looksAt ops, envOf a0 (accAt ops Ψ i) s (a.tmps.getD s undef) w := by
  obtain ⟨hun, o', ho', hall⟩ := mem_ready.1 hr
  obtain rfl : o' = o := by rw [ho] at ho'; injection ho' with h; exact h.symm
  have hil : i < listed.size := by rw [inv.lsize]; exact (Array.getElem?_eq_some_iff.1 ho).1
  have hun' := getD_false_of hil hun
  intro s hs
  rcases env_acc (ops := ops) (a0 := a0) Ψ s i with ⟨j, hj, hw, he⟩ | ⟨hn, he⟩
  · rw [he]
    have hd := (hok.reads i o' s j hi ho hs (by omega) hw).1 hj
    simp only [dirB, ho] at hd
    obtain ⟨e, hem, hb⟩ := Array.any_eq_true'.1 hd
    simp only [Bool.and_eq_true, beq_iff_eq] at hb
    have hl := hall e hem hb.1
    rw [hb.2] at hl
    exact inv.val j (by omega) hl s hw
  · rw [he]
    refine inv.old s fun j hj hl hw => ?_
    rcases Nat.lt_trichotomy j i with h | h | h
    · exact hn j h hw
    · subst h; rw [hun'] at hl; cases hl
    · have hd := (hok.reads i o' s j hi ho hs hj hw).2 h
      unfold dirB at hd
      cases hoj : ops[j]? with
      | none => rw [hoj] at hd; cases hd
      | some oj =>
        rw [hoj] at hd
        obtain ⟨e, hem, hb⟩ := Array.any_eq_true'.1 hd
        simp only [Bool.and_eq_true, beq_iff_eq] at hb
        have := inv.down j oj hoj hl e hem hb.1
        rw [hb.2, hun'] at this
        cases this

theorem inv_step {m i : Nat} {Ψ : Nat → Spec} {listed : Array Bool} {a : Act} {w : World} (hok : Ok ops n m) (hm : m = a0.tmps.size) (hC : ∀ w w', C w → Rex (X.map (·.2)) w w' → C w')
    (hcl : ∀ i, i < n → Closed (others X i) (Ψ i)) (hop : ∀ i o, i < n → ops[i]? = some o → okOp P ops C (priv X i) (envOf a0 (accAt ops Ψ i)) o (Ψ i))
    (inv : Inv ops C a0 n Ψ listed a w) (hr : i ∈ Region.ready .any ops listed) (hi : i < n) :
    wpOp P ops Q i (Inv ops C a0 n Ψ (listed.setIfInBounds i true)) a w := by
  obtain ⟨_, o, ho, _⟩ := mem_ready.1 hr
  obtain ⟨h1, h2⟩ := hop i o hi ho a w inv.c (inv_env hok inv hr hi ho)
  unfold wpOp
  simp only [ho]
  by_cases hw : Region.wanted o (yielded ops a.tmps) = true
  · simp only [hw, if_true]
    refine .inl ?_
    have h1 := h1 hw
    unfold Oper.wp
    generalize (execOp a.eval o).run P w = r at h1
    cases r with
    | ok x w' =>
      cases x <;> simp only [runND] at h1 <;> simp only [Oper.upon]
      case value u => exact inv_put hok hm hC hcl inv hr hi ho h1.1 h1.2.1 fun ha => .inr (h1.2.2 ha)
      case skip => exact inv_put hok hm hC hcl inv hr hi ho h1.1 h1.2.1 fun ha => by rw [h1.2.2] at ha; cases ha
      case enter f args =>
        obtain ⟨rfl, hna, hc⟩ := h1
        refine hc.mono fun e w'' ⟨u, he, hR, hΦ⟩ => ?_
        subst he
        exact inv_put hok hm hC hcl inv hr hi ho hR hΦ fun ha => by rw [hna] at ha; cases ha
    | halt x w' => simp only [runND] at h1
  · have hw' : Region.wanted o (yielded ops a.tmps) = false := by simpa using hw
    simp only [hw', Bool.false_eq_true, if_false]
    exact inv_put hok hm hC hcl inv hr hi ho (Rex.refl _ _) (h2 hw') fun _ => .inl rfl

/-! ### All orders -/
theorem count_set : ∀ (l : List Bool) (i : Nat), l[i]? = some false → (l.set i true).count false + 1 = l.count false
  | [], _, h => by simp at h
  | b :: l, 0, h => by simp at h; subst h; simp
  | b :: l, i + 1, h => by
    have := count_set l i (by simpa using h)
    cases b <;> simp <;> omega

theorem least_ready {m : Nat} {listed : Array Bool} (hok : Ok ops n m) (hls : listed.size = ops.size) : ∀ i, i < ops.size → listed.getD i false = false → ∃ k, k ≤ i ∧ k ∈ Region.ready .any ops listed ∧ ∀ j, j < k → listed.getD j false = true := by
  intro i
  induction i using Nat.strongRecOn with
  | ind i ih =>
    intro hi hl
    by_cases hex : ∃ j, j < i ∧ listed.getD j false = false
    · obtain ⟨j, hj, hjl⟩ := hex
      obtain ⟨k, hk, h1, h2⟩ := ih j hj (by omega) hjl
      exact ⟨k, by omega, h1, h2⟩
    · have hall : ∀ j, j < i → listed.getD j false = true := fun j hj => by
        cases h : listed.getD j false with
        | true => rfl
        | false => exact absurd ⟨j, hj, h⟩ hex
      refine ⟨i, Nat.le_refl _, mem_ready.2 ⟨?_, ops[i], by simp [hi], fun e he hb => hall _ (hok.back i ops[i] (by simp [hi]) e he hb)⟩, hall⟩
      simp [hls, hi] at hl ⊢; exact hl

theorem anc_listed {listed : Array Bool} {Ψ : Nat → Spec} {a : Act} {w : World} (inv : Inv ops C a0 n Ψ listed a w) :
    ∀ (f t i : Nat) (o : Oper), ops[t]? = some o → (∀ e ∈ o.after, Region.binds .any e = true → listed.getD e.on false = true) → ancB ops f t i = true → listed.getD i false = true := by
  intro f
  induction f with
  | zero => intro t i o _ _ h; simp [ancB] at h
  | succ f ih =>
    intro t i o ho hall h
    simp only [ancB, ho] at h
    obtain ⟨e, he, hb⟩ := Array.any_eq_true'.1 h
    simp only [Bool.and_eq_true, Bool.or_eq_true, beq_iff_eq] at hb
    have hl := hall e he hb.1
    rcases hb.2 with h1 | h1
    · rw [← h1]; exact hl
    · cases ho' : ops[e.on]? with
      | none => cases f <;> simp [ancB, ho'] at h1
      | some o' => exact ih e.on i o' ho' (inv.down _ _ ho' hl) h1

theorem pure_yields {o : Oper} {ρ : Operand → Value} {L : List Nat} {Φ : Spec} {w : World} (hp : pureB o = true) (h : runND P o L Φ w ((execOp ρ o).run P w)) : ∃ v, Φ v w ∧ ∀ w', (execOp ρ o).run P w' = .ok (.value v) w' := by
  unfold pureB at hp
  unfold execOp at h ⊢
  cases hop : o.op <;> rw [hop] at hp h <;> simp at hp <;> dsimp only at h ⊢
  case move x => exact ⟨ρ x, h.2.1, fun _ => rfl⟩
  case assign x => exact ⟨ρ x, h.2.1, fun _ => rfl⟩
  case extract t ix =>
    unfold Instr.extract at h ⊢
    split at h
    · rename_i vs hvs
      cases hx : vs[ix]? with
      | some v => rw [hx] at h; exact ⟨v, h.2.1, fun _ => rfl⟩
      | none => rw [hx] at h; exact h.elim
    · exact h.elim

theorem nd_tail {m : Nat} {Ψ : Nat → Spec} (hok : Ok ops n m) (hm : m = a0.tmps.size) (hC : ∀ w w', C w → Rex (X.map (·.2)) w w' → C w')
    (hcl : ∀ i, i < n → Closed (others X i) (Ψ i)) (hop : ∀ i o, i < n → ops[i]? = some o → okOp P ops C (priv X i) (envOf a0 (accAt ops Ψ i)) o (Ψ i))
    (hQ : ∀ c a d v w, Q (.panic c) (Act.put a d v) w → Q (.panic c) a w)
    (hFin : ∀ a w, (∃ listed, Inv ops C a0 n Ψ listed a w ∧ ∀ i, i < n → listed.getD i false = true) → wpList P ops Q (ops.toList.drop n) a w) :
    ∀ (f : Nat) (listed : Array Bool) (a : Act) (w : World), Inv ops C a0 n Ψ listed a w → listed.toList.count false = f →
      (∀ i o, i < n → ops[i]? = some o → pureB o = false → listed.getD i false = true) → (∀ t, n ≤ t → listed.getD t false = false) → wpAny P .any ops Q f listed a w := by
  intro f
  induction f with
  | zero =>
    intro listed a w inv hcnt hnp htl
    have hall : ∀ i, i < ops.size → listed.getD i false = true := by
      intro i hi
      have h0 : ¬ false ∈ listed.toList := by rw [← List.count_eq_zero]; exact hcnt
      have hi' : i < listed.size := by rw [inv.lsize]; exact hi
      cases hb : listed[i] with
      | true => simp [hi', hb]
      | false => exact absurd (by rw [← hb]; exact Array.mem_toList_iff.2 (Array.getElem_mem hi')) h0
    have hn : n = ops.size := by
      rcases Nat.lt_or_ge n ops.size with h | h
      · have := htl n (Nat.le_refl _); rw [hall n h] at this; cases this
      · exact Nat.le_antisymm hok.le h
    have hready : Region.ready .any ops listed = [] := by
      apply List.eq_nil_iff_forall_not_mem.2
      intro k hk
      obtain ⟨h1, o, ho, _⟩ := mem_ready.1 hk
      have hk' := (Array.getElem?_eq_some_iff.1 ho).1
      have h2 := hall k hk'
      simp [inv.lsize, hk'] at h1 h2
      rw [h1] at h2; cases h2
    have := hFin a w ⟨listed, inv, fun i hi => hall i (by omega)⟩
    rw [hn, List.drop_eq_nil_of_le (by simp)] at this
    exact ⟨hready, this⟩
  | succ f ih =>
    intro listed a w inv hcnt hnp htl
    by_cases hbody : ∀ i, i < n → listed.getD i false = true
    · -- only the tail is left
      have hl : listed = (Array.replicate n true) ++ Array.replicate (ops.size - n) false := by
        have hle := hok.le
        apply Array.ext
        · simp [inv.lsize]; omega
        · intro i h1 h2
          by_cases hi : i < n
          · have := hbody i hi
            simp [h1] at this
            simp [hi, this]
          · have := htl i (by omega)
            simp [h1] at this
            simp [Array.getElem_append, hi, this]
      have hc : listed.toList.count false = ops.size - n := by
        rw [hl]; simp [List.count_replicate]
      have hseq := hok.seq
      unfold seqTailB at hseq
      rw [← hl] at hseq
      have hlen : (ops.toList.drop n).length = ops.size - n := by simp
      have := wpAny_of_seq (P := P) (md := .any) (Q' := Q) (ops.toList.drop n) n listed a w (fun j => by rw [List.getElem?_drop]; simp) (by rw [hlen]; exact hseq) (hFin a w ⟨listed, inv, hbody⟩)
      rw [hlen] at this
      have he : ops.size - n = f + 1 := by omega
      rwa [he] at this
    · obtain ⟨i0, hi0⟩ := Classical.not_forall.1 hbody
      obtain ⟨hi0n, hi0l⟩ := Classical.not_imp.1 hi0
      have hle := hok.le
      obtain ⟨k, hk1, hk2, hk3⟩ := least_ready hok inv.lsize i0 (by omega) (by simpa using hi0l)
      obtain ⟨hun, o, ho, _⟩ := mem_ready.1 hk2
      have hks : k < listed.size := by rw [inv.lsize]; exact (Array.getElem?_eq_some_iff.1 ho).1
      have hunf := getD_false_of hks hun
      have hp : pureB o = true := by
        cases h : pureB o with
        | true => rfl
        | false => have := hnp k o (by omega) ho h; rw [hunf] at this; cases this
      obtain ⟨h1, h2⟩ := hop k o (by omega) ho a w inv.c (inv_env hok inv hk2 (by omega) ho)
      have hapart : ∀ j oj, ops[j]? = some oj → j ≠ k → listed.getD j true = false → (∀ e ∈ oj.after, Region.binds .any e = true → e.on ≠ k) → o.apart ops oj = true := by
        intro j oj hj hjk hjl hno
        have hjs : j < listed.size := by rw [inv.lsize]; exact (Array.getElem?_eq_some_iff.1 hj).1
        have hkj : k < j := by
          rcases Nat.lt_or_ge j k with h | h
          · have := hk3 j h; rw [getD_false_of hjs hjl] at this; cases this
          · omega
        rcases hok.late k o (by omega) ho with ⟨_, h⟩ | ⟨h, _⟩
        · refine h j oj hj hkj ?_
          cases hd : dirB ops j k with
          | false => rfl
          | true =>
            simp only [dirB, hj] at hd
            obtain ⟨e, hem, hb⟩ := Array.any_eq_true'.1 hd
            simp only [Bool.and_eq_true, beq_iff_eq] at hb
            exact absurd hb.2 (hno e hem hb.1)
        · rw [hp] at h; cases h
      have hcnt' : (listed.setIfInBounds k true).toList.count false = f := by
        have hg : listed.toList[k]? = some false := by simp [hks] at hunf; simp [hks, hunf]
        have := count_set listed.toList k hg
        rw [Array.toList_setIfInBounds]; omega
      have hrest : ∀ v, Inv ops C a0 n Ψ (listed.setIfInBounds k true) (a.put o.dst v) w → wpAny P .any ops Q f (listed.setIfInBounds k true) (a.put o.dst v) w := fun v hinv =>
        ih _ _ _ hinv hcnt' (fun i oi hi hoi hpi => getD_set_true (hnp i oi hi hoi hpi)) (fun t ht => by rw [getD_set_ne false (by omega)]; exact htl t ht)
      by_cases hw : Region.wanted o (yielded ops a.tmps) = true
      · obtain ⟨v, hv, hrun⟩ := pure_yields hp (h1 hw)
        refine wpAny_first ho (Region.noSelect_spec hok.nosel) (fun c a w h => hQ c a _ _ w h) f listed a w hapart hk2 (.inl ⟨hw, hrun⟩) (hrest v ?_)
        exact inv_put hok hm hC hcl inv hk2 (by omega) ho (Rex.refl _ _) hv fun ha => by
          unfold isAlloc at ha; unfold pureB at hp; cases hop : o.op <;> rw [hop] at ha hp <;> simp at ha hp
      · have hw' : Region.wanted o (yielded ops a.tmps) = false := by simpa using hw
        refine wpAny_first ho (Region.noSelect_spec hok.nosel) (fun c a w h => hQ c a _ _ w h) f listed a w hapart hk2 (.inr ⟨hw', rfl⟩) (hrest undef ?_)
        exact inv_put hok hm hC hcl inv hk2 (by omega) ho (Rex.refl _ _) (h2 hw') fun _ => .inl rfl

theorem nd_any {m : Nat} {Ψ : Nat → Spec} (hok : Ok ops n m) (hm : m = a0.tmps.size) (hC : ∀ w w', C w → Rex (X.map (·.2)) w w' → C w')
    (hcl : ∀ i, i < n → Closed (others X i) (Ψ i)) (hop : ∀ i o, i < n → ops[i]? = some o → okOp P ops C (priv X i) (envOf a0 (accAt ops Ψ i)) o (Ψ i))
    (hQ : ∀ c a d v w, Q (.panic c) (Act.put a d v) w → Q (.panic c) a w)
    (hFin : ∀ a w, (∃ listed, Inv ops C a0 n Ψ listed a w ∧ ∀ i, i < n → listed.getD i false = true) → wpList P ops Q (ops.toList.drop n) a w) :
    ∀ (f : Nat) (listed : Array Bool) (a : Act) (w : World), Inv ops C a0 n Ψ listed a w → listed.toList.count false = f → (∀ t, n ≤ t → listed.getD t false = false) → wpAny P .any ops Q f listed a w := by
  intro f
  induction f with
  | zero => exact fun listed a w inv hcnt htl => nd_tail hok hm hC hcl hop hQ hFin 0 listed a w inv hcnt (fun i o hi ho _ => by
      have h0 : ¬ false ∈ listed.toList := by rw [← List.count_eq_zero]; exact hcnt
      have hi' : i < listed.size := by rw [inv.lsize]; exact (Array.getElem?_eq_some_iff.1 ho).1
      cases hb : listed[i] with
      | true => simp [hi', hb]
      | false => exact absurd (by rw [← hb]; exact Array.mem_toList_iff.2 (Array.getElem_mem hi')) h0) htl
  | succ f ih =>
    intro listed a w inv hcnt htl
    by_cases hnp : ∀ i o, i < n → ops[i]? = some o → pureB o = false → listed.getD i false = true
    · exact nd_tail hok hm hC hcl hop hQ hFin (f + 1) listed a w inv hcnt hnp htl
    · have : ∃ i o, i < n ∧ ops[i]? = some o ∧ pureB o = false ∧ listed.getD i false = false := by
        apply Classical.byContradiction
        intro hno
        exact hnp fun i o hi ho hp => by
          cases h : listed.getD i false with
          | true => rfl
          | false => exact absurd ⟨i, o, hi, ho, hp, h⟩ hno
      obtain ⟨i0, o0, hi0, ho0, hp0, hl0⟩ := this
      have hle := hok.le
      obtain ⟨k, hk1, hk2, hk3⟩ := least_ready hok inv.lsize i0 (by omega) hl0
      refine ⟨fun h => (by rw [h] at hk2; cases hk2), fun i hi => ?_⟩
      have hin : i < n := by
        rcases Nat.lt_or_ge i n with h | h
        · exact h
        · obtain ⟨_, o, ho, hall⟩ := mem_ready.1 hi
          rcases hok.late i0 o0 hi0 ho0 with ⟨h', _⟩ | ⟨_, h'⟩
          · rw [hp0] at h'; cases h'
          · have := anc_listed inv 8 i i0 o ho hall (h' i h (Array.getElem?_eq_some_iff.1 ho).1)
            rw [hl0] at this; cases this
      refine wpOp_mono (fun a' w' hinv => ih _ a' w' hinv ?_ fun t ht => by rw [getD_set_ne false (by omega)]; exact htl t ht) (inv_step hok hm hC hcl hop inv hi hin)
      obtain ⟨hun, o, ho, _⟩ := mem_ready.1 hi
      have his : i < listed.size := by rw [inv.lsize]; exact (Array.getElem?_eq_some_iff.1 ho).1
      have hunf := getD_false_of his hun
      have hg : listed.toList[i]? = some false := by simp [his] at hunf; simp [his, hunf]
      have := count_set listed.toList i hg
      rw [Array.toList_setIfInBounds]; omega

/-! ### The frame behind the region -/
def puts (ops : Array Oper) (val : Nat → Value) (a0 : Act) : Nat → Act
  | 0 => a0
  | k + 1 => (puts ops val a0 k).put (wrOf ops k) (val k)

theorem puts_size (val : Nat → Value) : ∀ k, (puts ops val a0 k).tmps.size = a0.tmps.size
  | 0 => rfl
  | k + 1 => by
    have := puts_size val k
    cases h : wrOf ops k <;> simp [puts, h, Act.put, this]
theorem puts_defers (val : Nat → Value) : ∀ k, (puts ops val a0 k).defers = a0.defers
  | 0 => rfl
  | k + 1 => by
    have := puts_defers val k
    cases h : wrOf ops k <;> simp [puts, h, Act.put, this]

theorem puts_none (val : Nat → Value) (s : Tmp) : ∀ k, (∀ i, i < k → wrOf ops i ≠ some s) → (puts ops val a0 k).tmps.getD s undef = a0.tmps.getD s undef
  | 0, _ => rfl
  | k + 1, h => by
    have h1 := puts_none val s k fun i hi => h i (by omega)
    have h2 := h k (by omega)
    cases hd : wrOf ops k with
    | none => simpa [puts, hd, Act.put] using h1
    | some d =>
      simp only [puts, hd]
      rw [getD_put_ne (fun e => h2 (by rw [hd, e])), h1]

theorem puts_some {m : Nat} (hok : Ok ops n m) (hm : m = a0.tmps.size) (val : Nat → Value) (s : Tmp) : ∀ k, k ≤ n → ∀ i, i < k → wrOf ops i = some s → (puts ops val a0 k).tmps.getD s undef = val i
  | 0, _, _, h, _ => by omega
  | k + 1, hk, i, hi, hw => by
    by_cases hik : i = k
    · subst hik
      simp only [puts, hw]
      exact getD_put_eq (by rw [puts_size, ← hm]; exact hok.dst i s (by omega) hw)
    · have h1 := puts_some hok hm val s k (by omega) i (by omega) hw
      cases hd : wrOf ops k with
      | none => simpa [puts, hd, Act.put] using h1
      | some d =>
        simp only [puts, hd]
        rw [getD_put_ne (fun e => hik (hok.uniq i k s (by omega) (by omega) hw (by rw [hd, e]))), h1]

theorem fin_of {w : World} {Ψ : Nat → Spec} {val : Nat → Value} : ∀ (k : Nat) (K : Act → Prop), (∀ i, i < k → Ψ i (val i) w) → ndFinR w a0 (accAt ops Ψ k) K → K (puts ops val a0 k)
  | 0, _, _, h => h
  | k + 1, K, hv, h => fin_of k (fun a => ∀ v, Ψ k v w → K (a.put (wrOf ops k) v)) (fun i hi => hv i (by omega)) h (val k) (hv k (by omega))

/-- **A REGION THAT DRAWS ITS ORDER**, its first n operations walked once, in the order of the text; the rest ('tail') stands behind all that is not a mere copy, and is left to the common walk. -/
theorem wp_region_ndA {id : Nat} {l : List Oper} {w0 : World} (n m : Nat) (X : List (Nat × Nat)) (C : World → Prop) (hf : P.follows .mixedOrders = true) (hB : okB l.toArray n m = true) (hm : m = a0.tmps.size)
    (h0 : C w0.drew) (hC : ∀ w w', C w → Rex (X.map (·.2)) w w' → C w') (hQ : ∀ c a d v w, Q (.panic c) (Act.put a d v) w → Q (.panic c) a w)
    (h : ndWalk P l.toArray C X a0 (fun acc => ∀ w, C w → ndFinR w a0 acc fun a => AllocApart (allocDsts (l.take n)) a → wpList P l.toArray Q (l.drop n) a w) 0 (l.take n) []) :
    (Code.region id l.toArray true).wp P Q a0 w0 := by
  have hok := ok_of_okB hB
  have hle : n ≤ l.length := by have := hok.le; simpa using this
  obtain ⟨Ψ, _, h2, h3⟩ := walk_spec (ops := l.toArray) (l.take n) 0 [] (fun _ _ _ => True) (fun j hj => by simp at hj; simp [hj]) rfl h
  have hlen : 0 + (l.take n).length = n := by simp; omega
  rw [hlen] at h3
  have hcl : ∀ i, i < n → Closed (others X i) (Ψ i) := fun i hi => (h2 i (by omega) (by omega)).1
  have hop : ∀ i o, i < n → l.toArray[i]? = some o → okOp P l.toArray C (priv X i) (envOf a0 (accAt l.toArray Ψ i)) o (Ψ i) := fun i o hi ho => by
    obtain ⟨_, o', ho', h⟩ := h2 i (by omega) (by omega)
    rw [ho] at ho'; injection ho' with e; subst e; exact h
  refine wp_region_any hf ?_
  refine nd_any hok hm hC hcl hop hQ ?_ _ _ _ _ ⟨h0, rfl, rfl, by simp, ?_, ?_, ?_, ?_, ?_, ?_⟩ (by simp) (fun t _ => getD_replicate_false _ t)
  · rintro a w ⟨listed, inv, hall⟩

    have hex : ∀ i, ∃ v, i < n → Ψ i v w ∧ ∀ d, wrOf l.toArray i = some d → v = a.tmps.getD d undef := by
      intro i
      by_cases hi : i < n
      · cases hd : wrOf l.toArray i with
        | none =>
          obtain ⟨u, hu⟩ := inv.eff i hi (hall i hi) hd
          exact ⟨u, fun _ => ⟨hu, fun d h => by cases h⟩⟩
        | some d => exact ⟨a.tmps.getD d undef, fun _ => ⟨inv.val i hi (hall i hi) d hd, fun d' h => by injection h with h; rw [h]⟩⟩
      · exact ⟨undef, fun h => absurd h hi⟩
    let val : Nat → Value := fun i => (hex i).choose
    have hval : ∀ i, i < n → Ψ i (val i) w ∧ ∀ d, wrOf l.toArray i = some d → val i = a.tmps.getD d undef := fun i hi => (hex i).choose_spec hi
    have ha : a = puts l.toArray val a0 n := by
      have ht : a.tmps = (puts l.toArray val a0 n).tmps := by
        apply Array.ext
        · rw [puts_size, inv.size]
        · intro s h1 h2
          have hg : a.tmps.getD s undef = (puts l.toArray val a0 n).tmps.getD s undef := by
            by_cases hw : ∃ i, i < n ∧ wrOf l.toArray i = some s
            · obtain ⟨i, hi, hw⟩ := hw
              rw [puts_some hok hm val s n (Nat.le_refl _) i hi hw, (hval i hi).2 s hw]
            · rw [puts_none val s n fun i hi hwi => hw ⟨i, hi, hwi⟩]
              exact inv.old s fun i hi _ hwi => hw ⟨i, hi, hwi⟩
          simpa [h1, h2] using hg
      have hd : a.defers = (puts l.toArray val a0 n).defers := by rw [puts_defers, inv.defers]
      cases a; cases hp : puts l.toArray val a0 n; rw [hp] at ht hd; simp at ht hd; subst ht; subst hd; rfl
    have hfin := fin_of (ops := l.toArray) (a0 := a0) (val := val) n _ (fun i hi => (hval i hi).1) (h3 w inv.c)
    rw [← ha] at hfin
    refine hfin ?_
    intro d d' hd hd' hne x hx
    simp only [allocDsts, List.mem_filterMap] at hd hd'
    obtain ⟨o, ho, hdo⟩ := hd
    obtain ⟨o', ho', hdo'⟩ := hd'
    obtain ⟨i, hi⟩ := List.mem_iff_getElem?.1 ho
    obtain ⟨j, hj⟩ := List.mem_iff_getElem?.1 ho'
    have ha1 : isAlloc o = true := by cases h : isAlloc o with | true => rfl | false => rw [h] at hdo; simp at hdo
    have ha2 : isAlloc o' = true := by cases h : isAlloc o' with | true => rfl | false => rw [h] at hdo'; simp at hdo'
    rw [ha1] at hdo; rw [ha2] at hdo'
    simp only [if_true] at hdo hdo'
    have hin : i < n := by
      rcases Nat.lt_or_ge i n with h | h
      · exact h
      · rw [List.getElem?_take, if_neg (by omega)] at hi; cases hi
    have hjn : j < n := by
      rcases Nat.lt_or_ge j n with h | h
      · exact h
      · rw [List.getElem?_take, if_neg (by omega)] at hj; cases hj
    rw [List.getElem?_take, if_pos hin] at hi
    rw [List.getElem?_take, if_pos hjn] at hj
    refine inv.apart i o d j o' d' hin hjn ?_ (hall i hin) (hall j hjn) (by simpa using hi) (by simpa using hj) ha1 ha2 hdo hdo' x hx
    rintro rfl
    rw [hi] at hj; injection hj with e; subst e; rw [hdo] at hdo'; injection hdo' with e; exact hne e
  · intro i o ho hl; rw [getD_replicate_false] at hl; cases hl
  · intro i hi hl; rw [getD_replicate_false] at hl; cases hl
  · intro i hi hl; rw [getD_replicate_false] at hl; cases hl
  · intro s _; rfl
  · intro i o d hi hl; rw [getD_replicate_false] at hl; cases hl
  · intro i o d j o' d' hi hj hij hl; rw [getD_replicate_false] at hl; cases hl

theorem ndWalk_mono {Fin Fin' : List (Option Tmp × Spec) → Prop} (hf : ∀ acc, Fin acc → Fin' acc) : ∀ (l : List Oper) (k : Nat) (acc : List (Option Tmp × Spec)), ndWalk P ops C X a0 Fin k l acc → ndWalk P ops C X a0 Fin' k l acc
  | [], _, _, h => hf _ h
  | _ :: l, k, _, ⟨Φ, h1, h2, h3⟩ => ⟨Φ, h1, h2, ndWalk_mono hf l (k + 1) _ h3⟩
theorem ndFinR_mono {w : World} : ∀ {K' : Act → Prop} (acc : List (Option Tmp × Spec)) (K : Act → Prop), (∀ a, K a → K' a) → ndFinR w a0 acc K → ndFinR w a0 acc K'
  | _, [], _, hk, h => hk _ h
  | _, (d, Φ) :: r, K, hk, h => ndFinR_mono r (fun a => ∀ v, Φ v w → K (a.put d v)) (fun _ ha v hv => hk _ (ha v hv)) h

/-- The same, where nothing is made. -/
theorem wp_region_nd {id : Nat} {l : List Oper} {w0 : World} (n m : Nat) (X : List (Nat × Nat)) (C : World → Prop) (hf : P.follows .mixedOrders = true) (hB : okB l.toArray n m = true) (hm : m = a0.tmps.size)
    (h0 : C w0.drew) (hC : ∀ w w', C w → Rex (X.map (·.2)) w w' → C w') (hQ : ∀ c a d v w, Q (.panic c) (Act.put a d v) w → Q (.panic c) a w)
    (h : ndWalk P l.toArray C X a0 (fun acc => ∀ w, C w → ndFinR w a0 acc fun a => wpList P l.toArray Q (l.drop n) a w) 0 (l.take n) []) :
    (Code.region id l.toArray true).wp P Q a0 w0 :=
  wp_region_ndA n m X C hf hB hm h0 hC hQ (ndWalk_mono (fun acc hacc w hc => ndFinR_mono (K' := fun a => AllocApart (allocDsts (l.take n)) a → wpList P l.toArray Q (l.drop n) a w) acc _ (fun _ ha _ => ha) (hacc w hc)) _ _ _ h)

/-- Without a tail nothing is asked of what stands behind a panic. -/
theorem wp_region_ndQ {id : Nat} {l : List Oper} {w0 : World} (n m : Nat) (X : List (Nat × Nat)) (C : World → Prop) (hf : P.follows .mixedOrders = true) (hB : okB l.toArray n m = true) (hm : m = a0.tmps.size)
    (h0 : C w0.drew) (hC : ∀ w w', C w → Rex (X.map (·.2)) w w' → C w') (hn : l.drop n = [])
    (h : ndWalk P l.toArray C X a0 (fun acc => ∀ w, C w → ndFinR w a0 acc fun a => wpList P l.toArray Q (l.drop n) a w) 0 (l.take n) []) :
    (Code.region id l.toArray true).wp P Q a0 w0 := by
  refine wp_mono (Q := fun e a w => match e with | .panic _ => False | e => Q e a w) (wp_region_nd n m X C hf hB hm h0 hC (fun _ _ _ _ _ h => h) (ndWalk_mono (fun acc hacc w hc => ndFinR_mono acc _ (fun a ha => ?_) (hacc w hc)) _ _ _ h)) fun e a w h => ?_
  · rw [hn] at ha ⊢; exact ha
  · cases e <;> first | exact h | exact h.elim

/-! ### The same steps through a region whose order is the text's -/
def Hold (a0 : Act) : List (Option Tmp × Spec) → Act → World → Prop
  | [], a, _ => a = a0
  | (d, Φ) :: r, a, w => ∃ a' v, Hold a0 r a' w ∧ Φ v w ∧ a = a'.put d v

theorem Hold.fin {w : World} : ∀ (acc : List (Option Tmp × Spec)) (a : Act) (K : Act → Prop), Hold a0 acc a w → ndFinR w a0 acc K → K a
  | [], a, K, h, hf => by rw [show a = a0 from h]; exact hf
  | (d, Φ) :: r, a, K, h, hf => by
    obtain ⟨a', v, h', hv, rfl⟩ := h
    exact Hold.fin r a' _ h' hf v hv
theorem Hold.size {w : World} : ∀ (acc : List (Option Tmp × Spec)) (a : Act), Hold a0 acc a w → a.tmps.size = a0.tmps.size
  | [], a, h => by rw [show a = a0 from h]
  | (d, Φ) :: r, a, h => by
    obtain ⟨a', v, h', _, rfl⟩ := h
    rw [← Hold.size r a' h']
    cases d <;> simp [Act.put]
theorem Hold.env {w : World} (s : Tmp) : ∀ (acc : List (Option Tmp × Spec)) (a : Act), (∀ p ∈ acc, ∀ d, p.1 = some d → d < a0.tmps.size) → Hold a0 acc a w → envOf a0 acc s (a.tmps.getD s undef) w
  | [], a, _, h => by rw [show a = a0 from h]; rfl
  | (d, Φ) :: r, a, hb, h => by
    obtain ⟨a', v, h', hv, rfl⟩ := h
    by_cases hd : d = some s
    · subst hd
      have hlt : s < a'.tmps.size := by rw [Hold.size r a' h']; exact hb _ (List.mem_cons_self ..) s rfl
      have he : envOf a0 ((some s, Φ) :: r) s = Φ := by simp [envOf]
      rw [he, getD_put_eq hlt]
      exact hv
    · have he : envOf a0 ((d, Φ) :: r) s = envOf a0 r s := by
        have : (d == some s) = false := by simpa using hd
        simp [envOf, this]
      have hg : (a'.put d v).tmps.getD s undef = a'.tmps.getD s undef := by
        cases d with
        | none => rfl
        | some d => exact getD_put_ne (fun e => hd (by rw [e]))
      rw [he, hg]
      exact Hold.env s r a' (fun p hp => hb p (List.mem_cons_of_mem _ hp)) h'
theorem Hold.keep {L : List Nat} {w w' : World} (hr : Rex L w w') : ∀ (acc : List (Option Tmp × Spec)) (a : Act), (∀ p ∈ acc, Closed L p.2) → Hold a0 acc a w → Hold a0 acc a w'
  | [], _, _, h => h
  | (d, Φ) :: r, a, hc, h => by
    obtain ⟨a', v, h', hv, rfl⟩ := h
    exact ⟨a', v, Hold.keep hr r a' (fun p hp => hc p (List.mem_cons_of_mem _ hp)) h', hc _ (List.mem_cons_self ..) v w w' hr hv, rfl⟩

def InB (m : Nat) (l : List Oper) : Bool := l.all fun o => match o.dst with | some d => decide (d < m) | none => true

theorem seq_walk {Fin : List (Option Tmp × Spec) → Prop} {K : Act → World → Prop} (hC : ∀ w w', C w → Rex (X.map (·.2)) w w' → C w') (tail : List Oper)
    (hFin : ∀ acc a w, Fin acc → C w → Hold a0 acc a w → wpList P ops Q tail a w) :
    ∀ (l : List Oper) (k : Nat) (acc : List (Option Tmp × Spec)) (a : Act) (w : World), (∀ o ∈ l, ∀ d, o.dst = some d → d < a0.tmps.size) → (∀ p ∈ acc, ∀ d, p.1 = some d → d < a0.tmps.size) →
      (∀ j, k ≤ j → ∀ p ∈ acc, Closed (priv X j) p.2) → C w → Hold a0 acc a w → ndWalk P ops C X a0 Fin k l acc → wpList P ops Q (l ++ tail) a w
  | [], k, acc, a, w, _, _, _, hc, hh, h => hFin acc a w h hc hh
  | o :: l, k, acc, a, w, hb, hba, hcl, hc, hh, h => by
    obtain ⟨Φ, h1, h2, h3⟩ := h
    have go : ∀ (u : Value) (w' : World), Rex (priv X k) w w' → Φ u w' → wpList P ops Q (l ++ tail) (a.put o.dst u) w' := by
      intro u w' hR hu
      refine seq_walk (K := K) hC tail hFin l (k + 1) ((o.dst, Φ) :: acc) _ w' (fun o' ho' => hb o' (List.mem_cons_of_mem _ ho')) ?_ ?_ (hC _ _ hc (hR.more priv_all)) ⟨a, u, ?_, hu, rfl⟩ h3
      · intro p hp d hd
        rcases List.mem_cons.1 hp with rfl | hp
        · exact hb o (List.mem_cons_self ..) d hd
        · exact hba p hp d hd
      · intro j hj p hp
        rcases List.mem_cons.1 hp with rfl | hp
        · exact fun v w w' hr hv => h1 v w w' (hr.more (priv_sub (by omega))) hv
        · exact hcl j (by omega) p hp
      · exact Hold.keep hR acc a (hcl k (Nat.le_refl _)) hh
    obtain ⟨g1, g2⟩ := h2 a w hc (fun s _ => Hold.env s acc a hba hh)
    simp only [List.cons_append]
    unfold wpList
    by_cases hw : Region.wanted o (yielded ops a.tmps) = true
    · rw [if_pos hw]
      refine .inl ?_
      have g1 := g1 hw
      unfold Oper.wp
      generalize (execOp a.eval o).run P w = r at g1
      cases r with
      | ok x w' =>
        cases x <;> simp only [runND] at g1 <;> simp only [Oper.upon]
        case value u => exact go u w' g1.1 g1.2.1
        case skip => exact go undef w' g1.1 g1.2.1
        case enter f args =>
          obtain ⟨rfl, _, hcall⟩ := g1
          refine hcall.mono fun e w'' ⟨u, he, hR, hΦ⟩ => ?_
          subst he
          exact go u w'' hR hΦ
      | halt x w' => simp only [runND] at g1
    · have hw' : Region.wanted o (yielded ops a.tmps) = false := by simpa using hw
      rw [if_neg hw]
      exact go undef w (Rex.refl _ _) (g2 hw')

/-- **A REGION IN THE TEXT's ORDER**, its first n operations by the same steps. -/
theorem wp_region_sq {id : Nat} {l : List Oper} {w0 : World} (n m : Nat) (X : List (Nat × Nat)) (C : World → Prop) (hB : InB m l = true) (hm : m = a0.tmps.size) (h0 : C w0)
    (hC : ∀ w w', C w → Rex (X.map (·.2)) w w' → C w') (h : ndWalk P l.toArray C X a0 (fun acc => ∀ w, C w → ndFinR w a0 acc fun a => wpList P l.toArray Q (l.drop n) a w) 0 (l.take n) []) :
    (Code.region id l.toArray false).wp P Q a0 w0 := by
  have hb : ∀ o ∈ l, ∀ d, o.dst = some d → d < a0.tmps.size := by
    intro o ho d hd
    have := List.all_eq_true.1 hB o ho
    rw [hd] at this
    rw [← hm]
    simpa using this
  have := seq_walk (P := P) (ops := l.toArray) (Q := Q) (a0 := a0) (K := fun _ _ => True) hC (l.drop n) (fun acc a w hF hc hh => Hold.fin acc a (fun a => wpList P l.toArray Q (l.drop n) a w) hh (hF w hc)) (l.take n) 0 [] a0 w0
    (fun o ho => hb o (List.mem_of_mem_take ho)) (fun p hp => by cases hp) (fun _ _ p hp => by cases hp) h0 rfl h
  rw [List.take_append_drop] at this
  exact wp_region_lit this
end

end Go.Proofs.YtbanjolokkghdaaGreatDoor
