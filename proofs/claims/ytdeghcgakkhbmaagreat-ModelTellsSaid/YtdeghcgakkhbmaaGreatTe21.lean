/- Parts of the proof that follows: A run of closed code: a region that draws its order, what its steps turn. No condition. | A run of closed code: a region that draws its order, one step in whatever order: the memory. No condition. | A run of closed code: a region that draws its order. No condition. | A run of closed code: what the steps leave as it was; a step taken apart. No condition. | A run of closed code: what the steps of the machine do: ranges over functions, rounds, calls. No condition. | A run of closed code: a step of the runner is a walk of the machine. No condition. | The chapter's closed code answers true. No condition. -/
import Derived.OrdersIn
import Derived.RangeFuncNested
import Derived.RangeFuncRecord
import Derived.LoopNIn
import Derived.Scope
import Derived.Test.YtdeghcgakkhbmaaGreatProg
import Derived.Test.YtdeghcgakkhbmaaGreatTe20
set_option linter.unusedSimpArgs false
set_option linter.unusedVariables false
namespace Go.Proofs.YtdeghcgakkhbmaaGreat
open Go.RowKit
set_option maxRecDepth 100000
structure RC (P : Program) (R : Rec) (ops : Array Oper) (ps : List (Nat × Nat)) (F : Nat → Fr) (S : Nat → St) (RS : Nat → List (Nat × Nat × Nat)) (V : Nat → Value) : Prop where
  hM : RM R
  step : ∀ k, k < ops.size → StepT P R ops ps k (F k) (S k) (RS k) (F (k + 1)) (S (k + 1)) (RS (k + 1)) (V k)
  rs0 : RS 0 = []
  ok : okR (S 0).ng ops = true
  ap : apartB (S 0).lim (S 0).one (S 0).next ps = true
  nb : (S 0).next ≤ big
  up0 : ∀ k, (S 0).next ≤ k → (S 0).T.get k = none
  hl0 : ∀ k, hidden (S 0).hid k = true → k < (S 0).next
  fm : (F 0).m ≤ big
  gn : (S 0).ng ≤ (S 0).next
/-- the third kind of step -/
def Third (P : Program) (R : Rec) (ops : Array Oper) (ps : List (Nat × Nat)) (F : Nat → Fr) (S : Nat → St) (RS : Nat → List (Nat × Nat × Nat)) (V : Nat → Value) (k : Nat) : Prop :=
  ∃ o, ops[k]? = some o ∧ guardB ops (F k) o = true ∧ pureK o = false ∧ ∃ q, execH P R (F k).ev o (inEv (AA ops) (WW ops) ps k (RS k) (S k)) = some (V k, q) ∧ S (k + 1) = back (S k) q ∧ RS (k + 1) = (k, (S k).next, q.next) :: RS k
section
variable {P : Program} {R : Rec} {ops : Array Oper} {ps : List (Nat × Nat)} {F : Nat → Fr} {S : Nat → St} {RS : Nat → List (Nat × Nat × Nat)} {V : Nat → Value}
def inK (ops : Array Oper) (ps : List (Nat × Nat)) (S : Nat → St) (RS : Nat → List (Nat × Nat × Nat)) (k : Nat) : St := inEv (AA ops) (WW ops) ps k (RS k) (S k)
theorem RC.kind (c : RC P R ops ps F S RS V) {k : Nat} (hk : k < ops.size) : (S (k + 1) = S k ∧ RS (k + 1) = RS k) ∨ Third P R ops ps F S RS V k := by
  obtain ⟨o, ho, _, h⟩ := c.step k hk
  rcases h with ⟨_, _, h1, h2⟩ | ⟨_, _, _, h1, h2⟩ | ⟨h1, h2, q, h3, h4, h5⟩
  · exact .inl ⟨h1, h2⟩
  · exact .inl ⟨h1, h2⟩
  · exact .inr ⟨o, ho, h1, h2, q, h3, h4, h5⟩
theorem RC.base (c : RC P R ops ps F S RS V) : ∀ k, k ≤ ops.size → (S k).lim = (S 0).lim ∧ (S k).one = (S 0).one ∧ (S k).hid = (S 0).hid ∧ (S k).next ≤ big ∧ Mono (S 0) (S k)
  | 0, _ => ⟨rfl, rfl, rfl, c.nb, Mono.refl _⟩
  | k + 1, hk => by
    obtain ⟨h1, h2, h3, h4, h5⟩ := c.base k (by omega)
    rcases c.kind (show k < ops.size by omega) with ⟨e, _⟩ | ⟨o, ho, hg, hp, q, hq, e, _⟩
    · rw [e]; exact ⟨h1, h2, h3, h4, h5⟩
    · have hap : apartB (S k).lim (S k).one (S 0).next ps = true := by rw [h1, h2]; exact c.ap
      obtain ⟨m, hb⟩ := back_mb (s := S k) hap (execH_mb c.hM hq) h4
      rw [e]
      exact ⟨h1, h2, h3, hb, h5.trans m⟩
theorem RC.m1 (c : RC P R ops ps F S RS V) {k : Nat} (hk : k < ops.size) : Mono (S k) (S (k + 1)) := by
  obtain ⟨h1, h2, h3, h4, h5⟩ := c.base k (by omega)
  rcases c.kind hk with ⟨e, _⟩ | ⟨o, ho, hg, hp, q, hq, e, _⟩
  · rw [e]; exact Mono.refl _
  · have hap : apartB (S k).lim (S k).one (S 0).next ps = true := by rw [h1, h2]; exact c.ap
    rw [e]; exact (back_mb (s := S k) hap (execH_mb c.hM hq) h4).1
theorem RC.mono (c : RC P R ops ps F S RS V) {j : Nat} : ∀ k, j ≤ k → k ≤ ops.size → Mono (S j) (S k)
  | 0, h, _ => by obtain rfl : j = 0 := by omega
                  exact Mono.refl _
  | k + 1, h, hk => by
    rcases Nat.lt_or_ge k j with h1 | h1
    · obtain rfl : j = k + 1 := by omega
      exact Mono.refl _
    · exact (c.mono k h1 (by omega)).trans (c.m1 (by omega))
theorem RC.upk (c : RC P R ops ps F S RS V) {k : Nat} (hk : k ≤ ops.size) : ∀ i, (S k).next ≤ i → (S k).T.get i = none := (c.base k hk).2.2.2.2.up c.up0
theorem RC.inK_next (_c : RC P R ops ps F S RS V) (k : Nat) : (inK ops ps S RS k).next = (S k).next := (inEv_T _ _ _ _ _ _).2.1
theorem RC.inK_ng' (_c : RC P R ops ps F S RS V) (k : Nat) : (inK ops ps S RS k).ng = (S k).ng := (inEv_T _ _ _ _ _ _).2.2
theorem RC.inK_T (_c : RC P R ops ps F S RS V) (k : Nat) : (inK ops ps S RS k).T = (S k).T := (inEv_T _ _ _ _ _ _).1
theorem RC.rs_mem (c : RC P R ops ps F S RS V) {j : Nat} (hj : j < ops.size) (ht : Third P R ops ps F S RS V j) : ∀ k, j < k → k ≤ ops.size → (j, (S j).next, (S (j + 1)).next) ∈ RS k
  | 0, h, _ => by omega
  | k + 1, h, hk => by
    by_cases e : j = k
    · subst e
      obtain ⟨o, ho, hg, hp, q, hq, e1, e2⟩ := ht
      rw [e2, e1]; exact List.mem_cons_self ..
    · have ih := c.rs_mem hj ht k (by omega) (by omega)
      rcases c.kind (show k < ops.size by omega) with ⟨_, e2⟩ | ⟨o, ho, hg, hp, q, hq, e1, e2⟩
      · rw [e2]; exact ih
      · rw [e2]; exact List.mem_cons_of_mem _ ih
theorem RC.rs_le (c : RC P R ops ps F S RS V) : ∀ k, k ≤ ops.size → ∀ p ∈ RS k, p.2.2 ≤ (S k).next
  | 0, _, p, hp => by rw [c.rs0] at hp; cases hp
  | k + 1, hk, p, hp => by
    have hm := (c.m1 (show k < ops.size by omega)).next
    have ih := c.rs_le k (by omega)
    rcases c.kind (show k < ops.size by omega) with ⟨e1, e2⟩ | ⟨o, ho, hg, hq', q, hq, e1, e2⟩
    · rw [e2] at hp; rw [e1]; exact ih p hp
    · rw [e2] at hp
      rcases List.mem_cons.1 hp with rfl | hp
      · rw [e1]; exact Nat.le_refl _
      · exact Nat.le_trans (ih p hp) hm
theorem hidden_mem {a b k : Nat} : ∀ {l : List (Nat × Nat)}, (a, b) ∈ l → a ≤ k → k < b → hidden l k = true
  | [], h, _, _ => by cases h
  | (x, y) :: l, h, h1, h2 => by
    simp only [hidden, Bool.or_eq_true, Bool.and_eq_true, Nat.ble_eq]
    rcases List.mem_cons.1 h with e | h
    · injection e with e1 e2; subst e1; subst e2
      exact .inl ⟨h1, by simp [Nat.blt]; omega⟩
    · exact .inr (hidden_mem h h1 h2)
theorem hidden_lt {n : Nat} : ∀ {l : List (Nat × Nat)}, (∀ p ∈ l, p.2 ≤ n) → ∀ k, hidden l k = true → k < n
  | [], _, k, h => by cases h
  | (x, y) :: l, hl, k, h => by
    simp only [hidden, Bool.or_eq_true, Bool.and_eq_true] at h
    rcases h with h | h
    · have := blt_lt h.2; have := hl (x, y) (by simp); omega
    · exact hidden_lt (fun p hp => hl p (by simp [hp])) k h
theorem RC.hlt (c : RC P R ops ps F S RS V) {k : Nat} (hk : k ≤ ops.size) : ∀ i, hidden (inK ops ps S RS k).hid i = true → i < (S k).next := by
  obtain ⟨h1, h2, h3, h4, h5⟩ := c.base k hk
  have h0 : ∀ i, hidden (S k).hid i = true → i < (S k).next := fun i hi => by
    rw [h3] at hi; exact Nat.lt_of_lt_of_le (c.hl0 i hi) h5.next
  intro i hi
  unfold inK inEv at hi
  cases hw : (WW ops).getD k false with
  | true => rw [hw] at hi; exact h0 i hi
  | false =>
    rw [hw] at hi
    have hi : hidden (hidOf (AA ops) k (RS k) ps ++ (S k).hid) i = true := hi
    rw [hidden_app, Bool.or_eq_true] at hi
    rcases hi with hi | hi
    · refine hidden_lt (n := (S k).next) (fun p hp => ?_) i hi
      unfold hidOf at hp
      rcases List.mem_append.1 hp with hp | hp
      · obtain ⟨q, hq, e⟩ := List.mem_filterMap.1 hp
        cases hb : bitL (AA ops) k q.1 with
        | true => rw [hb] at e; cases e
        | false => rw [hb] at e; injection e with e; subst e; exact c.rs_le k hk q hq
      · obtain ⟨q, hq, e⟩ := List.mem_filterMap.1 hp
        cases hb : (Nat.beq q.1 k || aheadB (AA ops) k q.1) with
        | true => rw [hb] at e; cases e
        | false => rw [hb] at e; injection e with e; subst e; have := (apartB_mem c.ap q hq).2; have := h5.next; show q.2 + 1 ≤ _; omega
    · exact h0 i hi
/-- step k turns what number id has -/
def Turns (S : Nat → St) (k id : Nat) : Prop := (S (k + 1)).T.get id ≠ (S k).T.get id
def Sees (ops : Array Oper) (ps : List (Nat × Nat)) (S : Nat → St) (RS : Nat → List (Nat × Nat × Nat)) (k id : Nat) : Prop := id < (S k).next ∧ hidden (inK ops ps S RS k).hid id = false
theorem RC.turns (c : RC P R ops ps F S RS V) {k id : Nat} (hk : k < ops.size) (h : Turns S k id) : Third P R ops ps F S RS V k ∧ ((Sees ops ps S RS k id ∧ wrt (inK ops ps S RS k) id) ∨ ((S k).next ≤ id ∧ id < (S (k + 1)).next)) := by
  rcases c.kind hk with ⟨e, _⟩ | ht
  · exact absurd (by rw [e]) h
  refine ⟨ht, ?_⟩
  rcases Nat.lt_or_ge id (S k).next with h1 | h1
  · left
    obtain ⟨o, ho, hg, hp, q, hq, e1, e2⟩ := ht
    have h4 := (c.base k (by omega)).2.2.2.1
    obtain ⟨m, _⟩ := execH_mb c.hM hq (by rw [(inEv_T _ _ _ _ _ _).2.1]; exact h4)
    have hs : ¬ (¬ wrt (inK ops ps S RS k) id ∨ hidden (inK ops ps S RS k).hid id = true) := fun hh => by
      have := m.same id (by rw [(inEv_T _ _ _ _ _ _).2.1]; exact h1) hh
      rw [(inEv_T _ _ _ _ _ _).1] at this
      apply h
      rw [e1]; exact this
    refine ⟨⟨h1, ?_⟩, ?_⟩
    · cases e : hidden (inK ops ps S RS k).hid id with
      | false => rfl
      | true => exact absurd (.inr e) hs
    · exact Classical.not_not.1 fun hh => hs (.inl hh)
  · right
    refine ⟨h1, ?_⟩
    rcases Nat.lt_or_ge id (S (k + 1)).next with h2 | h2
    · exact h2
    · exact absurd ((c.upk (show k + 1 ≤ ops.size by omega) id h2).trans (c.upk (show k ≤ ops.size by omega) id h1).symm) h
/-- What one step sees and another turns: the one stands ahead of the other. -/
theorem RC.cmp (c : RC P R ops ps F S RS V) {i k id : Nat} (hi : i < ops.size) (hk : k < ops.size) (hne : i ≠ k) (ti : Third P R ops ps F S RS V i) (hs : Sees ops ps S RS i id) (ht : Turns S k id) : aheadB (AA ops) i k = true := by
  obtain ⟨tk, hd⟩ := c.turns hk ht
  have tk0 := tk
  obtain ⟨oi, hoi, _, hpi, _⟩ := ti
  obtain ⟨ok, hok, _, hpk, _⟩ := tk
  cases hwi : (WW ops).getD i false with
  | true => exact ww_ahead hwi (Ne.symm hne) hok hpk
  | false =>
    cases hwk : (WW ops).getD k false with
    | true => rw [ahead_symm hne]; exact ww_ahead hwk hne hoi hpi
    | false =>
      cases ha : aheadB (AA ops) i k with
      | true => rfl
      | false =>
        exfalso
        have hh := hs.2
        have e1 : (inK ops ps S RS i).hid = hidOf (AA ops) i (RS i) ps ++ (S i).hid := by unfold inK inEv; rw [hwi]; rfl
        rw [e1, hidden_app, Bool.or_eq_false_iff] at hh
        unfold hidOf at hh
        rw [hidden_app, Bool.or_eq_false_iff] at hh
        obtain ⟨⟨h1, h2⟩, _⟩ := hh
        have hnew : (S k).next ≤ id → id < (S (k + 1)).next → False := fun g1 g2 => by
          rcases Nat.lt_or_ge k i with hlt | hge
          · have hm := c.rs_mem hk tk0 i hlt (by omega)
            have : ((S k).next, (S (k + 1)).next) ∈ (RS i).filterMap fun r => bif bitL (AA ops) i r.1 then none else some (r.2.1, r.2.2) := by
              refine List.mem_filterMap.2 ⟨_, hm, ?_⟩
              simp only []
              rw [ahead_lt hlt] at ha
              rw [ha]; rfl
            rw [hidden_mem this g1 g2] at h1; cases h1
          · have := (c.mono k (show i ≤ k by omega) (by omega)).next
            have := hs.1
            omega
        rcases hd with ⟨⟨g1, _⟩, g2⟩ | ⟨g1, g2⟩
        · have e2 : inK ops ps S RS k = { S k with lim := (S k).next, one := oneOf k ps, hid := hidOf (AA ops) k (RS k) ps ++ (S k).hid } := by unfold inK inEv; rw [hwk]; rfl
          rw [e2] at g2
          rcases g2 with g2 | g2
          · have g2 : (S k).next ≤ id := g2; omega
          · have g2 : id = oneOf k ps := g2
            rcases oneOf_mem (i := k) (ps := ps) with e | e
            · have := (c.base k (by omega)).2.2.2.1; omega
            · rw [← g2] at e
              have : (id, id + 1) ∈ ps.filterMap fun p => bif Nat.beq p.1 i || aheadB (AA ops) i p.1 then none else some (p.2, Nat.succ p.2) := by
                refine List.mem_filterMap.2 ⟨_, e, ?_⟩
                simp only []
                rw [ha, show Nat.beq k i = false by
                  cases e3 : Nat.beq k i with
                  | false => rfl
                  | true => exact absurd (Nat.eq_of_beq_eq_true e3) (Ne.symm hne)]
                rfl
              rw [hidden_mem this (Nat.le_refl _) (by omega)] at h2; cases h2
        · exact hnew g1 g2
open Classical in
/-- What number id has, where the steps of L have been carried out. -/
noncomputable def vw (S : Nat → St) (L : Nat → Bool) (id : Nat) : Nat → Option AO
  | 0 => (S 0).T.get id
  | n + 1 => if L n = true ∧ Turns S n id then (S (n + 1)).T.get id else vw S L id n
theorem vw_congr {L L' : Nat → Bool} {id : Nat} : ∀ n, (∀ k, k < n → Turns S k id → L k = L' k) → vw S L id n = vw S L' id n
  | 0, _ => rfl
  | n + 1, h => by
    have ih := vw_congr n fun k hk => h k (by omega)
    simp only [vw]
    by_cases ht : Turns S n id
    · rw [h n (by omega) ht, ih]
    · rw [if_neg fun hh => ht hh.2, if_neg fun hh => ht hh.2, ih]
/-- all that turns it has been carried out -/
theorem vw_done {L : Nat → Bool} {id : Nat} : ∀ n, (∀ k, k < n → Turns S k id → L k = true) → vw S L id n = (S n).T.get id
  | 0, _ => rfl
  | n + 1, h => by
    have ih := vw_done n fun k hk => h k (by omega)
    simp only [vw]
    by_cases ht : Turns S n id
    · rw [if_pos ⟨h n (by omega) ht, ht⟩]
    · rw [if_neg fun hh => ht hh.2, ih]
      exact (Classical.not_not.1 ht).symm
theorem vw_stay {L : Nat → Bool} {id i : Nat} : ∀ n, i ≤ n → (∀ k, i ≤ k → k < n → Turns S k id → L k = false) → vw S L id n = vw S L id i
  | 0, h, _ => by obtain rfl : i = 0 := by omega
                  rfl
  | n + 1, h, hk => by
    rcases Nat.lt_or_ge n i with h1 | h1
    · obtain rfl : i = n + 1 := by omega
      rfl
    · have ih := vw_stay n h1 fun k g1 g2 => hk k g1 (by omega)
      simp only [vw]
      rw [if_neg (fun hh => (by have := hk n h1 (by omega) hh.2; rw [hh.1] at this; cases this))]
      exact ih
end
end Go.Proofs.YtdeghcgakkhbmaaGreat
namespace Go.Proofs.YtdeghcgakkhbmaaGreat
open Go.RowKit
set_option maxRecDepth 100000
theorem Upon.mono {P : Program} {K K' : Value → World → Prop} {res : Result Go.Next} (h : Upon P K res) (hk : ∀ v w, K v w → K' v w) : Upon P K' res := by
  cases res with
  | halt x w' => exact h
  | ok x w' =>
    cases x <;> simp only [Upon] at h ⊢
    · exact hk _ _ h
    · exact hk _ _ h
    · exact fun n => (h n).mono fun e w'' ⟨v, e1, e2⟩ => ⟨v, e1, hk _ _ e2⟩
    · exact fun n => (h n).mono fun e w'' ⟨v, e1, e2⟩ => ⟨v, e1, hk _ _ e2⟩
structure HI (P : Program) (ops : Array Oper) (S : Nat → St) (r0 : Rn) (w0 : World) (L : Nat → Bool) (r : Rn) (w : World) : Prop where
  obj : ∀ id o, hidden (S 0).hid id = false → vw S L id ops.size = some o → ∃ b x o', r id = some (b, x) ∧ w.heap[b]? = some o' ∧ OR P r x o o'
  inj : ∀ id id' b x x', hidden (S 0).hid id = false → hidden (S 0).hid id' = false → vw S L id ops.size ≠ none → vw S L id' ops.size ≠ none → r id = some (b, x) → r id' = some (b, x') → id = id'
  fresh : ∀ j, j < ops.size → L j = false → ∀ k, (S j).next ≤ k → k < (S (j + 1)).next → r k = none
  rr : ∀ k, k < (S 0).next ∨ (S ops.size).next ≤ k → r k = r0 k
  size : w0.heap.size ≤ w.heap.size
  os : w.os = w0.os
  tape : w.tape = w0.tape
  output : w.output = w0.output
  frame : ∀ b, b < w0.heap.size → (∀ k x, k < (S 0).next → wrt (S 0) k → (S 0).get k ≠ none → r0 k ≠ some (b, x)) → w.heap[b]? = w0.heap[b]?
  new : ∀ k b x, (S 0).next ≤ k → hidden (S 0).hid k = false → vw S L k ops.size ≠ none → r k = some (b, x) → w0.heap.size ≤ b ∨ ∃ k0 x0, k0 < (S 0).next ∧ wrt (S 0) k0 ∧ (S 0).get k0 ≠ none ∧ r0 k0 = some (b, x0)
  gl : ∀ g, g < (S 0).ng → r g = some (g, 0)
def Lx (L : Nat → Bool) (i : Nat) : Nat → Bool := fun j => if j = i then true else L j
structure RF (ops : Array Oper) (L : Nat → Bool) (i : Nat) : Prop where
  unl : L i = false
  anc : ∀ k, bitL (AA ops) i k = true → L k = true
  desc : ∀ k, k < ops.size → bitL (AA ops) k i = true → L k = false
section
variable {P : Program} {R : Rec} {ops : Array Oper} {ps : List (Nat × Nat)} {F : Nat → Fr} {S : Nat → St} {RS : Nat → List (Nat × Nat × Nat)} {V : Nat → Value} {r0 r : Rn} {w0 w : World} {L : Nat → Bool} {i : Nat}
theorem RC.hid0 (c : RC P R ops ps F S RS V) (hi : i ≤ ops.size) {id : Nat} (h : hidden (inK ops ps S RS i).hid id = false) : hidden (S 0).hid id = false := by
  cases e : hidden (S 0).hid id with
  | false => rfl
  | true =>
    have := hid_inI (A := AA ops) (W := WW ops) (ps := ps) (i := i) (rs := RS i) (s := S i) (k := id) (by rw [(c.base i hi).2.2.1]; exact e)
    unfold inK at h
    rw [this] at h; cases h
theorem RC.get_sees (c : RC P R ops ps F S RS V) (hi : i ≤ ops.size) {id : Nat} {o : AO} (h : (inK ops ps S RS i).get id = some o) : Sees ops ps S RS i id ∧ (S i).T.get id = some o := by
  rw [getT] at h
  split at h
  · cases h
  · rename_i hh
    rw [c.inK_T] at h
    refine ⟨⟨?_, by simpa using hh⟩, h⟩
    rcases Nat.lt_or_ge id (S i).next with h1 | h1
    · exact h1
    · rw [c.upk hi id h1] at h; cases h
theorem RC.see (c : RC P R ops ps F S RS V) (hi : i < ops.size) (rf : RF ops L i) (ti : Third P R ops ps F S RS V i) {id : Nat} (hs : Sees ops ps S RS i id) : vw S L id ops.size = (S i).T.get id := by
  rw [vw_stay ops.size (i := i) (by omega) ?_, vw_done i ?_]
  · intro k hk ht
    have := c.cmp hi (by omega) (by omega) ti hs ht
    rw [ahead_lt hk] at this
    exact rf.anc k this
  · intro k hk hk2 ht
    by_cases e : k = i
    · subst e; exact rf.unl
    · have := c.cmp hi hk2 (Ne.symm e) ti hs ht
      rw [ahead_symm (Ne.symm e), ahead_lt (by omega)] at this
      exact rf.desc k hk2 this
theorem RC.see' (c : RC P R ops ps F S RS V) (hi : i < ops.size) (rf : RF ops L i) (ti : Third P R ops ps F S RS V i) {id : Nat} (hs : Sees ops ps S RS i id) : vw S (Lx L i) id ops.size = (S (i + 1)).T.get id := by
  rw [vw_stay ops.size (i := i + 1) (by omega) ?_, vw_done (i + 1) ?_]
  · intro k hk ht
    unfold Lx
    by_cases e : k = i
    · rw [if_pos e]
    · rw [if_neg e]
      have := c.cmp hi (by omega) (by omega) ti hs ht
      rw [ahead_lt (by omega)] at this
      exact rf.anc k this
  · intro k hk hk2 ht
    unfold Lx
    rw [if_neg (by omega)]
    have := c.cmp hi hk2 (by omega) ti hs ht
    rw [ahead_symm (by omega), ahead_lt (by omega)] at this
    exact rf.desc k hk2 this
theorem RC.new' (c : RC P R ops ps F S RS V) (hi : i < ops.size) (rf : RF ops L i) {id : Nat} (h1 : (S i).next ≤ id) (h2 : id < (S (i + 1)).next) : vw S (Lx L i) id ops.size = (S (i + 1)).T.get id := by
  rw [vw_stay ops.size (i := i + 1) (by omega) ?_, vw_done (i + 1) ?_]
  · intro k hk ht
    unfold Lx
    by_cases e : k = i
    · rw [if_pos e]
    · exfalso
      obtain ⟨_, hd⟩ := c.turns (by omega) ht
      have g1 := (c.mono i (show k + 1 ≤ i by omega) (by omega)).next
      have g2 := (c.mono i (show k ≤ i by omega) (by omega)).next
      rcases hd with ⟨⟨q1, _⟩, _⟩ | ⟨_, q1⟩ <;> omega
  · intro k hk hk2 ht
    unfold Lx
    rw [if_neg (by omega)]
    obtain ⟨tk, hd⟩ := c.turns hk2 ht
    have g1 := (c.mono k (show i + 1 ≤ k by omega) (by omega)).next
    rcases hd with ⟨hs, _⟩ | ⟨q1, _⟩
    · by_cases hti : Turns S i id
      · have := c.cmp hk2 hi (by omega) tk hs hti
        rw [ahead_lt (by omega)] at this
        exact rf.desc k hk2 this
      · exfalso
        have e0 : (S (i + 1)).T.get id = none := (Classical.not_not.1 hti).trans (c.upk (by omega) id h1)
        have e1 := (c.mono k (show i + 1 ≤ k by omega) (by omega)).dead id h2 e0
        have e2 := (c.mono (k + 1) (show i + 1 ≤ k + 1 by omega) (by omega)).dead id h2 e0
        exact ht (e2.trans e1.symm)
    · omega
theorem RC.old' (c : RC P R ops ps F S RS V) (hi : i < ops.size) {id : Nat} (h1 : ¬ Sees ops ps S RS i id) (h2 : ¬ ((S i).next ≤ id ∧ id < (S (i + 1)).next)) : vw S (Lx L i) id ops.size = vw S L id ops.size := by
  refine vw_congr ops.size fun k hk ht => ?_
  unfold Lx
  rw [if_neg]
  rintro rfl
  obtain ⟨_, hd⟩ := c.turns hk ht
  rcases hd with ⟨hs, _⟩ | hn
  · exact h1 hs
  · exact h2 hn
/-- a step that looks at no memory -/
theorem RC.pure' (c : RC P R ops ps F S RS V) (hI : HI P ops S r0 w0 L r w) (hi : i < ops.size) (he : S (i + 1) = S i) : HI P ops S r0 w0 (Lx L i) r w := by
  have hv : ∀ id, vw S (Lx L i) id ops.size = vw S L id ops.size := fun id => vw_congr ops.size fun k hk ht => by
    unfold Lx
    rw [if_neg]
    rintro rfl
    exact ht (by rw [he])
  refine ⟨fun id o h1 h2 => hI.obj id o h1 (by rw [← hv]; exact h2), fun id id' b x x' h1 h2 h3 h4 => hI.inj id id' b x x' h1 h2 (by rw [← hv]; exact h3) (by rw [← hv]; exact h4), fun j hj hL => hI.fresh j hj ?_, hI.rr, hI.size, hI.os, hI.tape, hI.output, hI.frame, fun k b x h1 h2 h3 => hI.new k b x h1 h2 (by rw [← hv]; exact h3), hI.gl⟩
  unfold Lx at hL
  split at hL
  · cases hL
  · exact hL
theorem RC.inK_ng (c : RC P R ops ps F S RS V) {k : Nat} (hk : k ≤ ops.size) : (inK ops ps S RS k).ng = (S 0).ng := (c.inK_ng' k).trans (c.base k hk).2.2.2.2.ng
theorem RC.rel (c : RC P R ops ps F S RS V) (hI : HI P ops S r0 w0 L r w) (hi : i < ops.size) (rf : RF ops L i) (ti : Third P R ops ps F S RS V i) : Rel P (S (i + 1)).next r (inK ops ps S RS i) w := by
  have hn := c.inK_next i
  refine ⟨by rw [hn]; exact (c.base i (by omega)).2.2.2.1, by rw [hn]; exact (c.m1 hi).next, fun k h1 h2 => hI.fresh i hi rf.unl k (by rw [← hn]; exact h1) h2, fun k o h => ?_, fun k k' b x x' h1 h2 h3 h4 => ?_, fun k h => by rw [c.inK_T]; exact c.upk (by omega) k (by rw [← hn]; exact h), fun k h => by rw [hn]; exact c.hlt (by omega) k h, fun g hg => hI.gl g (by rw [c.inK_ng (by omega)] at hg; exact hg), by rw [c.inK_ng (by omega), hn]; exact Nat.le_trans c.gn (c.base i (by omega)).2.2.2.2.next⟩
  · obtain ⟨hs, e⟩ := c.get_sees (by omega) h
    exact hI.obj k o (c.hid0 (by omega) hs.2) (by rw [c.see hi rf ti hs, e])
  · cases e1 : (inK ops ps S RS i).get k with
    | none => exact absurd e1 h1
    | some o1 =>
      cases e2 : (inK ops ps S RS i).get k' with
      | none => exact absurd e2 h2
      | some o2 =>
        obtain ⟨s1, g1⟩ := c.get_sees (by omega) e1
        obtain ⟨s2, g2⟩ := c.get_sees (by omega) e2
        exact hI.inj k k' b x x' (c.hid0 (by omega) s1.2) (c.hid0 (by omega) s2.2) (by rw [c.see hi rf ti s1, g1]; simp) (by rw [c.see hi rf ti s2, g2]; simp) h3 h4
/-- a step that looks at memory, or calls -/
theorem RC.third (c : RC P R ops ps F S RS V) (hR : SoundC P R) (hI : HI P ops S r0 w0 L r w) (hi : i < ops.size) (rf : RF ops L i) {o : Oper} {q : St} {ρ' : Operand → Value} (ti : Third P R ops ps F S RS V i)
    (hq : execH P R (F i).ev o (inEv (AA ops) (WW ops) ps i (RS i) (S i)) = some (V i, q)) (hS : S (i + 1) = back (S i) q) (hρ : ∀ x ∈ o.op.operands, VR r ((F i).ev x) (ρ' x)) :
    Upon P (fun v' w' => ∃ r', VR r' (V i) v' ∧ (∀ k p, r k = some p → r' k = some p) ∧ HI P ops S r0 w0 (Lx L i) r' w') ((execOp ρ' o).run P w) := by
  have hrel := c.rel hI hi rf ti
  have hqn : q.next = (S (i + 1)).next := by rw [hS]; rfl
  have hqT : q.T = (S (i + 1)).T := by rw [hS]; rfl
  refine (execH_ok' hR hrel (by rw [hqn]; exact Nat.le_refl _) hq hρ).mono ?_
  rintro v' w' ⟨r', hv, hG⟩
  have hn := c.inK_next i
  have hup := hG.up hrel
  have hbase := c.base i (by omega)
  have hm1 := (c.m1 hi).next
  have hrr : ∀ k, k < (S i).next ∨ (S (i + 1)).next ≤ k → r' k = r k := fun k hk => hG.ext.rr k (by rw [hqn]; show k < (inK ops ps S RS i).next ∨ _; rw [hn]; exact hk)
  have qget : ∀ id, hidden (inK ops ps S RS i).hid id = false → q.get id = (S (i + 1)).T.get id := fun id hh => by
    rw [getT, hG.mono.hid]
    show (if hidden (inK ops ps S RS i).hid id = true then none else _) = _
    rw [hh, hqT]; rfl
  have nhid : ∀ id, (S i).next ≤ id → hidden (inK ops ps S RS i).hid id = false := fun id h => by
    cases e : hidden (inK ops ps S RS i).hid id with
    | false => rfl
    | true => exact absurd (c.hlt (by omega) id e) (by omega)
  -- what is seen, or new
  have vis : ∀ id, (Sees ops ps S RS i id ∨ ((S i).next ≤ id ∧ id < (S (i + 1)).next)) → vw S (Lx L i) id ops.size = q.get id := by
    rintro id (h | ⟨h1, h2⟩)
    · rw [c.see' hi rf ti h, qget id h.2]
    · rw [c.new' hi rf h1 h2, qget id (nhid id h1)]
  -- a number that is seen by the step, of a block
  have seen : ∀ k, (inK ops ps S RS i).get k ≠ none → Sees ops ps S RS i k ∧ vw S L k ops.size ≠ none := fun k h => by
    cases e : (inK ops ps S RS i).get k with
    | none => exact absurd e h
    | some oo =>
      obtain ⟨s1, g1⟩ := c.get_sees (by omega) e
      exact ⟨s1, by rw [c.see hi rf ti s1, g1]; simp⟩
  have back0 : ∀ k0 b x0, k0 < (inK ops ps S RS i).next → wrt (inK ops ps S RS i) k0 → (inK ops ps S RS i).get k0 ≠ none → r k0 = some (b, x0) → w0.heap.size ≤ b ∨ ∃ k x, k < (S 0).next ∧ wrt (S 0) k ∧ (S 0).get k ≠ none ∧ r0 k = some (b, x) := by
    intro k0 b x0 h1 h2 h3 h4
    obtain ⟨s1, g1⟩ := seen k0 h3
    rcases Nat.lt_or_ge k0 (S 0).next with h5 | h5
    · right
      have hap : apartB (S i).lim (S i).one (S 0).next ps = true := by rw [hbase.1, hbase.2.1]; exact c.ap
      have hw : wrt (S i) k0 := wrt_inI hap hbase.2.2.2.1 s1.1 h2
      refine ⟨k0, x0, h5, by unfold wrt at *; rw [← hbase.1, ← hbase.2.1]; exact hw, ?_, by rw [← hI.rr k0 (.inl h5)]; exact h4⟩
      rw [getT, c.hid0 (by omega) s1.2]
      intro e
      have e : (S 0).T.get k0 = none := e
      have := hbase.2.2.2.2.dead k0 h5 e
      rw [c.see hi rf ti s1, this] at g1
      exact g1 rfl
    · exact hI.new k0 b x0 h5 (c.hid0 (by omega) s1.2) g1 h4
  have deadS : ∀ id, Sees ops ps S RS i id → vw S (Lx L i) id ops.size ≠ none → vw S L id ops.size ≠ none := fun id hs h => by
    rw [c.see' hi rf ti hs] at h
    rw [c.see hi rf ti hs]
    intro e
    exact h ((c.m1 hi).dead id hs.1 e)
  have mixed : ∀ id id' b x x', (Sees ops ps S RS i id ∨ ((S i).next ≤ id ∧ id < (S (i + 1)).next)) → ¬ (Sees ops ps S RS i id' ∨ ((S i).next ≤ id' ∧ id' < (S (i + 1)).next)) → hidden (S 0).hid id = false → hidden (S 0).hid id' = false →
      vw S (Lx L i) id ops.size ≠ none → vw S (Lx L i) id' ops.size ≠ none → r' id = some (b, x) → r' id' = some (b, x') → id = id' := by
    intro id id' b x x' h1 h2 d1 d2 v1 v2 e1 e2
    have h2a : ¬ Sees ops ps S RS i id' := fun h => h2 (.inl h)
    have h2b : ¬ ((S i).next ≤ id' ∧ id' < (S (i + 1)).next) := fun h => h2 (.inr h)
    rw [c.old' hi h2a h2b] at v2
    rw [hrr id' (by omega)] at e2
    have hbl : b < w.heap.size := by
      cases e : vw S L id' ops.size with
      | none => exact absurd e v2
      | some oo =>
        obtain ⟨b', y, o', g1, g2, _⟩ := hI.obj id' oo d2 e
        rw [e2] at g1; injection g1 with g1; injection g1 with g1 _; subst g1
        exact (Array.getElem?_eq_some_iff.1 g2).1
    rcases h1 with hs | ⟨n1, n2⟩
    · rw [hrr id (.inl hs.1)] at e1
      exact hI.inj id id' b x x' d1 d2 (deadS id hs v1) v2 e1 e2
    · rcases hG.ext.new id b x (by show (inK ops ps S RS i).next ≤ id; rw [hn]; exact n1) (by rw [← vis id (.inr ⟨n1, n2⟩)]; exact v1) e1 with h3 | ⟨k0, x0, a1, a2, a3, a4⟩
      · omega
      · obtain ⟨s1, g1⟩ := seen k0 a3
        have := hI.inj k0 id' b x0 x' (c.hid0 (by omega) s1.2) d2 g1 v2 a4 e2
        subst this
        exact absurd s1 h2a
  refine ⟨r', hv, hup, fun id oo h1 h2 => ?_, fun id id' b x x' h1 h2 h3 h4 h5 h6 => ?_, fun j hj hL k h1 h2 => ?_, fun k hk => ?_, Nat.le_trans hI.size hG.ext.size, hG.ext.os.trans hI.os, hG.ext.tape.trans hI.tape, hG.ext.output.trans hI.output, fun b hb H => ?_, fun k b x h1 h2 h3 h4 => ?_, fun g hg => hup _ _ (hI.gl g hg)⟩
  · by_cases hs : Sees ops ps S RS i id ∨ ((S i).next ≤ id ∧ id < (S (i + 1)).next)
    · rw [vis id hs] at h2
      exact hG.rel.obj id oo h2
    · have hsa : ¬ Sees ops ps S RS i id := fun h => hs (.inl h)
      rw [c.old' hi hsa fun h => hs (.inr h)] at h2
      obtain ⟨b, x, o', g1, g2, g3⟩ := hI.obj id oo h1 h2
      refine ⟨b, x, o', hup _ _ g1, (hG.ext.frame b (Array.getElem?_eq_some_iff.1 g2).1 fun k y a1 a2 a3 a4 => ?_).trans g2, g3.mono hup⟩
      obtain ⟨s1, q1⟩ := seen k a3
      have := hI.inj k id b y x (c.hid0 (by omega) s1.2) h1 q1 (by rw [h2]; simp) a4 g1
      subst this
      exact hsa s1
  · by_cases hs : Sees ops ps S RS i id ∨ ((S i).next ≤ id ∧ id < (S (i + 1)).next)
    · by_cases hs' : Sees ops ps S RS i id' ∨ ((S i).next ≤ id' ∧ id' < (S (i + 1)).next)
      · rw [vis id hs] at h3
        rw [vis id' hs'] at h4
        exact hG.rel.inj id id' b x x' h3 h4 h5 h6
      · exact mixed id id' b x x' hs hs' h1 h2 h3 h4 h5 h6
    · by_cases hs' : Sees ops ps S RS i id' ∨ ((S i).next ≤ id' ∧ id' < (S (i + 1)).next)
      · exact (mixed id' id b x' x hs' hs h2 h1 h4 h3 h6 h5).symm
      · have a1 : ¬ ((S i).next ≤ id ∧ id < (S (i + 1)).next) := fun h => hs (.inr h)
        have a2 : ¬ ((S i).next ≤ id' ∧ id' < (S (i + 1)).next) := fun h => hs' (.inr h)
        rw [c.old' hi (fun h => hs (.inl h)) a1] at h3
        rw [c.old' hi (fun h => hs' (.inl h)) a2] at h4
        rw [hrr id (by omega)] at h5
        rw [hrr id' (by omega)] at h6
        exact hI.inj id id' b x x' h1 h2 h3 h4 h5 h6
  · unfold Lx at hL
    split at hL
    · cases hL
    · rename_i hne
      have : r' k = r k := by
        refine hrr k ?_
        rcases Nat.lt_or_ge j i with hlt | hge
        · left; have := (c.mono i (show j + 1 ≤ i by omega) (by omega)).next; omega
        · right; have := (c.mono j (show i + 1 ≤ j by omega) (by omega)).next; omega
      rw [this]; exact hI.fresh j hj hL k h1 h2
  · have g1 := hbase.2.2.2.2.next
    have g2 := (c.mono ops.size (show i + 1 ≤ ops.size by omega) (Nat.le_refl _)).next
    rw [hrr k (by omega)]
    exact hI.rr k hk
  · refine (hG.ext.frame b (Nat.lt_of_lt_of_le hb hI.size) fun k x a1 a2 a3 a4 => ?_).trans (hI.frame b hb H)
    rcases back0 k b x a1 a2 a3 a4 with h5 | ⟨k0, x0, q1, q2, q3, q4⟩
    · omega
    · exact H k0 x0 q1 q2 q3 q4
  · by_cases hnew : (S i).next ≤ k ∧ k < (S (i + 1)).next
    · rcases hG.ext.new k b x (by show (inK ops ps S RS i).next ≤ k; rw [hn]; exact hnew.1) (by rw [← vis k (.inr hnew)]; exact h3) h4 with h5 | ⟨k0, x0, a1, a2, a3, a4⟩
      · exact .inl (Nat.le_trans hI.size h5)
      · exact back0 k0 b x0 a1 a2 a3 a4
    · rw [hrr k (by omega)] at h4
      by_cases hs : Sees ops ps S RS i k
      · exact hI.new k b x h1 h2 (deadS k hs h3) h4
      · rw [c.old' hi hs hnew] at h3
        exact hI.new k b x h1 h2 h3 h4
end
end Go.Proofs.YtdeghcgakkhbmaaGreat
namespace Go.Proofs.YtdeghcgakkhbmaaGreat
open Go.RowKit
set_option maxRecDepth 100000
structure SI (ops : Array Oper) (F : Nat → Fr) (V : Nat → Value) (L : Nat → Bool) (r : Rn) (a : Act) : Prop where
  size : a.tmps.size = (F 0).m
  wr : ∀ j s, j < ops.size → L j = true → wrOf ops j = some s → VR r (V j) (a.tmps.getD s undef)
  un : ∀ s, (∀ j, j < ops.size → L j = true → wrOf ops j ≠ some s) → VR r ((F 0).get s) (a.tmps.getD s undef)
  mks : MkR r (F 0).marks a.defers
theorem uniq_ok {ng : Nat} {ops : Array Oper} (h : okR ng ops = true) {i j : Nat} {d : Tmp} (hi : wrOf ops i = some d) (hj : wrOf ops j = some d) : i = j := by
  have hs : ∀ k d, wrOf ops k = some d → k < ops.size := fun k d hk => by
    unfold wrOf at hk
    rcases Nat.lt_or_ge k ops.size with h | h
    · exact h
    · rw [Array.getElem?_eq_none h] at hk; cases hk
  unfold okR at h
  simp only [Bool.and_eq_true] at h
  have := List.all_eq_true.1 (List.all_eq_true.1 h.1.1.2 i (List.mem_range.2 (hs i d hi))) j (List.mem_range.2 (hs j d hj))
  simpa [hi, hj] using this
theorem reads_ok {ng : Nat} {ops : Array Oper} (h : okR ng ops = true) {i j : Nat} {o : Oper} {s : Tmp} (ho : ops[i]? = some o) (hs : s ∈ o.looksAt ops) (hj : wrOf ops j = some s) (hne : i ≠ j) : aheadB (AA ops) i j = true := by
  have hjs : j < ops.size := by
    unfold wrOf at hj
    rcases Nat.lt_or_ge j ops.size with h | h
    · exact h
    · rw [Array.getElem?_eq_none h] at hj; cases hj
  unfold okR at h
  simp only [Bool.and_eq_true] at h
  have := List.all_eq_true.1 h.1.2 i (List.mem_range.2 (Array.getElem?_eq_some_iff.1 ho).1)
  rw [ho] at this
  have := List.all_eq_true.1 (List.all_eq_true.1 this s hs) j (List.mem_range.2 hjs)
  rw [hj] at this
  simp only [Bool.or_eq_true] at this
  rcases this with h1 | h1
  · exfalso
    rw [show Nat.beq s s = true from Nat.beq_refl s] at h1
    cases h1
  · rw [bq, if_neg hne] at h1
    exact h1
theorem back_ok {ng : Nat} {ops : Array Oper} (h : okR ng ops = true) {i : Nat} {o : Oper} (ho : ops[i]? = some o) {e : Edge} (he : e ∈ o.after) (hb : Region.binds .any e = true) : e.on < i := by
  unfold okR at h
  simp only [Bool.and_eq_true] at h
  have := List.all_eq_true.1 h.1.1.1 i (List.mem_range.2 (Array.getElem?_eq_some_iff.1 ho).1)
  simp only [ho] at this
  have := Array.all_eq_true_iff_forall_mem.1 this e he
  simpa [hb] using this
theorem least_rdy {ng : Nat} {ops : Array Oper} (hok : okR ng ops = true) {listed : Array Bool} (hls : listed.size = ops.size) : ∀ i, i < ops.size → listed.getD i false = false → ∃ k, k ∈ Region.ready .any ops listed := by
  intro i
  induction i using Nat.strongRecOn with
  | ind i ih =>
    intro hi hl
    by_cases hex : ∃ j, j < i ∧ listed.getD j false = false
    · obtain ⟨j, hj, hjl⟩ := hex
      exact ih j hj (by omega) hjl
    · refine ⟨i, mem_ready.2 ⟨?_, ops[i], by simp [hi], fun e he hb => ?_⟩⟩
      · simp [hls, hi] at hl ⊢; exact hl
      · cases h : listed.getD e.on false with
        | true => rfl
        | false => exact absurd ⟨e.on, back_ok hok (show ops[i]? = some ops[i] by simp [hi]) he hb, h⟩ hex
section
variable {P : Program} {R : Rec} {ops : Array Oper} {ps : List (Nat × Nat)} {F : Nat → Fr} {S : Nat → St} {RS : Nat → List (Nat × Nat × Nat)} {V : Nat → Value} {r0 r : Rn} {w0 w : World} {L : Nat → Bool} {i : Nat}
theorem RC.fm' (c : RC P R ops ps F S RS V) : ∀ k, k ≤ ops.size → (F k).m = (F 0).m ∧ (F k).marks = (F 0).marks ∧ (F k).round = (F 0).round
  | 0, _ => ⟨rfl, rfl, rfl⟩
  | k + 1, h => by
    obtain ⟨o, ho, hp, _⟩ := c.step k (by omega)
    obtain ⟨h1, h2, h3, _⟩ := put_fr hp
    obtain ⟨g1, g2, g3⟩ := c.fm' k (by omega)
    exact ⟨h1.trans g1, h2.trans g2, h3.trans g3⟩
theorem RC.fget (c : RC P R ops ps F S RS V) (s : Tmp) : ∀ k, k ≤ ops.size → (∃ j, j < k ∧ wrOf ops j = some s ∧ (F k).get s = V j) ∨ ((∀ j, j < k → wrOf ops j ≠ some s) ∧ (F k).get s = (F 0).get s)
  | 0, _ => .inr ⟨fun j hj => by omega, rfl⟩
  | k + 1, h => by
    obtain ⟨o, ho, hp, _⟩ := c.step k (by omega)
    have hw : wrOf ops k = o.dst := by unfold wrOf; rw [ho]; rfl
    obtain ⟨h1, h2, h3, h4⟩ := put_fr hp
    rcases h4 with ⟨e1, e2⟩ | ⟨d, e1, hd, e2⟩
    · rw [e2]
      rcases c.fget s k (by omega) with ⟨j, hj, hj1, hj2⟩ | ⟨hj1, hj2⟩
      · exact .inl ⟨j, by omega, hj1, hj2⟩
      · refine .inr ⟨fun j hj => ?_, hj2⟩
        by_cases e : j = k
        · subst e; rw [hw, e1]; simp
        · exact hj1 j (by omega)
    · have hb : d + 2 ≤ 2 ^ 24 := by
        have q1 := (c.fm' k (by omega)).1
        have q2 := c.fm
        rw [← q1] at q2
        unfold big at q2
        exact Nat.le_trans (Nat.succ_le_succ hd) (by omega)
      have hg : (F (k + 1)).get s = if s = d then V k else (F k).get s := by
        rw [e2]
        unfold Fr.get
        simp only []
        rw [Tr.get_set 24 _ d _ s hb]
        split <;> rfl
      by_cases e : s = d
      · subst e
        exact .inl ⟨k, by omega, by rw [hw, e1], by rw [hg, if_pos rfl]⟩
      · rw [if_neg e] at hg
        rw [hg]
        rcases c.fget s k (by omega) with ⟨j, hj, hj1, hj2⟩ | ⟨hj1, hj2⟩
        · exact .inl ⟨j, by omega, hj1, hj2⟩
        · refine .inr ⟨fun j hj => ?_, hj2⟩
          by_cases e' : j = k
          · subst e'; rw [hw, e1]; intro h; injection h with h; exact e h.symm
          · exact hj1 j (by omega)
theorem RC.slot (c : RC P R ops ps F S RS V) (hi : i < ops.size) (rf : RF ops L i) {a : Act} (hS : SI ops F V L r a) {o : Oper} (ho : ops[i]? = some o) {s : Tmp} (hs : s ∈ o.looksAt ops) : VR r ((F i).get s) (a.tmps.getD s undef) := by
  rcases c.fget s i (by omega) with ⟨j, hj, hj1, hj2⟩ | ⟨hj1, hj2⟩
  · rw [hj2]
    have := reads_ok c.ok ho hs hj1 (by omega)
    rw [ahead_lt hj] at this
    exact hS.wr j s (by omega) (rf.anc j this) hj1
  · rw [hj2]
    refine hS.un s fun j hj hL hw => ?_
    by_cases e : j = i
    · subst e; rw [rf.unl] at hL; cases hL
    · rcases Nat.lt_or_ge j i with hlt | hge
      · exact hj1 j hlt hw
      · have := reads_ok c.ok ho hs hw (Ne.symm e)
        rw [ahead_symm (Ne.symm e), ahead_lt (by omega)] at this
        rw [rf.desc j hj this] at hL; cases hL
theorem RC.sput (c : RC P R ops ps F S RS V) (hi : i < ops.size) {a : Act} (hS : SI ops F V L r a) {o : Oper} (ho : ops[i]? = some o) {r' : Rn} (hup : ∀ k p, r k = some p → r' k = some p) {v' : Value} (hv : VR r' (V i) v') : SI ops F V (Lx L i) r' (a.put o.dst v') := by
  have hw : wrOf ops i = o.dst := by unfold wrOf; rw [ho]; rfl
  have hdm : ∀ d, o.dst = some d → d < a.tmps.size := fun d hd => by
    obtain ⟨o2, ho2, hp, _⟩ := c.step i hi
    rw [ho] at ho2; injection ho2 with ho2; subst ho2
    obtain ⟨h1, h2, h3, h4⟩ := put_fr hp
    rcases h4 with ⟨e1, _⟩ | ⟨d', e1, hd', _⟩
    · rw [hd] at e1; cases e1
    · rw [hd] at e1; injection e1 with e1; subst e1
      rw [hS.size, ← (c.fm' i (by omega)).1]; exact hd'
  have hkeep : ∀ s, o.dst ≠ some s → (a.put o.dst v').tmps.getD s undef = a.tmps.getD s undef := fun s hs => by
    cases hd : o.dst with
    | none => rfl
    | some d => exact getD_put_ne (fun e => hs (by rw [hd, e]))
  refine ⟨?_, fun j s hj hL hjs => ?_, fun s hs => ?_, ?_⟩
  · have := hS.size
    cases hd : o.dst <;> simp [Act.put, this]
  · by_cases e : j = i
    · subst e
      have hd : o.dst = some s := by rw [← hw]; exact hjs
      rw [hd, getD_put_eq (hdm s hd)]; exact hv
    · have hL' : L j = true := by unfold Lx at hL; rw [if_neg e] at hL; exact hL
      rw [hkeep s fun hd => e (uniq_ok c.ok hjs (by rw [hw, hd]))]
      exact (hS.wr j s hj hL' hjs).mono hup
  · rw [hkeep s fun hd => hs i hi (by unfold Lx; rw [if_pos rfl]) (by rw [hw, hd])]
    refine (hS.un s fun j hj hL => hs j hj ?_).mono hup
    unfold Lx; split
    · rfl
    · exact hL
  · cases hd : o.dst <;> exact hS.mks.mono hup
def InvE (P : Program) (ops : Array Oper) (F : Nat → Fr) (S : Nat → St) (V : Nat → Value) (r0 : Rn) (w0 : World) (listed : Array Bool) (a : Act) (w : World) : Prop :=
  listed.size = ops.size ∧ (∀ i o, ops[i]? = some o → listed.getD i false = true → ∀ e ∈ o.after, Region.binds .any e = true → listed.getD e.on false = true) ∧
  ∃ r, HI P ops S r0 w0 (fun j => listed.getD j false) r w ∧ SI ops F V (fun j => listed.getD j false) r a
theorem RC.inv_step (c : RC P R ops ps F S RS V) (hR : SoundC P R) {ro : Option Nat} {n : Nat} {Q : Exit → Act → World → Prop} {listed : Array Bool} {a : Act} (hv : InvE P ops F S V r0 w0 listed a w) (hr : i ∈ Region.ready .any ops listed) :
    wpOpIn (FO ro) n P ops Q i (InvE P ops F S V r0 w0 (listed.setIfInBounds i true)) a w := by
  obtain ⟨hls, down, r, hI, hS⟩ := hv
  obtain ⟨hun, o, ho, hall⟩ := mem_ready.1 hr
  have hi : i < ops.size := (Array.getElem?_eq_some_iff.1 ho).1
  have hil : i < listed.size := by rw [hls]; exact hi
  have hunf := getD_false_of hil hun
  have rf : RF ops (fun j => listed.getD j false) i := by
    refine ⟨hunf, fun k hk => ?_, fun k hk hb => ?_⟩
    · refine anc_all (ops := ops) (L := fun j => listed.getD j false) (fun j o h1 h2 => down j o h2 h1) i (fun o' ho' => ?_) hk
      rw [ho] at ho'; injection ho' with ho'; subst ho'; exact hall
    · cases e : listed.getD k false with
      | false => rfl
      | true =>
        have := anc_all (ops := ops) (L := fun j => listed.getD j false) (fun j o h1 h2 => down j o h2 h1) k (fun o' ho' => down k o' ho' e) hb
        rw [show listed.getD i false = true from this] at hunf; cases hunf
  have hLx : (fun j => (listed.setIfInBounds i true).getD j false) = Lx (fun j => listed.getD j false) i := by
    funext j
    unfold Lx
    by_cases e : j = i
    · subst e; rw [if_pos rfl]; simp [hil]
    · rw [if_neg e, getD_set_ne false (Ne.symm e)]
  have down' : ∀ j o, ops[j]? = some o → (listed.setIfInBounds i true).getD j false = true → ∀ e ∈ o.after, Region.binds .any e = true → (listed.setIfInBounds i true).getD e.on false = true := by
    intro j o' hj hl e he hb
    refine getD_set_true ?_
    by_cases e' : j = i
    · subst e'; rw [ho] at hj; injection hj with hj; subst hj; exact hall e he hb
    · rw [getD_set_ne false (Ne.symm e')] at hl; exact down j o' hj hl e he hb
  have fin : ∀ r' v' w', (∀ k p, r k = some p → r' k = some p) → VR r' (V i) v' → HI P ops S r0 w0 (Lx (fun j => listed.getD j false) i) r' w' → InvE P ops F S V r0 w0 (listed.setIfInBounds i true) (a.put o.dst v') w' := fun r' v' w' h1 h2 h3 =>
    ⟨by simp [hls], down', r', by rw [hLx]; exact h3, by rw [hLx]; exact c.sput hi hS ho h1 h2⟩
  have hslot : ∀ s ∈ o.looksAt ops, VR r ((F i).get s) (a.tmps.getD s undef) := fun s hs => c.slot hi rf hS ho hs
  have hok2 : okOps (S 0).ng ops = true := by have := c.ok; unfold okR at this; simp only [Bool.and_eq_true] at this; exact this.2
  have hρ : ∀ x ∈ o.op.operands, VR r ((F i).ev x) (a.eval x) := fun x hx => by
    have hx2 := okOps_mem hok2 (o := o) (Array.mem_toList_iff.2 (Array.mem_of_getElem? ho)) hx
    cases x with
    | tmp t => exact hslot t (by unfold Oper.looksAt; simp; exact .inl ⟨_, hx, rfl⟩)
    | const v => exact .pln hx2
    | global g => exact .ptr (hI.gl g (blt_lt hx2))
    | func f => exact .pln rfl
  have hg := guard_ok (ops := ops) (fr := F i) (o := o) (a := a) (r := r) fun k want d h1 h2 => hslot d (by
    unfold wrOf at h2
    simp [Oper.looksAt, h1, h2])
  unfold wpOpIn
  simp only [ho]
  rw [hg]
  obtain ⟨o2, ho2, hp, hk⟩ := c.step i hi
  rw [ho] at ho2; injection ho2 with ho2; subst ho2
  rcases hk with ⟨e1, e2, e3, e4⟩ | ⟨e1, e2, e3, e4, e5⟩ | ⟨e1, e2, q, e3, e4, e5⟩
  · rw [e1, if_neg (by simp)]
    exact ⟨fun _ _ => trivial, fin r undef w (fun _ _ h => h) (by rw [e2]; exact VR.undef) (c.pure' hI hi e3)⟩
  · rw [e1, if_pos rfl]
    obtain ⟨v', h1, h2⟩ := execP_ok e3 hρ
    refine op_in (K := fun u w' => u = v' ∧ w' = w) (fun cc hc => by unfold pureK at e2; rw [hc] at e2; cases e2) (by rw [h2 w]; exact ⟨rfl, rfl⟩) ?_
    rintro u w' ⟨rfl, rfl⟩
    exact fin r u w' (fun _ _ h => h) h1 (c.pure' hI hi e4)
  · rw [e1, if_pos rfl]
    refine op_in (fun cc hc => ?_) (c.third hR hI hi rf ⟨o, ho, e1, e2, q, e3, e4, e5⟩ e3 e4 hρ) ?_
    · unfold execH at e3; rw [hc] at e3; cases e3
    · rintro v' w' ⟨r', h1, h2, h3⟩
      exact fin r' v' w' h2 h1 h3
theorem RC.all (c : RC P R ops ps F S RS V) (hR : SoundC P R) {ro : Option Nat} {n : Nat} {Q : Exit → Act → World → Prop}
    (hQ : ∀ listed a w, InvE P ops F S V r0 w0 listed a w → (∀ i, i < ops.size → listed.getD i false = true) → Q .normal a w) :
    ∀ (f : Nat) (listed : Array Bool) (a : Act) (w : World), InvE P ops F S V r0 w0 listed a w → listed.toList.count false = f → wpAnyIn (FO ro) n P .any ops Q f listed a w := by
  have done : ∀ (listed : Array Bool) (a : Act) (w : World), InvE P ops F S V r0 w0 listed a w → Region.ready .any ops listed = [] → Q .normal a w := fun listed a w hv he => by
    refine hQ listed a w hv fun i hi => ?_
    cases e : listed.getD i false with
    | true => rfl
    | false =>
      obtain ⟨k, hk⟩ := least_rdy c.ok hv.1 i hi e
      rw [he] at hk; cases hk
  intro f
  induction f with
  | zero =>
    intro listed a w hv hcnt
    have hready : Region.ready .any ops listed = [] := by
      apply List.eq_nil_iff_forall_not_mem.2
      intro k hk
      obtain ⟨h1, o, ho, _⟩ := mem_ready.1 hk
      have hk' := (Array.getElem?_eq_some_iff.1 ho).1
      have hk2 : k < listed.size := by rw [hv.1]; exact hk'
      have hf := getD_false_of hk2 h1
      have : false ∈ listed.toList := by
        have e : listed[k] = false := by simpa [hk2] using hf
        rw [← e]; exact Array.mem_toList_iff.2 (Array.getElem_mem hk2)
      exact absurd hcnt (by have := List.count_pos_iff.2 this; omega)
    exact ⟨hready, done listed a w hv hready⟩
  | succ f ih =>
    intro listed a w hv hcnt
    refine ⟨fun he => done listed a w hv he, fun i hi => ?_⟩
    refine wpOpIn_mono (fun a' w' hv' => ih _ a' w' hv' ?_) (c.inv_step hR hv hi)
    obtain ⟨hun, o, ho, _⟩ := mem_ready.1 hi
    have his : i < listed.size := by rw [hv.1]; exact (Array.getElem?_eq_some_iff.1 ho).1
    have hunf := getD_false_of his hun
    have hg : listed.toList[i]? = some false := by simp [his] at hunf; simp [his, hunf]
    have := count_set listed.toList i hg
    rw [Array.toList_setIfInBounds]; omega
end
/-- **A REGION, in whatever order.** -/
theorem regB_ok {P : Program} {R : Rec} {B : Nat} (hf : P.follows .mixedOrders = true) (hM : RM R) (hR : SoundC P R) {id : Nat} {ops : Array Oper} {draw : Bool} {ro : Option Nat} {n : Nat} {Q : Exit → Act → World → Prop} {fr fr' : Fr} {s s' : St} {r : Rn} {w : World} {a : Act}
    (h : regB P R ops draw fr s = some (fr', s')) (hB : s'.next ≤ B) (hr : Rel P B r s w) (hfr : FrR r fr a) (hQ : ∀ r' a' w', FrR r' fr' a' → Good P B s s' r r' w w' → Q .normal a' w') : (Code.region id ops draw).wpIn (FO ro) n P Q a w := by
  have h0 := h
  unfold regB at h
  cases draw with
  | false =>
    obtain ⟨hok, h⟩ := bif_some (show (bif okOps s.ng ops then seqB P R ops ops.toList fr s else none) = some (fr', s') from h)
    exact wpIn_region_list (seqB_ok hM hR hok ops.toList fr fr' s s' r w a rfl (fun o ho => ho) h hB hr hfr hQ)
  | true =>
    obtain ⟨hok, h⟩ := bif_some (show (bif okR s.ng ops then _ else none) = some (fr', s') from h)
    obtain ⟨hap, h⟩ := bif_some h
    obtain ⟨F, S, RS, V, f0, s0, rs0, fN, sN, hst⟩ := any_trace ops.toList 0 [] fr fr' s s' (by simp) h
    simp only [Nat.zero_add, Array.length_toList] at fN sN hst
    have c : RC P R ops _ F S RS V := ⟨hM, fun k hk => hst k (Nat.zero_le _) hk, rs0, by rw [s0]; exact hok, by rw [s0]; exact hap, by rw [s0]; exact hr.nb, by rw [s0]; exact hr.up, by rw [s0]; exact hr.hlt, by rw [f0]; exact hfr.1.2.1, by rw [s0]; exact hr.gn⟩
    have hmono := (regB_mb hM h0).1 hr.nb
    refine wpIn_region_any hf (c.all hR (r0 := r) (w0 := w) (fun listed a' w' hv hall => ?_) _ _ _ _ ⟨by simp, (fun i o ho hl => by rw [getD_replicate_false] at hl; cases hl), r, ?_, ?_⟩ (by simp))
    · obtain ⟨hls, _, r', hI, hS⟩ := hv
      have hv : ∀ id, vw S (fun j => listed.getD j false) id ops.size = s'.T.get id := fun id => by rw [vw_done ops.size fun k hk _ => hall k hk, sN]
      have hh : s'.hid = s.hid := hmono.1.hid
      have hget : ∀ id, s'.get id = if hidden s.hid id = true then none else s'.T.get id := fun id => by rw [getT, hh]
      refine hQ r' a' w' ⟨⟨?_, ?_, fun t => ?_⟩, ?_⟩ ⟨hmono.1, ⟨fun k hk => ?_, hI.size, hI.os, hI.tape, hI.output, fun b hb H => ?_, fun k b x h1 h2 h3 => ?_⟩, ⟨hmono.2, hB, fun k h1 h2 => ?_, fun k o hk => ?_, fun k k' b x x' h1 h2 h3 h4 => ?_, hmono.1.up hr.up, fun k hk => ?_, fun g hg => hI.gl g (by rw [s0, ← hmono.1.ng]; exact hg), by rw [hmono.1.ng]; exact Nat.le_trans hr.gn hmono.1.next⟩⟩
      · rw [hS.size, ← fN, (c.fm' ops.size (Nat.le_refl _)).1]
      · rw [← fN, (c.fm' ops.size (Nat.le_refl _)).1]; exact c.fm
      · have := c.fget t ops.size (Nat.le_refl _)
        rw [fN] at this
        rcases this with ⟨j, hj, hj1, hj2⟩ | ⟨hj1, hj2⟩
        · show VR r' (fr'.get t) _
          rw [hj2]; exact hS.wr j t hj (hall j hj) hj1
        · show VR r' (fr'.get t) _
          rw [hj2]; exact hS.un t fun j hj _ => hj1 j hj
      · have := hS.mks
        rw [← (c.fm' ops.size (Nat.le_refl _)).2.1, fN] at this
        exact this
      · exact hI.rr k (by rw [s0, sN]; exact hk)
      · exact hI.frame b hb (by rw [s0]; exact H)
      · have := hI.new k b x (by rw [s0]; exact h1) ?_ ?_ h3
        · rw [s0] at this; exact this
        · rw [s0]
          cases e : hidden s.hid k with
          | false => rfl
          | true => rw [hget, e] at h2; exact absurd rfl h2
        · rw [hv]
          rw [hget] at h2
          split at h2
          · exact absurd rfl h2
          · exact h2
      · rw [hI.rr k (.inr (by rw [sN]; exact h1))]
        exact hr.dom k (Nat.le_trans hmono.1.next h1) h2
      · rw [hget] at hk
        split at hk
        · cases hk
        · rename_i e
          exact hI.obj k o (by rw [s0]; simpa using e) (by rw [hv]; exact hk)
      · rw [hget] at h1 h2
        split at h1
        · exact absurd rfl h1
        · rename_i e1
          split at h2
          · exact absurd rfl h2
          · rename_i e2
            exact hI.inj k k' b x x' (by rw [s0]; simpa using e1) (by rw [s0]; simpa using e2) (by rw [hv]; exact h1) (by rw [hv]; exact h2) h3 h4
      · rw [hh] at hk
        exact Nat.lt_of_lt_of_le (hr.hlt k hk) hmono.1.next
    · have hv : ∀ id, vw S (fun j => (Array.replicate ops.size false).getD j false) id ops.size = s.T.get id := fun id => by
        rw [vw_stay ops.size (i := 0) (Nat.zero_le _) fun k _ _ _ => getD_replicate_false _ _]
        show (S 0).T.get id = _
        rw [s0]
      refine ⟨fun id o h1 h2 => ?_, fun id id' b x x' h1 h2 h3 h4 h5 h6 => ?_, fun j hj _ k h1 h2 => ?_, fun _ _ => rfl, Nat.le_refl _, rfl, rfl, rfl, fun _ _ _ => rfl, fun k b x h1 h2 h3 h4 => ?_, fun g hg => hr.gl g (by rw [s0] at hg; exact hg)⟩
      · rw [s0] at h1
        rw [hv] at h2
        exact hr.obj id o (by rw [getT, h1]; exact h2)
      · rw [s0] at h1 h2
        rw [hv] at h3 h4
        exact hr.inj id id' b x x' (by rw [getT, h1]; exact h3) (by rw [getT, h2]; exact h4) h5 h6
      · refine hr.dom k ?_ ?_
        · have := (c.mono j (Nat.zero_le _) (by omega)).next; rw [s0] at this; omega
        · have := (c.mono ops.size (show j + 1 ≤ ops.size by omega) (Nat.le_refl _)).next; rw [sN] at this; omega
      · rw [s0] at h1
        rw [hv] at h3
        exact absurd (hr.up k h1) h3
    · refine ⟨by rw [f0]; exact hfr.1.1, (fun j t hj hl => by rw [getD_replicate_false] at hl; cases hl), (fun t _ => by rw [f0]; exact hfr.1.2.2 t), by rw [f0]; exact hfr.2⟩
end Go.Proofs.YtdeghcgakkhbmaaGreat
namespace Go.Proofs.YtdeghcgakkhbmaaGreat
open Go.RowKit
set_option maxRecDepth 100000
section
variable {P : Program} {R : Rec} {fr fr' : Fr} {s s' : St} {e : Exit} {v : Value}
/-- the block for deferred calls: a new one, or that of the loop around -/
def EntB (fr : Fr) (s : St) (d : Nat) (mk : List Nat) (s1 : St) : Prop :=
  (fr.round = none ∧ s.new (.dfr true) = some (d, s1) ∧ mk = [d]) ∨
  (∃ l a b c m ps asg body, fr.round = some l ∧ s.get l = some (.loop a b c m ps asg body d) ∧ mk = [] ∧ s1 = s)
theorem rangeB {f : Operand} {ps : Array Tmp} {asg body : Code} (h : stepCode P R (.rangeFunc f ps asg body) fr s = some (e, fr', s')) : okOpd s.ng f = true ∧ entersB P (fr.ev f) = true ∧ ∃ d mk s1 l s2 v s3 st pend t m ps' asg' body' d', EntB fr s d mk s1 ∧ s1.new (.loop .ready none fr.t fr.m ps asg body d) = some (l, s2) ∧
    callV R (fr.ev f) [.func (.yield l) #[] #[]] s2 = some (v, s3) ∧ s3.get l = some (.loop st pend t m ps' asg' body' d') ∧ st ≠ .busy ∧ s3.put l (some (.loop .exhausted pend t m ps' asg' body' d')) = some s' ∧ fr' = { fr with marks := mk ++ fr.marks } ∧
    ((pend = none ∧ e = .normal) ∨ (pend = some .ret ∧ e = .ret) ∨ ∃ k, pend = some (.exit k) ∧ e = .exit k) := by
  unfold stepCode at h
  simp only at h
  obtain ⟨hok, h⟩ := bif_some h
  rw [Bool.and_eq_true] at hok
  refine ⟨hok.1, hok.2, ?_⟩
  split at h
  · cases h
  rename_i d mk s1 hent
  have hE : EntB fr s d mk s1 := by
    split at hent
    · rename_i l hl
      split at hent
      · rename_i a b c m ps asg body d' hg
        injection hent with hent; injection hent with e1 e2; injection e2 with e2 e3
        subst e1; subst e2; subst e3
        exact .inr ⟨l, _, _, _, _, _, _, _, hl, hg, rfl, rfl⟩
      · cases hent
    · rename_i hl
      obtain ⟨k, t1, h1, h2⟩ := map_new hent
      injection h2 with e1 e2; injection e2 with e2 e3
      subst e1; subst e2; subst e3
      exact .inl ⟨hl, h1, rfl⟩
  split at h
  · cases h
  rename_i l s2 hn
  split at h
  · cases h
  rename_i v s3 hc
  split at h
  · rename_i st pend t m ps' asg' body' d' hg
    split at h
    · cases h
    rename_i hne
    have hb : st ≠ .busy := hne
    split at h
    · cases h
    rename_i s4 hp
    refine ⟨d, mk, s1, l, s2, v, s3, st, pend, t, m, ps', asg', body', d', hE, hn, hc, hg, hb, ?_⟩
    split at h
    · injection h with h; injection h with e1 e2; injection e2 with e2 e3
      subst e3
      exact ⟨hp, e2.symm, .inl ⟨rfl, e1.symm⟩⟩
    · injection h with h; injection h with e1 e2; injection e2 with e2 e3
      subst e3
      exact ⟨hp, e2.symm, .inr (.inl ⟨rfl, e1.symm⟩)⟩
    · injection h with h; injection h with e1 e2; injection e2 with e2 e3
      subst e3
      exact ⟨hp, e2.symm, .inr (.inr ⟨_, rfl, e1.symm⟩)⟩
    · cases h
  · cases h
theorem EntB.mb {d : Nat} {mk : List Nat} {s1 : St} (h : EntB fr s d mk s1) : MB s s1 := by
  rcases h with ⟨_, h, _⟩ | ⟨_, _, _, _, _, _, _, _, _, _, _, rfl⟩
  · exact new_mb h
  · exact MB.refl _
theorem stepCode_mb (hR : RM R) {c : Code} (h : stepCode P R c fr s = some (e, fr', s')) : MB s s' ∧ fr'.round = fr.round ∧ fr'.m = fr.m := by
  have refl : some (e, fr', s') = some (e, fr, s) → MB s s' ∧ fr'.round = fr.round ∧ fr'.m = fr.m := by
    rintro h; injection h with h; injection h with _ h; injection h with h1 h2; subst h1; subst h2; exact ⟨MB.refl _, rfl, rfl⟩
  have tr : ∀ {c1 c2 : Code} {e1 fr1 s1}, R.code c1 fr s = some (e1, fr1, s1) → R.code c2 fr1 s1 = some (e, fr', s') → MB s s' ∧ fr'.round = fr.round ∧ fr'.m = fr.m := by
    intro c1 c2 e1 fr1 s1 h1 h2
    obtain ⟨a1, a2, a3⟩ := hR.code _ _ _ _ _ _ h1
    obtain ⟨b1, b2, b3⟩ := hR.code _ _ _ _ _ _ h2
    exact ⟨a1.trans b1, b2.trans a2, b3.trans a3⟩
  cases c with
  | rangeFunc f ps asg body =>
    obtain ⟨_, _, d, mk, s1, l, s2, v, s3, st, pend, t, m, ps', asg', body', d', h1, h2, h3, h4, _, h5, rfl, _⟩ := rangeB h
    exact ⟨((h1.mb.trans (new_mb h2)).trans (callV_mb hR h3)).trans (put_mb h4 h5), rfl, rfl⟩
  | region id ops draw =>
    unfold stepCode at h
    simp only [Option.map_eq_some_iff, Prod.mk.injEq] at h
    obtain ⟨q, hq, _, rfl, rfl⟩ := h
    obtain ⟨h1, h2⟩ := regB_mb hR (fr' := q.1) (s' := q.2) hq
    exact ⟨h1, h2.1, h2.2.1⟩
  | seq a b =>
    unfold stepCode at h
    simp only at h
    split at h
    · rename_i hq; exact tr hq h
    · exact hR.code _ _ _ _ _ _ h
  | loop b =>
    unfold stepCode at h
    simp only at h
    split at h
    · rename_i hq; exact tr hq h
    · exact hR.code _ _ _ _ _ _ h
  | block id b =>
    unfold stepCode at h
    simp only at h
    split at h
    · rename_i k fr1 s1 hq
      have := hR.code _ _ _ _ _ _ hq
      rcases bif_or h with ⟨_, h⟩ | ⟨_, h⟩ <;> (injection h with h; injection h with _ h; injection h with h1 h2; subst h1; subst h2; exact this)
    · exact hR.code _ _ _ _ _ _ h
  | cond c a b =>
    unfold stepCode at h
    simp only at h
    have h := (bif_some h).2
    split at h
    · rcases bif_or h with ⟨_, h⟩ | ⟨_, h⟩ <;> exact hR.code _ _ _ _ _ _ h
    · cases h
  | scope b =>
    unfold stepCode at h
    simp only at h
    split at h
    · exact hR.back _ _ _ _ _ _ _ h
    · cases h
  | skip => exact refl (by unfold stepCode at h; simp only at h; injection h with h; injection h with h1 h2; injection h2 with h2 h3; subst h1; subst h2; subst h3; rfl)
  | label l => exact refl (by unfold stepCode at h; simp only at h; injection h with h; injection h with h1 h2; injection h2 with h2 h3; subst h1; subst h2; subst h3; rfl)
  | exit l => exact refl (by unfold stepCode at h; simp only at h; injection h with h; injection h with h1 h2; injection h2 with h2 h3; subst h1; subst h2; subst h3; rfl)
  | goto l => exact refl (by unfold stepCode at h; simp only at h; injection h with h; injection h with h1 h2; injection h2 with h2 h3; subst h1; subst h2; subst h3; rfl)
  | ret => exact refl (by unfold stepCode at h; simp only at h; injection h with h; injection h with h1 h2; injection h2 with h2 h3; subst h1; subst h2; subst h3; rfl)
  | _ => unfold stepCode at h; cases h
def tupV : List Value → Value
  | [v] => v
  | vs => .tuple vs.toArray
theorem tupB : ∀ vs : List Value, (∀ u, vs = [u] → False) → Value.tuple vs.toArray = tupV vs
  | [], _ => rfl
  | [u], h => (h u rfl).elim
  | _ :: _ :: _, _ => rfl
theorem callB {f : FuncId} {args : List Value} {O : Orc} (h : stepCall P O R f args s = some (v, s')) : O f args s = some (v, s') ∨ ∃ fn, P.funcs[f]? = some fn ∧ (fn.name == "runtime.NumGoroutine") = false ∧
    ((fn.body = none ∧ pls args = true ∧ pv P (callFunc f args.toArray) = some (.value v) ∧ pl v = true ∧ s' = s) ∨
     ∃ c e fr s1 vs, fn.body = some c ∧ args.length ≤ fn.ntmps ∧ fn.ntmps ≤ big ∧ R.code c ⟨putAll args 0 .nil, fn.ntmps, [], none⟩ s = some (e, fr, s1) ∧ (e = .normal ∨ e = .ret) ∧ takeMarks fr.marks s1 = some s' ∧ resB P s' fr fn.results.toList = some vs ∧ v = tupV vs) := by
  unfold stepCall at h
  split at h
  · rename_i u hu
    injection h with h; subst h
    exact .inl hu
  refine .inr ?_
  split at h
  · cases h
  rename_i fn hfn
  rcases bif_or h with ⟨_, h⟩ | ⟨hn, h⟩
  · cases h
  refine ⟨fn, hfn, hn, ?_⟩
  split at h
  · rename_i hb
    obtain ⟨hp, h⟩ := bif_some h
    split at h
    · rename_i u hu
      obtain ⟨hpl, h⟩ := bif_some h
      injection h with h; injection h with h1 h2; subst h1; subst h2
      exact .inl ⟨hb, hp, hu, hpl, rfl⟩
    · cases h
  · rename_i c hb
    obtain ⟨hle, h⟩ := bif_some h
    simp only [Bool.and_eq_true, Nat.ble_eq] at hle
    refine .inr ?_
    split at h
    · rename_i e fr s1 hc
      have h2 : (e = .normal ∨ e = .ret) ∧ (match takeMarks fr.marks s1 with
          | none => none
          | some st => match resB P st fr fn.results.toList with
            | some [v] => some (v, st)
            | some vs => some (Value.tuple vs.toArray, st)
            | none => none) = some (v, s') := by
        split at h
        · exact ⟨.inl rfl, h⟩
        · exact ⟨.inr rfl, h⟩
        · cases h
      obtain ⟨he, h⟩ := h2
      split at h
      · cases h
      rename_i s2 ht
      split at h
      · rename_i u hu
        injection h with h; injection h with h1 h2; subst h1; subst h2
        exact ⟨c, e, fr, s1, _, hb, hle.1, hle.2, hc, he, ht, hu, rfl⟩
      · rename_i vs hne hu
        injection h with h; injection h with h1 h2; subst h1; subst h2
        refine ⟨c, e, fr, s1, vs, hb, hle.1, hle.2, hc, he, ht, hu, tupB vs hne⟩
      · cases h
    · cases h
theorem stepCall_mb {O : Orc} (hO : ∀ f args s v s', O f args s = some (v, s') → MB s s') (hR : RM R) {f : FuncId} {args : List Value} (h : stepCall P O R f args s = some (v, s')) : MB s s' := by
  rcases callB h with h | ⟨fn, _, _, h⟩
  · exact hO _ _ _ _ _ h
  rcases h with ⟨_, _, _, _, rfl⟩ | ⟨c, e, fr, s1, vs, _, _, _, h1, _, h2, _⟩
  · exact MB.refl _
  · exact (hR.code _ _ _ _ _ _ h1).1.trans (takeMarks_mb _ _ _ h2)
def jumpOf : Exit → Option (Option Code)
  | .normal => some none
  | .ret => some (some .ret)
  | .exit k => some (some (.exit k))
  | _ => none
theorem yieldB {l : Nat} {args : List Value} (h : stepYield P R l args s = some (v, s')) : ∃ pend t m ps asg body d t' fr1 s1 pend2 t2 m2 ps2 asg2 body2 d2 s2 e fr3 s3 st3 pend3 t3 m3 ps3 asg3 body3 d3 jump, s.get l = some (.loop .ready pend t m ps asg body d) ∧ args.length = ps.size ∧ putPar m (ps.toList.zip args) t = some t' ∧
    R.code asg ⟨t', m, [], some l⟩ s = some (.normal, fr1, s1) ∧ s1.get l = some (.loop .ready pend2 t2 m2 ps2 asg2 body2 d2) ∧ s1.put l (some (.loop .busy pend2 t2 m2 ps2 asg2 body2 d2)) = some s2 ∧ R.code body fr1 s2 = some (e, fr3, s3) ∧
    s3.get l = some (.loop st3 pend3 t3 m3 ps3 asg3 body3 d3) ∧ jumpOf e = some jump ∧ s3.put l (some (.loop (bif jump.isNone then .ready else .done) jump t3 m3 ps3 asg3 body3 d3)) = some s' ∧ v = .bool jump.isNone := by
  unfold stepYield at h
  split at h
  · rename_i pend t m ps asg body d hg
    obtain ⟨hl, h⟩ := bif_some h
    have hl := Nat.eq_of_beq_eq_true hl
    split at h
    · cases h
    rename_i t' ht
    split at h
    · rename_i fr1 s1 hc
      split at h
      · rename_i pend2 t2 m2 ps2 asg2 body2 d2 hg2
        split at h
        · cases h
        rename_i s2 hp
        split at h
        · cases h
        rename_i e fr3 s3 hb
        split at h
        · rename_i st3 pend3 t3 m3 ps3 asg3 body3 d3 jump hg3 hj
          simp only [Option.map_eq_some_iff, Prod.mk.injEq] at h
          obtain ⟨s4, hp4, e1, e2⟩ := h
          subst e2
          refine ⟨pend, t, m, ps, asg, body, d, t', fr1, s1, pend2, t2, m2, ps2, asg2, body2, d2, s2, e, fr3, s3, st3, pend3, t3, m3, ps3, asg3, body3, d3, jump, hg, hl, ht, hc, hg2, hp, hb, hg3, ?_, hp4, e1.symm⟩
          cases e <;> first | exact hj | (simp at hj; done) | (cases hj; done) | (unfold jumpOf; exact hj)
        · cases h
      · cases h
    · cases h
  · cases h
theorem stepYield_mb (hR : RM R) {l : Nat} {args : List Value} (h : stepYield P R l args s = some (v, s')) : MB s s' := by
  obtain ⟨pend, t, m, ps, asg, body, d, t', fr1, s1, pend2, t2, m2, ps2, asg2, body2, d2, s2, e, fr3, s3, st3, pend3, t3, m3, ps3, asg3, body3, d3, jump, _, _, _, h1, h2, h3, h4, h5, _, h6, _⟩ := yieldB h
  exact (((hR.code _ _ _ _ _ _ h1).1.trans (put_mb h2 h3)).trans (hR.code _ _ _ _ _ _ h4).1).trans (put_mb h5 h6)
theorem stepBack_mb (hR : RM R) {b c : Code} (h : stepBack R b c fr s = some (e, fr', s')) : MB s s' ∧ fr'.round = fr.round ∧ fr'.m = fr.m := by
  unfold stepBack at h
  split at h
  · rename_i l fr1 s1 hq
    obtain ⟨a1, a2, a3⟩ := hR.code _ _ _ _ _ _ hq
    split at h
    · obtain ⟨b1, b2, b3⟩ := hR.back _ _ _ _ _ _ _ h
      exact ⟨a1.trans b1, b2.trans a2, b3.trans a3⟩
    · injection h with h; injection h with h1 h2; injection h2 with h2 h3; subst h1; subst h2; subst h3
      exact ⟨a1, a2, a3⟩
  · exact hR.code _ _ _ _ _ _ h
theorem step_rm {O : Orc} (hO : ∀ f args s v s', O f args s = some (v, s') → MB s s') (hR : RM R) : RM ⟨stepCode P R, stepCall P O R, stepYield P R, stepBack R⟩ :=
  ⟨fun _ _ _ _ _ _ h => stepCode_mb hR h, fun _ _ _ _ _ h => stepCall_mb hO hR h, fun _ _ _ _ _ h => stepYield_mb (P := P) hR h, fun _ _ _ _ _ _ _ h => stepBack_mb hR h⟩
end
end Go.Proofs.YtdeghcgakkhbmaaGreat
namespace Go.Proofs.YtdeghcgakkhbmaaGreat
open Go.RowKit
set_option maxRecDepth 100000
def RoR (r : Rn) : Option Nat → Option Nat → Prop
  | none, none => True
  | some l, some b => ∃ x, r l = some (b, x)
  | _, _ => False
theorem RoR.mono {r r' : Rn} (hr : ∀ k p, r k = some p → r' k = some p) : ∀ {x y : Option Nat}, RoR r x y → RoR r' x y
  | none, none, _ => trivial
  | some _, some _, ⟨x, h⟩ => ⟨x, hr _ _ h⟩
/-- what is known without a walk is so, and leaves what is there -/
structure OrcOk (P : Program) (O : Orc) : Prop where
  mb : ∀ f args s v s', O f args s = some (v, s') → MB s s'
  ok : ∀ f args s v s', O f args s = some (v, s') → ∀ B r w args', Rel P B r s w → s'.next ≤ B → LR r args args' → Upon P (Res P B s s' r w v) ((callFunc f args'.toArray).run P w)
/-- what a run of code says -/
def CodeS (P : Program) (fr : Fr) (s : St) (e : Exit) (fr' : Fr) (s' : St) (W : Option Nat → Nat → (Exit → Act → World → Prop) → Act → World → Prop) : Prop :=
  ∀ (B : Nat) (r : Rn) (w : World) (a : Act) (ro : Option Nat) (n : Nat) (Q : Exit → Act → World → Prop), Rel P B r s w → s'.next ≤ B → FrR r fr a → RoR r fr.round ro → (∀ r' a' w', FrR r' fr' a' → Good P B s s' r r' w w' → Q e a' w') → W ro n Q a w
/-- code within a scope -/
def InSc (P : Program) (b c : Code) (Q : Exit → Act → World → Prop) (a : Act) (w : World) : Prop :=
  ∀ (f : Frame) (k : List Item) (cs : List Frame), ∃ e a' w', Q e a' w' ∧ Arrives P (lone (f.at a (.code c :: .inScope b :: k)) cs w) f k cs e a' w'
structure SoundK (P : Program) (R : Rec) : Prop extends SoundC P R where
  code : ∀ c fr s e fr' s', R.code c fr s = some (e, fr', s') → CodeS P fr s e fr' s' fun ro n Q a w => c.wpIn (FO ro) n P Q a w
  back : ∀ b c fr s e fr' s', R.back b c fr s = some (e, fr', s') → fr.round = none → CodeS P fr s e fr' s' fun _ _ Q a w => InSc P b c Q a w
  loop : ∀ c fr s e fr' s', R.code (.loop c) fr s = some (e, fr', s') → ∃ m, CodeS P fr s e fr' s' fun ro n Q a w => Code.roundsIn (FO ro) n P c Q m a w
section
variable {P : Program} {R : Rec} {B : Nat} {r : Rn} {fr fr' : Fr} {s s' : St} {e : Exit} {v : Value} {w : World} {a : Act} {ro : Option Nat}
theorem sem_pure {α : Type} : ∀ x : Sem α, x.bind Sem.pure = x
  | .pure a => rfl
  | .load m a k => congrArg (Sem.load m a) (funext fun v => sem_pure (k v))
  | .store m a v k => congrArg (Sem.store m a v) (sem_pure k)
  | .new o k => congrArg (Sem.new o) (funext fun v => sem_pure (k v))
  | .shape r k => congrArg (Sem.shape r) (funext fun v => sem_pure (k v))
  | .freeze a n k => congrArg (Sem.freeze a n) (sem_pure k)
  | .frozen a k => congrArg (Sem.frozen a) (funext fun v => sem_pure (k v))
  | .getObj r k => congrArg (Sem.getObj r) (funext fun v => sem_pure (k v))
  | .setObj r o k => congrArg (Sem.setObj r o) (sem_pure k)
  | .choose q k => congrArg (Sem.choose q) (funext fun v => sem_pure (k v))
  | .sys c k => congrArg (Sem.sys c) (funext fun v => sem_pure (k v))
  | .program k => congrArg Sem.program (funext fun v => sem_pure (k v))
  | .mark m k => congrArg (Sem.mark m) (sem_pure k)
  | .halt h => rfl
theorem sem_assoc {α β γ : Type} (f : α → Sem β) (g : β → Sem γ) : ∀ x : Sem α, (x.bind f).bind g = x.bind fun a => (f a).bind g
  | .pure a => rfl
  | .load m a k => congrArg (Sem.load m a) (funext fun v => sem_assoc f g (k v))
  | .store m a v k => congrArg (Sem.store m a v) (sem_assoc f g k)
  | .new o k => congrArg (Sem.new o) (funext fun v => sem_assoc f g (k v))
  | .shape r k => congrArg (Sem.shape r) (funext fun v => sem_assoc f g (k v))
  | .freeze a n k => congrArg (Sem.freeze a n) (sem_assoc f g k)
  | .frozen a k => congrArg (Sem.frozen a) (funext fun v => sem_assoc f g (k v))
  | .getObj r k => congrArg (Sem.getObj r) (funext fun v => sem_assoc f g (k v))
  | .setObj r o k => congrArg (Sem.setObj r o) (sem_assoc f g k)
  | .choose q k => congrArg (Sem.choose q) (funext fun v => sem_assoc f g (k v))
  | .sys c k => congrArg (Sem.sys c) (funext fun v => sem_assoc f g (k v))
  | .program k => congrArg Sem.program (funext fun v => sem_assoc f g (k v))
  | .mark m k => congrArg (Sem.mark m) (sem_assoc f g k)
  | .halt h => rfl
theorem semLaw : LawfulMonad Sem := LawfulMonad.mk' Sem (fun x => sem_pure x) (fun _ _ => rfl) (fun x f g => sem_assoc f g x)
theorem MB.nx (h : MB s s') (hb : s.next ≤ big) : s.next ≤ s'.next := (h hb).1.next
theorem Rel.at_loop (h : Rel P B r s w) {l b x : Nat} {st : LoopState} {pend : Option Code} {t : Tr Value} {m : Nat} {ps : Array Tmp} {asg body : Code} {d : Nat} (hg : s.get l = some (.loop st pend t m ps asg body d)) (hr : r l = some (b, x)) :
    ∃ fn tm d' y, w.heap[b]? = some (.loop { state := st, pending := pend, fn := fn, tmps := tm, params := ps, assign := asg, body := body, defers := d' }) ∧ r d = some (d', y) ∧ SlR r t m tm := by
  obtain ⟨b', x', o', h1, h2, fn, tm, d', y, h3, h4, h5⟩ := h.obj _ _ hg
  rw [hr] at h1; injection h1 with h1; injection h1 with e1 e2
  subst e1; subst h3
  exact ⟨fn, tm, d', y, h2, h4, h5⟩
theorem put_loop (h : Rel P B r s w) {l b x : Nat} {st st2 : LoopState} {pend pend2 : Option Code} {t : Tr Value} {m : Nat} {ps : Array Tmp} {asg body : Code} {d : Nat} (hg : s.get l = some (.loop st pend t m ps asg body d)) (hp : s.put l (some (.loop st2 pend2 t m ps asg body d)) = some s') (hr : r l = some (b, x))
    {fn : FuncId} {tm : Array Value} {d' y : Nat} (hw : w.heap[b]? = some (.loop { state := st, pending := pend, fn := fn, tmps := tm, params := ps, assign := asg, body := body, defers := d' })) (hd : r d = some (d', y)) (ht : SlR r t m tm) :
    Good P B s s' r r w (w.putObj b (.loop { state := st2, pending := pend2, fn := fn, tmps := tm, params := ps, assign := asg, body := body, defers := d' })) :=
  put_ok h hp hg hr (Set1.obj _ (Array.getElem?_eq_some_iff.1 hw).1) ⟨fn, tm, d', y, rfl, hd, ht⟩
theorem ent_ok {d : Nat} {mk : List Nat} {s1 s2 : St} {l : Nat} {ps : Array Tmp} {asg body : Code} (hE : EntB fr s d mk s1) (hn : s1.new (.loop .ready none fr.t fr.m ps asg body d) = some (l, s2)) (hB : s2.next ≤ B) (h : Rel P B r s w) (hf : FrR r fr a) (ho : RoR r fr.round ro) (fn : FuncId) :
    ∃ lb mark w2 r2 x, (Instr.enterLoop fn a.tmps ps asg body ro).run P w = .ok (lb, mark) w2 ∧ Good P B s s2 r r2 w w2 ∧ r2 l = some (lb, x) ∧ FrR r2 { fr with marks := mk ++ fr.marks } { a with defers := mark ++ a.defers } := by
  rcases hE with ⟨hro, hd, rfl⟩ | ⟨l0, st, pend, t, m, ps0, asg0, body0, hro, hg, rfl, rfl⟩
  · rw [hro] at ho
    cases ro with
    | some _ => cases ho
    | none =>
    have hB1 : s1.next ≤ B := Nat.le_trans ((new_mb hn).nx ((new_mb hd) h.nb).2) hB
    have g1 := new_ok h hB1 hd (Push1.alloc w (.deferred (some []))) (x := 0) rfl
    have hk : upd r d (w.heap.size, 0) d = some (w.heap.size, 0) := upd_self _ _ _
    have hup1 := g1.up h
    have hsz : (w.alloc (.deferred (some []))).heap.size = w.heap.size + 1 := World.size_alloc _ _
    have hne : d ≠ l := by
      obtain ⟨_, e1, e2⟩ := new_some hd
      obtain ⟨_, e3, _⟩ := new_some hn
      rw [e1, e3, e2]; exact Nat.ne_of_lt (Nat.lt_succ_self _)
    have g2 := new_ok g1.rel hB hn (Push1.alloc (w.alloc (.deferred (some []))) (.loop { state := .ready, pending := none, fn := fn, tmps := a.tmps, params := ps, assign := asg, body := body, defers := w.heap.size })) (x := 0) (by
      refine ⟨fn, a.tmps, w.heap.size, 0, rfl, ?_, ?_⟩
      · rw [upd_ne hne]; exact hk
      · refine (hf.1.mono hup1).mono fun k p hkp => ?_
        by_cases e : k = l
        · subst e
          have := (g1.rel).fresh hn hB
          rw [this] at hkp; cases hkp
        · rw [upd_ne e]; exact hkp)
    rw [hsz] at g2
    refine ⟨_, _, _, _, 0, run_enterLoop_outer _ _ _ _ _, g1.trans g2, upd_self _ _ _, ?_, ?_⟩
    · exact (hf.1.mono hup1).mono (g2.up g1.rel)
    · have hm := (hf.2.mono hup1).mono (g2.up g1.rel)
      refine ⟨by simp [hm.1], fun i k hi => ?_⟩
      cases i with
      | zero =>
        simp at hi; subst hi
        exact ⟨w.heap.size, 0, by rw [upd_ne hne]; exact hk, by simp⟩
      | succ i =>
        have hi : fr.marks[i]? = some k := by simpa using hi
        obtain ⟨b, x, h1, h2⟩ := hm.2 i k hi
        exact ⟨b, x, h1, by simpa using h2⟩
  · rw [hro] at ho
    cases ro with
    | none => cases ho
    | some b0 =>
    obtain ⟨x0, hr0⟩ := ho
    obtain ⟨fn0, tm0, d', y, h1, h2, h3⟩ := h.at_loop hg hr0
    have hup : ∀ k p, r k = some p → upd r l (w.heap.size, 0) k = some p := fun k p hkp => by
      by_cases e : k = l
      · subst e
        have := h.fresh hn hB
        rw [this] at hkp; cases hkp
      · rw [upd_ne e]; exact hkp
    have g := new_ok h hB hn (Push1.alloc w (.loop { state := .ready, pending := none, fn := fn, tmps := a.tmps, params := ps, assign := asg, body := body, defers := d' })) (x := 0) ⟨fn, a.tmps, d', y, rfl, hup _ _ h2, hf.1.mono hup⟩
    exact ⟨_, _, _, _, 0, run_enterLoop_inner h1 _ _ _ _ _, g, upd_self _ _ _, hf.1.mono hup, hf.2.mono hup⟩
theorem putPar_ok {m : Nat} : ∀ {l : List Tmp} {zs zs' : List Value} {t t' : Tr Value} {tm : Array Value}, zs.length = l.length → LR r zs zs' → SlR r t m tm → putPar m (l.zip zs) t = some t' → SlR r t' m ((l.zip zs').foldl (fun tmps p => tmps.setIfInBounds p.1 p.2) tm)
  | [], _, _, t, t', tm, _, _, hs, h => by
    simp only [List.zip_nil_left, putPar] at h ⊢
    injection h with h; subst h; exact hs
  | d :: l, [], _, _, _, _, hl, _, _, _ => by simp at hl
  | d :: l, v :: zs, zs', t, t', tm, hl, ha, hs, h => by
    obtain ⟨v', q, rfl, h1, h2⟩ := ha.uncons
    simp only [List.zip_cons_cons, putPar] at h ⊢
    obtain ⟨hd, h⟩ := bif_some h
    exact putPar_ok (by simpa using hl) h2 (hs.put (blt_lt hd) h1) h
theorem roundPost_of {l : Nat} {K : Ending → World → Prop} {jump : Option Code} (hj : jumpOf e = some jump) (h : ∃ v w', (Instr.endRound l jump).run P w = .ok v w' ∧ K (.returned v) w') : roundPost P l K e a w := by
  cases e <;> simp [jumpOf] at hj <;> subst hj <;> exact h
theorem marks_ok {fn : Func} {tm : Array Value} {K : Ending → World → Prop} {n : Nat} : ∀ {ms : List Nat} {ds : List Deferred} {s : St} {w : World}, MkR r ms ds → takeMarks ms s = some s' → Rel P B r s w → (∀ w', Good P B s s' r r w w' → LeavesInM Fence.wide n P fn tm K [] .returning w') → LeavesInM Fence.wide n P fn tm K ds .returning w
  | [], ds, s, w, hm, h, hr, hK => by
    have : ds = [] := by have := hm.1; simpa using this
    subst this
    injection h with h; subst h
    exact hK w (Good.refl hr)
  | d :: ms, [], s, w, hm, h, hr, hK => by have := hm.1; simp at this
  | d :: ms, x :: ds, s, w, hm, h, hr, hK => by
    simp only [takeMarks] at h
    split at h
    · rename_i hg
      split at h
      · rename_i s1 hp
        obtain ⟨b, y, h1, h2⟩ := hm.2 0 d rfl
        simp at h2; subst h2
        obtain ⟨b', y', o', h3, h4, h5⟩ := hr.obj _ _ hg
        rw [h1] at h3; injection h3 with h3; injection h3 with e1 e2; subst e1; subst e2
        have h5 : o' = .deferred (some []) := h5
        subst h5
        have g := put_ok hr hp hg h1 (Set1.obj (.deferred none) (Array.getElem?_eq_some_iff.1 h4).1) rfl
        refine ⟨by simp, .inl ⟨_, _, rfl, run_takeDeferred h4, ?_⟩⟩
        refine marks_ok (ms := ms) ⟨by have := hm.1; simpa using this, fun i k hi => hm.2 (i + 1) k (by simpa using hi)⟩ h g.rel fun w' g2 => hK w' (g.trans g2)
      · cases h
    · cases h
theorem mapM_run {α β : Type} {f : α → Sem β} : ∀ (zs : List α) (vs : List β), vs.length = zs.length → (∀ j (hj : j < zs.length) (hj' : j < vs.length), (f zs[j]).run P w = .ok (vs[j]) w) → (zs.mapM f).run P w = .ok vs w
  | [], [], _, _ => rfl
  | [], _ :: _, hl, _ => by simp at hl
  | _ :: _, [], hl, _ => by simp at hl
  | x :: zs, v :: vs, hl, h => by
    have := semLaw
    have h0 := h 0 (by simp) (by simp)
    have ih := mapM_run zs vs (by simpa using hl) fun j hj hj' => h (j + 1) (by simpa using hj) (by simpa using hj')
    rw [List.mapM_cons, Sem.run_bind, show (f x).run P w = _ from h0]
    simp only [Result.andThen]
    rw [Sem.run_bind, ih]
    rfl
def resF (tm : Array Value) : ResultVar → Sem Value
  | .tmp t => pure (tm.getD t undef)
  | .cell b t => do loadVar t (← asAddr (tm.getD b undef))
theorem resF_eq (fn : Func) (tm : Array Value) : results fn tm = (do let vs ← fn.results.mapM (resF tm); pure (if h : vs.size = 1 then vs[0] else .tuple vs)) := rfl
theorem res_ok (hr : Rel P B r s w) (hf : SlR r fr.t fr.m a.tmps) : ∀ {l : List ResultVar} {vs : List Value}, resB P s fr l = some vs → ∃ vs' : List Value, LR r vs vs' ∧ vs'.length = l.length ∧ ∀ j (hj : j < l.length) (hj' : j < vs'.length), (resF a.tmps l[j]).run P w = .ok (vs'[j]) w
  | [], vs, h => by
    injection h with h; subst h
    exact ⟨[], LR.nil, rfl, fun j hj => by simp at hj⟩
  | .tmp t :: l, vs, h => by
    simp only [resB] at h
    split at h
    · rename_i us hu
      injection h with h; subst h
      obtain ⟨us', h1, h2, h3⟩ := res_ok hr hf hu
      refine ⟨a.tmps.getD t undef :: us', LR.cons (hf.2.2 t) h1, by simp [h2], fun j hj hj' => ?_⟩
      cases j with
      | zero => rfl
      | succ j => exact h3 j (by simpa using hj) (by simpa using hj')
    · cases h
  | .cell b t :: l, vs, h => by
    simp only [resB] at h
    split at h
    · rename_i k off hk
      split at h
      · rename_i u us hl hu
        injection h with h; subst h
        obtain ⟨us', h1, h2, h3⟩ := res_ok hr hf hu
        have hv : VR r (fr.get b) (a.tmps.getD b undef) := hf.2.2 b
        rw [hk] at hv
        have hp : ∃ b' x, r k = some (b', x) ∧ a.tmps.getD b undef = .pointer (some ⟨b', off, none⟩) := by
          generalize hq : a.tmps.getD b undef = q at hv
          cases hv with
          | pln h => simp [pl] at h
          | ptr h => exact ⟨_, _, h, rfl⟩
        obtain ⟨b', x, hx, hp⟩ := hp
        obtain ⟨u', hu1, hu2⟩ := ld_ok hr hl hx
        refine ⟨u' :: us', LR.cons hu1 h1, by simp [h2], fun j hj hj' => ?_⟩
        cases j with
        | zero =>
          show (Bind.bind (asAddr (a.tmps.getD b undef)) (loadVar t)).run P w = _
          rw [hp]
          simpa [asAddr, Sem.run_bind, Result.andThen] using hu2
        | succ j => exact h3 j (by simpa using hj) (by simpa using hj')
      · cases h
    · cases h
theorem results_ok (hr : Rel P B r s w) (hf : SlR r fr.t fr.m a.tmps) {fn : Func} {vs : List Value} (h : resB P s fr fn.results.toList = some vs) : ∃ v', (results fn a.tmps).run P w = .ok v' w ∧ VR r (tupV vs) v' := by
  obtain ⟨vs', h1, h2, h3⟩ := res_ok hr hf h
  have hm := mapM_run (P := P) (w := w) fn.results.toList vs' h2 h3
  have e1 : (results fn a.tmps).run P w = .ok (if h : vs'.toArray.size = 1 then vs'.toArray[0] else .tuple vs'.toArray) w := by
    have := semLaw
    rw [resF_eq, Array.mapM_eq_mapM_toList, Sem.run_bind, map_eq_pure_bind, Sem.run_bind]
    rw [hm]
    rfl
  refine ⟨_, e1, ?_⟩
  match vs, vs', h1 with
  | [], vs', h1 => rw [h1.nil']; exact .pln rfl
  | [v], vs', h1 =>
    obtain ⟨v', rfl, hv⟩ := h1.un1
    exact hv
  | v :: u :: vs, vs', h1 =>
    have hl := h1.1
    have : ¬ vs'.toArray.size = 1 := by simp [← hl]
    rw [dif_neg this]
    exact .tu h1.arr.1 h1.arr.2
end
end Go.Proofs.YtdeghcgakkhbmaaGreat
namespace Go.Proofs.YtdeghcgakkhbmaaGreat
open Go.RowKit
set_option maxRecDepth 100000
section
variable {P : Program} {R : Rec} {B : Nat} {r : Rn} {fr fr' : Fr} {s s' : St} {e : Exit} {v : Value} {w : World} {a : Act} {ro : Option Nat}
theorem putAll_get : ∀ (l : List Value) (i : Nat) (t : Tr Value) (k : Nat), i + l.length ≤ big → (putAll l i t).get k = if i ≤ k ∧ k < i + l.length then l[k - i]? else t.get k
  | [], i, t, k, _ => by rw [if_neg (by simp)]; rfl
  | v :: l, i, t, k, h => by
    have hl : (v :: l).length = l.length + 1 := rfl
    rw [hl] at h ⊢
    show (putAll l (i + 1) (t.set 24 i (some v))).get k = _
    rw [putAll_get l (i + 1) _ k (by omega), Tr.get_set 24 t i _ k (by unfold big at h; omega)]
    by_cases e : k = i
    · subst e
      rw [if_neg (by omega), if_pos rfl, if_pos (by omega)]
      simp
    · rw [if_neg e]
      by_cases h2 : i ≤ k ∧ k < i + (l.length + 1)
      · rw [if_pos (by omega), if_pos h2]
        have : k - i = (k - (i + 1)) + 1 := by omega
        rw [this]; rfl
      · rw [if_neg (by omega), if_neg h2]
theorem enter_sl {args args' : List Value} {m : Nat} (ha : LR r args args') (hle : args.length ≤ m) (hm : m ≤ big) : SlR r (putAll args 0 .nil) m (args'.toArray ++ Array.replicate (m - args'.toArray.size) undef) := by
  have hl := ha.1
  refine ⟨by simp [← hl]; omega, hm, fun k => ?_⟩
  rw [putAll_get args 0 .nil k (by omega)]
  by_cases h : 0 ≤ k ∧ k < 0 + args.length
  · rw [if_pos h]
    have hk : k < args.length := by omega
    have h1 : args[k - 0]? = some args[k] := by simp [hk]
    obtain ⟨v', h2, h3⟩ := ha.get (i := k) (v := args[k]) (by simp [hk])
    have hk' : k < args'.length := by omega
    have h4 : (args'.toArray ++ Array.replicate (m - args'.toArray.size) undef).getD k undef = v' := by
      rw [List.getElem?_eq_getElem hk'] at h2; injection h2 with h2
      simp [Array.getD_eq_getD_getElem?, Array.getElem?_append, hk', h2]
    rw [h1, h4]; exact h3
  · rw [if_neg h]
    have hk : args'.length ≤ k := by omega
    have h4 : (args'.toArray ++ Array.replicate (m - args'.toArray.size) undef).getD k undef = undef := by
      rw [Array.getD_eq_getD_getElem?, Array.getElem?_append]
      rw [if_neg (by simpa using hk)]
      simp [Array.getElem?_replicate]
      split <;> rfl
    rw [h4]; exact VR.undef
theorem call_ok {O : Orc} (hO : OrcOk P O) (hM : RM R) (hK : SoundK P R) {f : FuncId} {args args' : List Value} (h : stepCall P O R f args s = some (v, s')) (hr : Rel P B r s w) (hB : s'.next ≤ B) (ha : LR r args args') : Upon P (Res P B s s' r w v) ((callFunc f args'.toArray).run P w) := by
  rcases callB h with h | ⟨fn, hfn, hng, h⟩
  · exact hO.ok _ _ _ _ _ h B r w args' hr hB ha
  rcases h with ⟨hb, hp, hv, hpl, rfl⟩ | ⟨c, e, fr, s1, vs, hb, hle, hbig, hc, he, ht, hres, rfl⟩
  · rw [ha.same hp, pv_run hv w]
    exact ⟨r, .pln hpl, Good.refl hr⟩
  · have e1 : (callFunc f args'.toArray).run P w = .ok (.enter f args'.toArray) w := by
      simp [callFunc, Sem.run_bind, hfn, hb] at hng ⊢
      simp [hng]
    rw [e1]
    intro n
    have hb1 := ((hM.code _ _ _ _ _ _ hc).1 hr.nb).2
    have hB1 : s1.next ≤ B := Nat.le_trans ((takeMarks_mb _ _ _ ht).nx hb1) hB
    refine callsIn_of_wp_marks (F := Fence.wide) hfn hb trivial (hK.code _ _ _ _ _ _ hc B r w _ none n _ hr hB1 ⟨enter_sl ha hle hbig, rfl, fun i d hd => by simp at hd⟩ trivial fun r1 a1 w1 hf1 g1 => ?_)
    have key : LeavesInM Fence.wide n P fn a1.tmps (fun e w' => ∃ v', e = .returned v' ∧ Res P B s s' r w (tupV vs) v' w') a1.defers .returning w1 := by
      refine marks_ok (r := r1) hf1.2 ht g1.rel fun w2 g2 => ?_
      obtain ⟨v', h1, h2⟩ := results_ok g2.rel hf1.1 hres
      exact ⟨v', h1, v', rfl, r1, h2, g1.trans g2⟩
    rcases he with rfl | rfl <;> exact key
theorem yield_ok (hM : RM R) (hK : SoundK P R) {l : Nat} {args args' : List Value} (h : stepYield P R l args s = some (v, s')) (hr : Rel P B r s w) (hB : s'.next ≤ B) (ha : LR r args args') {b x : Nat} (hl : r l = some (b, x)) : Upon P (Res P B s s' r w v) ((Instr.yield b args'.toArray).run P w) := by
  obtain ⟨pend, t, m, ps, asg, body, d, t', fr1, s1, pend2, t2, m2, ps2, asg2, body2, d2, s2, e, fr3, s3, st3, pend3, t3, m3, ps3, asg3, body3, d3, jump, hg, hlen, ht', hc, hg2, hp2, hbd, hg3, hj, hp3, rfl⟩ := yieldB h
  have b1 := (hM.code _ _ _ _ _ _ hc).1 hr.nb
  have b2 := put_mb hg2 hp2 b1.2
  have b3 := (hM.code _ _ _ _ _ _ hbd).1 b2.2
  have b4 := put_mb hg3 hp3 b3.2
  have hB3 : s3.next ≤ B := Nat.le_trans b4.1.next hB
  have hB2 : s2.next ≤ B := Nat.le_trans b3.1.next hB3
  have hB1 : s1.next ≤ B := Nat.le_trans b2.1.next hB2
  obtain ⟨fn, tm, d', y, h1, h2, h3⟩ := hr.at_loop hg hl
  rw [run_yield h1 (by simp [← ha.1, hlen])]
  intro n
  have hsl : SlR r t' m ((ps.zip args'.toArray).foldl (fun tmps (t, a) => tmps.setIfInBounds t a) tm) := by
    have := putPar_ok (l := ps.toList) (by simpa using hlen) ha h3 ht'
    rw [← Array.foldl_toList, Array.toList_zip]
    exact this
  refine roundIn_of_wpIn (F := Fence.wide) trivial ?_
  refine hK.code _ _ _ _ _ _ hc B r w _ (some b) n _ hr hB1 ⟨hsl, rfl, fun i d hd => by simp at hd⟩ ⟨x, hl⟩ fun r1 a1 w1 hf1 g1 => ?_
  have hl1 := g1.up hr _ _ hl
  obtain ⟨fn1, tm1, d1', y1, k1, k2, k3⟩ := g1.rel.at_loop hg2 hl1
  refine ⟨_, run_beginRound k1 rfl, ?_⟩
  have g2 := put_loop g1.rel hg2 hp2 hl1 k1 k2 k3
  have hro : fr1.round = some l := (hM.code _ _ _ _ _ _ hc).2.1
  refine hK.code _ _ _ _ _ _ hbd B r1 _ a1 (some b) n _ g2.rel hB3 hf1 (by rw [hro]; exact ⟨x, hl1⟩) fun r3 a3 w3 hf3 g3 => ?_
  have hl3 := g3.up g2.rel _ _ hl1
  obtain ⟨fn3, tm3, d3', y3, q1, q2, q3⟩ := g3.rel.at_loop hg3 hl3
  refine roundPost_of hj ⟨_, _, run_endRound jump q1, _, rfl, r3, .pln rfl, ((g1.trans g2).trans g3).trans ?_⟩
  have hb : (if jump.isNone = true then LoopState.ready else LoopState.done) = (bif jump.isNone then LoopState.ready else LoopState.done) := by cases jump <;> rfl
  have g4 := put_loop g3.rel hg3 hp3 hl3 q1 q2 q3
  rw [← hb] at g4
  exact g4
theorem enters {f : Value} {f' : Value} (h : entersB P f = true) (hv : VR r f f') : ∃ g first' cap' fn c, f' = .func (.func g) first' cap' ∧ P.funcs[g]? = some fn ∧ fn.body = some c ∧ (fn.name == "runtime.NumGoroutine") = false := by
  unfold entersB at h
  split at h
  · rename_i g first cap
    split at h
    · rename_i fn hfn
      simp only [Bool.and_eq_true, Bool.not_eq_true'] at h
      obtain ⟨hb, hn⟩ := h
      obtain ⟨c, hc⟩ := Option.isSome_iff_exists.1 hb
      have hff : ∃ first' cap', f' = .func (.func g) first' cap' := by
        cases hv with
        | pln h => exact ⟨_, _, rfl⟩
        | fn h1 h2 h3 h4 => exact ⟨_, _, rfl⟩
      obtain ⟨first', cap', rfl⟩ := hff
      exact ⟨g, first', cap', fn, c, rfl, hfn, hc, hn⟩
    · cases h
  · cases h
theorem range_ok (hM : RM R) (hK : SoundK P R) {f : Operand} {ps : Array Tmp} {asg body : Code} (h : stepCode P R (.rangeFunc f ps asg body) fr s = some (e, fr', s')) : CodeS P fr s e fr' s' fun ro n Q a w => (Code.rangeFunc f ps asg body).wpIn (FO ro) n P Q a w := by
  obtain ⟨hok, hent, d, mk, s1, l, s2, v, s3, st, pend, t, m, ps', asg', body', d', hE, hn, hc, hg, hb, hp, rfl, hj⟩ := rangeB h
  intro B r w a ro n Q hr hB hf ho hQ
  have b1 := hE.mb hr.nb
  have b2 := new_mb hn b1.2
  have b3 := callV_mb hM hc b2.2
  have b4 := put_mb hg hp b3.2
  have hB3 : s3.next ≤ B := Nat.le_trans b4.1.next hB
  have hB2 : s2.next ≤ B := Nat.le_trans b3.1.next hB3
  refine wpIn_rangeFunc fun fn _ => ?_
  obtain ⟨lb, mark, w2, r2, x, he, g, hl, hf2⟩ := ent_ok hE hn hB2 hr hf ho fn
  have hv := (ev_ok hr.gl hf.1 hok).mono (g.up hr)
  obtain ⟨g0, first', cap', fn0, c0, hev, hfn0, hb0, hn0⟩ := enters hent hv
  have hinv : (invoke (.fn (.func g0) cap') (first' ++ #[.func (.yield lb) #[] #[]])).run P w2 = .ok (.enter g0 (first' ++ #[.func (.yield lb) #[] #[]] ++ cap')) w2 := by
    simp [invoke, callFunc, Sem.run_bind, hfn0, hb0] at hn0 ⊢
    simp [hn0]
  have hup := callV_ok hK.toSoundC (args' := [.func (.yield lb) #[] #[]]) g.rel hB3 hc hv (LR.cons (.yl hl) LR.nil)
  rw [hev] at hup
  have e0 : (do let d ← Deferred.ofValue (.func (.func g0) first' cap') [Value.func (.yield lb) #[] #[]].toArray; invoke d.target d.args : Sem Go.Next).run P w2 = .ok (.enter g0 (first' ++ #[.func (.yield lb) #[] #[]] ++ cap')) w2 := by
    rw [← hinv]; rfl
  rw [e0] at hup
  refine ⟨lb, mark, w2, { target := .fn (.func g0) cap', args := first' ++ #[.func (.yield lb) #[] #[]] }, w2, g0, _, w2, he, ?_, fun _ _ => trivial, hinv, fun h => by simp [FO, Fence.wide] at h, ?_⟩
  · have e2 : Go.resolve a.eval (rangeCall f lb) 0 = Deferred.ofValue (a.eval f) #[Value.func (.yield lb) #[] #[]] := by simp [Go.resolve, Act.eval]
    rw [e2, hev]; rfl
  · have hcall := (hup (n - 1)).mono (R' := rangePost (FO ro) n P lb Q { a with defers := mark ++ a.defers }) (by
      rintro e w3 ⟨v', rfl, r3, _, g3⟩
      have hl3 := g3.up g.rel _ _ hl
      obtain ⟨fn3, tm3, dd, y, h1, h2, h3⟩ := g3.rel.at_loop hg hl3
      refine ⟨_, _, run_endLoop h1 hb, ?_⟩
      have g4 := put_loop g3.rel hg hp hl3 h1 h2 h3
      have hfin := hQ r3 { a with defers := mark ++ a.defers } _ (hf2.mono (g3.up g.rel)) ((g.trans g3).trans g4)
      rcases hj with ⟨rfl, rfl⟩ | ⟨rfl, rfl⟩ | ⟨k, rfl, rfl⟩
      · exact hfin
      · exact wpIn_ret hfin
      · exact wpIn_exit hfin)
    exact hcall
theorem then_of {K : Act → World → Prop} {Q : Exit → Act → World → Prop} (hn : e ≠ .normal) (h : Q e a w) : Exit.then K Q e a w := by
  cases e <;> first | exact absurd rfl hn | exact h
theorem scope_in {b : Code} {Q : Exit → Act → World → Prop} (h : InSc P b b Q a w) : (Code.scope b).wp P Q a w := by
  intro f k cs
  obtain ⟨e, a', w', hq, harr⟩ := h f k cs
  exact ⟨e, a', w', hq, .of_steps (.one step_scope) harr⟩
theorem jback_ok (hM : RM R) (hK : SoundK P R) {b c : Code} (h : stepBack R b c fr s = some (e, fr', s')) (hro : fr.round = none) : CodeS P fr s e fr' s' fun _ _ Q a w => InSc P b c Q a w := by
  intro B r w a ro n Q hr hB hf ho hQ f k cs
  have ho' : RoR r fr.round none := by rw [hro]; trivial
  unfold stepBack at h
  split at h
  · rename_i l fr1 s1 hq
    have m1 := hM.code _ _ _ _ _ _ hq
    have b1 := m1.1 hr.nb
    split at h
    · rename_i rest hl
      have hB1 : s1.next ≤ B := Nat.le_trans ((hM.back _ _ _ _ _ _ _ h).1.nx b1.2) hB
      obtain ⟨e1, a1, w1, ⟨rfl, hin⟩, harr⟩ := wpIn_wide.1 (hK.code _ _ _ _ _ _ hq B r w a none n (fun e1 a1 w1 => e1 = .goto l ∧ InSc P b rest Q a1 w1) hr hB1 hf ho' fun r1 a1 w1 hf1 g1 => ⟨rfl, hK.back _ _ _ _ _ _ _ h (by rw [m1.2.1]; exact hro) B r1 w1 a1 none n Q g1.rel hB hf1 (by rw [m1.2.1, hro]; trivial) fun r2 a2 w2 hf2 g2 => hQ r2 a2 w2 hf2 (g1.trans g2)⟩) f (.inScope b :: k) cs
      obtain ⟨e2, a2, w2, hq2, harr2⟩ := hin f k cs
      exact ⟨e2, a2, w2, hq2, .of_steps (harr _ (by simp [gotoIn, hl])) harr2⟩
    · rename_i hl
      injection h with h; injection h with e1 h; injection h with e2 e3
      subst e1; subst e2; subst e3
      obtain ⟨e1, a1, w1, ⟨rfl, hq1⟩, harr⟩ := wpIn_wide.1 (hK.code _ _ _ _ _ _ hq B r w a none n (fun e1 a1 w1 => e1 = .goto l ∧ Q (.goto l) a1 w1) hr hB hf ho' fun r1 a1 w1 hf1 g1 => ⟨rfl, hQ r1 a1 w1 hf1 g1⟩) f (.inScope b :: k) cs
      exact ⟨.goto l, a1, w1, hq1, fun k' hk => harr k' (by simp [gotoIn, hl, hk])⟩
  · rename_i hne
    obtain ⟨e1, a1, w1, ⟨rfl, hq1⟩, harr⟩ := wpIn_wide.1 (hK.code _ _ _ _ _ _ h B r w a none n (fun e1 a1 w1 => e1 = e ∧ Q e a1 w1) hr hB hf ho' fun r1 a1 w1 hf1 g1 => ⟨rfl, hQ r1 a1 w1 hf1 g1⟩) f (.inScope b :: k) cs
    cases e1 with
    | normal => exact ⟨.normal, a1, w1, hq1, Steps.trans harr (.one step_inScope)⟩
    | exit id => exact ⟨.exit id, a1, w1, hq1, fun k' hk => harr k' (by simp [exitTo, hk])⟩
    | goto l => exact absurd h (hne _ _ _)
    | ret => exact ⟨_, a1, w1, hq1, harr⟩
    | panic ch => exact ⟨_, a1, w1, hq1, harr⟩
    | outgrown => exact ⟨_, a1, w1, hq1, harr⟩
theorem code_ok (hfo : P.follows .mixedOrders = true) (hM : RM R) (hK : SoundK P R) {c : Code} (h : stepCode P R c fr s = some (e, fr', s')) : CodeS P fr s e fr' s' fun ro n Q a w => c.wpIn (FO ro) n P Q a w := by
  have two : ∀ {c1 c2 : Code} {fr1 s1} (h1 : R.code c1 fr s = some (.normal, fr1, s1)) (h2 : R.code c2 fr1 s1 = some (e, fr', s')) {B r w a ro n} {Q : Exit → Act → World → Prop}, Rel P B r s w → s'.next ≤ B → FrR r fr a → RoR r fr.round ro → (∀ r' a' w', FrR r' fr' a' → Good P B s s' r r' w w' → Q e a' w') → c1.wpIn (FO ro) n P (Exit.then (c2.wpIn (FO ro) n P Q) Q) a w := by
    intro c1 c2 fr1 s1 h1 h2 B r w a ro n Q hr hB hf ho hQ
    have m1 := hM.code _ _ _ _ _ _ h1
    have b1 := m1.1 hr.nb
    refine hK.code _ _ _ _ _ _ h1 B r w a ro n _ hr (Nat.le_trans ((hM.code _ _ _ _ _ _ h2).1.nx b1.2) hB) hf ho fun r1 a1 w1 hf1 g1 => ?_
    exact hK.code _ _ _ _ _ _ h2 B r1 w1 a1 ro n Q g1.rel hB hf1 (by rw [m1.2.1]; exact ho.mono (g1.up hr)) fun r2 a2 w2 hf2 g2 => hQ r2 a2 w2 hf2 (g1.trans g2)
  cases c with
  | rangeFunc f ps asg body =>
    exact range_ok hM hK h
  | region id ops draw =>
    unfold stepCode at h
    simp only [Option.map_eq_some_iff, Prod.mk.injEq] at h
    obtain ⟨q, hq, rfl, rfl, rfl⟩ := h
    exact fun B r w a ro n Q hr hB hf ho hQ => regB_ok hfo hM hK.toSoundC (fr' := q.1) (s' := q.2) hq hB hr hf hQ
  | seq c1 c2 =>
    unfold stepCode at h
    simp only at h
    split at h
    · rename_i fr1 s1 hq
      exact fun B r w a ro n Q hr hB hf ho hQ => wpIn_seq (two hq h hr hB hf ho hQ)
    · rename_i hne
      refine fun B r w a ro n Q hr hB hf ho hQ => wpIn_seq (hK.code _ _ _ _ _ _ h B r w a ro n _ hr hB hf ho fun r1 a1 w1 hf1 g1 => then_of ?_ (hQ r1 a1 w1 hf1 g1))
      rintro rfl; exact hne _ _ h
  | loop c1 =>
    unfold stepCode at h
    simp only at h
    split at h
    · rename_i fr1 s1 hq
      obtain ⟨m, hm⟩ := hK.loop _ _ _ _ _ _ h
      intro B r w a ro n Q hr hB hf ho hQ
      have m1 := hM.code _ _ _ _ _ _ hq
      have b1 := m1.1 hr.nb
      refine wpIn_loop_rounds (m + 1) (hK.code _ _ _ _ _ _ hq B r w a ro n _ hr (Nat.le_trans ((hM.code _ _ _ _ _ _ h).1.nx b1.2) hB) hf ho fun r1 a1 w1 hf1 g1 => ?_)
      exact hm B r1 w1 a1 ro n Q g1.rel hB hf1 (by rw [m1.2.1]; exact ho.mono (g1.up hr)) fun r2 a2 w2 hf2 g2 => hQ r2 a2 w2 hf2 (g1.trans g2)
    · rename_i hne
      refine fun B r w a ro n Q hr hB hf ho hQ => wpIn_loop_rounds 1 (hK.code _ _ _ _ _ _ h B r w a ro n _ hr hB hf ho fun r1 a1 w1 hf1 g1 => then_of ?_ (hQ r1 a1 w1 hf1 g1))
      rintro rfl; exact hne _ _ h
  | block id c1 =>
    unfold stepCode at h
    simp only at h
    split at h
    · rename_i k fr1 s1 hq
      rcases bif_or h with ⟨hk, h⟩ | ⟨hk, h⟩
      · have hk := Nat.eq_of_beq_eq_true hk
        injection h with h; injection h with e1 h; injection h with e2 e3
        subst e1; subst e2; subst e3
        refine fun B r w a ro n Q hr hB hf ho hQ => wpIn_block (hK.code _ _ _ _ _ _ hq B r w a ro n _ hr hB hf ho fun r1 a1 w1 hf1 g1 => ?_)
        show (if k = id then _ else _)
        rw [if_pos hk]; exact hQ r1 a1 w1 hf1 g1
      · have hk : k ≠ id := fun e => by rw [e] at hk; simp at hk
        injection h with h; injection h with e1 h; injection h with e2 e3
        subst e1; subst e2; subst e3
        refine fun B r w a ro n Q hr hB hf ho hQ => wpIn_block (hK.code _ _ _ _ _ _ hq B r w a ro n _ hr hB hf ho fun r1 a1 w1 hf1 g1 => ?_)
        show (if k = id then _ else _)
        rw [if_neg hk]; exact hQ r1 a1 w1 hf1 g1
    · rename_i hne
      refine fun B r w a ro n Q hr hB hf ho hQ => wpIn_block (hK.code _ _ _ _ _ _ h B r w a ro n _ hr hB hf ho fun r1 a1 w1 hf1 g1 => ?_)
      have := hQ r1 a1 w1 hf1 g1
      cases e <;> first | exact this | exact absurd h (hne _ _ _)
  | cond c c1 c2 =>
    unfold stepCode at h
    simp only at h
    obtain ⟨hok, h⟩ := bif_some h
    split at h
    · rename_i t ht
      rcases bif_or h with ⟨rfl, h⟩ | ⟨rfl, h⟩
      · refine fun B r w a ro n Q hr hB hf ho hQ => wpIn_cond_true ?_ (hK.code _ _ _ _ _ _ h B r w a ro n Q hr hB hf ho hQ)
        have := ev_ok hr.gl hf.1 hok; rw [ht] at this; exact this.bool
      · refine fun B r w a ro n Q hr hB hf ho hQ => wpIn_cond_false ?_ (hK.code _ _ _ _ _ _ h B r w a ro n Q hr hB hf ho hQ)
        have := ev_ok hr.gl hf.1 hok; rw [ht] at this; exact this.bool
    · cases h
  | scope c1 =>
    unfold stepCode at h
    simp only at h
    split at h
    · rename_i hro
      refine fun B r w a ro n Q hr hB hf ho hQ => ?_
      rw [hro] at ho
      cases ro with
      | some _ => cases ho
      | none => exact wpIn_wide.2 (scope_in (hK.back _ _ _ _ _ _ _ h hro B r w a none n Q hr hB hf (by rw [hro]; trivial) hQ))
    · cases h
  | goto l =>
    unfold stepCode at h
    simp only at h
    injection h with h; injection h with e1 h; injection h with e2 e3
    subst e1; subst e2; subst e3
    exact fun B r w a ro n Q hr hB hf ho hQ => wpIn_goto (hQ r a w hf (Good.refl hr))
  | skip =>
    unfold stepCode at h
    simp only at h
    injection h with h; injection h with e1 h; injection h with e2 e3
    subst e1; subst e2; subst e3
    exact fun B r w a ro n Q hr hB hf ho hQ => wpIn_skip (hQ r a w hf (Good.refl hr))
  | label l =>
    unfold stepCode at h
    simp only at h
    injection h with h; injection h with e1 h; injection h with e2 e3
    subst e1; subst e2; subst e3
    exact fun B r w a ro n Q hr hB hf ho hQ => wpIn_label (hQ r a w hf (Good.refl hr))
  | exit l =>
    unfold stepCode at h
    simp only at h
    injection h with h; injection h with e1 h; injection h with e2 e3
    subst e1; subst e2; subst e3
    exact fun B r w a ro n Q hr hB hf ho hQ => wpIn_exit (hQ r a w hf (Good.refl hr))
  | ret =>
    unfold stepCode at h
    simp only at h
    injection h with h; injection h with e1 h; injection h with e2 e3
    subst e1; subst e2; subst e3
    exact fun B r w a ro n Q hr hB hf ho hQ => wpIn_ret (hQ r a w hf (Good.refl hr))
  | _ => unfold stepCode at h; cases h
theorem loop_ok (hM : RM R) (hK : SoundK P R) {c : Code} (h : stepCode P R (.loop c) fr s = some (e, fr', s')) : ∃ m, CodeS P fr s e fr' s' fun ro n Q a w => Code.roundsIn (FO ro) n P c Q m a w := by
  unfold stepCode at h
  simp only at h
  split at h
  · rename_i fr1 s1 hq
    obtain ⟨m, hm⟩ := hK.loop _ _ _ _ _ _ h
    refine ⟨m + 1, ?_⟩
    intro B r w a ro n Q hr hB hf ho hQ
    have m1 := hM.code _ _ _ _ _ _ hq
    have b1 := m1.1 hr.nb
    refine hK.code _ _ _ _ _ _ hq B r w a ro n _ hr (Nat.le_trans ((hM.code _ _ _ _ _ _ h).1.nx b1.2) hB) hf ho fun r1 a1 w1 hf1 g1 => ?_
    exact hm B r1 w1 a1 ro n Q g1.rel hB hf1 (by rw [m1.2.1]; exact ho.mono (g1.up hr)) fun r2 a2 w2 hf2 g2 => hQ r2 a2 w2 hf2 (g1.trans g2)
  · rename_i hne
    refine ⟨1, fun B r w a ro n Q hr hB hf ho hQ => hK.code _ _ _ _ _ _ h B r w a ro n _ hr hB hf ho fun r1 a1 w1 hf1 g1 => then_of ?_ (hQ r1 a1 w1 hf1 g1)⟩
    rintro rfl; exact hne _ _ h
theorem step_ok {O : Orc} (hO : OrcOk P O) (hfo : P.follows .mixedOrders = true) (hM : RM R) (hK : SoundK P R) : SoundK P ⟨stepCode P R, stepCall P O R, stepYield P R, stepBack R⟩ where
  call := fun _ _ _ _ _ h _ _ _ _ hr hB ha => call_ok hO hM hK h hr hB ha
  yield := fun _ _ _ _ _ h _ _ _ _ hr hB ha _ _ hl => yield_ok hM hK h hr hB ha hl
  code := fun _ _ _ _ _ _ h => code_ok hfo hM hK h
  back := fun _ _ _ _ _ _ _ h hro => jback_ok hM hK h hro
  loop := fun _ _ _ _ _ _ h => loop_ok hM hK h
theorem ev_all {O : Orc} (hO : OrcOk P O) (hfo : P.follows .mixedOrders = true) : ∀ n, RM (ev P O n) ∧ SoundK P (ev P O n)
  | 0 => ⟨⟨(fun _ _ _ _ _ _ h => by cases h), (fun _ _ _ _ _ h => by cases h), (fun _ _ _ _ _ h => by cases h), (fun _ _ _ _ _ _ _ h => by cases h)⟩, ⟨⟨(fun _ _ _ _ _ h => by cases h), (fun _ _ _ _ _ h => by cases h)⟩, (fun _ _ _ _ _ _ h => by cases h), (fun _ _ _ _ _ _ _ h => by cases h), (fun _ _ _ _ _ _ h => by cases h)⟩⟩
  | n + 1 => ⟨step_rm hO.mb (ev_all hO hfo n).1, step_ok hO hfo (ev_all hO hfo n).1 (ev_all hO hfo n).2⟩
theorem orc_none : OrcOk P fun _ _ _ => none := ⟨(fun _ _ _ _ _ h => by cases h), (fun _ _ _ _ _ h => by cases h)⟩
/-- **CLOSED CODE THAT THE RUNNER SAYS ANSWERS true, ANSWERS true**, and leaves all that is there as it was. -/
theorem run_true {O : Orc} (hO : OrcOk P O) (hfo : P.follows .mixedOrders = true) {f : FuncId} {s0 : St} {r : Rn} (h : runB P O s0 f = true) (hen : entersB P (.func (.func f) #[] #[]) = true) (w : World) (hl : ∀ k, k < s0.next → ¬ wrt s0 k) (hr : ∀ B, s0.next ≤ B → Rel P B r s0 w) : Calls P f #[] w fun e w' => e = .returned (.bool true) ∧ Below w.heap.size w w' := by
  unfold runB at h
  split at h
  · rename_i s' hc
    have hc : (ev P O 1000000).call f [] s0 = some (.bool true, s') := hc
    obtain ⟨hM, hK⟩ := ev_all hO hfo 1000000
    obtain ⟨g, first', cap', fn, c, e0, hfn, hb, hn⟩ := enters (r := fun _ => none) hen (.pln rfl)
    injection e0 with e0; injection e0 with e0; subst e0
    have hr := hr s'.next ((hM.call _ _ _ _ _ hc).nx (hr _ (Nat.le_refl _)).nb)
    have hup := hK.call _ _ _ _ _ hc s'.next r w [] hr (Nat.le_refl _) LR.nil
    have e1 : (callFunc f ([] : List Value).toArray).run P w = .ok (.enter f #[]) w := by
      simp [callFunc, Sem.run_bind, hfn, hb] at hn ⊢
      simp [hn]
    rw [e1] at hup
    refine callsIn_wide.1 ((hup 0).mono ?_)
    rintro e w' ⟨v, rfl, r', hv, hg⟩
    exact ⟨by rw [hv.bool], hg.ext.os, hg.ext.tape, hg.ext.output, hg.ext.size, fun k hk => hg.ext.frame k hk fun k x h1 h2 => absurd h2 (hl k h1)⟩
  · cases h
/-- no memory -/
def st0 : St := ⟨.nil, 0, 0, big, [], 0⟩
theorem rel_st0 (B : Nat) (w : World) : Rel P B (fun _ => none) st0 w := by
  have hnone : ∀ k, st0.get k = none := fun _ => rfl
  exact ⟨Nat.zero_le _, Nat.zero_le _, fun _ _ _ => rfl, (fun k o hk => by rw [hnone] at hk; cases hk), fun k k' b x x' hk => absurd (hnone k) hk, fun _ _ => rfl, (fun k hk => by cases hk), (fun g hg => by cases hg), Nat.zero_le _⟩
theorem run_true0 {O : Orc} (hO : OrcOk P O) (hfo : P.follows .mixedOrders = true) {f : FuncId} (h : runB P O st0 f = true) (hen : entersB P (.func (.func f) #[] #[]) = true) (w : World) : Calls P f #[] w fun e w' => e = .returned (.bool true) ∧ Below w.heap.size w w' :=
  run_true hO hfo h hen w (fun k hk => absurd hk (Nat.not_lt_zero _)) fun B _ => rel_st0 B w
end
end Go.Proofs.YtdeghcgakkhbmaaGreat
namespace Go.Proofs.YtdeghcgakkhbmaaGreat
open Go.RowKit
set_option maxRecDepth 1000000
theorem wakes28_run : runB Tryz.prog (fun _ _ _ => none) st0 8 = true := by kernel_rfl
theorem wakes28_w (w : World) : Calls Tryz.prog 8 #[] w fun e w' => e = .returned (.bool true) ∧ Below w.heap.size w w' := run_true0 orc_none (by kernel_rfl) wakes28_run (by kernel_rfl) w
#print axioms wakes28_w
end Go.Proofs.YtdeghcgakkhbmaaGreat
