/- Parts of the proof that follows: A run of closed code: a region that draws its order, what its steps turn. No condition. | A run of closed code: a region that draws its order, one step in whatever order: the memory. No condition. | A run of closed code: a region that draws its order. No condition. -/
import Derived.OrdersIn
import Derived.Test.YtbanjolokkghdaaGreatDoorMz31
set_option maxRecDepth 100000
set_option maxHeartbeats 8000000
set_option linter.unusedSimpArgs false
set_option linter.unusedVariables false
namespace Go.Proofs.YtbanjolokkghdaaGreatDoor
open Go.RowKit
set_option maxRecDepth 100000
structure RC (P : Program) (R : Rec) (ops : Array Oper) (ps : List (Nat × Nat)) (F : Nat → Fr) (S : Nat → St) (RS : Nat → List (Nat × Nat × Nat)) (V : Nat → Value) : Prop where
  hM : RM R
  step : ∀ k, k < ops.size → StepT P R ops ps k (F k) (S k) (RS k) (F (k + 1)) (S (k + 1)) (RS (k + 1)) (V k)
  rs0 : RS 0 = []
  ok : okR (S 0).ng ops = true
  ap : apartB (S 0).lim (S 0).one (S 0).next ps = true
  nb : (S 0).next ≤ big
  up0 : ∀ k, (S 0).next ≤ k → (S 0).T.get k = none
  hl0 : ∀ k, hidden (S 0).hid k = true → k < (S 0).next
  fm : (F 0).m ≤ big
  gn : (S 0).ng ≤ (S 0).next
/-- the third kind of step -/
def Third (P : Program) (R : Rec) (ops : Array Oper) (ps : List (Nat × Nat)) (F : Nat → Fr) (S : Nat → St) (RS : Nat → List (Nat × Nat × Nat)) (V : Nat → Value) (k : Nat) : Prop :=
  ∃ o, ops[k]? = some o ∧ guardB ops (F k) o = true ∧ pureK o = false ∧ ∃ q, execH P R (F k).ev o (inEv (AA ops) (WW ops) ps k (RS k) (S k)) = some (V k, q) ∧ S (k + 1) = back (S k) q ∧ RS (k + 1) = (k, (S k).next, q.next) :: RS k
section
variable {P : Program} {R : Rec} {ops : Array Oper} {ps : List (Nat × Nat)} {F : Nat → Fr} {S : Nat → St} {RS : Nat → List (Nat × Nat × Nat)} {V : Nat → Value}
def inK (ops : Array Oper) (ps : List (Nat × Nat)) (S : Nat → St) (RS : Nat → List (Nat × Nat × Nat)) (k : Nat) : St := inEv (AA ops) (WW ops) ps k (RS k) (S k)
theorem RC.kind (c : RC P R ops ps F S RS V) {k : Nat} (hk : k < ops.size) : (S (k + 1) = S k ∧ RS (k + 1) = RS k) ∨ Third P R ops ps F S RS V k := by
  obtain ⟨o, ho, _, h⟩ := c.step k hk
  rcases h with ⟨_, _, h1, h2⟩ | ⟨_, _, _, h1, h2⟩ | ⟨h1, h2, q, h3, h4, h5⟩
  · exact .inl ⟨h1, h2⟩
  · exact .inl ⟨h1, h2⟩
  · exact .inr ⟨o, ho, h1, h2, q, h3, h4, h5⟩
theorem RC.base (c : RC P R ops ps F S RS V) : ∀ k, k ≤ ops.size → (S k).lim = (S 0).lim ∧ (S k).one = (S 0).one ∧ (S k).hid = (S 0).hid ∧ (S k).next ≤ big ∧ Mono (S 0) (S k)
  | 0, _ => ⟨rfl, rfl, rfl, c.nb, Mono.refl _⟩
  | k + 1, hk => by
    obtain ⟨h1, h2, h3, h4, h5⟩ := c.base k (by omega)
    rcases c.kind (show k < ops.size by omega) with ⟨e, _⟩ | ⟨o, ho, hg, hp, q, hq, e, _⟩
    · rw [e]; exact ⟨h1, h2, h3, h4, h5⟩
    · have hap : apartB (S k).lim (S k).one (S 0).next ps = true := by rw [h1, h2]; exact c.ap
      obtain ⟨m, hb⟩ := back_mb (s := S k) hap (execH_mb c.hM hq) h4
      rw [e]
      exact ⟨h1, h2, h3, hb, h5.trans m⟩
theorem RC.m1 (c : RC P R ops ps F S RS V) {k : Nat} (hk : k < ops.size) : Mono (S k) (S (k + 1)) := by
  obtain ⟨h1, h2, h3, h4, h5⟩ := c.base k (by omega)
  rcases c.kind hk with ⟨e, _⟩ | ⟨o, ho, hg, hp, q, hq, e, _⟩
  · rw [e]; exact Mono.refl _
  · have hap : apartB (S k).lim (S k).one (S 0).next ps = true := by rw [h1, h2]; exact c.ap
    rw [e]; exact (back_mb (s := S k) hap (execH_mb c.hM hq) h4).1
theorem RC.mono (c : RC P R ops ps F S RS V) {j : Nat} : ∀ k, j ≤ k → k ≤ ops.size → Mono (S j) (S k)
  | 0, h, _ => by
    obtain rfl : j = 0 := by omega
    exact Mono.refl _
  | k + 1, h, hk => by
    rcases Nat.lt_or_ge k j with h1 | h1
    · obtain rfl : j = k + 1 := by omega
      exact Mono.refl _
    · exact (c.mono k h1 (by omega)).trans (c.m1 (by omega))
theorem RC.upk (c : RC P R ops ps F S RS V) {k : Nat} (hk : k ≤ ops.size) : ∀ i, (S k).next ≤ i → (S k).T.get i = none := (c.base k hk).2.2.2.2.up c.up0
theorem RC.inK_next (_c : RC P R ops ps F S RS V) (k : Nat) : (inK ops ps S RS k).next = (S k).next := (inEv_T _ _ _ _ _ _).2.1
theorem RC.inK_ng' (_c : RC P R ops ps F S RS V) (k : Nat) : (inK ops ps S RS k).ng = (S k).ng := (inEv_T _ _ _ _ _ _).2.2
theorem RC.inK_T (_c : RC P R ops ps F S RS V) (k : Nat) : (inK ops ps S RS k).T = (S k).T := (inEv_T _ _ _ _ _ _).1
theorem RC.rs_mem (c : RC P R ops ps F S RS V) {j : Nat} (hj : j < ops.size) (ht : Third P R ops ps F S RS V j) : ∀ k, j < k → k ≤ ops.size → (j, (S j).next, (S (j + 1)).next) ∈ RS k
  | 0, h, _ => by omega
  | k + 1, h, hk => by
    by_cases e : j = k
    · subst e
      obtain ⟨o, ho, hg, hp, q, hq, e1, e2⟩ := ht
      rw [e2, e1]; exact List.mem_cons_self ..
    · have ih := c.rs_mem hj ht k (by omega) (by omega)
      rcases c.kind (show k < ops.size by omega) with ⟨_, e2⟩ | ⟨o, ho, hg, hp, q, hq, e1, e2⟩
      · rw [e2]; exact ih
      · rw [e2]; exact List.mem_cons_of_mem _ ih
theorem RC.rs_le (c : RC P R ops ps F S RS V) : ∀ k, k ≤ ops.size → ∀ p ∈ RS k, p.2.2 ≤ (S k).next
  | 0, _, p, hp => by rw [c.rs0] at hp; cases hp
  | k + 1, hk, p, hp => by
    have hm := (c.m1 (show k < ops.size by omega)).next
    have ih := c.rs_le k (by omega)
    rcases c.kind (show k < ops.size by omega) with ⟨e1, e2⟩ | ⟨o, ho, hg, hq', q, hq, e1, e2⟩
    · rw [e2] at hp; rw [e1]; exact ih p hp
    · rw [e2] at hp
      rcases List.mem_cons.1 hp with rfl | hp
      · rw [e1]; exact Nat.le_refl _
      · exact Nat.le_trans (ih p hp) hm
theorem hidden_mem {a b k : Nat} : ∀ {l : List (Nat × Nat)}, (a, b) ∈ l → a ≤ k → k < b → hidden l k = true
  | [], h, _, _ => by cases h
  | (x, y) :: l, h, h1, h2 => by
    simp only [hidden, Bool.or_eq_true, Bool.and_eq_true, Nat.ble_eq]
    rcases List.mem_cons.1 h with e | h
    · injection e with e1 e2; subst e1; subst e2
      exact .inl ⟨h1, by simp [Nat.blt]; omega⟩
    · exact .inr (hidden_mem h h1 h2)
theorem hidden_lt {n : Nat} : ∀ {l : List (Nat × Nat)}, (∀ p ∈ l, p.2 ≤ n) → ∀ k, hidden l k = true → k < n
  | [], _, k, h => by cases h
  | (x, y) :: l, hl, k, h => by
    simp only [hidden, Bool.or_eq_true, Bool.and_eq_true] at h
    rcases h with h | h
    · have := blt_lt h.2; have := hl (x, y) (by simp); omega
    · exact hidden_lt (fun p hp => hl p (by simp [hp])) k h
theorem RC.hlt (c : RC P R ops ps F S RS V) {k : Nat} (hk : k ≤ ops.size) : ∀ i, hidden (inK ops ps S RS k).hid i = true → i < (S k).next := by
  obtain ⟨h1, h2, h3, h4, h5⟩ := c.base k hk
  have h0 : ∀ i, hidden (S k).hid i = true → i < (S k).next := fun i hi => by
    rw [h3] at hi; exact Nat.lt_of_lt_of_le (c.hl0 i hi) h5.next
  intro i hi
  unfold inK inEv at hi
  cases hw : (WW ops).getD k false with
  | true => rw [hw] at hi; exact h0 i hi
  | false =>
    rw [hw] at hi
    have hi : hidden (hidOf (AA ops) k (RS k) ps ++ (S k).hid) i = true := hi
    rw [hidden_app, Bool.or_eq_true] at hi
    rcases hi with hi | hi
    · refine hidden_lt (n := (S k).next) (fun p hp => ?_) i hi
      unfold hidOf at hp
      rcases List.mem_append.1 hp with hp | hp
      · obtain ⟨q, hq, e⟩ := List.mem_filterMap.1 hp
        cases hb : bitL (AA ops) k q.1 with
        | true => rw [hb] at e; cases e
        | false => rw [hb] at e; injection e with e; subst e; exact c.rs_le k hk q hq
      · obtain ⟨q, hq, e⟩ := List.mem_filterMap.1 hp
        cases hb : (Nat.beq q.1 k || aheadB (AA ops) k q.1) with
        | true => rw [hb] at e; cases e
        | false => rw [hb] at e; injection e with e; subst e; have := (apartB_mem c.ap q hq).2; have := h5.next; show q.2 + 1 ≤ _; omega
    · exact h0 i hi
/-- step k turns what number id has -/
def Turns (S : Nat → St) (k id : Nat) : Prop := (S (k + 1)).T.get id ≠ (S k).T.get id
def Sees (ops : Array Oper) (ps : List (Nat × Nat)) (S : Nat → St) (RS : Nat → List (Nat × Nat × Nat)) (k id : Nat) : Prop := id < (S k).next ∧ hidden (inK ops ps S RS k).hid id = false
theorem RC.turns (c : RC P R ops ps F S RS V) {k id : Nat} (hk : k < ops.size) (h : Turns S k id) : Third P R ops ps F S RS V k ∧ ((Sees ops ps S RS k id ∧ wrt (inK ops ps S RS k) id) ∨ ((S k).next ≤ id ∧ id < (S (k + 1)).next)) := by
  rcases c.kind hk with ⟨e, _⟩ | ht
  · exact absurd (by rw [e]) h
  refine ⟨ht, ?_⟩
  rcases Nat.lt_or_ge id (S k).next with h1 | h1
  · left
    obtain ⟨o, ho, hg, hp, q, hq, e1, e2⟩ := ht
    have h4 := (c.base k (by omega)).2.2.2.1
    obtain ⟨m, _⟩ := execH_mb c.hM hq (by rw [(inEv_T _ _ _ _ _ _).2.1]; exact h4)
    have hs : ¬ (¬ wrt (inK ops ps S RS k) id ∨ hidden (inK ops ps S RS k).hid id = true) := fun hh => by
      have := m.same id (by rw [(inEv_T _ _ _ _ _ _).2.1]; exact h1) hh
      rw [(inEv_T _ _ _ _ _ _).1] at this
      apply h
      rw [e1]; exact this
    refine ⟨⟨h1, ?_⟩, ?_⟩
    · cases e : hidden (inK ops ps S RS k).hid id with
      | false => rfl
      | true => exact absurd (.inr e) hs
    · exact Classical.not_not.1 fun hh => hs (.inl hh)
  · right
    refine ⟨h1, ?_⟩
    rcases Nat.lt_or_ge id (S (k + 1)).next with h2 | h2
    · exact h2
    · exact absurd ((c.upk (show k + 1 ≤ ops.size by omega) id h2).trans (c.upk (show k ≤ ops.size by omega) id h1).symm) h
/-- What one step sees and another turns: the one stands ahead of the other. -/
theorem RC.cmp (c : RC P R ops ps F S RS V) {i k id : Nat} (hi : i < ops.size) (hk : k < ops.size) (hne : i ≠ k) (ti : Third P R ops ps F S RS V i) (hs : Sees ops ps S RS i id) (ht : Turns S k id) : aheadB (AA ops) i k = true := by
  obtain ⟨tk, hd⟩ := c.turns hk ht
  have tk0 := tk
  obtain ⟨oi, hoi, _, hpi, _⟩ := ti
  obtain ⟨ok, hok, _, hpk, _⟩ := tk
  cases hwi : (WW ops).getD i false with
  | true => exact ww_ahead hwi (Ne.symm hne) hok hpk
  | false =>
    cases hwk : (WW ops).getD k false with
    | true => rw [ahead_symm hne]; exact ww_ahead hwk hne hoi hpi
    | false =>
      cases ha : aheadB (AA ops) i k with
      | true => rfl
      | false =>
        exfalso
        have hh := hs.2
        have e1 : (inK ops ps S RS i).hid = hidOf (AA ops) i (RS i) ps ++ (S i).hid := by unfold inK inEv; rw [hwi]; rfl
        rw [e1, hidden_app, Bool.or_eq_false_iff] at hh
        unfold hidOf at hh
        rw [hidden_app, Bool.or_eq_false_iff] at hh
        obtain ⟨⟨h1, h2⟩, _⟩ := hh
        have hnew : (S k).next ≤ id → id < (S (k + 1)).next → False := fun g1 g2 => by
          rcases Nat.lt_or_ge k i with hlt | hge
          · have hm := c.rs_mem hk tk0 i hlt (by omega)
            have : ((S k).next, (S (k + 1)).next) ∈ (RS i).filterMap fun r => bif bitL (AA ops) i r.1 then none else some (r.2.1, r.2.2) := by
              refine List.mem_filterMap.2 ⟨_, hm, ?_⟩
              simp only []
              rw [ahead_lt hlt] at ha
              rw [ha]; rfl
            rw [hidden_mem this g1 g2] at h1; cases h1
          · have := (c.mono k (show i ≤ k by omega) (by omega)).next
            have := hs.1
            omega
        rcases hd with ⟨⟨g1, _⟩, g2⟩ | ⟨g1, g2⟩
        · have e2 : inK ops ps S RS k = { S k with lim := (S k).next, one := oneOf k ps, hid := hidOf (AA ops) k (RS k) ps ++ (S k).hid } := by unfold inK inEv; rw [hwk]; rfl
          rw [e2] at g2
          rcases g2 with g2 | g2
          · have g2 : (S k).next ≤ id := g2; omega
          · have g2 : id = oneOf k ps := g2
            rcases oneOf_mem (i := k) (ps := ps) with e | e
            · have := (c.base k (by omega)).2.2.2.1; omega
            · rw [← g2] at e
              have : (id, id + 1) ∈ ps.filterMap fun p => bif Nat.beq p.1 i || aheadB (AA ops) i p.1 then none else some (p.2, Nat.succ p.2) := by
                refine List.mem_filterMap.2 ⟨_, e, ?_⟩
                simp only []
                rw [ha, show Nat.beq k i = false by
                  cases e3 : Nat.beq k i with
                  | false => rfl
                  | true => exact absurd (Nat.eq_of_beq_eq_true e3) (Ne.symm hne)]
                rfl
              rw [hidden_mem this (Nat.le_refl _) (by omega)] at h2; cases h2
        · exact hnew g1 g2
open Classical in
/-- What number id has, where the steps of L have been carried out. -/
noncomputable def vw (S : Nat → St) (L : Nat → Bool) (id : Nat) : Nat → Option AO
  | 0 => (S 0).T.get id
  | n + 1 => if L n = true ∧ Turns S n id then (S (n + 1)).T.get id else vw S L id n
theorem vw_congr {L L' : Nat → Bool} {id : Nat} : ∀ n, (∀ k, k < n → Turns S k id → L k = L' k) → vw S L id n = vw S L' id n
  | 0, _ => rfl
  | n + 1, h => by
    have ih := vw_congr n fun k hk => h k (by omega)
    simp only [vw]
    by_cases ht : Turns S n id
    · rw [h n (by omega) ht, ih]
    · rw [if_neg fun hh => ht hh.2, if_neg fun hh => ht hh.2, ih]
/-- all that turns it has been carried out -/
theorem vw_done {L : Nat → Bool} {id : Nat} : ∀ n, (∀ k, k < n → Turns S k id → L k = true) → vw S L id n = (S n).T.get id
  | 0, _ => rfl
  | n + 1, h => by
    have ih := vw_done n fun k hk => h k (by omega)
    simp only [vw]
    by_cases ht : Turns S n id
    · rw [if_pos ⟨h n (by omega) ht, ht⟩]
    · rw [if_neg fun hh => ht hh.2, ih]
      exact (Classical.not_not.1 ht).symm
theorem vw_stay {L : Nat → Bool} {id i : Nat} : ∀ n, i ≤ n → (∀ k, i ≤ k → k < n → Turns S k id → L k = false) → vw S L id n = vw S L id i
  | 0, h, _ => by
    obtain rfl : i = 0 := by omega
    rfl
  | n + 1, h, hk => by
    rcases Nat.lt_or_ge n i with h1 | h1
    · obtain rfl : i = n + 1 := by omega
      rfl
    · have ih := vw_stay n h1 fun k g1 g2 => hk k g1 (by omega)
      simp only [vw]
      rw [if_neg (fun hh => (by have := hk n h1 (by omega) hh.2; rw [hh.1] at this; cases this))]
      exact ih
end
set_option maxRecDepth 100000
theorem Upon.mono {P : Program} {K K' : Value → World → Prop} {res : Result Go.Next} (h : Upon P K res) (hk : ∀ v w, K v w → K' v w) : Upon P K' res := by
  cases res with
  | halt x w' => exact h
  | ok x w' =>
    cases x <;> simp only [Upon] at h ⊢
    · exact hk _ _ h
    · exact hk _ _ h
    · exact fun n => (h n).mono fun e w'' ⟨v, e1, e2⟩ => ⟨v, e1, hk _ _ e2⟩
    · exact fun n => (h n).mono fun e w'' ⟨v, e1, e2⟩ => ⟨v, e1, hk _ _ e2⟩
structure HI (P : Program) (ops : Array Oper) (S : Nat → St) (r0 : Rn) (w0 : World) (L : Nat → Bool) (r : Rn) (w : World) : Prop where
  obj : ∀ id o, hidden (S 0).hid id = false → vw S L id ops.size = some o → ∃ b x o', r id = some (b, x) ∧ w.heap[b]? = some o' ∧ OR P r x o o'
  inj : ∀ id id' b x x', hidden (S 0).hid id = false → hidden (S 0).hid id' = false → vw S L id ops.size ≠ none → vw S L id' ops.size ≠ none → r id = some (b, x) → r id' = some (b, x') → id = id'
  fresh : ∀ j, j < ops.size → L j = false → ∀ k, (S j).next ≤ k → k < (S (j + 1)).next → r k = none
  rr : ∀ k, k < (S 0).next ∨ (S ops.size).next ≤ k → r k = r0 k
  size : w0.heap.size ≤ w.heap.size
  os : w.os = w0.os
  tape : w.tape = w0.tape
  output : w.output = w0.output
  frame : ∀ b, b < w0.heap.size → (∀ k x, k < (S 0).next → wrt (S 0) k → (S 0).get k ≠ none → r0 k ≠ some (b, x)) → w.heap[b]? = w0.heap[b]?
  new : ∀ k b x, (S 0).next ≤ k → hidden (S 0).hid k = false → vw S L k ops.size ≠ none → r k = some (b, x) → w0.heap.size ≤ b ∨ ∃ k0 x0, k0 < (S 0).next ∧ wrt (S 0) k0 ∧ (S 0).get k0 ≠ none ∧ r0 k0 = some (b, x0)
  gl : ∀ g, g < (S 0).ng → r g = some (g, 0)
def Lx (L : Nat → Bool) (i : Nat) : Nat → Bool := fun j => if j = i then true else L j
structure RF (ops : Array Oper) (L : Nat → Bool) (i : Nat) : Prop where
  unl : L i = false
  anc : ∀ k, bitL (AA ops) i k = true → L k = true
  desc : ∀ k, k < ops.size → bitL (AA ops) k i = true → L k = false
section
variable {P : Program} {R : Rec} {ops : Array Oper} {ps : List (Nat × Nat)} {F : Nat → Fr} {S : Nat → St} {RS : Nat → List (Nat × Nat × Nat)} {V : Nat → Value} {r0 r : Rn} {w0 w : World} {L : Nat → Bool} {i : Nat}
theorem RC.hid0 (c : RC P R ops ps F S RS V) (hi : i ≤ ops.size) {id : Nat} (h : hidden (inK ops ps S RS i).hid id = false) : hidden (S 0).hid id = false := by
  cases e : hidden (S 0).hid id with
  | false => rfl
  | true =>
    have := hid_inI (A := AA ops) (W := WW ops) (ps := ps) (i := i) (rs := RS i) (s := S i) (k := id) (by rw [(c.base i hi).2.2.1]; exact e)
    unfold inK at h
    rw [this] at h; cases h
theorem RC.get_sees (c : RC P R ops ps F S RS V) (hi : i ≤ ops.size) {id : Nat} {o : AO} (h : (inK ops ps S RS i).get id = some o) : Sees ops ps S RS i id ∧ (S i).T.get id = some o := by
  rw [getT] at h
  split at h
  · cases h
  · rename_i hh
    rw [c.inK_T] at h
    refine ⟨⟨?_, by simpa using hh⟩, h⟩
    rcases Nat.lt_or_ge id (S i).next with h1 | h1
    · exact h1
    · rw [c.upk hi id h1] at h; cases h
theorem RC.see (c : RC P R ops ps F S RS V) (hi : i < ops.size) (rf : RF ops L i) (ti : Third P R ops ps F S RS V i) {id : Nat} (hs : Sees ops ps S RS i id) : vw S L id ops.size = (S i).T.get id := by
  rw [vw_stay ops.size (i := i) (by omega) ?_, vw_done i ?_]
  · intro k hk ht
    have := c.cmp hi (by omega) (by omega) ti hs ht
    rw [ahead_lt hk] at this
    exact rf.anc k this
  · intro k hk hk2 ht
    by_cases e : k = i
    · subst e; exact rf.unl
    · have := c.cmp hi hk2 (Ne.symm e) ti hs ht
      rw [ahead_symm (Ne.symm e), ahead_lt (by omega)] at this
      exact rf.desc k hk2 this
theorem RC.see' (c : RC P R ops ps F S RS V) (hi : i < ops.size) (rf : RF ops L i) (ti : Third P R ops ps F S RS V i) {id : Nat} (hs : Sees ops ps S RS i id) : vw S (Lx L i) id ops.size = (S (i + 1)).T.get id := by
  rw [vw_stay ops.size (i := i + 1) (by omega) ?_, vw_done (i + 1) ?_]
  · intro k hk ht
    unfold Lx
    by_cases e : k = i
    · rw [if_pos e]
    · rw [if_neg e]
      have := c.cmp hi (by omega) (by omega) ti hs ht
      rw [ahead_lt (by omega)] at this
      exact rf.anc k this
  · intro k hk hk2 ht
    unfold Lx
    rw [if_neg (by omega)]
    have := c.cmp hi hk2 (by omega) ti hs ht
    rw [ahead_symm (by omega), ahead_lt (by omega)] at this
    exact rf.desc k hk2 this
theorem RC.new' (c : RC P R ops ps F S RS V) (hi : i < ops.size) (rf : RF ops L i) {id : Nat} (h1 : (S i).next ≤ id) (h2 : id < (S (i + 1)).next) : vw S (Lx L i) id ops.size = (S (i + 1)).T.get id := by
  rw [vw_stay ops.size (i := i + 1) (by omega) ?_, vw_done (i + 1) ?_]
  · intro k hk ht
    unfold Lx
    by_cases e : k = i
    · rw [if_pos e]
    · exfalso
      obtain ⟨_, hd⟩ := c.turns (by omega) ht
      have g1 := (c.mono i (show k + 1 ≤ i by omega) (by omega)).next
      have g2 := (c.mono i (show k ≤ i by omega) (by omega)).next
      rcases hd with ⟨⟨q1, _⟩, _⟩ | ⟨_, q1⟩ <;> omega
  · intro k hk hk2 ht
    unfold Lx
    rw [if_neg (by omega)]
    obtain ⟨tk, hd⟩ := c.turns hk2 ht
    have g1 := (c.mono k (show i + 1 ≤ k by omega) (by omega)).next
    rcases hd with ⟨hs, _⟩ | ⟨q1, _⟩
    · by_cases hti : Turns S i id
      · have := c.cmp hk2 hi (by omega) tk hs hti
        rw [ahead_lt (by omega)] at this
        exact rf.desc k hk2 this
      · exfalso
        have e0 : (S (i + 1)).T.get id = none := (Classical.not_not.1 hti).trans (c.upk (by omega) id h1)
        have e1 := (c.mono k (show i + 1 ≤ k by omega) (by omega)).dead id h2 e0
        have e2 := (c.mono (k + 1) (show i + 1 ≤ k + 1 by omega) (by omega)).dead id h2 e0
        exact ht (e2.trans e1.symm)
    · omega
theorem RC.old' (c : RC P R ops ps F S RS V) (hi : i < ops.size) {id : Nat} (h1 : ¬ Sees ops ps S RS i id) (h2 : ¬ ((S i).next ≤ id ∧ id < (S (i + 1)).next)) : vw S (Lx L i) id ops.size = vw S L id ops.size := by
  refine vw_congr ops.size fun k hk ht => ?_
  unfold Lx
  rw [if_neg]
  rintro rfl
  obtain ⟨_, hd⟩ := c.turns hk ht
  rcases hd with ⟨hs, _⟩ | hn
  · exact h1 hs
  · exact h2 hn
/-- a step that looks at no memory -/
theorem RC.pure' (c : RC P R ops ps F S RS V) (hI : HI P ops S r0 w0 L r w) (hi : i < ops.size) (he : S (i + 1) = S i) : HI P ops S r0 w0 (Lx L i) r w := by
  have hv : ∀ id, vw S (Lx L i) id ops.size = vw S L id ops.size := fun id => vw_congr ops.size fun k hk ht => by
    unfold Lx
    rw [if_neg]
    rintro rfl
    exact ht (by rw [he])
  refine ⟨fun id o h1 h2 => hI.obj id o h1 (by rw [← hv]; exact h2), fun id id' b x x' h1 h2 h3 h4 => hI.inj id id' b x x' h1 h2 (by rw [← hv]; exact h3) (by rw [← hv]; exact h4), fun j hj hL => hI.fresh j hj ?_, hI.rr, hI.size, hI.os, hI.tape, hI.output, hI.frame, fun k b x h1 h2 h3 => hI.new k b x h1 h2 (by rw [← hv]; exact h3), hI.gl⟩
  unfold Lx at hL
  split at hL
  · cases hL
  · exact hL
theorem RC.inK_ng (c : RC P R ops ps F S RS V) {k : Nat} (hk : k ≤ ops.size) : (inK ops ps S RS k).ng = (S 0).ng := (c.inK_ng' k).trans (c.base k hk).2.2.2.2.ng
theorem RC.rel (c : RC P R ops ps F S RS V) (hI : HI P ops S r0 w0 L r w) (hi : i < ops.size) (rf : RF ops L i) (ti : Third P R ops ps F S RS V i) : Rel P (S (i + 1)).next r (inK ops ps S RS i) w := by
  have hn := c.inK_next i
  refine ⟨by rw [hn]; exact (c.base i (by omega)).2.2.2.1, by rw [hn]; exact (c.m1 hi).next, fun k h1 h2 => hI.fresh i hi rf.unl k (by rw [← hn]; exact h1) h2, fun k o h => ?_, fun k k' b x x' h1 h2 h3 h4 => ?_, fun k h => by rw [c.inK_T]; exact c.upk (by omega) k (by rw [← hn]; exact h), fun k h => by rw [hn]; exact c.hlt (by omega) k h, fun g hg => hI.gl g (by rw [c.inK_ng (by omega)] at hg; exact hg), by rw [c.inK_ng (by omega), hn]; exact Nat.le_trans c.gn (c.base i (by omega)).2.2.2.2.next⟩
  · obtain ⟨hs, e⟩ := c.get_sees (by omega) h
    exact hI.obj k o (c.hid0 (by omega) hs.2) (by rw [c.see hi rf ti hs, e])
  · cases e1 : (inK ops ps S RS i).get k with
    | none => exact absurd e1 h1
    | some o1 =>
      cases e2 : (inK ops ps S RS i).get k' with
      | none => exact absurd e2 h2
      | some o2 =>
        obtain ⟨s1, g1⟩ := c.get_sees (by omega) e1
        obtain ⟨s2, g2⟩ := c.get_sees (by omega) e2
        exact hI.inj k k' b x x' (c.hid0 (by omega) s1.2) (c.hid0 (by omega) s2.2) (by rw [c.see hi rf ti s1, g1]; simp) (by rw [c.see hi rf ti s2, g2]; simp) h3 h4
/-- a step that looks at memory, or calls -/
theorem RC.third (c : RC P R ops ps F S RS V) (hR : SoundC P R) (hI : HI P ops S r0 w0 L r w) (hi : i < ops.size) (rf : RF ops L i) {o : Oper} {q : St} {ρ' : Operand → Value} (ti : Third P R ops ps F S RS V i)
    (hq : execH P R (F i).ev o (inEv (AA ops) (WW ops) ps i (RS i) (S i)) = some (V i, q)) (hS : S (i + 1) = back (S i) q) (hρ : ∀ x ∈ o.op.operands, VR r ((F i).ev x) (ρ' x)) :
    Upon P (fun v' w' => ∃ r', VR r' (V i) v' ∧ (∀ k p, r k = some p → r' k = some p) ∧ HI P ops S r0 w0 (Lx L i) r' w') ((execOp ρ' o).run P w) := by
  have hrel := c.rel hI hi rf ti
  have hqn : q.next = (S (i + 1)).next := by rw [hS]; rfl
  have hqT : q.T = (S (i + 1)).T := by rw [hS]; rfl
  refine (execH_ok' hR hrel (by rw [hqn]; exact Nat.le_refl _) hq hρ).mono ?_
  rintro v' w' ⟨r', hv, hG⟩
  have hn := c.inK_next i
  have hup := hG.up hrel
  have hbase := c.base i (by omega)
  have hm1 := (c.m1 hi).next
  have hrr : ∀ k, k < (S i).next ∨ (S (i + 1)).next ≤ k → r' k = r k := fun k hk => hG.ext.rr k (by rw [hqn]; show k < (inK ops ps S RS i).next ∨ _; rw [hn]; exact hk)
  have qget : ∀ id, hidden (inK ops ps S RS i).hid id = false → q.get id = (S (i + 1)).T.get id := fun id hh => by
    rw [getT, hG.mono.hid]
    show (if hidden (inK ops ps S RS i).hid id = true then none else _) = _
    rw [hh, hqT]; rfl
  have nhid : ∀ id, (S i).next ≤ id → hidden (inK ops ps S RS i).hid id = false := fun id h => by
    cases e : hidden (inK ops ps S RS i).hid id with
    | false => rfl
    | true => exact absurd (c.hlt (by omega) id e) (by omega)
  -- what is seen, or new
  have vis : ∀ id, (Sees ops ps S RS i id ∨ ((S i).next ≤ id ∧ id < (S (i + 1)).next)) → vw S (Lx L i) id ops.size = q.get id := by
    rintro id (h | ⟨h1, h2⟩)
    · rw [c.see' hi rf ti h, qget id h.2]
    · rw [c.new' hi rf h1 h2, qget id (nhid id h1)]
  -- a number that is seen by the step, of a block
  have seen : ∀ k, (inK ops ps S RS i).get k ≠ none → Sees ops ps S RS i k ∧ vw S L k ops.size ≠ none := fun k h => by
    cases e : (inK ops ps S RS i).get k with
    | none => exact absurd e h
    | some oo =>
      obtain ⟨s1, g1⟩ := c.get_sees (by omega) e
      exact ⟨s1, by rw [c.see hi rf ti s1, g1]; simp⟩
  have back0 : ∀ k0 b x0, k0 < (inK ops ps S RS i).next → wrt (inK ops ps S RS i) k0 → (inK ops ps S RS i).get k0 ≠ none → r k0 = some (b, x0) → w0.heap.size ≤ b ∨ ∃ k x, k < (S 0).next ∧ wrt (S 0) k ∧ (S 0).get k ≠ none ∧ r0 k = some (b, x) := by
    intro k0 b x0 h1 h2 h3 h4
    obtain ⟨s1, g1⟩ := seen k0 h3
    rcases Nat.lt_or_ge k0 (S 0).next with h5 | h5
    · right
      have hap : apartB (S i).lim (S i).one (S 0).next ps = true := by rw [hbase.1, hbase.2.1]; exact c.ap
      have hw : wrt (S i) k0 := wrt_inI hap hbase.2.2.2.1 s1.1 h2
      refine ⟨k0, x0, h5, by unfold wrt at *; rw [← hbase.1, ← hbase.2.1]; exact hw, ?_, by rw [← hI.rr k0 (.inl h5)]; exact h4⟩
      rw [getT, c.hid0 (by omega) s1.2]
      intro e
      have e : (S 0).T.get k0 = none := e
      have := hbase.2.2.2.2.dead k0 h5 e
      rw [c.see hi rf ti s1, this] at g1
      exact g1 rfl
    · exact hI.new k0 b x0 h5 (c.hid0 (by omega) s1.2) g1 h4
  have deadS : ∀ id, Sees ops ps S RS i id → vw S (Lx L i) id ops.size ≠ none → vw S L id ops.size ≠ none := fun id hs h => by
    rw [c.see' hi rf ti hs] at h
    rw [c.see hi rf ti hs]
    intro e
    exact h ((c.m1 hi).dead id hs.1 e)
  have mixed : ∀ id id' b x x', (Sees ops ps S RS i id ∨ ((S i).next ≤ id ∧ id < (S (i + 1)).next)) → ¬ (Sees ops ps S RS i id' ∨ ((S i).next ≤ id' ∧ id' < (S (i + 1)).next)) → hidden (S 0).hid id = false → hidden (S 0).hid id' = false →
      vw S (Lx L i) id ops.size ≠ none → vw S (Lx L i) id' ops.size ≠ none → r' id = some (b, x) → r' id' = some (b, x') → id = id' := by
    intro id id' b x x' h1 h2 d1 d2 v1 v2 e1 e2
    have h2a : ¬ Sees ops ps S RS i id' := fun h => h2 (.inl h)
    have h2b : ¬ ((S i).next ≤ id' ∧ id' < (S (i + 1)).next) := fun h => h2 (.inr h)
    rw [c.old' hi h2a h2b] at v2
    rw [hrr id' (by omega)] at e2
    have hbl : b < w.heap.size := by
      cases e : vw S L id' ops.size with
      | none => exact absurd e v2
      | some oo =>
        obtain ⟨b', y, o', g1, g2, _⟩ := hI.obj id' oo d2 e
        rw [e2] at g1; injection g1 with g1; injection g1 with g1 _; subst g1
        exact (Array.getElem?_eq_some_iff.1 g2).1
    rcases h1 with hs | ⟨n1, n2⟩
    · rw [hrr id (.inl hs.1)] at e1
      exact hI.inj id id' b x x' d1 d2 (deadS id hs v1) v2 e1 e2
    · rcases hG.ext.new id b x (by show (inK ops ps S RS i).next ≤ id; rw [hn]; exact n1) (by rw [← vis id (.inr ⟨n1, n2⟩)]; exact v1) e1 with h3 | ⟨k0, x0, a1, a2, a3, a4⟩
      · omega
      · obtain ⟨s1, g1⟩ := seen k0 a3
        have := hI.inj k0 id' b x0 x' (c.hid0 (by omega) s1.2) d2 g1 v2 a4 e2
        subst this
        exact absurd s1 h2a
  refine ⟨r', hv, hup, fun id oo h1 h2 => ?_, fun id id' b x x' h1 h2 h3 h4 h5 h6 => ?_, fun j hj hL k h1 h2 => ?_, fun k hk => ?_, Nat.le_trans hI.size hG.ext.size, hG.ext.os.trans hI.os, hG.ext.tape.trans hI.tape, hG.ext.output.trans hI.output, fun b hb H => ?_, fun k b x h1 h2 h3 h4 => ?_, fun g hg => hup _ _ (hI.gl g hg)⟩
  · by_cases hs : Sees ops ps S RS i id ∨ ((S i).next ≤ id ∧ id < (S (i + 1)).next)
    · rw [vis id hs] at h2
      exact hG.rel.obj id oo h2
    · have hsa : ¬ Sees ops ps S RS i id := fun h => hs (.inl h)
      rw [c.old' hi hsa fun h => hs (.inr h)] at h2
      obtain ⟨b, x, o', g1, g2, g3⟩ := hI.obj id oo h1 h2
      refine ⟨b, x, o', hup _ _ g1, (hG.ext.frame b (Array.getElem?_eq_some_iff.1 g2).1 fun k y a1 a2 a3 a4 => ?_).trans g2, g3.mono hup⟩
      obtain ⟨s1, q1⟩ := seen k a3
      have := hI.inj k id b y x (c.hid0 (by omega) s1.2) h1 q1 (by rw [h2]; simp) a4 g1
      subst this
      exact hsa s1
  · by_cases hs : Sees ops ps S RS i id ∨ ((S i).next ≤ id ∧ id < (S (i + 1)).next)
    · by_cases hs' : Sees ops ps S RS i id' ∨ ((S i).next ≤ id' ∧ id' < (S (i + 1)).next)
      · rw [vis id hs] at h3
        rw [vis id' hs'] at h4
        exact hG.rel.inj id id' b x x' h3 h4 h5 h6
      · exact mixed id id' b x x' hs hs' h1 h2 h3 h4 h5 h6
    · by_cases hs' : Sees ops ps S RS i id' ∨ ((S i).next ≤ id' ∧ id' < (S (i + 1)).next)
      · exact (mixed id' id b x' x hs' hs h2 h1 h4 h3 h6 h5).symm
      · have a1 : ¬ ((S i).next ≤ id ∧ id < (S (i + 1)).next) := fun h => hs (.inr h)
        have a2 : ¬ ((S i).next ≤ id' ∧ id' < (S (i + 1)).next) := fun h => hs' (.inr h)
        rw [c.old' hi (fun h => hs (.inl h)) a1] at h3
        rw [c.old' hi (fun h => hs' (.inl h)) a2] at h4
        rw [hrr id (by omega)] at h5
        rw [hrr id' (by omega)] at h6
        exact hI.inj id id' b x x' h1 h2 h3 h4 h5 h6
  · unfold Lx at hL
    split at hL
    · cases hL
    · rename_i hne
      have : r' k = r k := by
        refine hrr k ?_
        rcases Nat.lt_or_ge j i with hlt | hge
        · left; have := (c.mono i (show j + 1 ≤ i by omega) (by omega)).next; omega
        · right; have := (c.mono j (show i + 1 ≤ j by omega) (by omega)).next; omega
      rw [this]; exact hI.fresh j hj hL k h1 h2
  · have g1 := hbase.2.2.2.2.next
    have g2 := (c.mono ops.size (show i + 1 ≤ ops.size by omega) (Nat.le_refl _)).next
    rw [hrr k (by omega)]
    exact hI.rr k hk
  · refine (hG.ext.frame b (Nat.lt_of_lt_of_le hb hI.size) fun k x a1 a2 a3 a4 => ?_).trans (hI.frame b hb H)
    rcases back0 k b x a1 a2 a3 a4 with h5 | ⟨k0, x0, q1, q2, q3, q4⟩
    · omega
    · exact H k0 x0 q1 q2 q3 q4
  · by_cases hnew : (S i).next ≤ k ∧ k < (S (i + 1)).next
    · rcases hG.ext.new k b x (by show (inK ops ps S RS i).next ≤ k; rw [hn]; exact hnew.1) (by rw [← vis k (.inr hnew)]; exact h3) h4 with h5 | ⟨k0, x0, a1, a2, a3, a4⟩
      · exact .inl (Nat.le_trans hI.size h5)
      · exact back0 k0 b x0 a1 a2 a3 a4
    · rw [hrr k (by omega)] at h4
      by_cases hs : Sees ops ps S RS i k
      · exact hI.new k b x h1 h2 (deadS k hs h3) h4
      · rw [c.old' hi hs hnew] at h3
        exact hI.new k b x h1 h2 h3 h4
end
set_option maxRecDepth 100000
structure SI (ops : Array Oper) (F : Nat → Fr) (V : Nat → Value) (L : Nat → Bool) (r : Rn) (a : Act) : Prop where
  size : a.tmps.size = (F 0).m
  wr : ∀ j s, j < ops.size → L j = true → wrOf ops j = some s → VR r (V j) (a.tmps.getD s undef)
  un : ∀ s, (∀ j, j < ops.size → L j = true → wrOf ops j ≠ some s) → VR r ((F 0).get s) (a.tmps.getD s undef)
  mks : MkR r (F 0).marks a.defers
theorem uniq_ok {ng : Nat} {ops : Array Oper} (h : okR ng ops = true) {i j : Nat} {d : Tmp} (hi : wrOf ops i = some d) (hj : wrOf ops j = some d) : i = j := by
  have hs : ∀ k d, wrOf ops k = some d → k < ops.size := fun k d hk => by
    unfold wrOf at hk
    rcases Nat.lt_or_ge k ops.size with h | h
    · exact h
    · rw [Array.getElem?_eq_none h] at hk; cases hk
  unfold okR at h
  simp only [Bool.and_eq_true] at h
  have := List.all_eq_true.1 (List.all_eq_true.1 h.1.1.2 i (List.mem_range.2 (hs i d hi))) j (List.mem_range.2 (hs j d hj))
  simpa [hi, hj] using this
theorem reads_ok {ng : Nat} {ops : Array Oper} (h : okR ng ops = true) {i j : Nat} {o : Oper} {s : Tmp} (ho : ops[i]? = some o) (hs : s ∈ o.looksAt ops) (hj : wrOf ops j = some s) (hne : i ≠ j) : aheadB (AA ops) i j = true := by
  have hjs : j < ops.size := by
    unfold wrOf at hj
    rcases Nat.lt_or_ge j ops.size with h | h
    · exact h
    · rw [Array.getElem?_eq_none h] at hj; cases hj
  unfold okR at h
  simp only [Bool.and_eq_true] at h
  have := List.all_eq_true.1 h.1.2 i (List.mem_range.2 (Array.getElem?_eq_some_iff.1 ho).1)
  rw [ho] at this
  have := List.all_eq_true.1 (List.all_eq_true.1 this s hs) j (List.mem_range.2 hjs)
  rw [hj] at this
  simp only [Bool.or_eq_true] at this
  rcases this with h1 | h1
  · exfalso
    rw [show Nat.beq s s = true from Nat.beq_refl s] at h1
    cases h1
  · rw [bq, if_neg hne] at h1
    exact h1
theorem back_ok {ng : Nat} {ops : Array Oper} (h : okR ng ops = true) {i : Nat} {o : Oper} (ho : ops[i]? = some o) {e : Edge} (he : e ∈ o.after) (hb : Region.binds .any e = true) : e.on < i := by
  unfold okR at h
  simp only [Bool.and_eq_true] at h
  have := List.all_eq_true.1 h.1.1.1 i (List.mem_range.2 (Array.getElem?_eq_some_iff.1 ho).1)
  simp only [ho] at this
  have := Array.all_eq_true_iff_forall_mem.1 this e he
  simpa [hb] using this
theorem least_rdy {ng : Nat} {ops : Array Oper} (hok : okR ng ops = true) {listed : Array Bool} (hls : listed.size = ops.size) : ∀ i, i < ops.size → listed.getD i false = false → ∃ k, k ∈ Region.ready .any ops listed := by
  intro i
  induction i using Nat.strongRecOn with
  | ind i ih =>
    intro hi hl
    by_cases hex : ∃ j, j < i ∧ listed.getD j false = false
    · obtain ⟨j, hj, hjl⟩ := hex
      exact ih j hj (by omega) hjl
    · refine ⟨i, mem_ready.2 ⟨?_, ops[i], by simp [hi], fun e he hb => ?_⟩⟩
      · simp [hls, hi] at hl ⊢; exact hl
      · cases h : listed.getD e.on false with
        | true => rfl
        | false => exact absurd ⟨e.on, back_ok hok (show ops[i]? = some ops[i] by simp [hi]) he hb, h⟩ hex
section
variable {P : Program} {R : Rec} {ops : Array Oper} {ps : List (Nat × Nat)} {F : Nat → Fr} {S : Nat → St} {RS : Nat → List (Nat × Nat × Nat)} {V : Nat → Value} {r0 r : Rn} {w0 w : World} {L : Nat → Bool} {i : Nat}
theorem RC.fm' (c : RC P R ops ps F S RS V) : ∀ k, k ≤ ops.size → (F k).m = (F 0).m ∧ (F k).marks = (F 0).marks ∧ (F k).round = (F 0).round
  | 0, _ => ⟨rfl, rfl, rfl⟩
  | k + 1, h => by
    obtain ⟨o, ho, hp, _⟩ := c.step k (by omega)
    obtain ⟨h1, h2, h3, _⟩ := put_fr hp
    obtain ⟨g1, g2, g3⟩ := c.fm' k (by omega)
    exact ⟨h1.trans g1, h2.trans g2, h3.trans g3⟩
theorem RC.fget (c : RC P R ops ps F S RS V) (s : Tmp) : ∀ k, k ≤ ops.size → (∃ j, j < k ∧ wrOf ops j = some s ∧ (F k).get s = V j) ∨ ((∀ j, j < k → wrOf ops j ≠ some s) ∧ (F k).get s = (F 0).get s)
  | 0, _ => .inr ⟨fun j hj => by omega, rfl⟩
  | k + 1, h => by
    obtain ⟨o, ho, hp, _⟩ := c.step k (by omega)
    have hw : wrOf ops k = o.dst := by unfold wrOf; rw [ho]; rfl
    obtain ⟨h1, h2, h3, h4⟩ := put_fr hp
    rcases h4 with ⟨e1, e2⟩ | ⟨d, e1, hd, e2⟩
    · rw [e2]
      rcases c.fget s k (by omega) with ⟨j, hj, hj1, hj2⟩ | ⟨hj1, hj2⟩
      · exact .inl ⟨j, by omega, hj1, hj2⟩
      · refine .inr ⟨fun j hj => ?_, hj2⟩
        by_cases e : j = k
        · subst e; rw [hw, e1]; simp
        · exact hj1 j (by omega)
    · have hb : d + 2 ≤ 2 ^ 24 := by
        have q1 := (c.fm' k (by omega)).1
        have q2 := c.fm
        rw [← q1] at q2
        unfold big at q2
        exact Nat.le_trans (Nat.succ_le_succ hd) (by omega)
      have hg : (F (k + 1)).get s = if s = d then V k else (F k).get s := by
        rw [e2]
        unfold Fr.get
        simp only []
        rw [Tr.get_set 24 _ d _ s hb]
        split <;> rfl
      by_cases e : s = d
      · subst e
        exact .inl ⟨k, by omega, by rw [hw, e1], by rw [hg, if_pos rfl]⟩
      · rw [if_neg e] at hg
        rw [hg]
        rcases c.fget s k (by omega) with ⟨j, hj, hj1, hj2⟩ | ⟨hj1, hj2⟩
        · exact .inl ⟨j, by omega, hj1, hj2⟩
        · refine .inr ⟨fun j hj => ?_, hj2⟩
          by_cases e' : j = k
          · subst e'; rw [hw, e1]; intro h; injection h with h; exact e h.symm
          · exact hj1 j (by omega)
theorem RC.slot (c : RC P R ops ps F S RS V) (hi : i < ops.size) (rf : RF ops L i) {a : Act} (hS : SI ops F V L r a) {o : Oper} (ho : ops[i]? = some o) {s : Tmp} (hs : s ∈ o.looksAt ops) : VR r ((F i).get s) (a.tmps.getD s undef) := by
  rcases c.fget s i (by omega) with ⟨j, hj, hj1, hj2⟩ | ⟨hj1, hj2⟩
  · rw [hj2]
    have := reads_ok c.ok ho hs hj1 (by omega)
    rw [ahead_lt hj] at this
    exact hS.wr j s (by omega) (rf.anc j this) hj1
  · rw [hj2]
    refine hS.un s fun j hj hL hw => ?_
    by_cases e : j = i
    · subst e; rw [rf.unl] at hL; cases hL
    · rcases Nat.lt_or_ge j i with hlt | hge
      · exact hj1 j hlt hw
      · have := reads_ok c.ok ho hs hw (Ne.symm e)
        rw [ahead_symm (Ne.symm e), ahead_lt (by omega)] at this
        rw [rf.desc j hj this] at hL; cases hL
theorem RC.sput (c : RC P R ops ps F S RS V) (hi : i < ops.size) {a : Act} (hS : SI ops F V L r a) {o : Oper} (ho : ops[i]? = some o) {r' : Rn} (hup : ∀ k p, r k = some p → r' k = some p) {v' : Value} (hv : VR r' (V i) v') : SI ops F V (Lx L i) r' (a.put o.dst v') := by
  have hw : wrOf ops i = o.dst := by unfold wrOf; rw [ho]; rfl
  have hdm : ∀ d, o.dst = some d → d < a.tmps.size := fun d hd => by
    obtain ⟨o2, ho2, hp, _⟩ := c.step i hi
    rw [ho] at ho2; injection ho2 with ho2; subst ho2
    obtain ⟨h1, h2, h3, h4⟩ := put_fr hp
    rcases h4 with ⟨e1, _⟩ | ⟨d', e1, hd', _⟩
    · rw [hd] at e1; cases e1
    · rw [hd] at e1; injection e1 with e1; subst e1
      rw [hS.size, ← (c.fm' i (by omega)).1]; exact hd'
  have hkeep : ∀ s, o.dst ≠ some s → (a.put o.dst v').tmps.getD s undef = a.tmps.getD s undef := fun s hs => by
    cases hd : o.dst with
    | none => rfl
    | some d => exact getD_put_ne (fun e => hs (by rw [hd, e]))
  refine ⟨?_, fun j s hj hL hjs => ?_, fun s hs => ?_, ?_⟩
  · have := hS.size
    cases hd : o.dst <;> simp [Act.put, this]
  · by_cases e : j = i
    · subst e
      have hd : o.dst = some s := by rw [← hw]; exact hjs
      rw [hd, getD_put_eq (hdm s hd)]; exact hv
    · have hL' : L j = true := by unfold Lx at hL; rw [if_neg e] at hL; exact hL
      rw [hkeep s fun hd => e (uniq_ok c.ok hjs (by rw [hw, hd]))]
      exact (hS.wr j s hj hL' hjs).mono hup
  · rw [hkeep s fun hd => hs i hi (by unfold Lx; rw [if_pos rfl]) (by rw [hw, hd])]
    refine (hS.un s fun j hj hL => hs j hj ?_).mono hup
    unfold Lx; split
    · rfl
    · exact hL
  · cases hd : o.dst <;> exact hS.mks.mono hup
def InvE (P : Program) (ops : Array Oper) (F : Nat → Fr) (S : Nat → St) (V : Nat → Value) (r0 : Rn) (w0 : World) (listed : Array Bool) (a : Act) (w : World) : Prop :=
  listed.size = ops.size ∧ (∀ i o, ops[i]? = some o → listed.getD i false = true → ∀ e ∈ o.after, Region.binds .any e = true → listed.getD e.on false = true) ∧
  ∃ r, HI P ops S r0 w0 (fun j => listed.getD j false) r w ∧ SI ops F V (fun j => listed.getD j false) r a
theorem RC.inv_step (c : RC P R ops ps F S RS V) (hR : SoundC P R) {ro : Option Nat} {n : Nat} {Q : Exit → Act → World → Prop} {listed : Array Bool} {a : Act} (hv : InvE P ops F S V r0 w0 listed a w) (hr : i ∈ Region.ready .any ops listed) :
    wpOpIn (FO ro) n P ops Q i (InvE P ops F S V r0 w0 (listed.setIfInBounds i true)) a w := by
  obtain ⟨hls, down, r, hI, hS⟩ := hv
  obtain ⟨hun, o, ho, hall⟩ := mem_ready.1 hr
  have hi : i < ops.size := (Array.getElem?_eq_some_iff.1 ho).1
  have hil : i < listed.size := by rw [hls]; exact hi
  have hunf := getD_false_of hil hun
  have rf : RF ops (fun j => listed.getD j false) i := by
    refine ⟨hunf, fun k hk => ?_, fun k hk hb => ?_⟩
    · refine anc_all (ops := ops) (L := fun j => listed.getD j false) (fun j o h1 h2 => down j o h2 h1) i (fun o' ho' => ?_) hk
      rw [ho] at ho'; injection ho' with ho'; subst ho'; exact hall
    · cases e : listed.getD k false with
      | false => rfl
      | true =>
        have := anc_all (ops := ops) (L := fun j => listed.getD j false) (fun j o h1 h2 => down j o h2 h1) k (fun o' ho' => down k o' ho' e) hb
        rw [show listed.getD i false = true from this] at hunf; cases hunf
  have hLx : (fun j => (listed.setIfInBounds i true).getD j false) = Lx (fun j => listed.getD j false) i := by
    funext j
    unfold Lx
    by_cases e : j = i
    · subst e; rw [if_pos rfl]; simp [hil]
    · rw [if_neg e, getD_set_ne false (Ne.symm e)]
  have down' : ∀ j o, ops[j]? = some o → (listed.setIfInBounds i true).getD j false = true → ∀ e ∈ o.after, Region.binds .any e = true → (listed.setIfInBounds i true).getD e.on false = true := by
    intro j o' hj hl e he hb
    refine getD_set_true ?_
    by_cases e' : j = i
    · subst e'; rw [ho] at hj; injection hj with hj; subst hj; exact hall e he hb
    · rw [getD_set_ne false (Ne.symm e')] at hl; exact down j o' hj hl e he hb
  have fin : ∀ r' v' w', (∀ k p, r k = some p → r' k = some p) → VR r' (V i) v' → HI P ops S r0 w0 (Lx (fun j => listed.getD j false) i) r' w' → InvE P ops F S V r0 w0 (listed.setIfInBounds i true) (a.put o.dst v') w' := fun r' v' w' h1 h2 h3 =>
    ⟨by simp [hls], down', r', by rw [hLx]; exact h3, by rw [hLx]; exact c.sput hi hS ho h1 h2⟩
  have hslot : ∀ s ∈ o.looksAt ops, VR r ((F i).get s) (a.tmps.getD s undef) := fun s hs => c.slot hi rf hS ho hs
  have hok2 : okOps (S 0).ng ops = true := by have := c.ok; unfold okR at this; simp only [Bool.and_eq_true] at this; exact this.2
  have hρ : ∀ x ∈ o.op.operands, VR r ((F i).ev x) (a.eval x) := fun x hx => by
    have hx2 := okOps_mem hok2 (o := o) (Array.mem_toList_iff.2 (Array.mem_of_getElem? ho)) hx
    cases x with
    | tmp t => exact hslot t (by unfold Oper.looksAt; simp; exact .inl ⟨_, hx, rfl⟩)
    | const v => exact .pln hx2
    | global g => exact .ptr (hI.gl g (blt_lt hx2))
    | func f => exact .pln rfl
  have hg := guard_ok (ops := ops) (fr := F i) (o := o) (a := a) (r := r) fun k want d h1 h2 => hslot d (by
    unfold wrOf at h2
    simp [Oper.looksAt, h1, h2])
  unfold wpOpIn
  simp only [ho]
  rw [hg]
  obtain ⟨o2, ho2, hp, hk⟩ := c.step i hi
  rw [ho] at ho2; injection ho2 with ho2; subst ho2
  rcases hk with ⟨e1, e2, e3, e4⟩ | ⟨e1, e2, e3, e4, e5⟩ | ⟨e1, e2, q, e3, e4, e5⟩
  · rw [e1, if_neg (by simp)]
    exact ⟨fun _ _ => trivial, fin r undef w (fun _ _ h => h) (by rw [e2]; exact VR.undef) (c.pure' hI hi e3)⟩
  · rw [e1, if_pos rfl]
    obtain ⟨v', h1, h2⟩ := execP_ok e3 hρ
    refine op_in (K := fun u w' => u = v' ∧ w' = w) (fun cc hc => by unfold pureK at e2; rw [hc] at e2; cases e2) (by rw [h2 w]; exact ⟨rfl, rfl⟩) ?_
    rintro u w' ⟨rfl, rfl⟩
    exact fin r u w' (fun _ _ h => h) h1 (c.pure' hI hi e4)
  · rw [e1, if_pos rfl]
    refine op_in (fun cc hc => ?_) (c.third hR hI hi rf ⟨o, ho, e1, e2, q, e3, e4, e5⟩ e3 e4 hρ) ?_
    · unfold execH at e3; rw [hc] at e3; cases e3
    · rintro v' w' ⟨r', h1, h2, h3⟩
      exact fin r' v' w' h2 h1 h3
theorem RC.all (c : RC P R ops ps F S RS V) (hR : SoundC P R) {ro : Option Nat} {n : Nat} {Q : Exit → Act → World → Prop}
    (hQ : ∀ listed a w, InvE P ops F S V r0 w0 listed a w → (∀ i, i < ops.size → listed.getD i false = true) → Q .normal a w) :
    ∀ (f : Nat) (listed : Array Bool) (a : Act) (w : World), InvE P ops F S V r0 w0 listed a w → listed.toList.count false = f → wpAnyIn (FO ro) n P .any ops Q f listed a w := by
  have done : ∀ (listed : Array Bool) (a : Act) (w : World), InvE P ops F S V r0 w0 listed a w → Region.ready .any ops listed = [] → Q .normal a w := fun listed a w hv he => by
    refine hQ listed a w hv fun i hi => ?_
    cases e : listed.getD i false with
    | true => rfl
    | false =>
      obtain ⟨k, hk⟩ := least_rdy c.ok hv.1 i hi e
      rw [he] at hk; cases hk
  intro f
  induction f with
  | zero =>
    intro listed a w hv hcnt
    have hready : Region.ready .any ops listed = [] := by
      apply List.eq_nil_iff_forall_not_mem.2
      intro k hk
      obtain ⟨h1, o, ho, _⟩ := mem_ready.1 hk
      have hk' := (Array.getElem?_eq_some_iff.1 ho).1
      have hk2 : k < listed.size := by rw [hv.1]; exact hk'
      have hf := getD_false_of hk2 h1
      have : false ∈ listed.toList := by
        have e : listed[k] = false := by simpa [hk2] using hf
        rw [← e]; exact Array.mem_toList_iff.2 (Array.getElem_mem hk2)
      exact absurd hcnt (by have := List.count_pos_iff.2 this; omega)
    exact ⟨hready, done listed a w hv hready⟩
  | succ f ih =>
    intro listed a w hv hcnt
    refine ⟨fun he => done listed a w hv he, fun i hi => ?_⟩
    refine wpOpIn_mono (fun a' w' hv' => ih _ a' w' hv' ?_) (c.inv_step hR hv hi)
    obtain ⟨hun, o, ho, _⟩ := mem_ready.1 hi
    have his : i < listed.size := by rw [hv.1]; exact (Array.getElem?_eq_some_iff.1 ho).1
    have hunf := getD_false_of his hun
    have hg : listed.toList[i]? = some false := by simp [his] at hunf; simp [his, hunf]
    have := count_set listed.toList i hg
    rw [Array.toList_setIfInBounds]; omega
end
/-- **A REGION, in whatever order.** -/
theorem regB_ok {P : Program} {R : Rec} {B : Nat} (hf : P.follows .mixedOrders = true) (hM : RM R) (hR : SoundC P R) {id : Nat} {ops : Array Oper} {draw : Bool} {ro : Option Nat} {n : Nat} {Q : Exit → Act → World → Prop} {fr fr' : Fr} {s s' : St} {r : Rn} {w : World} {a : Act}
    (h : regB P R ops draw fr s = some (fr', s')) (hB : s'.next ≤ B) (hr : Rel P B r s w) (hfr : FrR r fr a) (hQ : ∀ r' a' w', FrR r' fr' a' → Good P B s s' r r' w w' → Q .normal a' w') : (Code.region id ops draw).wpIn (FO ro) n P Q a w := by
  have h0 := h
  unfold regB at h
  cases draw with
  | false =>
    obtain ⟨hok, h⟩ := bif_some (show (bif okOps s.ng ops then seqB P R ops ops.toList fr s else none) = some (fr', s') from h)
    exact wpIn_region_list (seqB_ok hM hR hok ops.toList fr fr' s s' r w a rfl (fun o ho => ho) h hB hr hfr hQ)
  | true =>
    obtain ⟨hok, h⟩ := bif_some (show (bif okR s.ng ops then _ else none) = some (fr', s') from h)
    obtain ⟨hap, h⟩ := bif_some h
    obtain ⟨F, S, RS, V, f0, s0, rs0, fN, sN, hst⟩ := any_trace ops.toList 0 [] fr fr' s s' (by simp) h
    simp only [Nat.zero_add, Array.length_toList] at fN sN hst
    have c : RC P R ops _ F S RS V := ⟨hM, fun k hk => hst k (Nat.zero_le _) hk, rs0, by rw [s0]; exact hok, by rw [s0]; exact hap, by rw [s0]; exact hr.nb, by rw [s0]; exact hr.up, by rw [s0]; exact hr.hlt, by rw [f0]; exact hfr.1.2.1, by rw [s0]; exact hr.gn⟩
    have hmono := (regB_mb hM h0).1 hr.nb
    refine wpIn_region_any hf (c.all hR (r0 := r) (w0 := w) (fun listed a' w' hv hall => ?_) _ _ _ _ ⟨by simp, (fun i o ho hl => by rw [getD_replicate_false] at hl; cases hl), r, ?_, ?_⟩ (by simp))
    · obtain ⟨hls, _, r', hI, hS⟩ := hv
      have hv : ∀ id, vw S (fun j => listed.getD j false) id ops.size = s'.T.get id := fun id => by rw [vw_done ops.size fun k hk _ => hall k hk, sN]
      have hh : s'.hid = s.hid := hmono.1.hid
      have hget : ∀ id, s'.get id = if hidden s.hid id = true then none else s'.T.get id := fun id => by rw [getT, hh]
      refine hQ r' a' w' ⟨⟨?_, ?_, fun t => ?_⟩, ?_⟩ ⟨hmono.1, ⟨fun k hk => ?_, hI.size, hI.os, hI.tape, hI.output, fun b hb H => ?_, fun k b x h1 h2 h3 => ?_⟩, ⟨hmono.2, hB, fun k h1 h2 => ?_, fun k o hk => ?_, fun k k' b x x' h1 h2 h3 h4 => ?_, hmono.1.up hr.up, fun k hk => ?_, fun g hg => hI.gl g (by rw [s0, ← hmono.1.ng]; exact hg), by rw [hmono.1.ng]; exact Nat.le_trans hr.gn hmono.1.next⟩⟩
      · rw [hS.size, ← fN, (c.fm' ops.size (Nat.le_refl _)).1]
      · rw [← fN, (c.fm' ops.size (Nat.le_refl _)).1]; exact c.fm
      · have := c.fget t ops.size (Nat.le_refl _)
        rw [fN] at this
        rcases this with ⟨j, hj, hj1, hj2⟩ | ⟨hj1, hj2⟩
        · show VR r' (fr'.get t) _
          rw [hj2]; exact hS.wr j t hj (hall j hj) hj1
        · show VR r' (fr'.get t) _
          rw [hj2]; exact hS.un t fun j hj _ => hj1 j hj
      · have := hS.mks
        rw [← (c.fm' ops.size (Nat.le_refl _)).2.1, fN] at this
        exact this
      · exact hI.rr k (by rw [s0, sN]; exact hk)
      · exact hI.frame b hb (by rw [s0]; exact H)
      · have := hI.new k b x (by rw [s0]; exact h1) ?_ ?_ h3
        · rw [s0] at this; exact this
        · rw [s0]
          cases e : hidden s.hid k with
          | false => rfl
          | true => rw [hget, e] at h2; exact absurd rfl h2
        · rw [hv]
          rw [hget] at h2
          split at h2
          · exact absurd rfl h2
          · exact h2
      · rw [hI.rr k (.inr (by rw [sN]; exact h1))]
        exact hr.dom k (Nat.le_trans hmono.1.next h1) h2
      · rw [hget] at hk
        split at hk
        · cases hk
        · rename_i e
          exact hI.obj k o (by rw [s0]; simpa using e) (by rw [hv]; exact hk)
      · rw [hget] at h1 h2
        split at h1
        · exact absurd rfl h1
        · rename_i e1
          split at h2
          · exact absurd rfl h2
          · rename_i e2
            exact hI.inj k k' b x x' (by rw [s0]; simpa using e1) (by rw [s0]; simpa using e2) (by rw [hv]; exact h1) (by rw [hv]; exact h2) h3 h4
      · rw [hh] at hk
        exact Nat.lt_of_lt_of_le (hr.hlt k hk) hmono.1.next
    · have hv : ∀ id, vw S (fun j => (Array.replicate ops.size false).getD j false) id ops.size = s.T.get id := fun id => by
        rw [vw_stay ops.size (i := 0) (Nat.zero_le _) fun k _ _ _ => getD_replicate_false _ _]
        show (S 0).T.get id = _
        rw [s0]
      refine ⟨fun id o h1 h2 => ?_, fun id id' b x x' h1 h2 h3 h4 h5 h6 => ?_, fun j hj _ k h1 h2 => ?_, fun _ _ => rfl, Nat.le_refl _, rfl, rfl, rfl, fun _ _ _ => rfl, fun k b x h1 h2 h3 h4 => ?_, fun g hg => hr.gl g (by rw [s0] at hg; exact hg)⟩
      · rw [s0] at h1
        rw [hv] at h2
        exact hr.obj id o (by rw [getT, h1]; exact h2)
      · rw [s0] at h1 h2
        rw [hv] at h3 h4
        exact hr.inj id id' b x x' (by rw [getT, h1]; exact h3) (by rw [getT, h2]; exact h4) h5 h6
      · refine hr.dom k ?_ ?_
        · have := (c.mono j (Nat.zero_le _) (by omega)).next; rw [s0] at this; omega
        · have := (c.mono ops.size (show j + 1 ≤ ops.size by omega) (Nat.le_refl _)).next; rw [sN] at this; omega
      · rw [s0] at h1
        rw [hv] at h3
        exact absurd (hr.up k h1) h3
    · refine ⟨by rw [f0]; exact hfr.1.1, (fun j t hj hl => by rw [getD_replicate_false] at hl; cases hl), (fun t _ => by rw [f0]; exact hfr.1.2.2 t), by rw [f0]; exact hfr.2⟩
end Go.Proofs.YtbanjolokkghdaaGreatDoor
