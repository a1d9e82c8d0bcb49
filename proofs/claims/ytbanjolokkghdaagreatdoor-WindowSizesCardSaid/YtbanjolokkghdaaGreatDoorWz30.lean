/- Parts of the proof that follows: A run of closed code: how the runner's memory stands for a world's. No condition. | A run of closed code: the operations that look at no memory. No condition. | A run of closed code: the operations that look at no memory, told. No condition. -/
import Derived.Test.YtbanjolokkghdaaGreatDoorWz29
set_option linter.unusedSimpArgs false
set_option linter.unusedVariables false
namespace Go.Proofs.YtbanjolokkghdaaGreatDoor
open Go.RowKit
theorem Tr.get_nil {α : Type} (k : Nat) : (Tr.nil : Tr α).get k = none := rfl
theorem bq {α : Type} (a b : Nat) (x y : α) : (bif Nat.beq a b then x else y) = if a = b then x else y := by
  by_cases h : a = b
  · subst h; rw [if_pos rfl, show Nat.beq a a = true from Nat.beq_refl a]; rfl
  · rw [if_neg h]
    cases e : Nat.beq a b with
    | false => rfl
    | true => exact absurd (Nat.eq_of_beq_eq_true e) h
theorem Tr.get_node {α : Type} (o : Option α) (l r : Tr α) (k : Nat) : (Tr.node o l r).get k = if k = 0 then o else if k % 2 = 1 then l.get (k / 2) else r.get (k / 2 - 1) := by
  rw [← bq, ← bq]; rfl
theorem Tr.set_nil {α : Type} (n k : Nat) (v : Option α) : (Tr.nil : Tr α).set (n + 1) k v = if k = 0 then Tr.node v .nil .nil else if k % 2 = 1 then Tr.node none (Tr.nil.set n (k / 2) v) .nil else Tr.node none .nil (Tr.nil.set n (k / 2 - 1) v) := by
  rw [← bq, ← bq]; rfl
theorem Tr.set_node {α : Type} (n k : Nat) (o v : Option α) (l r : Tr α) : (Tr.node o l r).set (n + 1) k v = if k = 0 then Tr.node v l r else if k % 2 = 1 then Tr.node o (l.set n (k / 2) v) r else Tr.node o l (r.set n (k / 2 - 1) v) := by
  rw [← bq, ← bq]; rfl
theorem Tr.get_set {α : Type} : ∀ (n : Nat) (t : Tr α) (k : Nat) (v : Option α) (k' : Nat), k + 2 ≤ 2 ^ n → (t.set n k v).get k' = if k' = k then v else t.get k'
  | 0, _, _, _, _, h => by simp at h
  | n + 1, t, k, v, k', h => by
    have hp : 2 ^ (n + 1) = 2 * 2 ^ n := by rw [Nat.pow_succ]; omega
    cases t with
    | nil =>
      rw [Tr.set_nil, Tr.get_nil]
      by_cases h0 : k = 0
      · subst h0
        rw [if_pos rfl, Tr.get_node, Tr.get_nil, Tr.get_nil]
        split <;> simp [*]
      · rw [if_neg h0]
        by_cases h1 : k % 2 = 1
        · rw [if_pos h1, Tr.get_node, Tr.get_set n _ _ _ _ (by omega), Tr.get_nil, Tr.get_nil]
          by_cases e : k' = k
          · subst e; rw [if_neg h0, if_pos h1, if_pos rfl, if_pos rfl]
          · rw [if_neg e]
            split
            · rfl
            · split
              · rw [if_neg (by omega)]
              · rfl
        · rw [if_neg h1, Tr.get_node, Tr.get_set n _ _ _ _ (by omega), Tr.get_nil, Tr.get_nil]
          by_cases e : k' = k
          · subst e; rw [if_neg h0, if_neg h1, if_pos rfl, if_pos rfl]
          · rw [if_neg e]
            split
            · rfl
            · split
              · rfl
              · rw [if_neg (by omega)]
    | node o l r =>
      rw [Tr.set_node, Tr.get_node]
      by_cases h0 : k = 0
      · subst h0
        rw [if_pos rfl, Tr.get_node]
        split <;> simp [*]
      · rw [if_neg h0]
        by_cases h1 : k % 2 = 1
        · rw [if_pos h1, Tr.get_node, Tr.get_set n _ _ _ _ (by omega)]
          by_cases e : k' = k
          · subst e; rw [if_neg h0, if_pos h1, if_pos rfl, if_pos rfl]
          · rw [if_neg e]
            split
            · rfl
            · split
              · rw [if_neg (by omega)]
              · rfl
        · rw [if_neg h1, Tr.get_node, Tr.get_set n _ _ _ _ (by omega)]
          by_cases e : k' = k
          · subst e; rw [if_neg h0, if_neg h1, if_pos rfl, if_pos rfl]
          · rw [if_neg e]
            split
            · rfl
            · split
              · rfl
              · rw [if_neg (by omega)]
/-- Where the numbers lie: the block, and how much more room a row there has. -/
abbrev Rn := Nat → Option (Nat × Nat)
inductive VR (r : Rn) : Value → Value → Prop where
  | pln {v : Value} (h : pl v = true) : VR r v v
  | ptr {k off b x : Nat} (h : r k = some (b, x)) : VR r (.pointer (some ⟨k, off, none⟩)) (.pointer (some ⟨b, off, none⟩))
  | sl {k off b x n c : Nat} (h : r k = some (b, x)) : VR r (.slice (some ⟨k, off, none⟩) n c) (.slice (some ⟨b, off, none⟩) n c)
  | so {k off b x n c : Nat} (h : r k = some (b, x)) : VR r (.slice (some ⟨k, off, some 0⟩) n c) (.slice (some ⟨b, off, none⟩) n (c + x))
  | mp {k b x : Nat} (h : r k = some (b, x)) : VR r (.map (some k)) (.map (some b))
  | yl {k b x : Nat} (h : r k = some (b, x)) : VR r (.func (.yield k) #[] #[]) (.func (.yield b) #[] #[])
  | fn {g : FuncId} {f f' c c' : Array Value} (h1 : f.size = f'.size) (h2 : ∀ (i : Nat) v v', f[i]? = some v → f'[i]? = some v' → VR r v v') (h3 : c.size = c'.size) (h4 : ∀ (i : Nat) v v', c[i]? = some v → c'[i]? = some v' → VR r v v') : VR r (.func (.func g) f c) (.func (.func g) f' c')
  | ag {c c' : Array Value} (h3 : c.size = c'.size) (h4 : ∀ (i : Nat) v v', c[i]? = some v → c'[i]? = some v' → VR r v v') : VR r (.agg c) (.agg c')
  | tu {c c' : Array Value} (h3 : c.size = c'.size) (h4 : ∀ (i : Nat) v v', c[i]? = some v → c'[i]? = some v' → VR r v v') : VR r (.tuple c) (.tuple c')
def AR (r : Rn) (c c' : Array Value) : Prop := c.size = c'.size ∧ ∀ (i : Nat) v v', c[i]? = some v → c'[i]? = some v' → VR r v v'
def LR (r : Rn) (c c' : List Value) : Prop := c.length = c'.length ∧ ∀ (i : Nat) v v', c[i]? = some v → c'[i]? = some v' → VR r v v'
theorem AR.list {r : Rn} {c c' : Array Value} (h : AR r c c') : LR r c.toList c'.toList := ⟨by simpa using h.1, fun i v v' h1 h2 => h.2 i v v' (by simpa using h1) (by simpa using h2)⟩
theorem LR.arr {r : Rn} {c c' : List Value} (h : LR r c c') : AR r c.toArray c'.toArray := ⟨by simpa using h.1, fun i v v' h1 h2 => h.2 i v v' (by simpa using h1) (by simpa using h2)⟩
theorem LR.nil {r : Rn} : LR r [] [] := ⟨rfl, fun i v v' h => by simp at h⟩
theorem LR.cons {r : Rn} {v v' : Value} {l l' : List Value} (h : VR r v v') (hl : LR r l l') : LR r (v :: l) (v' :: l') := ⟨by simp [hl.1], fun i a a' h1 h2 => by
  cases i with
  | zero => simp at h1 h2; subst h1; subst h2; exact h
  | succ i => exact hl.2 i a a' (by simpa using h1) (by simpa using h2)⟩
theorem LR.uncons {r : Rn} {v : Value} {l l' : List Value} (h : LR r (v :: l) l') : ∃ v' q, l' = v' :: q ∧ VR r v v' ∧ LR r l q := by
  cases l' with
  | nil => have := h.1; simp at this
  | cons v' q => exact ⟨v', q, rfl, h.2 0 v v' rfl rfl, by have := h.1; simpa using this, fun i a a' h1 h2 => h.2 (i + 1) a a' (by simpa using h1) (by simpa using h2)⟩
theorem LR.nil' {r : Rn} {l' : List Value} (h : LR r [] l') : l' = [] := by have := h.1; simpa using this.symm
theorem LR.get {r : Rn} {c c' : List Value} (h : LR r c c') {i : Nat} {v : Value} (hv : c[i]? = some v) : ∃ v', c'[i]? = some v' ∧ VR r v v' := by
  have hi : i < c.length := (List.getElem?_eq_some_iff.1 hv).1
  exact ⟨c'[i]'(by rw [← h.1]; exact hi), by simp [h.1 ▸ hi], h.2 i v _ hv (by simp [h.1 ▸ hi])⟩
theorem AR.get {r : Rn} {c c' : Array Value} (h : AR r c c') {i : Nat} {v : Value} (hv : c[i]? = some v) : ∃ v', c'[i]? = some v' ∧ VR r v v' := by
  obtain ⟨v', h1, h2⟩ := h.list.get (i := i) (v := v) (by simpa using hv)
  exact ⟨v', by simpa using h1, h2⟩
theorem LR.app {r : Rn} : ∀ {a a' b b' : List Value}, LR r a a' → LR r b b' → LR r (a ++ b) (a' ++ b')
  | [], a', b, b', h, k => by rw [h.nil']; exact k
  | v :: a, a', b, b', h, k => by
    obtain ⟨v', q, rfl, h1, h2⟩ := h.uncons
    exact LR.cons h1 (LR.app h2 k)
theorem takeN_eq : ∀ (n : Nat) (l : List Value), takeN n l = l.take n
  | 0, l => by simp [takeN]
  | n + 1, [] => rfl
  | n + 1, v :: l => by simp [takeN, takeN_eq n l]
theorem dropN_eq : ∀ (n : Nat) (l : List Value), dropN n l = l.drop n
  | 0, l => rfl
  | n + 1, [] => rfl
  | n + 1, v :: l => by simp [dropN, dropN_eq n l]
theorem LR.take {r : Rn} (n : Nat) {c c' : List Value} (h : LR r c c') : LR r (c.take n) (c'.take n) := ⟨by simp [h.1], fun i v v' h1 h2 => by
  rw [List.getElem?_take] at h1 h2
  by_cases hi : i < n
  · rw [if_pos hi] at h1 h2; exact h.2 i v v' h1 h2
  · rw [if_neg hi] at h1; cases h1⟩
theorem LR.drop {r : Rn} (n : Nat) {c c' : List Value} (h : LR r c c') : LR r (c.drop n) (c'.drop n) := ⟨by simp [h.1], fun i v v' h1 h2 => by
  rw [List.getElem?_drop] at h1 h2
  exact h.2 _ v v' h1 h2⟩
theorem LR.map {r : Rn} {α : Type} (f f' : α → Value) : ∀ (l : List α), (∀ x ∈ l, VR r (f x) (f' x)) → LR r (l.map f) (l.map f')
  | [], _ => LR.nil
  | x :: l, h => LR.cons (h x (by simp)) (LR.map f f' l fun y hy => h y (by simp [hy]))
theorem VR.mono {r r' : Rn} (hr : ∀ k p, r k = some p → r' k = some p) {v v' : Value} (h : VR r v v') : VR r' v v' := by
  induction h with
  | pln h => exact .pln h
  | ptr h => exact .ptr (hr _ _ h)
  | sl h => exact .sl (hr _ _ h)
  | so h => exact .so (hr _ _ h)
  | mp h => exact .mp (hr _ _ h)
  | yl h => exact .yl (hr _ _ h)
  | fn h1 _ h3 _ i2 i4 => exact .fn h1 i2 h3 i4
  | ag h3 _ i4 => exact .ag h3 i4
  | tu h3 _ i4 => exact .tu h3 i4
theorem AR.mono {r r' : Rn} (hr : ∀ k p, r k = some p → r' k = some p) {c c' : Array Value} (h : AR r c c') : AR r' c c' := ⟨h.1, fun i v v' h1 h2 => (h.2 i v v' h1 h2).mono hr⟩
theorem LR.mono {r r' : Rn} (hr : ∀ k p, r k = some p → r' k = some p) {c c' : List Value} (h : LR r c c') : LR r' c c' := ⟨h.1, fun i v v' h1 h2 => (h.2 i v v' h1 h2).mono hr⟩
theorem pls_mem : ∀ {l : List Value}, pls l = true → ∀ v ∈ l, pl v = true
  | [], _, v, hv => by cases hv
  | a :: l, h, v, hv => by
    simp only [pls, Bool.and_eq_true] at h
    rcases List.mem_cons.1 hv with rfl | hv
    · exact h.1
    · exact pls_mem h.2 v hv
theorem LR.plain {r : Rn} {l : List Value} (h : pls l = true) : LR r l l := ⟨rfl, fun i v v' h1 h2 => by
  rw [h1] at h2; injection h2 with e; subst e
  exact .pln (pls_mem h v (List.mem_of_getElem? h1))⟩
theorem arr_same {c c' : Array Value} (h3 : c.size = c'.size) (i4 : ∀ (i : Nat) v v', c[i]? = some v → c'[i]? = some v' → pl v = true → v' = v) (hp : pls c.toList = true) : c' = c := by
  apply Array.ext h3.symm
  intro i h1 h2
  have e1 : c[i]? = some c[i] := by simp [h2]
  have e2 : c'[i]? = some c'[i] := by simp [h1]
  exact i4 i _ _ e1 e2 (pls_mem hp _ (by simp))
theorem VR.same {r : Rn} {v v' : Value} (h : VR r v v') : pl v = true → v' = v := by
  induction h with
  | pln h => exact fun _ => rfl
  | ptr h => intro h; simp [pl] at h
  | sl h => intro h; simp [pl] at h
  | so h => intro h; simp [pl] at h
  | mp h => intro h; simp [pl] at h
  | yl h => intro h; simp [pl] at h
  | @fn g f f' c c' h1 _ h3 _ i2 i4 =>
    intro h
    obtain ⟨f⟩ := f; obtain ⟨c⟩ := c; obtain ⟨f'⟩ := f'; obtain ⟨c'⟩ := c'
    cases f <;> cases c <;> simp [pl] at h
    obtain rfl : f' = [] := List.length_eq_zero_iff.1 (by simpa using h1.symm)
    obtain rfl : c' = [] := List.length_eq_zero_iff.1 (by simpa using h3.symm)
    rfl
  | @ag c c' h3 _ i4 =>
    intro h
    rw [arr_same h3 i4 (by obtain ⟨c⟩ := c; simpa [pl] using h)]
  | @tu c c' h3 _ i4 =>
    intro h
    rw [arr_same h3 i4 (by obtain ⟨c⟩ := c; simpa [pl] using h)]
theorem LR.same {r : Rn} : ∀ {l l' : List Value}, LR r l l' → pls l = true → l' = l
  | [], l', h, _ => h.nil'
  | v :: l, l', h, hp => by
    obtain ⟨v', q, rfl, h1, h2⟩ := h.uncons
    simp only [pls, Bool.and_eq_true] at hp
    rw [h1.same hp.1, LR.same h2 hp.2]
theorem VR.cells {r : Rn} {v v' : Value} (h : VR r v v') : LR r v.cells.toList v'.cells.toList := by
  cases h with
  | pln h =>
    cases v <;> try exact LR.cons (.pln h) LR.nil
    rename_i c
    obtain ⟨c⟩ := c
    exact LR.plain (show pls c = true by simpa [pl] using h)
  | ptr h => exact LR.cons (.ptr h) LR.nil
  | sl h => exact LR.cons (.sl h) LR.nil
  | so h => exact LR.cons (.so h) LR.nil
  | mp h => exact LR.cons (.mp h) LR.nil
  | yl h => exact LR.cons (.yl h) LR.nil
  | fn h1 h2 h3 h4 => exact LR.cons (.fn h1 h2 h3 h4) LR.nil
  | ag h3 h4 => exact AR.list ⟨h3, h4⟩
  | tu h3 h4 => exact LR.cons (.tu h3 h4) LR.nil
theorem VR.bool {r : Rn} {b : Bool} {v' : Value} (h : VR r (.bool b) v') : v' = .bool b := h.same rfl
theorem VR.int {r : Rn} {k : IntKind} {n : Int} {v' : Value} (h : VR r (.int k n) v') : v' = .int k n := h.same rfl
theorem VR.str {r : Rn} {s : ByteArray} {v' : Value} (h : VR r (.string s) v') : v' = .string s := h.same rfl
theorem VR.one {r : Rn} {v v' : Value} (h : VR r v v') : v'.oneCell' = v.oneCell' := by cases h <;> rfl
theorem ones_mem : ∀ {l : List Value}, ones l = true → ∀ v ∈ l, v.oneCell' = true
  | [], _, v, hv => by cases hv
  | a :: l, h, v, hv => by
    simp only [ones, Bool.and_eq_true] at h
    rcases List.mem_cons.1 hv with rfl | hv
    · exact h.1
    · exact ones_mem h.2 v hv
theorem LR.oneAll {r : Rn} : ∀ {l l' : List Value}, LR r l l' → ones l = true → ∀ v ∈ l', v.oneCell' = true
  | [], l', h, _, v, hv => by rw [h.nil'] at hv; cases hv
  | a :: l, l', h, ho, v, hv => by
    obtain ⟨v', q, rfl, h1, h2⟩ := h.uncons
    simp only [ones, Bool.and_eq_true] at ho
    rcases List.mem_cons.1 hv with rfl | hv
    · rw [h1.one]; exact ho.1
    · exact LR.oneAll h2 ho.2 v hv
/-- the slots -/
def SlR (r : Rn) (t : Tr Value) (m : Nat) (tm : Array Value) : Prop := tm.size = m ∧ m ≤ big ∧ ∀ s, VR r ((t.get s).getD undef) (tm.getD s undef)
theorem SlR.mono {r r' : Rn} (hr : ∀ k p, r k = some p → r' k = some p) {t : Tr Value} {m : Nat} {tm : Array Value} (h : SlR r t m tm) : SlR r' t m tm := ⟨h.1, h.2.1, fun s => (h.2.2 s).mono hr⟩
theorem SlR.put {r : Rn} {t : Tr Value} {m : Nat} {tm : Array Value} (h : SlR r t m tm) {d : Nat} (hd : d < m) {v v' : Value} (hv : VR r v v') : SlR r (t.set 24 d (some v)) m (tm.setIfInBounds d v') := by
  refine ⟨by simpa using h.1, h.2.1, fun s => ?_⟩
  have hb : d + 2 ≤ 2 ^ 24 := by have := h.2.1; unfold big at this; omega
  rw [Tr.get_set 24 t d _ s hb]
  by_cases e : s = d
  · subst e
    rw [if_pos rfl]
    have : (tm.setIfInBounds s v').getD s undef = v' := by simp [h.1, hd]
    rw [this]; exact hv
  · rw [if_neg e]
    have : (tm.setIfInBounds d v').getD s undef = tm.getD s undef := by simp [Array.getElem?_setIfInBounds_ne (Ne.symm e)]
    rw [this]; exact h.2.2 s
/-- a block -/
def OR (P : Program) (r : Rn) (x : Nat) : AO → Obj → Prop
  | .cells cs t op, o => ∃ a : Array Value, o = .cells a t (0, 0) ∧ a.size = cs.length + (if op = true then x * (szB P t).getD 0 else 0) ∧ ∀ (i : Nat) v, cs[i]? = some v → ∃ v', a[i]? = some v' ∧ VR r v v' ∧ v.oneCell' = true
  | .map es c, o => ∃ es' : Array MapEntry, o = .map es' c ∧ es'.size = es.length ∧ ∀ (i : Nat) e, es[i]? = some e → ∃ e', es'[i]? = some e' ∧ e'.key = e.key ∧ VR r e.val e'.val
  | .iter s pos, o => o = .stringIter s pos
  | .loop st pend t m ps asg body d, o => ∃ fn tm b y, o = .loop { state := st, pending := pend, fn := fn, tmps := tm, params := ps, assign := asg, body := body, defers := b } ∧ r d = some (b, y) ∧ SlR r t m tm
  | .dfr op, o => o = .deferred (if op = true then some [] else none)
theorem OR.mono {P : Program} {r r' : Rn} (hr : ∀ k p, r k = some p → r' k = some p) {x : Nat} {o : AO} {o' : Obj} (h : OR P r x o o') : OR P r' x o o' := by
  cases o with
  | cells cs t op =>
    obtain ⟨a, h1, h2, h3⟩ := h
    exact ⟨a, h1, h2, fun i v hv => let ⟨v', a1, a2, a3⟩ := h3 i v hv; ⟨v', a1, a2.mono hr, a3⟩⟩
  | map es c =>
    obtain ⟨a, h1, h2, h3⟩ := h
    exact ⟨a, h1, h2, fun i v hv => let ⟨v', a1, a2, a3⟩ := h3 i v hv; ⟨v', a1, a2, a3.mono hr⟩⟩
  | iter s pos => exact h
  | loop st pend t m ps asg body d =>
    obtain ⟨fn, tm, b, y, h1, h2, h3⟩ := h
    exact ⟨fn, tm, b, y, h1, hr _ _ h2, h3.mono hr⟩
  | dfr op => exact h
structure Rel (P : Program) (B : Nat) (r : Rn) (s : St) (w : World) : Prop where
  nb : s.next ≤ big
  le : s.next ≤ B
  dom : ∀ k, s.next ≤ k → k < B → r k = none
  obj : ∀ k o, s.get k = some o → ∃ b x o', r k = some (b, x) ∧ w.heap[b]? = some o' ∧ OR P r x o o'
  inj : ∀ k k' b x x', s.get k ≠ none → s.get k' ≠ none → r k = some (b, x) → r k' = some (b, x') → k = k'
  up : ∀ k, s.next ≤ k → s.T.get k = none
  hlt : ∀ k, hidden s.hid k = true → k < s.next
  gl : ∀ g, g < s.ng → r g = some (g, 0)
  gn : s.ng ≤ s.next
def wrt (s : St) (k : Nat) : Prop := s.lim ≤ k ∨ k = s.one
structure Mono (s s' : St) : Prop where
  next : s.next ≤ s'.next
  lim : s'.lim = s.lim
  one : s'.one = s.one
  hid : s'.hid = s.hid
  same : ∀ k, k < s.next → (¬ wrt s k ∨ hidden s.hid k = true) → s'.T.get k = s.T.get k
  dead : ∀ k, k < s.next → s.T.get k = none → s'.T.get k = none
  up : (∀ k, s.next ≤ k → s.T.get k = none) → ∀ k, s'.next ≤ k → s'.T.get k = none
  ng : s'.ng = s.ng
structure Ext (s s' : St) (r r' : Rn) (w w' : World) : Prop where
  rr : ∀ k, k < s.next ∨ s'.next ≤ k → r' k = r k
  size : w.heap.size ≤ w'.heap.size
  os : w'.os = w.os
  tape : w'.tape = w.tape
  output : w'.output = w.output
  frame : ∀ b, b < w.heap.size → (∀ k x, k < s.next → wrt s k → s.get k ≠ none → r k ≠ some (b, x)) → w'.heap[b]? = w.heap[b]?
  new : ∀ k b x, s.next ≤ k → s'.get k ≠ none → r' k = some (b, x) → w.heap.size ≤ b ∨ ∃ k0 x0, k0 < s.next ∧ wrt s k0 ∧ s.get k0 ≠ none ∧ r k0 = some (b, x0)
structure Good (P : Program) (B : Nat) (s s' : St) (r r' : Rn) (w w' : World) : Prop where
  mono : Mono s s'
  ext : Ext s s' r r' w w'
  rel : Rel P B r' s' w'
theorem Rel.lt {P : Program} {B : Nat} {r : Rn} {s : St} {w : World} (h : Rel P B r s w) {k : Nat} (hk : s.get k ≠ none) : k < s.next := by
  rcases Nat.lt_or_ge k s.next with h1 | h1
  · exact h1
  · exfalso; apply hk
    unfold St.get
    rw [h.up k h1]
    cases hidden s.hid k <;> rfl
theorem Mono.refl (s : St) : Mono s s := ⟨Nat.le_refl _, rfl, rfl, rfl, fun _ _ _ => rfl, fun _ _ h => h, fun h => h, rfl⟩
theorem Mono.get {s s' : St} (m : Mono s s') {k : Nat} (hk : k < s.next) (h : s'.get k ≠ none) : s.get k ≠ none := by
  unfold St.get at h ⊢
  rw [m.hid] at h
  cases hh : hidden s.hid k with
  | true => rw [hh] at h; exact absurd rfl h
  | false =>
    rw [hh] at h
    intro h0
    exact h (m.dead k hk h0)
theorem Mono.trans {a b c : St} (m : Mono a b) (n : Mono b c) : Mono a c :=
  ⟨Nat.le_trans m.next n.next, n.lim.trans m.lim, n.one.trans m.one, n.hid.trans m.hid,
   fun k hk h => (n.same k (Nat.lt_of_lt_of_le hk m.next) (by unfold wrt at *; rw [m.lim, m.one, m.hid]; exact h)).trans (m.same k hk h),
   fun k hk h => n.dead k (Nat.lt_of_lt_of_le hk m.next) (m.dead k hk h), fun h => n.up (m.up h), n.ng.trans m.ng⟩
theorem Good.refl {P : Program} {B : Nat} {s : St} {r : Rn} {w : World} (h : Rel P B r s w) : Good P B s s r r w w :=
  ⟨Mono.refl s, ⟨fun _ _ => rfl, Nat.le_refl _, rfl, rfl, rfl, fun _ _ _ => rfl, fun k b x hk hg _ => absurd (h.lt hg) (by omega)⟩, h⟩
theorem Good.up {P : Program} {B : Nat} {s s' : St} {r r' : Rn} {w w' : World} (g : Good P B s s' r r' w w') (h : Rel P B r s w) : ∀ k p, r k = some p → r' k = some p := fun k p hk => by
  rw [g.ext.rr k ?_]
  · exact hk
  · rcases Nat.lt_or_ge k s.next with h1 | h1
    · exact .inl h1
    · rcases Nat.lt_or_ge k s'.next with h2 | h2
      · have := h.dom k h1 (Nat.lt_of_lt_of_le h2 g.rel.le)
        rw [this] at hk; cases hk
      · exact .inr h2
theorem Good.trans {P : Program} {B : Nat} {a b c : St} {ra rb rc : Rn} {wa wb wc : World} (g : Good P B a b ra rb wa wb) (h : Good P B b c rb rc wb wc) : Good P B a c ra rc wa wc := by
  have hn := g.mono.next
  refine ⟨g.mono.trans h.mono, ⟨fun k hk => (h.ext.rr k (by have := h.mono.next; omega)).trans (g.ext.rr k (by have := h.mono.next; omega)), Nat.le_trans g.ext.size h.ext.size, h.ext.os.trans g.ext.os, h.ext.tape.trans g.ext.tape, h.ext.output.trans g.ext.output, fun bl hb hi => ?_, fun k bl x hk hg hr => ?_⟩, h.rel⟩
  · refine (h.ext.frame bl (Nat.lt_of_lt_of_le hb g.ext.size) fun k x hk hw hg hr => ?_).trans (g.ext.frame bl hb hi)
    have hw' : wrt a k := by unfold wrt at *; rw [← g.mono.lim, ← g.mono.one]; exact hw
    rcases Nat.lt_or_ge k a.next with h1 | h1
    · exact hi k x h1 hw' (g.mono.get h1 hg) (by rw [← g.ext.rr k (.inl h1)]; exact hr)
    · rcases g.ext.new k bl x h1 hg hr with h2 | ⟨k0, x0, e1, e2, e3, e4⟩
      · omega
      · exact hi k0 x0 e1 e2 e3 e4
  · rcases Nat.lt_or_ge k b.next with h1 | h1
    · exact g.ext.new k bl x hk (h.mono.get h1 hg) (by rw [← h.ext.rr k (.inl h1)]; exact hr)
    · rcases h.ext.new k bl x h1 hg hr with h2 | ⟨k0, x0, e1, e2, e3, e4⟩
      · exact .inl (Nat.le_trans g.ext.size h2)
      · have e2' : wrt a k0 := by unfold wrt at *; rw [← g.mono.lim, ← g.mono.one]; exact e2
        rcases Nat.lt_or_ge k0 a.next with h3 | h3
        · exact .inr ⟨k0, x0, h3, e2', g.mono.get h3 e3, by rw [← g.ext.rr k0 (.inl h3)]; exact e4⟩
        · exact g.ext.new k0 bl x0 h3 e3 e4
end Go.Proofs.YtbanjolokkghdaaGreatDoor
namespace Go.Proofs.YtbanjolokkghdaaGreatDoor
open Go.RowKit
theorem pv_run {α : Type} {P : Program} : ∀ {s : Sem α} {a : α}, pv P s = some a → ∀ w, s.run P w = .ok a w
  | .pure a, b, h, w => by simp [pv] at h; subst h; rfl
  | .program k, b, h, w => by simp only [pv] at h; exact pv_run (s := k P) h w
  | .mark m k, b, h, w => by simp only [pv] at h; exact pv_run (s := k) h w
  | .load .., _, h, _ => by simp [pv] at h
  | .store .., _, h, _ => by simp [pv] at h
  | .new .., _, h, _ => by simp [pv] at h
  | .shape .., _, h, _ => by simp [pv] at h
  | .freeze .., _, h, _ => by simp [pv] at h
  | .frozen .., _, h, _ => by simp [pv] at h
  | .getObj .., _, h, _ => by simp [pv] at h
  | .setObj .., _, h, _ => by simp [pv] at h
  | .choose .., _, h, _ => by simp [pv] at h
  | .sys .., _, h, _ => by simp [pv] at h
  | .halt .., _, h, _ => by simp [pv] at h
theorem aggB_true {P : Program} {t : TypeId} (h : aggB P t = some true) (w : World) : (isAgg t).run P w = .ok true w := by
  unfold aggB at h
  cases hu : P.underlying t with
  | none => rw [hu] at h; cases h
  | some d => rw [hu] at h; cases d <;> simp at h <;> simp [isAgg, run_underlying hu]
theorem aggB_false {P : Program} {t : TypeId} (h : aggB P t = some false) (w : World) : (isAgg t).run P w = .ok false w := by
  unfold aggB at h
  cases hu : P.underlying t with
  | none => rw [hu] at h; cases h
  | some d => rw [hu] at h; cases d <;> simp at h <;> simp [isAgg, run_underlying hu]
theorem szB_run {P : Program} {t : TypeId} {n : Nat} (h : szB P t = some n) (w : World) : (sizeOf t).run P w = .ok n w := by
  unfold szB at h
  cases hi : P.info? t with
  | none => rw [hi] at h; cases h
  | some i => rw [hi] at h; simp at h; subst h; simp [sizeOf, typeInfo, hi]
theorem partB_run {P : Program} {r : Rn} {t : TypeId} {cs cs' : Array Value} {off : Nat} {v : Value} (h : partB P t cs off = some v) (hc : AR r cs cs') : ∃ v', VR r v v' ∧ ∀ w, (part t cs' off).run P w = .ok v' w := by
  unfold partB at h
  split at h
  · rename_i n ha hs
    injection h with h; subst h
    refine ⟨.agg (cs'.extract off (off + n)), ?_, fun w => by simp [part, aggB_true ha, szB_run hs]⟩
    have e : ∀ a : Array Value, a.extract off (off + n) = ((a.toList.drop off).take n).toArray := fun a => by apply Array.ext'; simp
    rw [e, e]
    obtain ⟨h1, h2⟩ := ((hc.list.drop off).take n).arr
    exact .ag h1 h2
  · rename_i ha hs
    obtain ⟨v', h1, h2⟩ := hc.get h
    exact ⟨v', h2, fun w => by simp [part, aggB_false ha, h1]⟩
  · cases h
theorem plain_run {P : Program} {r : Rn} {ρ ρ' : Operand → Value} {o : Oper} {v : Value} (h : pvV P ρ o = some v) (hs : ∀ cs b, o.op ≠ .select cs b) (hρ : ∀ x ∈ o.op.operands, VR r (ρ x) (ρ' x)) (hp : ∀ x ∈ o.op.operands, pl (ρ x) = true) :
    ∃ v', VR r v v' ∧ ∀ w, (execOp ρ' o).run P w = .ok (.value v') w := by
  have e := execOp_congr (ρ := ρ') (ρ' := ρ) o hs fun x hx => (hρ x hx).same (hp x hx)
  unfold pvV at h
  split at h
  · rename_i v0 hpv
    cases hv : pl v0 with
    | false => rw [hv] at h; cases h
    | true =>
      rw [hv] at h
      injection h with h; subst h
      exact ⟨v0, .pln hv, fun w => by rw [e]; exact pv_run hpv w⟩
  · cases h
theorem fill_foldl {r : Rn} (off : Nat) : ∀ (l l' : List Value) (n : Nat) (c c' : Array Value), LR r l l' → AR r c c' → AR r ((l.zipIdx n).foldl (fun cs (x : Value × Nat) => cs.setIfInBounds (off + x.2) x.1) c) ((l'.zipIdx n).foldl (fun cs (x : Value × Nat) => cs.setIfInBounds (off + x.2) x.1) c')
  | [], l', n, c, c', h, hc => by rw [h.nil']; exact hc
  | v :: l, l', n, c, c', h, hc => by
    obtain ⟨v', q, rfl, h1, h2⟩ := h.uncons
    simp only [List.zipIdx_cons, List.foldl_cons]
    refine fill_foldl off l q (n + 1) _ _ h2 ⟨by simp [hc.1], fun i a a' e1 e2 => ?_⟩
    rw [Array.getElem?_setIfInBounds] at e1 e2
    by_cases hi : off + n = i
    · subst hi
      rw [if_pos rfl] at e1 e2
      by_cases hs : off + n < c.size
      · rw [if_pos hs] at e1; rw [if_pos (hc.1 ▸ hs)] at e2
        injection e1 with e1; injection e2 with e2; subst e1; subst e2; exact h1
      · rw [if_neg hs] at e1; cases e1
    · rw [if_neg hi] at e1 e2
      exact hc.2 i a a' e1 e2
theorem fill_ok {r : Rn} (place : Nat → Option (Nat × Nat)) : ∀ (ps ps' : List (Nat × Value)) (c c' out : Array Value), ps.map (·.1) = ps'.map (·.1) → (∀ (i : Nat) (p p' : Nat × Value), ps[i]? = some p → ps'[i]? = some p' → VR r p.2 p'.2) → AR r c c' → Instr.fill place c ps = some out → ∃ out', Instr.fill place c' ps' = some out' ∧ AR r out out'
  | [], ps', c, c', out, e, hp, hc, h => by
    cases ps' with
    | nil => simp [Instr.fill] at h; subst h; exact ⟨c', rfl, hc⟩
    | cons p q => simp at e
  | (i, v) :: ps, ps', c, c', out, e, hp, hc, h => by
    cases ps' with
    | nil => simp at e
    | cons p q =>
      obtain ⟨i', v'⟩ := p
      simp only [List.map_cons, List.cons.injEq] at e
      obtain ⟨rfl, e⟩ := e
      have hv : VR r v v' := hp 0 _ _ rfl rfl
      have hcv := hv.cells
      have hsz : v.cells.size = v'.cells.size := by simpa using hcv.1
      simp only [Instr.fill] at h ⊢
      cases hpl : place i with
      | none => rw [hpl] at h; cases h
      | some ab =>
        obtain ⟨a, b⟩ := ab
        rw [hpl] at h
        simp only at h ⊢
        split at h
        · cases h
        · rename_i hn
          rw [if_neg (by rw [← hsz, ← hc.1]; exact hn)]
          refine fill_ok place ps q _ _ out e (fun k p p' h1 h2 => hp (k + 1) p p' (by simpa using h1) (by simpa using h2)) ?_ h
          have := fill_foldl (r := r) a v.cells.toList v'.cells.toList 0 c c' hcv hc
          have fe : ∀ (b c : Array Value), b.zipIdx.foldl (fun cs (x : Value × Nat) => cs.setIfInBounds (a + x.2) x.1) c = b.toList.zipIdx.foldl (fun cs (x : Value × Nat) => cs.setIfInBounds (a + x.2) x.1) c := fun b c => by rw [← Array.foldl_toList, Array.toList_zipIdx]
          rw [← fe, ← fe] at this
          exact this
theorem VR.undef {r : Rn} : VR r undef undef := .pln rfl
theorem zeroB_some {P : Program} {t : TypeId} {z : Value} (h : zeroB P t = some z) : ∃ i, P.info? t = some i ∧ i.zero = some z ∧ pl z = true := by
  unfold zeroB at h
  cases hi : P.info? t with
  | none => rw [hi] at h; cases h
  | some it =>
    rw [hi] at h
    simp only [Option.bind_some] at h
    cases hz : it.zero with
    | none => rw [hz] at h; cases h
    | some z' =>
      rw [hz] at h
      simp only [Option.bind_some] at h
      cases e : pl z' with
      | true => rw [e] at h; injection h with h; subst h; exact ⟨it, rfl, hz, e⟩
      | false => rw [e] at h; cases h
theorem built_ok {P : Program} {r : Rn} {t : TypeId} {ps ps' : List (Nat × Value)} {out : Array Value} (hz : (zeroB P t).isSome = true) (e : ps.map (·.1) = ps'.map (·.1)) (hp : ∀ (i : Nat) (p p' : Nat × Value), ps[i]? = some p → ps'[i]? = some p' → VR r p.2 p'.2) (h : P.built t ps = some out) :
    ∃ out', P.built t ps' = some out' ∧ AR r out out' := by
  obtain ⟨z, hz⟩ := Option.isSome_iff_exists.1 hz
  obtain ⟨it, hi, hzz, hpz⟩ := zeroB_some hz
  have hc : AR r z.cells z.cells := by have := (VR.pln (r := r) hpz).cells; exact ⟨rfl, fun i a a' h1 h2 => this.2 i a a' (by simpa using h1) (by simpa using h2)⟩
  unfold Program.built at h ⊢
  cases hu : P.underlying t with
  | none => simp [hi, hu] at h
  | some d =>
    cases d <;> try (simp [hi, hu] at h; done)
    · simp only [hi, hu, hzz] at h ⊢
      cases hie : P.info? ‹TypeId› with
      | none => simp [hie] at h
      | some ie => simp only [hie] at h ⊢; exact fill_ok _ ps ps' _ _ out e hp hc h
    · simp only [hi, hu, hzz] at h ⊢
      rename_i fs
      cases hm : fs.toList.mapM (fun f => (P.info? f.type).map fun i => (f.offset, i.size)) with
      | none => simp [hm] at h
      | some places => simp only [hm] at h ⊢; exact fill_ok _ ps ps' _ _ out e hp hc h
theorem equal_run {P : Program} {t : TypeId} {x y : Value} {b : Bool} {w : World} (h : (Op.equalIn (9999 + 1) t x y).run P w = .ok b w) : (Op.equal t x y).run P w = .ok b w := h
theorem nilB_run {P : Program} {r : Rn} {t : TypeId} {x y x' y' : Value} (h : nilB P t x y = true) (hx : VR r x x') (hy : VR r y y') (w : World) : (Op.equal t x' y').run P w = .ok false w ∧ (∀ op : BinOp, ∀ a b : Operand, (eqGuard op t a b x' y').run P w = .ok () w) ∧
    binOp .eql t x' y' = (do pure (.bool (← Op.equal t x' y'))) ∧ binOp .neq t x' y' = (do pure (.bool (!(← Op.equal t x' y')))) := by
  have eg : ∀ (op : BinOp) (a b : Operand) (u v : Value), (∀ c, u ≠ .agg c) → u ≠ .nilIface → (eqGuard op t a b u v).run P w = .ok () w := fun op a b u v h1 h2 => by
    unfold eqGuard
    cases op <;> cases u <;> first | rfl | exact absurd rfl (h1 _) | exact absurd rfl h2
  unfold nilB at h
  split at h <;> first | (cases h; done) | skip
  all_goals
    rename_i hu
    cases hx <;> cases hy <;> (try (rename_i hq; simp [pl] at hq; done)) <;> refine ⟨equal_run ?_, fun op a b => eg op a b _ _ (by intro c h; cases h) (by intro h; cases h), rfl, rfl⟩ <;> rw [Op.equalIn] <;> simp [run_underlying hu]
end Go.Proofs.YtbanjolokkghdaaGreatDoor
namespace Go.Proofs.YtbanjolokkghdaaGreatDoor
open Go.RowKit
theorem VR.tup {r : Rn} {c : Array Value} {v' : Value} (h : VR r (.tuple c) v') : ∃ c', v' = .tuple c' ∧ AR r c c' := by
  cases h with
  | pln h => obtain ⟨c⟩ := c; exact ⟨⟨c⟩, rfl, (LR.plain (by simpa [pl] using h)).arr⟩
  | tu h3 h4 => exact ⟨_, rfl, h3, h4⟩
theorem VR.agg {r : Rn} {c : Array Value} {v' : Value} (h : VR r (.agg c) v') : ∃ c', v' = .agg c' ∧ AR r c c' := by
  cases h with
  | pln h => obtain ⟨c⟩ := c; exact ⟨⟨c⟩, rfl, (LR.plain (by simpa [pl] using h)).arr⟩
  | ag h3 h4 => exact ⟨_, rfl, h3, h4⟩
theorem VR.pt {r : Rn} {k off : Nat} {v' : Value} (h : VR r (.pointer (some ⟨k, off, none⟩)) v') : ∃ b x, r k = some (b, x) ∧ v' = .pointer (some ⟨b, off, none⟩) := by
  cases h with
  | pln h => simp [pl] at h
  | ptr h => exact ⟨_, _, h, rfl⟩
theorem VR.ptr' {r : Rn} {a : Addr} {v' : Value} (h : VR r (.pointer (some a)) v') : ∃ k off b x, a = ⟨k, off, none⟩ ∧ r k = some (b, x) ∧ v' = .pointer (some ⟨b, off, none⟩) := by
  cases h with
  | pln h => simp [pl] at h
  | ptr h => exact ⟨_, _, _, _, rfl, h, rfl⟩
theorem VR.slc {r : Rn} {a : Addr} {n c : Nat} {v' : Value} (h : VR r (.slice (some a) n c) v') : ∃ k off b x, r k = some (b, x) ∧ ((a = ⟨k, off, none⟩ ∧ v' = .slice (some ⟨b, off, none⟩) n c) ∨ (a = ⟨k, off, some 0⟩ ∧ v' = .slice (some ⟨b, off, none⟩) n (c + x))) := by
  cases h with
  | pln h => simp [pl] at h
  | sl h => exact ⟨_, _, _, _, h, .inl ⟨rfl, rfl⟩⟩
  | so h => exact ⟨_, _, _, _, h, .inr ⟨rfl, rfl⟩⟩
theorem ival_some {v : Value} {n : Nat} (h : ival v = some n) : ∃ k, v = .int k (n : Int) := by
  unfold ival at h
  split at h
  · split at h
    · injection h with h; subst h; exact ⟨_, rfl⟩
    · cases h
  · cases h
theorem VR.ival {r : Rn} {v v' : Value} {n : Nat} (h : VR r v v') (hi : Go.Proofs.YtbanjolokkghdaaGreatDoor.ival v = some n) : ∃ k, v' = .int k (n : Int) := by
  obtain ⟨k, rfl⟩ := ival_some hi
  exact ⟨k, h.int⟩
theorem addr_add (b off n : Nat) : (⟨b, off, none⟩ : Addr).add n = ⟨b, off + n, none⟩ := by unfold Addr.add; split <;> simp_all
theorem sliceBound_run {P : Program} (k : IntKind) (n y : Nat) (c : BoundsCode) (h : n ≤ y) (w : World) : (Instr.sliceBound (.int k (n : Int)) y c).run P w = .ok n w := by
  have h1 : (n : Int) ≤ (y : Int) := by omega
  simp [Instr.sliceBound, asIntOf, h1]
theorem bnd_some {v : Value} {d n : Nat} (h : bnd (some v) d = some n) : ival v = some n := h
section
variable {P : Program} {r : Rn} {ρ ρ' : Operand → Value} {o : Oper} {v : Value}
theorem slB_ok {t e : TypeId} {sz len cap : Nat} {a : Option Addr} {x' : Value} {lo hi mx lo' hi' mx' : Option Value} (hu : P.underlying t = some (.slice e)) (hsz : szB P e = some sz) (hx : VR r (.slice a len cap) x')
    (hlo : (lo = none ∧ lo' = none) ∨ ∃ u u', lo = some u ∧ lo' = some u' ∧ VR r u u') (hhi : (hi = none ∧ hi' = none) ∨ ∃ u u', hi = some u ∧ hi' = some u' ∧ VR r u u') (hmx : (mx = none ∧ mx' = none) ∨ ∃ u u', mx = some u ∧ mx' = some u' ∧ VR r u u')
    (h : slB sz a len cap lo hi mx = some v) : ∃ v', VR r v v' ∧ ∀ w, (Instr.sliceAt t x' lo' hi' mx').run P w = .ok v' w := by
  unfold slB at h
  split at h
  case h_2 => cases h
  rename_i m hh l e1 e2 e3
  cases hc : (Nat.ble m cap && Nat.ble hh m && Nat.ble l hh && (mx.isNone || hi.isSome)) with
  | false => rw [hc] at h; cases h
  | true =>
    rw [hc] at h
    simp only [cond_true] at h
    simp only [Bool.and_eq_true, Nat.ble_eq] at hc
    obtain ⟨⟨⟨c1, c2⟩, c3⟩, c4⟩ := hc
    -- the bounds
    have key : ∀ (b' : Option Addr) (cap' m' : Nat), (mx = none → m' = cap') → (mx ≠ none → m' = m) → m ≤ m' → m ≤ cap' →
        ∀ w, (Instr.sliceAt t (.slice b' len cap') lo' hi' mx').run P w = .ok (.slice (if m' = l then b' else b'.map (·.add (l * sz))) (hh - l) (m' - l)) w := by
      intro b' cap' m' g1 g2 g3 g4 w
      have hb : (Instr.sliceBounds true len cap' lo' hi' mx').run P w = .ok (l, hh, m') w := by
        rcases hmx with ⟨rfl, rfl⟩ | ⟨um, um', rfl, rfl, vm⟩
        · have := g1 rfl; subst this
          rcases hhi with ⟨rfl, rfl⟩ | ⟨uh, uh', rfl, rfl, vh⟩
          · simp only [bnd, Option.some.injEq] at e2; subst e2
            rcases hlo with ⟨rfl, rfl⟩ | ⟨ul, ul', rfl, rfl, vl⟩
            · simp only [bnd, Option.some.injEq] at e3; subst e3
              simp [Instr.sliceBounds]
            · obtain ⟨k, rfl⟩ := vl.ival (bnd_some e3)
              simp [Instr.sliceBounds, sliceBound_run k l len _ c3]
          · obtain ⟨kh, rfl⟩ := vh.ival (bnd_some e2)
            rcases hlo with ⟨rfl, rfl⟩ | ⟨ul, ul', rfl, rfl, vl⟩
            · simp only [bnd, Option.some.injEq] at e3; subst e3
              simp [Instr.sliceBounds, sliceBound_run kh hh m' _ (by omega)]
            · obtain ⟨k, rfl⟩ := vl.ival (bnd_some e3)
              simp [Instr.sliceBounds, sliceBound_run k l hh _ c3, sliceBound_run kh hh m' _ (by omega)]
        · have := g2 (by simp); subst this
          obtain ⟨km, rfl⟩ := vm.ival (bnd_some e1)
          rcases hhi with ⟨rfl, rfl⟩ | ⟨uh, uh', rfl, rfl, vh⟩
          · simp at c4
          · obtain ⟨kh, rfl⟩ := vh.ival (bnd_some e2)
            rcases hlo with ⟨rfl, rfl⟩ | ⟨ul, ul', rfl, rfl, vl⟩
            · simp only [bnd, Option.some.injEq] at e3; subst e3
              simp [Instr.sliceBounds, sliceBound_run kh hh m' _ (by omega), sliceBound_run km m' cap' _ g4]
            · obtain ⟨k, rfl⟩ := vl.ival (bnd_some e3)
              simp [Instr.sliceBounds, sliceBound_run k l hh _ c3, sliceBound_run kh hh m' _ (by omega), sliceBound_run km m' cap' _ g4]
      simp [Instr.sliceAt, Instr.slice, run_underlying hu, hb, szB_run hsz]
    cases a with
    | none =>
      injection h with h; subst h
      rw [hx.same rfl]
      have hm : mx = none → m = cap := fun e => by subst e; simpa [bnd] using e1.symm
      refine ⟨.slice none (hh - l) (m - l), .pln rfl, fun w => ?_⟩
      rw [key none cap m (fun e => hm e) (fun _ => rfl) (Nat.le_refl _) c1 w]
      simp
    | some a =>
      obtain ⟨k, off, b, x, hr, hx⟩ := hx.slc
      rcases hx with ⟨rfl, rfl⟩ | ⟨rfl, rfl⟩
      · have hm : mx = none → m = cap := fun e => by subst e; simpa [bnd] using e1.symm
        have h' : v = .slice (some ⟨k, if m = l then off else off + l * sz, none⟩) (hh - l) (m - l) := by
          simp only at h
          injection h with h; subst h; rw [bq]; split <;> rfl
        subst h'
        refine ⟨.slice (some ⟨b, if m = l then off else off + l * sz, none⟩) (hh - l) (m - l), .sl hr, fun w => ?_⟩
        rw [key (some ⟨b, off, none⟩) cap m (fun e => hm e) (fun _ => rfl) (Nat.le_refl _) c1 w]
        split <;> simp [addr_add]
      · rcases hmx with ⟨hm1, hm2⟩ | ⟨um, um', hm1, hm2, vm⟩
        · have hm : m = cap := by subst hm1; simpa [bnd] using e1.symm
          subst hm
          rw [hm1] at h
          simp only at h
          rw [bq] at h
          split at h
          · cases h
          · rename_i hne
            injection h with h; subst h
            refine ⟨.slice (some ⟨b, off + l * sz, none⟩) (hh - l) (m - l + x), .so hr, fun w => ?_⟩
            rw [key (some ⟨b, off, none⟩) (m + x) (m + x) (fun _ => rfl) (fun e => absurd hm1 e) (by omega) (by omega) w, if_neg (by omega)]
            simp only [Option.map_some, addr_add]
            congr 2
            omega
        · have h' : v = .slice (some ⟨k, if m = l then off else off + l * sz, none⟩) (hh - l) (m - l) := by
            rw [hm1] at h
            simp only at h
            injection h with h; subst h; rw [bq]; split <;> rfl
          subst h'
          refine ⟨.slice (some ⟨b, if m = l then off else off + l * sz, none⟩) (hh - l) (m - l), .sl hr, fun w => ?_⟩
          rw [key (some ⟨b, off, none⟩) (cap + x) m (fun e => by rw [hm1] at e; cases e) (fun _ => rfl) (Nat.le_refl _) (by omega) w]
          split <;> simp [addr_add]
theorem mapR (l : List Operand) (h : ∀ x ∈ l, VR r (ρ x) (ρ' x)) : LR r (l.map ρ) (l.map ρ') := LR.map ρ ρ' l h
theorem arrR {c : Array Operand} (h : ∀ x ∈ c, VR r (ρ x) (ρ' x)) : AR r (c.map ρ) (c.map ρ') := by
  have := (mapR (r := r) (ρ := ρ) (ρ' := ρ') c.toList (fun x hx => h x (by simpa using hx))).arr
  have e : ∀ f : Operand → Value, (c.toList.map f).toArray = c.map f := fun f => by apply Array.ext'; simp
  rwa [e, e] at this
theorem optR {x : Option Operand} (h : ∀ y, x = some y → VR r (ρ y) (ρ' y)) : (x.map ρ = none ∧ x.map ρ' = none) ∨ ∃ u u', x.map ρ = some u ∧ x.map ρ' = some u' ∧ VR r u u' := by
  cases x with
  | none => exact .inl ⟨rfl, rfl⟩
  | some y => exact .inr ⟨_, _, rfl, rfl, h y rfl⟩
theorem execP_ok (h : execP P ρ o = some v) (hρ : ∀ x ∈ o.op.operands, VR r (ρ x) (ρ' x)) : ∃ v', VR r v v' ∧ ∀ w, (execOp ρ' o).run P w = .ok (.value v') w := by
  unfold execP at h
  split at h
  · rename_i x hop
    injection h with h; subst h
    exact ⟨ρ' x, hρ x (by simp [hop, Op.operands]), fun w => by simp [execOp, hop]⟩
  · rename_i x hop
    injection h with h; subst h
    exact ⟨ρ' x, hρ x (by simp [hop, Op.operands]), fun w => by simp [execOp, hop]⟩
  · rename_i c a b hop
    split at h
    · rename_i t hc
      injection h with h; subst h
      have hc' : ρ' c = .bool t := by have := hρ c (by simp [hop, Op.operands]); rw [hc] at this; exact this.bool
      cases t with
      | true => exact ⟨ρ' a, hρ a (by simp [hop, Op.operands]), fun w => by simp [execOp, hop, hc', asBool]⟩
      | false => exact ⟨ρ' b, hρ b (by simp [hop, Op.operands]), fun w => by simp [execOp, hop, hc', asBool]⟩
    · cases h
  · rename_i x i hop
    split at h
    · rename_i vs hx
      have hx' := hρ x (by simp [hop, Op.operands])
      rw [hx] at hx'
      obtain ⟨c', e, ha⟩ := hx'.tup
      obtain ⟨v', h1, h2⟩ := ha.get h
      exact ⟨v', h2, fun w => by simp [execOp, hop, e, Instr.extract, h1]⟩
    · cases h
  · rename_i t x f hop
    split at h
    · rename_i fs cs hu hx
      split at h
      · rename_i fd hfd
        have hx' := hρ x (by simp [hop, Op.operands])
        rw [hx] at hx'
        obtain ⟨c', e, ha⟩ := hx'.agg
        obtain ⟨v', h1, h2⟩ := partB_run h ha
        exact ⟨v', h1, fun w => by simp [execOp, hop, e, Instr.field, run_underlying hu, hfd, asAgg, h2]⟩
      · cases h
    · cases h
  · rename_i t x i hop
    cases hc : (pl (ρ x) && pl (ρ i)) with
    | true =>
      rw [hc] at h
      simp only [Bool.and_eq_true] at hc
      exact plain_run h (by intro cs b e; rw [hop] at e; cases e) hρ (by intro y hy; simp [hop, Op.operands] at hy; rcases hy with rfl | rfl <;> first | exact hc.1 | exact hc.2)
    | false =>
      rw [hc] at h
      simp only [cond_false] at h
      split at h
      · rename_i n e cs k hu hx hk
        split at h
        · rename_i sz hsz
          have hx' := hρ x (by simp [hop, Op.operands])
          rw [hx] at hx'
          obtain ⟨c', e', ha⟩ := hx'.agg
          obtain ⟨ki, hi⟩ := (hρ i (by simp [hop, Op.operands])).ival hk
          cases hlt : Nat.blt k n with
          | false => rw [hlt] at h; cases h
          | true =>
            rw [hlt] at h
            have hlt' : k < n := by simp [Nat.blt] at hlt; omega
            obtain ⟨v', h1, h2⟩ := partB_run h ha
            exact ⟨v', h1, fun w => by simp [execOp, hop, e', hi, Instr.index, asIntOf, run_underlying hu, hlt', szB_run hsz, h2]⟩
        · cases h
      · cases h
  · rename_i t parts hop
    cases hz : (zeroB P t).isSome with
    | false => rw [hz] at h; cases h
    | true =>
      rw [hz] at h
      simp only [cond_true, Option.map_eq_some_iff] at h
      obtain ⟨out, h, rfl⟩ := h
      have hp : ∀ p ∈ parts.toList, VR r (ρ p.2) (ρ' p.2) := fun p hp => hρ p.2 (by simp only [hop, Op.operands, List.mem_toArray, List.mem_map]; exact ⟨p, hp, rfl⟩)
      obtain ⟨out', h1, h2⟩ := built_ok (r := r) (ps' := parts.toList.map fun p => (p.1, ρ' p.2)) hz (by simp) (fun i p p' e1 e2 => by
        simp only [List.getElem?_map, Option.map_eq_some_iff] at e1 e2
        obtain ⟨q, hq, rfl⟩ := e1
        obtain ⟨q', hq', rfl⟩ := e2
        rw [hq] at hq'; injection hq' with hq'; subst hq'
        exact hp q (List.mem_of_getElem? hq)) h
      refine ⟨.agg out', .ag h2.1 h2.2, fun w => ?_⟩
      have := run_build (P := P) w t (parts.map fun p => (p.1, ρ' p.2)) out' (by simpa using h1)
      simp [execOp, hop, this]
  · rename_i g first cap hop
    injection h with h; subst h
    obtain ⟨a1, a2⟩ := arrR (r := r) (ρ := ρ) (ρ' := ρ') (c := first) (fun x hx => hρ x (by simp [hop, Op.operands, hx]))
    obtain ⟨a3, a4⟩ := arrR (r := r) (ρ := ρ) (ρ' := ρ') (c := cap) (fun x hx => hρ x (by simp [hop, Op.operands, hx]))
    exact ⟨.func (.func g) (first.map ρ') (cap.map ρ'), .fn a1 a2 a3 a4, fun w => by simp [execOp, hop, Instr.makeFunc]⟩
  · rename_i x hop
    have hx := hρ x (by simp [hop, Op.operands])
    split at h
    · rename_i a e
      injection h with h; subst h
      rw [e] at hx
      obtain ⟨k, off, b, y, rfl, hr, e'⟩ := hx.ptr'
      exact ⟨_, .ptr hr, fun w => by simp [execOp, hop, e']⟩
    · rename_i g a b e
      injection h with h; subst h
      rw [e] at hx
      refine ⟨ρ' x, hx, fun w => ?_⟩
      generalize hu : ρ' x = u at hx
      cases hx with
      | pln h => simp [execOp, hop, hu]
      | fn h1 h2 h3 h4 => simp [execOp, hop, hu]
    · rename_i g a b e
      injection h with h; subst h
      rw [e] at hx
      refine ⟨ρ' x, hx, fun w => ?_⟩
      generalize hu : ρ' x = u at hx
      cases hx with
      | pln h => simp [pl] at h
      | yl h => simp [execOp, hop, hu]
    · cases h
  · rename_i op t x y yt hop
    have hx := hρ x (by simp [hop, Op.operands])
    have hy := hρ y (by simp [hop, Op.operands])
    cases hn : eqNil P t op (ρ x) (ρ y) with
    | some u =>
      rw [hn] at h
      injection h with h; subst h
      unfold eqNil at hn
      cases hb : nilB P t (ρ x) (ρ y) with
      | false => rw [hb] at hn; cases hn
      | true =>
        rw [hb] at hn
        simp only [cond_true] at hn
        split at hn
        · injection hn with hn; subst hn
          refine ⟨.bool false, .pln rfl, fun w => ?_⟩
          obtain ⟨n1, n2, n3, n4⟩ := nilB_run hb hx hy w
          simp [execOp, hop, n2, n3, n1]
        · injection hn with hn; subst hn
          refine ⟨.bool true, .pln rfl, fun w => ?_⟩
          obtain ⟨n1, n2, n3, n4⟩ := nilB_run hb hx hy w
          simp [execOp, hop, n2, n4, n1]
        · cases hn
    | none =>
      rw [hn] at h
      simp only at h
      cases hc : (pl (ρ x) && pl (ρ y)) with
      | false => rw [hc] at h; cases h
      | true =>
        rw [hc] at h
        simp only [Bool.and_eq_true] at hc
        exact plain_run h (by intro cs b e; rw [hop] at e; cases e) hρ (by intro z hz; simp [hop, Op.operands] at hz; rcases hz with rfl | rfl <;> first | exact hc.1 | exact hc.2)
  · rename_i op t x hop
    cases hc : pl (ρ x) with
    | false => rw [hc] at h; cases h
    | true =>
      rw [hc] at h
      exact plain_run h (by intro cs b e; rw [hop] at e; cases e) hρ (by intro z hz; simp [hop, Op.operands] at hz; subst hz; exact hc)
  · rename_i s d x hop
    cases hc : pl (ρ x) with
    | false => rw [hc] at h; cases h
    | true =>
      rw [hc] at h
      exact plain_run h (by intro cs b e; rw [hop] at e; cases e) hρ (by intro z hz; simp [hop, Op.operands] at hz; subst hz; exact hc)
  · rename_i s x f hop
    have hx := hρ x (by simp [hop, Op.operands])
    split at h
    · rename_i k off fs e hu
      split at h
      · rename_i fd hfd
        split at h
        · rename_i n hsz
          injection h with h; subst h
          rw [e] at hx
          obtain ⟨b, y, hr, e'⟩ := hx.pt
          exact ⟨_, .ptr hr, fun w => by simp [execOp, hop, e', Instr.fieldAt, run_underlying hu, hfd, Instr.sureAddr, fieldPlace, szB_run hsz, addr_add]⟩
        · cases h
      · cases h
    · cases h
  · rename_i t x i hop
    have hx := hρ x (by simp [hop, Op.operands])
    have hi := hρ i (by simp [hop, Op.operands])
    split at h
    · rename_i len e k off n hu hx0 hk
      split at h
      · rename_i sz hsz
        cases hlt : Nat.blt n len with
        | false => rw [hlt] at h; cases h
        | true =>
          rw [hlt] at h
          injection h with h; subst h
          have hlt' : n < len := by simp [Nat.blt] at hlt; omega
          rw [hx0] at hx
          obtain ⟨b, y, hr, e'⟩ := hx.pt
          obtain ⟨ki, hi⟩ := hi.ival hk
          exact ⟨_, .ptr hr, fun w => by simp [execOp, hop, e', hi, Instr.indexAt, asIntOf, run_underlying hu, Instr.sureAddr, hlt', szB_run hsz, addr_add]⟩
      · cases h
    · rename_i e k off sp len cap n hu hx0 hk
      split at h
      · rename_i sz hsz
        cases hlt : Nat.blt n len with
        | false => rw [hlt] at h; cases h
        | true =>
          rw [hlt] at h
          injection h with h; subst h
          have hlt' : n < len := by simp [Nat.blt] at hlt; omega
          rw [hx0] at hx
          obtain ⟨k', off', b, y, hr, hx⟩ := hx.slc
          obtain ⟨ki, hi⟩ := hi.ival hk
          rcases hx with ⟨e1, e'⟩ | ⟨e1, e'⟩ <;> injection e1 with e1 e2 e3 <;> subst e1 <;> subst e2 <;>
            exact ⟨_, .ptr hr, fun w => by simp [execOp, hop, e', hi, Instr.indexAt, asIntOf, run_underlying hu, hlt', szB_run hsz, addr_add]⟩
      · cases h
    · cases h
  · rename_i t x lo hi mx hop
    have hx := hρ x (by simp [hop, Op.operands])
    split at h
    · rename_i e a len cap hu e0
      split at h
      · rename_i sz hsz
        rw [e0] at hx
        obtain ⟨v', h1, h2⟩ := slB_ok hu hsz hx (optR fun y hy => hρ y (by simp [hop, Op.operands, hy])) (optR fun y hy => hρ y (by simp [hop, Op.operands, hy])) (optR fun y hy => hρ y (by simp [hop, Op.operands, hy])) h
        exact ⟨v', h1, fun w => by simp [execOp, hop, h2]⟩
      · cases h
    · cases hc : (pl (ρ x) && ((lo.toList ++ hi.toList ++ mx.toList).all fun y => pl (ρ y))) with
      | false => rw [hc] at h; cases h
      | true =>
        rw [hc] at h
        simp only [Bool.and_eq_true, List.all_eq_true] at hc
        exact plain_run h (by intro cs b e; rw [hop] at e; cases e) hρ (by
          intro z hz
          simp only [hop, Op.operands, Array.mem_append, List.mem_toArray, List.mem_singleton, Option.mem_toArray] at hz
          rcases hz with ((rfl | hz) | hz) | hz
          · exact hc.1
          · exact hc.2 z (by simp [hz])
          · exact hc.2 z (by simp [hz])
          · exact hc.2 z (by simp [hz]))
    · cases h
  · cases h
end
end Go.Proofs.YtbanjolokkghdaaGreatDoor
