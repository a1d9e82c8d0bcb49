/- Parts of the proof that follows: A run of closed code: what is made, written, let go. No condition. | A run of closed code: the operations that look at memory, but calls. No condition. -/
import Derived.Laws.AppendOwn
import Derived.Laws.MakeOwn
import Derived.Laws.CopyRow
import Derived.Test.YtbanjolokkghdaaGreatDoorWz30
set_option linter.unusedSimpArgs false
set_option linter.unusedVariables false
namespace Go.Proofs.YtbanjolokkghdaaGreatDoor
open Go.RowKit
structure Push1 (w w' : World) (o : Obj) : Prop where
  size : w'.heap.size = w.heap.size + 1
  last : w'.heap[w.heap.size]? = some o
  rest : ∀ b, b < w.heap.size → w'.heap[b]? = w.heap[b]?
  os : w'.os = w.os
  tape : w'.tape = w.tape
  output : w'.output = w.output
structure Set1 (w w' : World) (b : Nat) (o : Obj) : Prop where
  size : w'.heap.size = w.heap.size
  at_ : w'.heap[b]? = some o
  rest : ∀ k, k ≠ b → w'.heap[k]? = w.heap[k]?
  os : w'.os = w.os
  tape : w'.tape = w.tape
  output : w'.output = w.output
theorem Push1.alloc (w : World) (o : Obj) : Push1 w (w.alloc o) o := ⟨by show (w.heap.push o).size = _; simp, by show (w.heap.push o)[w.heap.size]? = _; simp, fun b hb => by show (w.heap.push o)[b]? = _; simp [Array.getElem?_push, Nat.ne_of_lt hb], rfl, rfl, rfl⟩
theorem Push1.drew (w : World) (o : Obj) : Push1 w (w.drew.alloc o) o := ⟨(Push1.alloc w.drew o).size, (Push1.alloc w.drew o).last, (Push1.alloc w.drew o).rest, rfl, rfl, rfl⟩
theorem Set1.row {w : World} {b : Nat} {old cs : Array Value} {t : TypeId} (h : w.heap[b]? = some (.cells old t (0, 0))) : Set1 w (w.setRow b cs) b (.cells cs t (0, 0)) :=
  ⟨by simp, setRow_heap w b old cs t (0, 0) h, fun k hk => setRow_other w b k cs hk, rfl, rfl, rfl⟩
theorem Set1.obj {w : World} {b : Nat} (o : Obj) (h : b < w.heap.size) : Set1 w { w with heap := w.heap.setIfInBounds b o } b o :=
  ⟨by simp, by simp [h], fun k hk => by simp [Array.getElem?_setIfInBounds, Ne.symm hk], rfl, rfl, rfl⟩
def upd (r : Rn) (k : Nat) (p : Nat × Nat) : Rn := fun i => if i = k then some p else r i
theorem upd_self (r : Rn) (k : Nat) (p : Nat × Nat) : upd r k p k = some p := if_pos rfl
theorem upd_ne {r : Rn} {k i : Nat} {p : Nat × Nat} (h : i ≠ k) : upd r k p i = r i := if_neg h
theorem new_some {s s' : St} {o : AO} {k : Nat} (h : s.new o = some (k, s')) : s.next < big ∧ k = s.next ∧ s' = { s with T := s.T.set 24 s.next (some o), next := s.next + 1 } := by
  unfold St.new at h
  cases hb : Nat.blt s.next big with
  | false => rw [hb] at h; cases h
  | true =>
    rw [hb] at h
    injection h with h
    injection h with h1 h2
    exact ⟨by simpa [Nat.blt, Nat.lt_iff_add_one_le] using hb, h1.symm, h2.symm⟩
theorem put_some {s s' : St} {k : Nat} {o : Option AO} (h : s.put k o = some s') : wrt s k ∧ k < s.next ∧ s' = { s with T := s.T.set 24 k o } := by
  unfold St.put at h
  cases hb : ((Nat.ble s.lim k || Nat.beq k s.one) && Nat.blt k s.next) with
  | false => rw [hb] at h; cases h
  | true =>
    rw [hb] at h
    injection h with h
    simp only [Bool.and_eq_true, Bool.or_eq_true, Nat.ble_eq] at hb
    refine ⟨?_, by have := hb.2; simp [Nat.blt] at this; omega, h.symm⟩
    rcases hb.1 with h1 | h1
    · exact .inl h1
    · exact .inr (Nat.eq_of_beq_eq_true h1)
theorem getT (s : St) (k : Nat) : s.get k = if hidden s.hid k = true then none else s.T.get k := by unfold St.get; cases hidden s.hid k <;> rfl
section
variable {P : Program} {B : Nat} {r : Rn} {s s' : St} {w w' : World}
theorem _root_.Go.Proofs.YtbanjolokkghdaaGreatDoor.Rel.fresh (h : Rel P B r s w) {o : AO} {k : Nat} (hn : s.new o = some (k, s')) (hB : s'.next ≤ B) : r k = none := by
  obtain ⟨_, rfl, rfl⟩ := new_some hn
  exact h.dom s.next (Nat.le_refl _) hB
/-- Something new. -/
theorem new_ok (h : Rel P B r s w) (hB : s'.next ≤ B) {o : AO} {k : Nat} (hn : s.new o = some (k, s')) {o' : Obj} (hp : Push1 w w' o') {x : Nat} (ho : OR P (upd r k (w.heap.size, x)) x o o') : Good P B s s' r (upd r k (w.heap.size, x)) w w' := by
  obtain ⟨h1, rfl, rfl⟩ := new_some hn
  have hB : s.next + 1 ≤ B := hB
  have hk : s.next + 2 ≤ 2 ^ 24 := by unfold big at h1; omega
  have hfr : r s.next = none := h.dom s.next (Nat.le_refl _) (by omega)
  have hT : ∀ i, (s.T.set 24 s.next (some o)).get i = if i = s.next then some o else s.T.get i := fun i => Tr.get_set 24 s.T s.next (some o) i hk
  have hnh : hidden s.hid s.next = false := by
    cases e : hidden s.hid s.next with
    | false => rfl
    | true => exact absurd (h.hlt _ e) (by omega)
  have hup : ∀ i p, r i = some p → upd r s.next (w.heap.size, x) i = some p := fun i p hi => by rw [upd_ne (by rintro rfl; rw [hfr] at hi; cases hi)]; exact hi
  have hg : ∀ i, ({ s with T := s.T.set 24 s.next (some o), next := s.next + 1 } : St).get i = if i = s.next then some o else s.get i := fun i => by
    rw [getT, getT]
    show (if hidden s.hid i = true then none else (s.T.set 24 s.next (some o)).get i) = _
    rw [hT]
    by_cases e : i = s.next
    · subst e; rw [if_pos rfl, if_pos rfl, hnh]; rfl
    · rw [if_neg e, if_neg e]
  have hold : ∀ i b y, s.get i ≠ none → r i = some (b, y) → b < w.heap.size := fun i b y hi hr => by
    cases e : s.get i with
    | none => exact absurd e hi
    | some oo =>
      obtain ⟨b', y', o2, a1, a2, _⟩ := h.obj i oo e
      rw [hr] at a1; injection a1 with a1; injection a1 with a1 _; subst a1
      exact (Array.getElem?_eq_some_iff.1 a2).1
  refine ⟨⟨Nat.le_succ _, rfl, rfl, rfl, fun i hi _ => ?_, fun i hi hd => ?_, fun _ i hi => ?_, rfl⟩, ⟨fun i hi => upd_ne (by rcases hi with hi | hi; omega; have hi : s.next + 1 ≤ i := hi; omega), by rw [hp.size]; omega, hp.os, hp.tape, hp.output, fun b hb _ => hp.rest b hb, fun i b y hi hgi hr => ?_⟩, ⟨h1, hB, fun i hi hiB => ?_, fun i oo hi => ?_, fun i j b y y' hi hj ri rj => ?_, fun i hi => ?_, fun i hi => ?_, fun g hg => hup _ _ (h.gl g hg), Nat.le_succ_of_le h.gn⟩⟩
  · show (s.T.set 24 s.next (some o)).get i = _
    rw [hT, if_neg (by omega)]
  · show (s.T.set 24 s.next (some o)).get i = _
    rw [hT, if_neg (by omega)]; exact hd
  · have hi : s.next + 1 ≤ i := hi
    show (s.T.set 24 s.next (some o)).get i = none
    rw [hT, if_neg (by omega)]; exact h.up i (by omega)
  · rw [hg] at hgi
    by_cases e : i = s.next
    · subst e; rw [upd_self] at hr; injection hr with hr; injection hr with hr _; left; omega
    · rw [if_neg e] at hgi; exact absurd (h.lt hgi) (by omega)
  · have hi : s.next + 1 ≤ i := hi
    rw [upd_ne (by omega)]; exact h.dom i (by omega) hiB
  · rw [hg] at hi
    by_cases e : i = s.next
    · subst e; rw [if_pos rfl] at hi; injection hi with hi; subst hi
      exact ⟨_, _, _, upd_self _ _ _, hp.last, ho⟩
    · rw [if_neg e] at hi
      obtain ⟨b, y, o2, a1, a2, a3⟩ := h.obj i oo hi
      exact ⟨b, y, o2, hup _ _ a1, (hp.rest b (hold i b y (by rw [hi]; simp) a1)).trans a2, a3.mono hup⟩
  · rw [hg] at hi hj
    by_cases e : i = s.next
    · subst e
      rw [upd_self] at ri; injection ri with ri; injection ri with ri _; subst ri
      by_cases e' : j = s.next
      · exact e'.symm
      · rw [if_neg e'] at hj; rw [upd_ne e'] at rj; exact absurd (hold j _ _ hj rj) (by omega)
    · rw [if_neg e] at hi; rw [upd_ne e] at ri
      by_cases e' : j = s.next
      · subst e'; rw [upd_self] at rj; injection rj with rj; injection rj with rj _; subst rj
        exact absurd (hold i _ _ hi ri) (by omega)
      · rw [if_neg e'] at hj; rw [upd_ne e'] at rj; exact h.inj i j b y y' hi hj ri rj
  · show (s.T.set 24 s.next (some o)).get i = none
    rw [hT, if_neg (by have : s.next + 1 ≤ i := hi; omega)]
    exact h.up i (by have : s.next + 1 ≤ i := hi; omega)
  · have := h.hlt i hi; show i < s.next + 1; omega
/-- A block is written. -/
theorem put_ok (h : Rel P B r s w) {k b x : Nat} {o1 o2 : AO} (hn : s.put k (some o2) = some s') (hv : s.get k = some o1) (hr : r k = some (b, x)) {o' : Obj} (hp : Set1 w w' b o') (ho : OR P r x o2 o') : Good P B s s' r r w w' := by
  obtain ⟨h1, h2, rfl⟩ := put_some hn
  have hk : k + 2 ≤ 2 ^ 24 := by have hb9 := h.nb; unfold big at hb9; omega
  have hT : ∀ i, (s.T.set 24 k (some o2)).get i = if i = k then some o2 else s.T.get i := fun i => Tr.get_set 24 s.T k (some o2) i hk
  have hnh : hidden s.hid k = false := by
    cases e : hidden s.hid k with
    | false => rfl
    | true => rw [getT, e] at hv; cases hv
  have hg : ∀ i, ({ s with T := s.T.set 24 k (some o2) } : St).get i = if i = k then some o2 else s.get i := fun i => by
    rw [getT, getT]
    show (if hidden s.hid i = true then none else (s.T.set 24 k (some o2)).get i) = _
    rw [hT]
    by_cases e : i = k
    · subst e; rw [if_pos rfl, if_pos rfl, hnh]; rfl
    · rw [if_neg e, if_neg e]
  have hne : s.get k ≠ none := by rw [hv]; simp
  refine ⟨⟨Nat.le_refl _, rfl, rfl, rfl, fun i hi hw => ?_, fun i hi hd => ?_, fun _ i hi => ?_, rfl⟩, ⟨fun i hi => rfl, by rw [hp.size]; exact Nat.le_refl _, hp.os, hp.tape, hp.output, fun bb hb hno => hp.rest bb ?_, fun i bb y hi hgi _ => ?_⟩, ⟨h.nb, h.le, h.dom, fun i oo hi => ?_, fun i j bb y y' hi hj ri rj => ?_, fun i hi => ?_, h.hlt, h.gl, h.gn⟩⟩
  · show (s.T.set 24 k (some o2)).get i = _
    rw [hT, if_neg ?_]
    rintro rfl
    rcases hw with hw | hw
    · exact hw h1
    · rw [hnh] at hw; cases hw
  · show (s.T.set 24 k (some o2)).get i = _
    rw [hT, if_neg ?_]
    · exact hd
    · rintro rfl
      rw [getT, hnh, if_neg (by simp)] at hv
      rw [hd] at hv; cases hv
  · have hi' : s.next ≤ i := hi
    show (s.T.set 24 k (some o2)).get i = none
    rw [hT, if_neg (by omega)]; exact h.up i hi'
  · rintro rfl; exact hno k x h2 h1 hne hr
  · rw [hg] at hgi
    have hi' : s.next ≤ i := hi
    rw [if_neg (by omega)] at hgi
    exact absurd (h.lt hgi) (by omega)
  · rw [hg] at hi
    by_cases e : i = k
    · subst e; rw [if_pos rfl] at hi; injection hi with hi; subst hi
      exact ⟨b, x, o', hr, hp.at_, ho⟩
    · rw [if_neg e] at hi
      obtain ⟨b', y, o3, a1, a2, a3⟩ := h.obj i oo hi
      refine ⟨b', y, o3, a1, (hp.rest b' ?_).trans a2, a3⟩
      rintro rfl
      exact e (h.inj i k b' y x (by rw [hi]; simp) hne a1 hr)
  · rw [hg] at hi hj
    have f : ∀ i, (if i = k then some o2 else s.get i) ≠ none → s.get i ≠ none := fun i hi => by
      by_cases e : i = k
      · subst e; exact hne
      · rwa [if_neg e] at hi
    exact h.inj i j bb y y' (f i hi) (f j hj) ri rj
  · show (s.T.set 24 k (some o2)).get i = none
    have hi' : s.next ≤ i := hi
    rw [hT, if_neg (by omega)]; exact h.up i hi'
/-- A block is let go, and is another's from here on, as it was written just now. -/
theorem move_ok {s1 : St} (h : Rel P B r s w) (hB : s'.next ≤ B) {k b x k2 x2 : Nat} {o1 o2 : AO} (hd : s.put k none = some s1) (hn : s1.new o2 = some (k2, s')) (hv : s.get k = some o1) (hr : r k = some (b, x)) {o' : Obj} (hp : Set1 w w' b o') (ho : OR P (upd r k2 (b, x2)) x2 o2 o') :
    Good P B s s' r (upd r k2 (b, x2)) w w' := by
  obtain ⟨h1, h2, rfl⟩ := put_some hd
  obtain ⟨h3, e3, es⟩ := new_some hn
  have e3 : k2 = s.next := e3
  subst e3
  have sT : s'.T = (s.T.set 24 k none).set 24 s.next (some o2) := by rw [es]
  have sn : s'.next = s.next + 1 := by rw [es]
  have sl : s'.lim = s.lim := by rw [es]
  have so : s'.one = s.one := by rw [es]
  have sh : s'.hid = s.hid := by rw [es]
  have sng : s'.ng = s.ng := by rw [es]
  clear es hn hd
  have hfr : r s.next = none := h.dom s.next (Nat.le_refl _) (by omega)
  have hk : k + 2 ≤ 2 ^ 24 := by have hb9 := h.nb; unfold big at hb9; omega
  have hk2 : s.next + 2 ≤ 2 ^ 24 := by have hb9 := h.nb; unfold big at hb9; omega
  have hT : ∀ i, ((s.T.set 24 k none).set 24 s.next (some o2)).get i = if i = s.next then some o2 else if i = k then none else s.T.get i := fun i => by
    rw [Tr.get_set 24 _ s.next (some o2) i hk2, Tr.get_set 24 s.T k none i hk]
  have hnh : hidden s.hid k = false := by
    cases e : hidden s.hid k with
    | false => rfl
    | true => rw [getT, e] at hv; cases hv
  have hnh2 : hidden s.hid s.next = false := by
    cases e : hidden s.hid s.next with
    | false => rfl
    | true => exact absurd (h.hlt _ e) (by omega)
  have hup : ∀ i p, r i = some p → upd r s.next (b, x2) i = some p := fun i p hi => by rw [upd_ne (by rintro rfl; rw [hfr] at hi; cases hi)]; exact hi
  have hg : ∀ i, s'.get i = if i = s.next then some o2 else if i = k then none else s.get i := fun i => by
    rw [getT, getT, sh, sT, hT]
    by_cases e : i = s.next
    · subst e; rw [if_pos rfl, if_pos rfl, hnh2]; rfl
    · rw [if_neg e, if_neg e]
      by_cases e' : i = k
      · subst e'; rw [if_pos rfl, if_pos rfl]; split <;> rfl
      · rw [if_neg e', if_neg e']
  have hne : s.get k ≠ none := by rw [hv]; simp
  refine ⟨⟨by omega, sl, so, sh, fun i hi hw => ?_, fun i hi hdd => ?_, fun _ i hi => ?_, sng⟩, ⟨fun i hi => upd_ne (by omega), by rw [hp.size]; exact Nat.le_refl _, hp.os, hp.tape, hp.output, fun bb hb hno => hp.rest bb ?_, fun i bb y hi hgi hri => ?_⟩, ⟨by rw [sn]; exact h3, hB, fun i hi hiB => ?_, fun i oo hi => ?_, fun i j bb y y' hi hj ri rj => ?_, fun i hi => ?_, fun i hi => ?_, fun g hg => hup _ _ (h.gl g (sng ▸ hg)), sng ▸ sn ▸ Nat.le_succ_of_le h.gn⟩⟩
  · rw [sT, hT, if_neg (by omega), if_neg ?_]
    rintro rfl
    rcases hw with hw | hw
    · exact hw h1
    · rw [hnh] at hw; cases hw
  · rw [sT, hT, if_neg (by omega)]
    split
    · rfl
    · exact hdd
  · rw [sT, hT, if_neg (by omega), if_neg (by omega)]; exact h.up i (by omega)
  · rintro rfl; exact hno k x h2 h1 hne hr
  · rw [hg] at hgi
    by_cases e : i = s.next
    · subst e; rw [upd_self] at hri; injection hri with hri; injection hri with hri _; subst hri
      exact .inr ⟨k, x, h2, h1, hne, hr⟩
    · rw [if_neg e] at hgi
      split at hgi
      · exact absurd rfl hgi
      · exact absurd (h.lt hgi) (by omega)
  · rw [upd_ne (by omega)]; exact h.dom i (by omega) hiB
  · rw [hg] at hi
    by_cases e : i = s.next
    · subst e; rw [if_pos rfl] at hi; injection hi with hi; subst hi
      exact ⟨b, x2, o', upd_self _ _ _, hp.at_, ho⟩
    · rw [if_neg e] at hi
      by_cases e' : i = k
      · rw [if_pos e'] at hi; cases hi
      · rw [if_neg e'] at hi
        obtain ⟨b', y, o3, a1, a2, a3⟩ := h.obj i oo hi
        refine ⟨b', y, o3, hup _ _ a1, (hp.rest b' ?_).trans a2, a3.mono hup⟩
        rintro rfl
        exact e' (h.inj i k b' y x (by rw [hi]; simp) hne a1 hr)
  · rw [hg] at hi hj
    by_cases e : i = s.next
    · subst e
      rw [upd_self] at ri; injection ri with ri; injection ri with ri _; subst ri
      by_cases e' : j = s.next
      · exact e'.symm
      · rw [if_neg e'] at hj
        rw [upd_ne e'] at rj
        by_cases e2 : j = k
        · rw [if_pos e2] at hj; exact absurd rfl hj
        · rw [if_neg e2] at hj; exact absurd (h.inj j k b y' x hj hne rj hr) e2
    · rw [if_neg e] at hi; rw [upd_ne e] at ri
      have hi2 : i ≠ k ∧ s.get i ≠ none := by
        by_cases e2 : i = k
        · rw [if_pos e2] at hi; exact absurd rfl hi
        · rw [if_neg e2] at hi; exact ⟨e2, hi⟩
      by_cases e' : j = s.next
      · subst e'; rw [upd_self] at rj; injection rj with rj; injection rj with rj _; subst rj
        exact absurd (h.inj i k b y x hi2.2 hne ri hr) hi2.1
      · rw [if_neg e'] at hj; rw [upd_ne e'] at rj
        have hj2 : s.get j ≠ none := by
          by_cases e2 : j = k
          · rw [if_pos e2] at hj; exact absurd rfl hj
          · rw [if_neg e2] at hj; exact hj
        exact h.inj i j bb y y' hi2.2 hj2 ri rj
  · rw [sT, hT, if_neg (by omega), if_neg (by omega)]; exact h.up i (by omega)
  · rw [sh] at hi; have := h.hlt i hi; omega
/-- A block is let go. -/
theorem drop_ok (h : Rel P B r s w) {k b x : Nat} {o1 : AO} (hd : s.put k none = some s') (hv : s.get k = some o1) : Good P B s s' r r w w := by
  obtain ⟨h1, h2, rfl⟩ := put_some hd
  have hk : k + 2 ≤ 2 ^ 24 := by have hb9 := h.nb; unfold big at hb9; omega
  have hT : ∀ i, (s.T.set 24 k none).get i = if i = k then none else s.T.get i := fun i => Tr.get_set 24 s.T k none i hk
  have hnh : hidden s.hid k = false := by
    cases e : hidden s.hid k with
    | false => rfl
    | true => rw [getT, e] at hv; cases hv
  have hg : ∀ i, ({ s with T := s.T.set 24 k none } : St).get i ≠ none → s.get i ≠ none ∧ ({ s with T := s.T.set 24 k none } : St).get i = s.get i := fun i => by
    rw [getT, getT]
    show (if hidden s.hid i = true then none else (s.T.set 24 k none).get i) ≠ none → _ ∧ (if hidden s.hid i = true then none else (s.T.set 24 k none).get i) = _
    rw [hT]
    intro hh
    split at hh
    · exact absurd rfl hh
    · rename_i e1
      rw [if_neg e1, if_neg e1]
      split at hh
      · exact absurd rfl hh
      · rename_i e2
        rw [if_neg e2]; exact ⟨hh, rfl⟩
  refine ⟨⟨Nat.le_refl _, rfl, rfl, rfl, fun i hi hw => ?_, fun i hi hdd => ?_, fun _ i hi => ?_, rfl⟩, ⟨fun i hi => rfl, Nat.le_refl _, rfl, rfl, rfl, fun _ _ _ => rfl, fun i bb y hi hgi _ => ?_⟩, ⟨h.nb, h.le, h.dom, fun i oo hi => ?_, fun i j bb y y' hi hj ri rj => ?_, fun i hi => ?_, h.hlt, h.gl, h.gn⟩⟩
  · show (s.T.set 24 k none).get i = _
    rw [hT, if_neg ?_]
    rintro rfl
    rcases hw with hw | hw
    · exact hw h1
    · rw [hnh] at hw; cases hw
  · show (s.T.set 24 k none).get i = _
    rw [hT]; split
    · rfl
    · exact hdd
  · have hi' : s.next ≤ i := hi
    show (s.T.set 24 k none).get i = none
    rw [hT]; split
    · rfl
    · exact h.up i hi'
  · exact absurd (h.lt (hg i hgi).1) (by have hi' : s.next ≤ i := hi; omega)
  · rw [(hg i (by rw [hi]; simp)).2] at hi
    exact h.obj i oo hi
  · exact h.inj i j bb y y' (hg i hi).1 (hg j hj).1 ri rj
  · show (s.T.set 24 k none).get i = none
    have hi' : s.next ≤ i := hi
    rw [hT]; split
    · rfl
    · exact h.up i hi'
end
end Go.Proofs.YtbanjolokkghdaaGreatDoor
namespace Go.Proofs.YtbanjolokkghdaaGreatDoor
open Go.RowKit
section
variable {P : Program} {B : Nat} {r : Rn} {s s' : St} {w : World}
theorem rd_ok (h : Rel P B r s w) {k off n b x : Nat} {l : List Value} (hl : rd s k off n = some l) (hr : r k = some (b, x)) : l.length = n ∧ ∃ l', LR r l l' ∧ (∀ j v, l'[j]? = some v → w.cell? ((⟨b, off, none⟩ : Addr).add j) = some v) ∧ ∀ v ∈ l', v.oneCell' = true := by
  unfold rd at hl
  split at hl
  · rename_i cs t op hg
    obtain ⟨b', x', o', e1, e2, a, rfl, e3, e4⟩ := h.obj k _ hg
    rw [hr] at e1; injection e1 with e1; injection e1 with e1 e1'; subst e1; subst e1'
    cases hb : Nat.ble (Nat.add off n) cs.length with
    | false => rw [hb] at hl; cases hl
    | true =>
      rw [hb] at hl
      injection hl with hl
      rw [takeN_eq, dropN_eq] at hl
      have hle : off + n ≤ cs.length := by simpa using hb
      have hlen : l.length = n := by rw [← hl]; simp; omega
      have hsz : cs.length ≤ a.size := by rw [e3]; omega
      have hget : ∀ j, j < n → ∃ v v', l[j]? = some v ∧ a[off + j]? = some v' ∧ VR r v v' ∧ v.oneCell' = true := fun j hj => by
        have hj' : off + j < cs.length := by omega
        have e5 : cs[off + j]? = some cs[off + j] := by simp [hj']
        obtain ⟨v', a1, a2, a3⟩ := e4 _ _ e5
        refine ⟨cs[off + j], v', ?_, a1, a2, a3⟩
        rw [← hl, List.getElem?_take, if_pos hj, List.getElem?_drop, e5]
      refine ⟨hlen, (a.toList.drop off).take n, ⟨by rw [hlen]; simp; omega, fun i v v' h1 h2 => ?_⟩, fun j v hv => ?_, fun v hv => ?_⟩
      · have hi : i < n := by rw [← hlen]; exact (List.getElem?_eq_some_iff.1 h1).1
        obtain ⟨u, u', g1, g2, g3, _⟩ := hget i hi
        rw [List.getElem?_take, if_pos hi, List.getElem?_drop] at h2
        rw [g1] at h1; injection h1 with h1; subst h1
        have : a[off + i]? = some v' := by simpa using h2
        rw [g2] at this; injection this with this; subst this
        exact g3
      · rw [addr_add, cell_of_row w b (off + j) a t (0, 0) e2]
        rw [List.getElem?_take] at hv
        split at hv
        · rw [List.getElem?_drop] at hv; simpa using hv
        · cases hv
      · obtain ⟨j, hj⟩ := List.mem_iff_getElem?.1 hv
        have hjn : j < n := by
          rw [List.getElem?_take] at hj
          split at hj
          · assumption
          · cases hj
        obtain ⟨u, u', g1, g2, g3, g4⟩ := hget j hjn
        rw [List.getElem?_take, if_pos hjn, List.getElem?_drop] at hj
        have : a[off + j]? = some v := by simpa using hj
        rw [g2] at this; injection this with this; subst this
        rw [g3.one]; exact g4
  · cases hl
theorem splice_get {α : Type} (a vs : List α) (off i : Nat) (h : off + vs.length ≤ a.length) : (a.take off ++ (vs ++ a.drop (off + vs.length)))[i]? = if i < off then a[i]? else if i < off + vs.length then vs[i - off]? else a[i]? := by
  rw [List.getElem?_append]
  have h1 : (a.take off).length = off := by simp; omega
  rw [h1]
  split
  · rename_i h2; rw [List.getElem?_take, if_pos h2]
  · rw [List.getElem?_append]
    split
    · rename_i h2 h3; rw [if_pos (by omega)]
    · rename_i h2 h3
      rw [if_neg (by omega), List.getElem?_drop]
      congr 1; omega
theorem wr_ok (h : Rel P B r s w) {k off b x : Nat} {vs vs' : List Value} (hl : wr s k off vs = some s') (hr : r k = some (b, x)) (hv : LR r vs vs') :
    ∃ cur t, w.heap[b]? = some (.cells cur t (0, 0)) ∧ off + vs'.length ≤ cur.size ∧ (∀ v ∈ vs', v.oneCell' = true) ∧ (∃ cs op, s.get k = some (.cells cs t op) ∧ cs.length ≤ cur.size) ∧ Good P B s s' r r w (w.setRow b (cur.toList.take off ++ vs' ++ cur.toList.drop (off + vs'.length)).toArray) := by
  unfold wr at hl
  split at hl
  · rename_i cs t op hg
    obtain ⟨b', x', o', e1, e2, a, rfl, e3, e4⟩ := h.obj k _ hg
    rw [hr] at e1; injection e1 with e1; injection e1 with e1 e1'; subst e1; subst e1'
    cases hb : (Nat.ble (Nat.add off vs.length) cs.length && ones vs) with
    | false => rw [hb] at hl; cases hl
    | true =>
      rw [hb] at hl
      simp only [cond_true] at hl
      simp only [Bool.and_eq_true] at hb
      have hle : off + vs.length ≤ cs.length := by simpa using hb.1
      have hvl := hv.1
      have hsz : cs.length ≤ a.size := by rw [e3]; omega
      have h1 := hv.oneAll hb.2
      refine ⟨a, t, e2, by omega, h1, ⟨cs, op, hg, hsz⟩, put_ok h hl hg hr (Set1.row e2) ⟨_, rfl, ?_, fun i v hiv => ?_⟩⟩
      · simp only [takeN_eq, dropN_eq]
        simp
        omega
      · rw [takeN_eq, dropN_eq] at hiv
        have hiv : (cs.take off ++ (vs ++ cs.drop (off + vs.length)))[i]? = some v := hiv
        rw [splice_get cs vs off i hle] at hiv
        have e5 : (a.toList.take off ++ vs' ++ a.toList.drop (off + vs'.length)).toArray[i]? = if i < off then a.toList[i]? else if i < off + vs'.length then vs'[i - off]? else a.toList[i]? := by
          have := splice_get a.toList vs' off i (by simp; omega)
          rw [← List.append_assoc] at this
          simpa using this
        rw [e5]
        split at hiv
        · rename_i hi
          rw [if_pos hi]
          obtain ⟨v', g1, g2, g3⟩ := e4 i v hiv
          exact ⟨v', by simpa using g1, g2, g3⟩
        · rename_i hi
          rw [if_neg hi]
          split at hiv
          · rename_i hi2
            rw [if_pos (by omega)]
            obtain ⟨v', g1, g2⟩ := hv.get hiv
            exact ⟨v', g1, g2, ones_mem hb.2 v (List.mem_of_getElem? hiv)⟩
          · rename_i hi2
            rw [if_neg (by omega)]
            obtain ⟨v', g1, g2, g3⟩ := e4 i v hiv
            exact ⟨v', by simpa using g1, g2, g3⟩
  · cases hl
theorem ld_ok (h : Rel P B r s w) {t : TypeId} {k off b x : Nat} {v : Value} (hl : ld P s t k off = some v) (hr : r k = some (b, x)) : ∃ v', VR r v v' ∧ (loadVar t ⟨b, off, none⟩).run P w = .ok v' w := by
  unfold ld at hl
  split at hl
  · rename_i n ha hs
    simp only [Option.map_eq_some_iff] at hl
    obtain ⟨l, hl, rfl⟩ := hl
    obtain ⟨h1, l', h2, h3, _⟩ := rd_ok h hl hr
    refine ⟨.agg l'.toArray, .ag h2.arr.1 h2.arr.2, ?_⟩
    have := run_loadCells_list (P := P) w ⟨b, off, none⟩ l' h3
    rw [← h2.1, h1] at this
    simp [loadVar, aggB_true ha, szB_run hs, this]
  · rename_i n ha hs
    split at hl
    · rename_i u q hq
      injection hl with hl; subst hl
      obtain ⟨h1, l', h2, h3, _⟩ := rd_ok h hq hr
      obtain ⟨v', q', rfl, g1, g2⟩ := h2.uncons
      have := h3 0 v' rfl
      rw [addr_add, Nat.add_zero] at this
      exact ⟨v', g1, by simp [loadVar, aggB_false ha, this]⟩
    · cases hl
  · cases hl
/-- what comes of an operation -/
def Upon (P : Program) (K : Value → World → Prop) : Result Go.Next → Prop
  | .ok (.value v) w => K v w
  | .ok .skip w => K undef w
  | .ok (.enter f args) w => ∀ n, CallsIn Fence.wide n P f args w fun e w' => ∃ v, e = .returned v ∧ K v w'
  | .ok (.round l f tmps asg body) w => ∀ n, RoundIn Fence.wide n P l f tmps asg body w fun e w' => ∃ v, e = .returned v ∧ K v w'
  | _ => False
def Res (P : Program) (B : Nat) (s s' : St) (r : Rn) (w : World) (v : Value) (v' : Value) (w' : World) : Prop := ∃ r', VR r' v v' ∧ Good P B s s' r r' w w'
theorem cells_or {cs cs' : List Value} {x : Nat} {t : TypeId} {r : Rn} (h : LR r cs cs') (h1 : ones cs = true) : OR P r x (.cells cs t false) (.cells cs'.toArray t (0, 0)) :=
  ⟨cs'.toArray, rfl, by simp [h.1], fun i v hv => let ⟨v', g1, g2⟩ := h.get hv; ⟨v', by simpa using g1, g2, ones_mem h1 v (List.mem_of_getElem? hv)⟩⟩
theorem newC_ok (h : Rel P B r s w) (hB : s'.next ≤ B) {cs cs' : List Value} {t : TypeId} {v : Value} (hn : newC s cs t = some (v, s')) (hc : LR r cs cs') : Res P B s s' r w v (.pointer (some ⟨w.heap.size, 0, none⟩)) (w.alloc (.cells cs'.toArray t)) := by
  unfold newC at hn
  cases h1 : ones cs with
  | false => rw [h1] at hn; cases hn
  | true =>
    rw [h1] at hn
    simp only [cond_true, Option.map_eq_some_iff] at hn
    obtain ⟨⟨k, s2⟩, hn, e⟩ := hn
    injection e with e1 e2
    have e2 : s2 = s' := e2
    subst e2; subst e1
    obtain ⟨_, hk, _⟩ := new_some hn
    have hup : ∀ i p, r i = some p → upd r k (w.heap.size, 0) i = some p := fun i p hi => by rw [upd_ne (by rintro rfl; rw [h.fresh hn hB] at hi; cases hi)]; exact hi
    exact ⟨_, .ptr (upd_self _ _ _), new_ok h hB hn (x := 0) (Push1.alloc w _) (cells_or (hc.mono hup) h1)⟩
theorem reps_mod (l : List Value) : ∀ (n i : Nat), i < n * l.length → (reps n l)[i]? = l[i % l.length]?
  | 0, i, h => by simp at h
  | n + 1, i, h => by
    simp only [reps]
    rw [List.getElem?_append]
    split
    · rename_i hi; rw [Nat.mod_eq_of_lt hi]
    · rename_i hi
      have hl : l.length ≤ i := by omega
      rw [reps_mod l n (i - l.length) (by rw [Nat.succ_mul] at h; omega)]
      congr 1
      rw [Nat.mod_eq_sub_mod hl]
theorem reps_len (l : List Value) : ∀ n, (reps n l).length = n * l.length
  | 0 => by simp [reps]
  | n + 1 => by simp only [reps, List.length_append, reps_len l n]; rw [Nat.succ_mul]; omega
theorem made_reps (z : Array Value) (n : Nat) : madeCells z (n * z.size) = (reps n z.toList).toArray := by
  apply Array.ext'
  apply List.ext_getElem?
  intro i
  by_cases hi : i < n * z.size
  · have hz : 0 < z.size := Nat.pos_of_ne_zero fun h => by rw [h] at hi; simp at hi
    have hm : i % z.size < z.size := Nat.mod_lt _ hz
    have := reps_mod z.toList n i (by simpa using hi)
    simp only [Array.length_toList] at this
    simp [madeCells, hi, this, hm]
  · have h1 : (reps n z.toList).length ≤ i := by rw [reps_len]; simp; omega
    simp [madeCells, hi, h1]
theorem reps_ones {l : List Value} (h : ones l = true) : ∀ n, ones (reps n l) = true
  | 0 => rfl
  | n + 1 => by
    have ap : ∀ (a b : List Value), ones a = true → ones b = true → ones (a ++ b) = true := by
      intro a b
      induction a with
      | nil => exact fun _ h => h
      | cons v a ih => intro h1 h2; simp only [List.cons_append, ones, Bool.and_eq_true] at h1 ⊢; exact ⟨h1.1, ih h1.2 h2⟩
    exact ap _ _ h (reps_ones h n)
theorem pls_app : ∀ (a b : List Value), pls a = true → pls b = true → pls (a ++ b) = true
  | [], b, _, h => h
  | v :: a, b, h1, h2 => by simp only [List.cons_append, pls, Bool.and_eq_true] at h1 ⊢; exact ⟨h1.1, pls_app a b h1.2 h2⟩
theorem reps_pls {l : List Value} (h : pls l = true) : ∀ n, pls (reps n l) = true
  | 0 => rfl
  | n + 1 => pls_app _ _ h (reps_pls h n)
theorem pl_cells {z : Value} (h : pl z = true) : pls z.cells.toList = true := by
  cases z <;> try (simp [Value.cells, pls, h]; done)
  rename_i c
  obtain ⟨c⟩ := c
  show pls c = true
  simpa [pl] using h
theorem blt_lt {a b : Nat} (h : Nat.blt a b = true) : a < b := by simp [Nat.blt] at h; omega
theorem nb {s s' : St} {f : Nat × St → Value × St} {q : Option (Nat × St)} {v : Value} (h : q.map f = some (v, s')) : ∃ k s1, q = some (k, s1) ∧ f (k, s1) = (v, s') := by
  simp only [Option.map_eq_some_iff] at h
  obtain ⟨⟨k, s1⟩, h1, h2⟩ := h
  exact ⟨k, s1, h1, h2⟩
theorem elemB_some {t e : TypeId} (h : elemB P t = some e) : P.underlying t = some (.slice e) := by
  unfold elemB at h
  split at h
  · rename_i u; injection h with h; subst h; exact u
  · cases h
theorem VR.mpv {r : Rn} {k b x : Nat} {v' : Value} (h : VR r (.map (some k)) v') (hr : r k = some (b, x)) : v' = .map (some b) := by
  cases h with
  | pln h => simp [pl] at h
  | mp h => rw [hr] at h; injection h with h; injection h with h _; subst h; rfl
theorem mfind_ok {r : Rn} {kd a : IntKind} {x : Int} : ∀ (es : List MapEntry) (es' : List MapEntry) (i : Nat) (q : Option Value), mfind (.int a x) es = some q → es'.length = es.length → (∀ (j : Nat) e, es[j]? = some e → ∃ e', es'[j]? = some e' ∧ e'.key = e.key ∧ VR r e.val e'.val) →
    (q = none → Instr.findNow (.int kd) (.int a x) es' i = some none) ∧ (∀ v, q = some v → ∃ j v', Instr.findNow (.int kd) (.int a x) es' i = some (some (j, v')) ∧ VR r v v')
  | [], es', i, q, h, hl, _ => by
    cases es' with
    | nil => simp [mfind] at h; subst h; exact ⟨fun _ => rfl, fun v hv => by cases hv⟩
    | cons e l => simp at hl
  | e :: es, es', i, q, h, hl, he => by
    cases es' with
    | nil => simp at hl
    | cons e' l =>
      obtain ⟨e2, g1, g2, g3⟩ := he 0 e rfl
      simp only [List.getElem?_cons_zero, Option.some.injEq] at g1
      subst g1
      have ih := mfind_ok (r := r) (kd := kd) (a := a) (x := x) es l (i + 1) q
      simp only [mfind] at h
      split at h
      · rename_i a2 x2 b2 y2 k1 k2
        injection k2 with k2 k3; subst k2; subst k3
        cases hd : decide (a2 = a) with
        | false => rw [hd] at h; cases h
        | true =>
          rw [hd] at h
          simp only [cond_true] at h
          have ha : a2 = a := by simpa using hd
          subst ha
          simp only [Instr.findNow, g2, k1, Instr.sameNow, if_true]
          cases hx : decide (x = x2) with
          | true =>
            rw [hx] at h
            injection h with h; subst h
            have hx : x = x2 := by simpa using hx
            subst hx
            simp only [beq_self_eq_true]
            exact ⟨fun h => (by cases h), fun v hv => (by injection hv with hv; subst hv; exact ⟨i, _, rfl, g3⟩)⟩
          | false =>
            rw [hx] at h
            have hx : ¬ x = x2 := by simpa using hx
            have : (x == x2) = false := by simpa using hx
            simp only [this]
            exact ih h (by simpa using hl) fun j e3 h3 => he (j + 1) e3 (by simpa using h3)
      · cases h
variable {ρ ρ' : Operand → Value} {o : Oper} {v : Value}
theorem fillP_ok {parts : Array (Nat × Operand)} {place : Nat → Option (Nat × Nat)} {c c' out : Array Value} (hp : ∀ p ∈ parts.toList, VR r (ρ p.2) (ρ' p.2)) (hc : AR r c c') (h : Instr.fill place c (parts.toList.map fun p => (p.1, ρ p.2)) = some out) :
    ∃ out', Instr.fill place c' (parts.toList.map fun p => (p.1, ρ' p.2)) = some out' ∧ AR r out out' :=
  fill_ok place _ _ c c' out (by simp) (fun i p p' e1 e2 => by
    simp only [List.getElem?_map, Option.map_eq_some_iff] at e1 e2
    obtain ⟨q, hq, rfl⟩ := e1
    obtain ⟨q', hq', rfl⟩ := e2
    rw [hq] at hq'; injection hq' with hq'; subst hq'
    exact hp q (List.mem_of_getElem? hq)) hc h
/-- The operations that look at memory, but calls. -/
theorem execH_ok {R : Rec} (h : Rel P B r s w) (hB : s'.next ≤ B) (he : execH P R ρ o s = some (v, s')) (hρ : ∀ x ∈ o.op.operands, VR r (ρ x) (ρ' x)) (hnc : ∀ c, o.op ≠ .call c) : Upon P (Res P B s s' r w v) ((execOp ρ' o).run P w) := by
  unfold execH at he
  split at he
  · rename_i e hop
    split at he
    · rename_i z hz
      obtain ⟨i, hi, hzz, hpz⟩ := zeroB_some hz
      have e1 : (execOp ρ' o).run P w = .ok (.value (.pointer (some ⟨w.heap.size, 0, none⟩))) (w.alloc (.cells z.cells e)) := by
        simp [execOp, hop, Instr.alloc, zeroValue, typeInfo, hi, hzz, newVar, newRow]
      rw [e1]
      exact newC_ok h hB he (cs' := z.cells.toList) (VR.pln hpz).cells
    · cases he
  · rename_i e x hop
    have e1 : (execOp ρ' o).run P w = .ok (.value (.pointer (some ⟨w.heap.size, 0, none⟩))) (w.alloc (.cells (ρ' x).cells e)) := by
      simp [execOp, hop, Instr.box, newVar, newRow]
    rw [e1]
    exact newC_ok h hB he (cs' := (ρ' x).cells.toList) (hρ x (by simp [hop, Op.operands])).cells
  · rename_i t len parts hop
    split at he
    · cases he
    · rename_i e hE
      have hu := elemB_some hE
      split at he
      · rename_i sz z hsz hz
        obtain ⟨i, hi, hzz, hpz⟩ := zeroB_some hz
        have hsi : i.size = sz := by unfold szB at hsz; rw [hi] at hsz; simpa using hsz
        cases hc : (Nat.beq sz 0 || Nat.blt 10000 (len * sz) || !(Nat.beq z.cells.size sz)) with
        | true => rw [hc] at he; cases he
        | false =>
          rw [hc] at he
          simp only [cond_false] at he
          simp only [Bool.or_eq_false_iff, Bool.not_eq_false'] at hc
          obtain ⟨⟨c1, c2⟩, c3⟩ := hc
          have c3 : z.cells.size = sz := Nat.eq_of_beq_eq_true c3
          have c1 : sz ≠ 0 := by rintro rfl; cases c1
          have c2 : len * sz ≤ 10000 := by
            rcases Nat.lt_or_ge 10000 (len * sz) with hh | hh
            · exfalso
              have : Nat.blt 10000 (len * sz) = true := by simp [Nat.blt]; omega
              rw [this] at c2; cases c2
            · exact hh
          split at he
          · cases he
          · rename_i cs hcs
            have hz0 : LR r (reps len z.cells.toList) (reps len z.cells.toList) := LR.plain (reps_pls (pl_cells hpz) len)
            obtain ⟨out', f1, f2⟩ := fillP_ok (r := r) (ρ' := ρ') (fun p hp => hρ p.2 (by simp only [hop, Op.operands, List.mem_toArray, List.mem_map]; exact ⟨p, hp, rfl⟩)) hz0.arr hcs
            cases h1 : ones cs.toList with
            | false => rw [h1] at he; cases he
            | true =>
              rw [h1] at he
              obtain ⟨k, s1, hn, e2⟩ := nb (s := s) he
              simp only [Prod.mk.injEq] at e2
              obtain ⟨e2, rfl⟩ := e2
              have hm : (Array.range (len * sz)).map (z.cells[· % z.cells.size]!) = (reps len z.cells.toList).toArray := by
                have := made_reps z.cells len
                rw [c3] at this
                unfold madeCells at this
                rw [← this, c3]
              have e1 : (execOp ρ' o).run P w = .ok (.value (.slice (some ⟨w.heap.size, 0, none⟩) len len)) (w.alloc (.cells out' e)) := by
                have hlim : ¬ (2 ^ 24 < len * sz) := by omega
                have hlim' : ¬ (16777216 < len * sz) := by omega
                by_cases h0 : len * sz = 0
                · have hl0 : len = 0 := by rcases Nat.mul_eq_zero.1 h0 with hh | hh; exact hh; exact absurd hh c1
                  subst hl0
                  have hr : (#[] : Array Value) = (reps 0 z.cells.toList).toArray := rfl
                  simp only [Nat.zero_mul] at hm
                  simp [execOp, hop, Instr.buildSlice, run_underlying hu, szB_run hsz, newRow]
                  simp only [reps] at f1
                  rw [show Array.map (fun _ : Nat => (default : Value)) (Array.range 0) = ([] : List Value).toArray from by simp [Array.range_zero'], f1]
                  simp
                · have hm' : Array.map (fun x => z.cells[x % sz]!) (Array.range (len * sz)) = (reps len z.cells.toList).toArray := by rw [← hm, c3]
                  simp [execOp, hop, Instr.buildSlice, run_underlying hu, szB_run hsz, newRow, hlim', h0, zeroValue, typeInfo, hi, hzz, c3, hm', f1]
              rw [e1, ← e2]
              obtain ⟨_, hk, _⟩ := new_some hn
              have hup : ∀ i p, r i = some p → upd r k (w.heap.size, 0) i = some p := fun i p hi => by rw [upd_ne (by rintro rfl; rw [h.fresh hn hB] at hi; cases hi)]; exact hi
              refine ⟨_, .sl (upd_self _ _ _), new_ok h hB hn (x := 0) (Push1.alloc w _) ?_⟩
              have := cells_or (P := P) (t := e) (x := 0) (f2.list.mono hup) h1
              simpa using this
      · cases he
  · rename_i t a hop
    split at he
    · rename_i k off hk
      simp only [Option.map_eq_some_iff, Prod.mk.injEq] at he
      obtain ⟨u, hl, rfl, rfl⟩ := he
      have ha := hρ a (by simp [hop, Op.operands])
      rw [hk] at ha
      obtain ⟨b, x, hr, e⟩ := ha.pt
      obtain ⟨v', g1, g2⟩ := ld_ok h hl hr
      have e1 : (execOp ρ' o).run P w = .ok (.value v') w := by simp [execOp, hop, e, Instr.loadAt, Instr.sureAddr, g2]
      rw [e1]
      exact ⟨r, g1, Good.refl h⟩
    · cases he
  · rename_i t a x hop
    split at he
    · rename_i k off n hk hsz
      cases hc : Nat.beq (ρ x).cells.size n with
      | false => rw [hc] at he; cases he
      | true =>
        rw [hc] at he
        simp only [cond_true, Option.map_eq_some_iff, Prod.mk.injEq] at he
        obtain ⟨s1, hl, rfl, rfl⟩ := he
        have hc := Nat.eq_of_beq_eq_true hc
        have ha := hρ a (by simp [hop, Op.operands])
        rw [hk] at ha
        obtain ⟨b, y, hr, e⟩ := ha.pt
        have hx := (hρ x (by simp [hop, Op.operands])).cells
        obtain ⟨cur, t', g1, g2, g3, _, g4⟩ := wr_ok h hl hr hx
        have hst := run_storeCells_at P b off t' (ρ' x).cells.toList 0 cur w g1 (by simpa using g2) g3
        have hn : (ρ' x).cells.size = n := by have := hx.1; simp at this; omega
        have e1 : (execOp ρ' o).run P w = .ok .skip (w.setRow b (cur.toList.take off ++ (ρ' x).cells.toList ++ cur.toList.drop (off + (ρ' x).cells.toList.length)).toArray) := by
          simp only [Nat.add_zero] at hst
          simp [execOp, hop, e, Instr.storeAt, Instr.sureAddr, storeVar, szB_run hsz, hn]
          rw [hst]
          simp [hn]
        rw [e1]
        exact ⟨r, VR.undef, g4⟩
    · cases he
  · rename_i t l c hop
    split at he
    · cases he
    · rename_i e hE
      have hu := elemB_some hE
      split at he
      · rename_i i z kl l' kc c' hi hz hl hc
        obtain ⟨i2, hi2, hzz, hpz⟩ := zeroB_some hz
        rw [hi] at hi2; injection hi2 with hi2; subst hi2
        cases hcc : (Nat.ble l' c' && Nat.ble (Nat.mul c' (Nat.add (Nat.add i.size i.bytes) 1)) 10000000 && Nat.beq z.cells.size i.size && ones z.cells.toList) with
        | false => rw [hcc] at he; cases he
        | true =>
          rw [hcc] at he
          simp only [cond_true] at he
          simp only [Bool.and_eq_true, Nat.ble_eq] at hcc
          obtain ⟨⟨⟨c1, c2⟩, c3⟩, c4⟩ := hcc
          have c3 := Nat.eq_of_beq_eq_true c3
          have c2 : c' * (i.size + i.bytes + 1) ≤ 10000000 := c2
          obtain ⟨k, s1, hn, e2⟩ := nb (s := s) he
          simp only [Prod.mk.injEq] at e2
          obtain ⟨e2, rfl⟩ := e2
          have hl' := hρ l (by simp [hop, Op.operands])
          have hc' := hρ c (by simp [hop, Op.operands])
          rw [hl] at hl'
          rw [hc] at hc'
          have hb : i.bytes * c' ≤ 10000000 := by
            have : c' * (i.size + i.bytes + 1) = c' * i.size + i.bytes * c' + c' := by rw [Nat.mul_add, Nat.mul_add, Nat.mul_comm c' i.bytes, Nat.mul_one]
            omega
          have hcb : c' ≤ 10000000 := by
            have : c' * (i.size + i.bytes + 1) = c' * i.size + i.bytes * c' + c' := by rw [Nat.mul_add, Nat.mul_add, Nat.mul_comm c' i.bytes, Nat.mul_one]
            omega
          have hmk := run_make (P := P) w t e i z hu hi hzz kl kc (l' : Int) (c' : Int) (by omega) (by omega) (by have : ((i.bytes * c' : Nat) : Int) ≤ 10000000 := (by omega); rw [Int.natCast_mul] at this; omega) (by omega)
          have e1 : (execOp ρ' o).run P w = .ok (.value (.slice (some ⟨w.heap.size, 0, none⟩) l' c')) (w.alloc (.cells (madeCells z.cells (c' * i.size)) e)) := by
            have q1 := hl'.int
            have q2 := hc'.int
            simp only [Int.ofNat_eq_natCast] at q1 q2
            simp only [execOp, hop, q1, q2]
            simp [hmk]
          rw [e1, ← e2]
          obtain ⟨_, hk, _⟩ := new_some hn
          refine ⟨_, .sl (upd_self _ _ _), new_ok h hB hn (x := 0) (Push1.alloc w _) ?_⟩
          have := cells_or (P := P) (t := e) (x := 0) (r := upd r k (w.heap.size, 0)) (LR.plain (reps_pls (pl_cells hpz) c')) (reps_ones c4 c')
          rw [← made_reps, c3] at this
          exact this
      · cases he
  · rename_i t hop
    obtain ⟨k, s1, hn, e2⟩ := nb (s := s) he
    simp only [Prod.mk.injEq] at e2
    obtain ⟨rfl, rfl⟩ := e2
    have e1 : (execOp ρ' o).run P w = .ok (.value (.map (some w.heap.size))) (w.alloc (.map #[] 0)) := by
      simp [execOp, hop, Instr.makeMap]
    rw [e1]
    exact ⟨_, .mp (upd_self _ _ _), new_ok h hB hn (x := 0) (Push1.alloc w _) ⟨#[], rfl, rfl, fun i e hi => by simp at hi⟩⟩
  · rename_i t m k y hop
    split at he
    · rename_i rr kt et hm hut
      split at he
      · rename_i kd a x es c hkt hk hg
        split at he
        · rename_i hf
          simp only [Option.map_eq_some_iff, Prod.mk.injEq] at he
          obtain ⟨s1, hl, rfl, rfl⟩ := he
          have hm' := hρ m (by simp [hop, Op.operands])
          have hk' := hρ k (by simp [hop, Op.operands])
          have hy' := hρ y (by simp [hop, Op.operands])
          rw [hm] at hm'
          rw [hk] at hk'
          obtain ⟨b, x0, o', hr, hw, es', rfl, g2, g3⟩ := h.obj _ _ hg
          have hmb : ρ' m = .map (some b) := hm'.mpv hr
          obtain ⟨f1, _⟩ := mfind_ok (r := r) (kd := kd) es es'.toList 0 none hf (by simpa using g2) (fun j e hj => by simpa using g3 j e hj)
          have hlt : b < w.heap.size := (Array.getElem?_eq_some_iff.1 hw).1
          have hck : (Instr.checkKey false 10000 kt (.int a x)).run P w = .ok () w := by
            show (Instr.checkKey false (9999 + 1) kt (.int a x)).run P w = _
            rw [Instr.checkKey]
            simp [run_underlying hkt]
          have e1 : (execOp ρ' o).run P w = .ok .skip { w with heap := w.heap.setIfInBounds b (.map (es'.push { key := .int a x, val := ρ' y, born := c }) (c + 1)) } := by
            simp [execOp, hop, hmb, hk'.int, Instr.mapUpdate, run_underlying hut, getObj, setObj, Sem.run, hw, hck, Instr.findKey, run_underlying hkt, f1 rfl]
          rw [e1]
          refine ⟨r, VR.undef, put_ok h hl hg hr (Set1.obj _ hlt) ⟨_, rfl, by simp [g2], fun i e hi => ?_⟩⟩
          rw [List.getElem?_append] at hi
          split at hi
          · rename_i hlt2
            obtain ⟨e', q1, q2, q3⟩ := g3 i e hi
            exact ⟨e', by rw [Array.getElem?_push, if_neg (by omega)]; exact q1, q2, q3⟩
          · rename_i hlt2
            have : i = es.length := by
              rcases Nat.lt_or_ge (i - es.length) 1 with hh | hh
              · omega
              · rw [List.getElem?_eq_none (by simpa using hh)] at hi; cases hi
            subst this
            simp at hi
            subst hi
            exact ⟨{ key := .int a x, val := ρ' y, born := c }, by rw [← g2]; simp, rfl, hy'⟩
        · cases he
      · cases he
    · cases he
  · rename_i t m k hop
    split at he
    · rename_i rr kt et hm hut
      split at he
      · rename_i kd a x es c hkt hk hg
        have hm' := hρ m (by simp [hop, Op.operands])
        have hk' := hρ k (by simp [hop, Op.operands])
        rw [hm] at hm'
        rw [hk] at hk'
        obtain ⟨b, x0, o', hr, hw, es', rfl, g2, g3⟩ := h.obj _ _ hg
        have hmb : ρ' m = .map (some b) := hm'.mpv hr
        have hck : ∀ em, (Instr.checkKey em 10000 kt (.int a x)).run P w = .ok () w := fun em => by
          show (Instr.checkKey em (9999 + 1) kt (.int a x)).run P w = _
          rw [Instr.checkKey]
          simp [run_underlying hkt]
        split at he
        · rename_i z hf hz
          injection he with he; injection he with e2 e3; subst e2; subst e3
          obtain ⟨i, hi, hzz, hpz⟩ := zeroB_some hz
          obtain ⟨f1, _⟩ := mfind_ok (r := r) (kd := kd) es es'.toList 0 none hf (by simpa using g2) (fun j e hj => by simpa using g3 j e hj)
          have e1 : (execOp ρ' o).run P w = .ok (.value (.tuple #[z, .bool false])) w := by
            simp [execOp, hop, hmb, hk'.int, Instr.lookup, run_underlying hut, getObj, Sem.run, hw, hck, Instr.findKey, run_underlying hkt, f1 rfl, zeroValue, typeInfo, hi, hzz]
          rw [e1]
          exact ⟨r, .pln (by simp [pl, pls, hpz]), Good.refl h⟩
        · rename_i u z hf hz
          injection he with he; injection he with e2 e3; subst e2; subst e3
          obtain ⟨_, f2⟩ := mfind_ok (r := r) (kd := kd) es es'.toList 0 (some u) hf (by simpa using g2) (fun j e hj => by simpa using g3 j e hj)
          obtain ⟨j, u', f3, f4⟩ := f2 u rfl
          have e1 : (execOp ρ' o).run P w = .ok (.value (.tuple #[u', .bool true])) w := by
            simp [execOp, hop, hmb, hk'.int, Instr.lookup, run_underlying hut, getObj, Sem.run, hw, hck, Instr.findKey, run_underlying hkt, f3]
          rw [e1]
          have := (LR.cons f4 (LR.cons (r := r) (.pln (v := .bool true) rfl) LR.nil)).arr
          exact ⟨r, .tu this.1 this.2, Good.refl h⟩
        · cases he
      · cases he
    · cases he
  · rename_i t x hop
    split at he
    · rename_i sx hx hu
      obtain ⟨k, s1, hn, e2⟩ := nb (s := s) he
      simp only [Prod.mk.injEq] at e2
      obtain ⟨rfl, rfl⟩ := e2
      have hx' := hρ x (by simp [hop, Op.operands])
      rw [hx] at hx'
      have e1 : (execOp ρ' o).run P w = .ok (.value (.pointer (some ⟨w.heap.size, 0, none⟩))) (w.alloc (.stringIter sx 0)) := by
        simp [execOp, hop, hx'.str, Instr.range, run_underlying hu]
      rw [e1]
      exact ⟨_, .ptr (upd_self _ _ _), new_ok h hB hn (x := 0) (Push1.alloc w _) rfl⟩
    · cases he
  · rename_i x hop
    split at he
    · rename_i k hk
      split at he
      · rename_i sx pos hg
        have hx' := hρ x (by simp [hop, Op.operands])
        rw [hk] at hx'
        obtain ⟨b, y, hr, e⟩ := hx'.pt
        obtain ⟨b', y', o', hr', hw, rfl⟩ := h.obj _ _ hg
        rw [hr] at hr'; injection hr' with hr'; injection hr' with hr' hr2; subst hr'; subst hr2
        have hlt : b < w.heap.size := (Array.getElem?_eq_some_iff.1 hw).1
        cases hc : Nat.blt pos sx.size with
        | true =>
          rw [hc] at he
          simp only [cond_true, Option.map_eq_some_iff, Prod.mk.injEq] at he
          obtain ⟨s1, hl, rfl, rfl⟩ := he
          have hp := blt_lt hc
          have e1 : (execOp ρ' o).run P w = .ok (.value (.tuple #[.bool true, .int .i64 pos, .int .i32 (Utf8.decode sx pos).1])) { w with heap := w.heap.setIfInBounds b (.stringIter sx (pos + (Utf8.decode sx pos).2)) } := by
            simp [execOp, hop, e, Instr.next, getObj, setObj, Sem.run, hw, hp, goInt]
          rw [e1]
          exact ⟨r, .pln rfl, put_ok h hl hg hr (Set1.obj _ hlt) rfl⟩
        | false =>
          rw [hc] at he
          injection he with he; injection he with e2 e3; subst e2; subst e3
          have hp : ¬ pos < sx.size := fun hh => by
            have : Nat.blt pos sx.size = true := by simp [Nat.blt]; omega
            rw [this] at hc; cases hc
          have e1 : (execOp ρ' o).run P w = .ok (.value (.tuple #[.bool false])) w := by
            simp [execOp, hop, e, Instr.next, getObj, Sem.run, hw, hp]
          rw [e1]
          exact ⟨r, .pln rfl, Good.refl h⟩
      · cases he
    · cases he
  · rename_i c hop; exact absurd hop (hnc c)
  · cases he
end
end Go.Proofs.YtbanjolokkghdaaGreatDoor
