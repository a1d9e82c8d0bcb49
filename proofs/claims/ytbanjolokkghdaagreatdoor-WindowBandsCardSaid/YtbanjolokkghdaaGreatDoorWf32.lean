/- For every row of points that comes in, and any bound: WindowBands returns true; the arguments read as before. Condition of the row: slide's numbers are laid as the program's text lays them; the card ties that to the text. -/
import Derived.Test.YtbanjolokkghdaaGreatDoorProg
import Derived.Test.YtbanjolokkghdaaGreatDoorCards
import Derived.Test.YtbanjolokkghdaaGreatDoorTie
import Derived.SevenTiedAt
import Derived.Test.YtbanjolokkghdaaGreatDoorWf31
set_option linter.unusedSimpArgs false
set_option linter.unusedVariables false
namespace Go.Proofs.YtbanjolokkghdaaGreatDoor
open Go.RowKit
set_option maxRecDepth 100000
/-- A call: the function, the arguments, the next number, what it reads of the memory, its value, what it makes, the next number behind it. -/
structure MCall where
  f : FuncId
  args : List Value
  next : Nat
  mi : Mem
  v : Value
  mo : Mem
  next' : Nat
noncomputable def addM : Mem → Tr AO → Tr AO
  | [], T => T
  | (k, cs, t, op) :: l, T => (addM l T).set 24 k (some (.cells cs t op))
/-- the memory that it reads, and nothing more; what is there may not be written -/
noncomputable def stM (d : AO) (M : Mem) (next : Nat) : St := ⟨(memT M).set 24 0 (some d), next, next, big, [], 3⟩
noncomputable def inB (s : St) : Mem → Bool
  | [] => true
  | (k, cs, t, op) :: l => (Nat.blt k s.next && Nat.blt 0 k) && ((match s.get k with | some (.cells cs' t' op') => eqWs cs' cs && (Nat.beq t' t && decide (op' = op)) | _ => false) && inB s l)
noncomputable def outB (s1 : St) (next : Nat) : Mem → Bool
  | [] => true
  | (k, cs, t, op) :: l => (Nat.ble next k && Nat.blt k s1.next) && ((match s1.T.get k with | some (.cells cs' t' op') => eqWs cs' cs && (Nat.beq t' t && decide (op' = op)) | _ => false) && outB s1 next l)
/-- block 0 holds these cells -/
noncomputable def doorB (dv : List Value) (s : St) : Bool := match s.get 0 with | some (.cells cs _ op) => eqWs cs dv && !op | _ => false
/-- a call is known by a run -/
noncomputable def subB (P : Program) (O : Orc) (dv : List Value) (t : TypeId) (c : MCall) : Bool := match (ev P O 1000000).call c.f c.args (stM (.cells dv t false) c.mi c.next) with
  | some (v, s1) => eqW v c.v && (Nat.beq s1.next c.next' && outB s1 c.next c.mo)
  | none => false
noncomputable def hitB (dv : List Value) (c : MCall) (f : FuncId) (args : List Value) (s : St) : Bool := Nat.beq c.f f && (Nat.beq c.next s.next && (eqWs args c.args && (Nat.beq s.ng 3 && (doorB dv s && inB s c.mi))))
noncomputable def orcM (dv : List Value) (O : Orc) : List MCall → Orc
  | [] => O
  | c :: l => fun f args s => bif hitB dv c f args s then some (c.v, { s with T := addM c.mo s.T, next := c.next' }) else orcM dv O l f args s
section
variable {P : Program} {B : Nat} {r : Rn} {s s1 : St} {w : World}
theorem addM_get : ∀ {M : Mem} {next : Nat} {T : Tr AO}, outB s1 next M = true → s1.next ≤ big → ∀ k, (addM M T).get k = T.get k ∨ (next ≤ k ∧ k < s1.next ∧ (addM M T).get k = s1.T.get k ∧ s1.T.get k ≠ none)
  | [], _, _, _, _, k => .inl rfl
  | (k0, cs, t, op) :: l, next, T, h, hb, k => by
    simp only [outB, Bool.and_eq_true] at h
    obtain ⟨h1, h2, h3⟩ := h
    have hlt := blt_lt h1.2
    have hge : next ≤ k0 := Nat.le_of_ble_eq_true h1.1
    have e : (addM ((k0, cs, t, op) :: l) T).get k = if k = k0 then some (.cells cs t op) else (addM l T).get k := Tr.get_set 24 _ k0 _ k (by unfold big at hb; omega)
    rw [e]
    by_cases hk : k = k0
    · subst hk
      rw [if_pos rfl]
      refine .inr ⟨hge, hlt, ?_⟩
      split at h2
      · rename_i cs' t' op' hq
        simp only [Bool.and_eq_true, decide_eq_true_eq] at h2
        rw [hq, eqWs_eq h2.1, Nat.eq_of_beq_eq_true h2.2.1, h2.2.2]
        exact ⟨rfl, by simp⟩
      · cases h2
    · rw [if_neg hk]
      exact addM_get h3 hb k
theorem inB_get : ∀ {M : Mem}, inB s M = true → s.next ≤ big → ∀ k o, (memT M).get k = some o → s.get k = some o ∧ k < s.next ∧ 0 < k
  | [], _, _, k, o, h => by cases h
  | (k0, cs, t, op) :: l, hm, hb, k, o, h => by
    simp only [inB, Bool.and_eq_true] at hm
    obtain ⟨h1, h2, h3⟩ := hm
    have hlt := blt_lt h1.1
    have hlt0 := blt_lt h1.2
    unfold memT at h
    rw [Tr.get_set 24 _ k0 _ k (by unfold big at hb; omega)] at h
    split at h
    · rename_i e
      subst e
      injection h with h
      split at h2
      · rename_i cs' t' op' hq
        simp only [Bool.and_eq_true, decide_eq_true_eq] at h2
        rw [hq, ← h, eqWs_eq h2.1, Nat.eq_of_beq_eq_true h2.2.1, h2.2.2]
        exact ⟨rfl, hlt, hlt0⟩
      · cases h2
    · exact inB_get h3 hb k o h
theorem door_at {dv : List Value} (h : doorB dv s = true) : ∃ t, s.get 0 = some (.cells dv t false) := by
  unfold doorB at h
  split at h
  · rename_i cs t op hq
    simp only [Bool.and_eq_true, Bool.not_eq_true'] at h
    exact ⟨t, by rw [hq, eqWs_eq h.1, h.2]⟩
  · cases h
theorem stM_rel {d : AO} {M : Mem} (h : Rel P B r s w) (hm : inB s M = true) (hd : s.get 0 = some d) (hng : s.ng = 3) : Rel P B r (stM d M s.next) w := by
  have hT : ∀ k, (stM d M s.next).T.get k = if k = 0 then some d else (memT M).get k := fun k => Tr.get_set 24 (memT M) 0 _ k (by decide)
  have hne0 : 0 < s.next := h.lt (by rw [hd]; simp)
  have hsub : ∀ k o, (stM d M s.next).T.get k = some o → s.get k = some o ∧ k < s.next := fun k o ho => by
    rw [hT k] at ho
    split at ho
    · rename_i e; subst e
      exact ⟨hd.trans ho, hne0⟩
    · have := inB_get hm h.nb k o ho
      exact ⟨this.1, this.2.1⟩
  have hne : ∀ k, (stM d M s.next).get k ≠ none → s.get k ≠ none := fun k hk => by
    cases e : (stM d M s.next).T.get k with
    | none => exact absurd e hk
    | some o => rw [(hsub k o e).1]; simp
  refine ⟨h.nb, h.le, h.dom, fun k o ho => h.obj k o (hsub k o ho).1, fun k k' b x x' h1 h2 h3 h4 => h.inj k k' b x x' (hne k h1) (hne k' h2) h3 h4, fun k hk => ?_, (fun k hk => by cases hk), fun g hg => h.gl g (by rw [hng]; exact hg), ?_⟩
  · cases e : (stM d M s.next).T.get k with
    | none => rfl
    | some o => exact absurd (hsub k o e).2 (Nat.not_lt.2 hk)
  · show 3 ≤ s.next
    have := h.gn; rw [hng] at this; exact this
theorem addM_st_get {M : Mem} {next : Nat} (ho : outB s1 next M = true) (hb : s1.next ≤ big) (hnx : next = s.next) (k : Nat) :
    ((k < s.next → (addM M s.T).get k = s.T.get k) ∧ (s.next ≤ k → s.T.get k = none → (addM M s.T).get k ≠ none → (addM M s.T).get k = s1.T.get k ∧ k < s1.next)) := by
  rcases addM_get (T := s.T) ho hb k with h | ⟨h1, h2, h3, h4⟩
  · exact ⟨fun _ => h, fun _ h0 hn => absurd (h.trans h0) hn⟩
  · exact ⟨fun hk => by omega, fun _ _ _ => ⟨h3, h2⟩⟩
theorem hit_good {c : MCall} {dv : List Value} {t : TypeId} {r' : Rn} {w' : World} (h : Rel P B r s w) (hB : c.next' ≤ B) (hnx : c.next = s.next) (hn1 : s1.next = c.next') (ho : outB s1 c.next c.mo = true)
    (g : Good P B (stM (.cells dv t false) c.mi s.next) s1 r r' w w') (hrM : Rel P B r (stM (.cells dv t false) c.mi s.next) w) : Good P B s { s with T := addM c.mo s.T, next := c.next' } r r' w w' := by
  have hb1 : s1.next ≤ big := g.rel.nb
  have hle : s.next ≤ c.next' := by rw [← hn1]; exact g.mono.next
  have hA := addM_st_get (s := s) ho hb1 hnx
  have hnw : ∀ k, k < s.next → ¬ wrt (stM (.cells dv t false) c.mi s.next) k := fun k hk hw => by
    rcases hw with h1 | h1
    · exact absurd hk (Nat.not_lt.2 h1)
    · have h1 : k = big := h1
      have := h.nb
      omega
  have hup : ∀ k p, r k = some p → r' k = some p := g.up hrM
  have hfr : ∀ b, b < w.heap.size → w'.heap[b]? = w.heap[b]? := fun b hb => g.ext.frame b hb fun k x hk hw _ => absurd hw (hnw k hk)
  have hrr : ∀ k, k < s.next ∨ c.next' ≤ k → r' k = r k := fun k hk => g.ext.rr k (by rw [hn1]; exact hk)
  have hhid : s1.hid = [] := g.mono.hid
  have hnewT : ∀ k, s.next ≤ k → (addM c.mo s.T).get k ≠ none → (addM c.mo s.T).get k = s1.T.get k ∧ k < s1.next := fun k hk hn => (hA k).2 hk (h.up k hk) hn
  have hg1 : ∀ k, s1.get k = s1.T.get k := fun k => by unfold St.get; rw [hhid]; rfl
  have hnew : ∀ k o, s.next ≤ k → ({ s with T := addM c.mo s.T, next := c.next' } : St).get k = some o → s1.get k = some o ∧ k < c.next' := fun k o hk hgk => by
    have hh : hidden s.hid k = false := by
      cases e : hidden s.hid k with
      | false => rfl
      | true => exact absurd (h.hlt k e) (Nat.not_lt.2 hk)
    unfold St.get at hgk
    rw [hh] at hgk
    have hgk : (addM c.mo s.T).get k = some o := hgk
    have := hnewT k hk (by rw [hgk]; simp)
    rw [hg1, ← this.1, ← hn1]
    exact ⟨hgk, this.2⟩
  have hold : ∀ k, k < s.next → ({ s with T := addM c.mo s.T, next := c.next' } : St).get k = s.get k := fun k hk => by
    unfold St.get
    show (bif hidden s.hid k then none else (addM c.mo s.T).get k) = _
    rw [(hA k).1 hk]
  have hblk : ∀ k b x, s.next ≤ k → s1.get k ≠ none → r' k = some (b, x) → w.heap.size ≤ b := fun k b x hk hn hr => by
    rcases g.ext.new k b x hk hn hr with h1 | ⟨k0, x0, h1, h2, _⟩
    · exact h1
    · exact absurd h2 (hnw k0 h1)
  have hlt : ∀ k b x, s.get k ≠ none → r k = some (b, x) → b < w.heap.size := fun k b x hn hr => by
    cases e : s.get k with
    | none => exact absurd e hn
    | some o =>
      obtain ⟨b', x', o', h1, h2, _⟩ := h.obj k o e
      rw [h1] at hr
      injection hr with hr; injection hr with e1 _
      rw [← e1]
      exact (Array.getElem?_eq_some_iff.1 h2).1
  refine ⟨⟨hle, rfl, rfl, rfl, fun k hk _ => (hA k).1 hk, fun k hk h0 => ((hA k).1 hk).trans h0, fun hu k hk => ?_, rfl⟩, ⟨hrr, g.ext.size, g.ext.os, g.ext.tape, g.ext.output, fun b hb _ => hfr b hb, fun k b x hk hn hr => ?_⟩, ⟨by rw [← hn1]; exact hb1, hB, fun k h1 h2 => g.rel.dom k (by rw [hn1]; exact h1) h2, fun k o hk => ?_, fun k k' b x x' h1 h2 h3 h4 => ?_, fun k hk => ?_, fun k hk => Nat.lt_of_lt_of_le (h.hlt k hk) hle, fun gg hg => ?_, Nat.le_trans h.gn hle⟩⟩
  · cases e : (addM c.mo s.T).get k with
    | none => first | exact e | rfl
    | some o =>
      have := hnewT k (Nat.le_trans hle hk) (by rw [e]; simp)
      rw [hn1] at this
      exact absurd this.2 (Nat.not_lt.2 hk)
  · cases e : ({ s with T := addM c.mo s.T, next := c.next' } : St).get k with
    | none => exact absurd e hn
    | some o => exact .inl (hblk k b x hk (by rw [(hnew k o hk e).1]; simp) hr)
  · rcases Nat.lt_or_ge k s.next with hk1 | hk1
    · rw [hold k hk1] at hk
      obtain ⟨b, x, o', h1, h2, h3⟩ := h.obj k o hk
      exact ⟨b, x, o', hup _ _ h1, by rw [hfr b (Array.getElem?_eq_some_iff.1 h2).1]; exact h2, h3.mono hup⟩
    · exact g.rel.obj k o (hnew k o hk1 hk).1
  · have hn1' : ∀ k, s.next ≤ k → ({ s with T := addM c.mo s.T, next := c.next' } : St).get k ≠ none → s1.get k ≠ none := fun k hk hn => by
      cases e : ({ s with T := addM c.mo s.T, next := c.next' } : St).get k with
      | none => exact absurd e hn
      | some o => rw [(hnew k o hk e).1]; simp
    rcases Nat.lt_or_ge k s.next with a1 | a1 <;> rcases Nat.lt_or_ge k' s.next with a2 | a2
    · rw [hold k a1] at h1; rw [hold k' a2] at h2
      rw [hrr k (.inl a1)] at h3; rw [hrr k' (.inl a2)] at h4
      exact h.inj k k' b x x' h1 h2 h3 h4
    · rw [hold k a1] at h1
      rw [hrr k (.inl a1)] at h3
      have b1 := hlt k b x h1 h3
      have b2 := hblk k' b x' a2 (hn1' k' a2 h2) h4
      omega
    · rw [hold k' a2] at h2
      rw [hrr k' (.inl a2)] at h4
      have b1 := hlt k' b x' h2 h4
      have b2 := hblk k b x a1 (hn1' k a1 h1) h3
      omega
    · exact g.rel.inj k k' b x x' (hn1' k a1 h1) (hn1' k' a2 h2) h3 h4
  · cases e : (addM c.mo s.T).get k with
    | none => first | exact e | rfl
    | some o =>
      have hk : c.next' ≤ k := hk
      have := hnewT k (Nat.le_trans hle hk) (by rw [e]; simp)
      rw [hn1] at this
      exact absurd this.2 (Nat.not_lt.2 hk)
  · have hg : gg < s.ng := hg
    exact hup _ _ (h.gl gg hg)
theorem hit_mb {O : Orc} (hO : OrcOk P O) (hfo : P.follows .mixedOrders = true) {dv : List Value} {c : MCall} (hc : ∀ t, subB P O dv t c = true) {f : FuncId} {args : List Value} (hh : hitB dv c f args s = true) : MB s { s with T := addM c.mo s.T, next := c.next' } := by
  unfold hitB at hh
  simp only [Bool.and_eq_true] at hh
  obtain ⟨h1, h2, h3, h4, h5, h6⟩ := hh
  have e2 := Nat.eq_of_beq_eq_true h2
  obtain ⟨t, ht⟩ := door_at h5
  have hs := hc t
  unfold subB at hs
  rw [e2] at hs
  split at hs
  · rename_i v s1 hcall
    simp only [Bool.and_eq_true] at hs
    obtain ⟨k1, k2, k3⟩ := hs
    have q2 := Nat.eq_of_beq_eq_true k2
    obtain ⟨hM, hK⟩ := ev_all (P := P) hO hfo 1000000
    have hmb := hM.call _ _ _ _ _ hcall
    intro hb
    have hm := hmb hb
    have hA := addM_st_get (s := s) k3 hm.2 rfl
    refine ⟨⟨by show s.next ≤ c.next'; rw [← q2]; exact hm.1.next, rfl, rfl, rfl, fun k hk _ => (hA k).1 hk, fun k hk h0 => ((hA k).1 hk).trans h0, fun hu k hk => ?_, rfl⟩, by show c.next' ≤ big; rw [← q2]; exact hm.2⟩
    cases e : (addM c.mo s.T).get k with
    | none => first | exact e | rfl
    | some o =>
      have hk : c.next' ≤ k := hk
      have hle : s.next ≤ c.next' := by rw [← q2]; exact hm.1.next
      have := (hA k).2 (Nat.le_trans hle hk) (hu k (Nat.le_trans hle hk)) (by rw [e]; simp)
      rw [q2] at this
      exact absurd this.2 (Nat.not_lt.2 hk)
  · cases hs
theorem hit_ok {O : Orc} (hO : OrcOk P O) (hfo : P.follows .mixedOrders = true) {dv : List Value} {c : MCall} (hc : ∀ t, subB P O dv t c = true) {f : FuncId} {args args' : List Value} (hh : hitB dv c f args s = true) (hr : Rel P B r s w) (hB : c.next' ≤ B) (ha : LR r args args') :
    Upon P (Res P B s { s with T := addM c.mo s.T, next := c.next' } r w c.v) ((callFunc f args'.toArray).run P w) := by
  unfold hitB at hh
  simp only [Bool.and_eq_true] at hh
  obtain ⟨h1, h2, h3, h4, h5, h6⟩ := hh
  have e1 := Nat.eq_of_beq_eq_true h1
  have e2 := Nat.eq_of_beq_eq_true h2
  have e3 := eqWs_eq h3
  have e4 := Nat.eq_of_beq_eq_true h4
  obtain ⟨t, ht⟩ := door_at h5
  have hs := hc t
  unfold subB at hs
  rw [e1, ← e3, e2] at hs
  split at hs
  · rename_i v s1 hcall
    simp only [Bool.and_eq_true] at hs
    obtain ⟨k1, k2, k3⟩ := hs
    have q1 := eqW_eq k1
    have q2 := Nat.eq_of_beq_eq_true k2
    have hrM := stM_rel (P := P) hr h6 ht e4
    obtain ⟨hM, hK⟩ := ev_all (P := P) hO hfo 1000000
    have hup := hK.call _ _ _ _ _ hcall B r w args' hrM (by rw [q2]; exact hB) ha
    refine hup.mono ?_
    rintro v' w' ⟨r', hv, hg⟩
    exact ⟨r', by rw [← q1]; exact hv, hit_good hr hB e2 q2 (by rw [e2]; exact k3) hg hrM⟩
  · cases hs
theorem orc_mem {O : Orc} (hO : OrcOk P O) (hfo : P.follows .mixedOrders = true) {dv : List Value} : ∀ {l : List MCall}, (∀ c ∈ l, ∃ O', OrcOk P O' ∧ ∀ t, subB P O' dv t c = true) → OrcOk P (orcM dv O l)
  | [], _ => hO
  | c :: l, h => by
    obtain ⟨O', hO', hc⟩ := h c (List.mem_cons_self ..)
    have ih := orc_mem hO hfo (dv := dv) (l := l) fun c' hc' => h c' (List.mem_cons_of_mem _ hc')
    refine ⟨fun f args s v s' hh => ?_, fun f args s v s' hh B r w args' hr hB ha => ?_⟩
    · unfold orcM at hh
      rcases bif_or hh with ⟨hq, hh⟩ | ⟨_, hh⟩
      · injection hh with hh; injection hh with _ e2
        rw [← e2]
        exact hit_mb hO' hfo hc hq
      · exact ih.mb _ _ _ _ _ hh
    · unfold orcM at hh
      rcases bif_or hh with ⟨hq, hh⟩ | ⟨_, hh⟩
      · injection hh with hh; injection hh with e1 e2
        subst e1; subst e2
        exact hit_ok hO' hfo hc hq hr hB ha
      · exact ih.ok _ _ _ _ _ hh B r w args' hr hB ha
end
end Go.Proofs.YtbanjolokkghdaaGreatDoor
namespace Go.Proofs.YtbanjolokkghdaaGreatDoor
open Go.RowKit
set_option maxRecDepth 1000000
def tw0 : List (List Value × Value) := [([.agg #[.int .i64 0, .int .i64 0]], .tuple #[.int .i64 0, .int .i64 0]),
  ([.agg #[.int .i64 1, .int .i64 1]], .tuple #[.int .i64 1, .int .i64 0]),
  ([.agg #[.int .i64 2, .int .i64 2]], .tuple #[.int .i64 2, .int .i64 0]),
  ([.agg #[.int .i64 3, .int .i64 3]], .tuple #[.int .i64 3, .int .i64 0])]
theorem tw0_ok : runL Tryz.prog 205 tw0 = true := by kernel_rfl
def tw1 : List (List Value × Value) := [([.agg #[.int .i64 0, .int .i64 0, .int .i64 0, .int .i64 1]], .int .i64 1),
  ([.agg #[.int .i64 1, .int .i64 0, .int .i64 0, .int .i64 1]], .int .i64 1),
  ([.agg #[.int .i64 2, .int .i64 0, .int .i64 0, .int .i64 1]], .int .i64 1),
  ([.agg #[.int .i64 3, .int .i64 0, .int .i64 0, .int .i64 1]], .int .i64 1),
  ([.agg #[.int .i64 0, .int .i64 0, .int .i64 1, .int .i64 1]], .int .i64 2)]
theorem tw1_ok : runL Tryz.prog 168 tw1 = true := by kernel_rfl
def tw2 : List (List Value × Value) := [([.agg #[.int .i64 0, .int .i64 0, .int .i64 0, .int .i64 1], .int .i64 0, .int .i64 0], .tuple #[.agg #[.int .i64 0, .int .i64 0], .int .i64 0]),
  ([.agg #[.int .i64 1, .int .i64 0, .int .i64 0, .int .i64 1], .int .i64 0, .int .i64 0], .tuple #[.agg #[.int .i64 1, .int .i64 1], .int .i64 0]),
  ([.agg #[.int .i64 2, .int .i64 0, .int .i64 0, .int .i64 1], .int .i64 0, .int .i64 0], .tuple #[.agg #[.int .i64 2, .int .i64 2], .int .i64 0]),
  ([.agg #[.int .i64 3, .int .i64 0, .int .i64 0, .int .i64 1], .int .i64 0, .int .i64 0], .tuple #[.agg #[.int .i64 3, .int .i64 3], .int .i64 0]),
  ([.agg #[.int .i64 0, .int .i64 0, .int .i64 1, .int .i64 1], .int .i64 0, .int .i64 3], .tuple #[.agg #[.int .i64 0, .int .i64 3], .int .i64 0])]
theorem tw2_ok : runL Tryz.prog 190 tw2 = true := by kernel_rfl
def tw3 : List (List Value × Value) := [([.agg #[.int .i64 0, .int .i64 0, .int .i64 0, .int .i64 1], .int .i64 0], .tuple #[.int .i64 0, .int .i64 0]),
  ([.agg #[.int .i64 1, .int .i64 0, .int .i64 0, .int .i64 1], .int .i64 0], .tuple #[.int .i64 1, .int .i64 0]),
  ([.agg #[.int .i64 2, .int .i64 0, .int .i64 0, .int .i64 1], .int .i64 0], .tuple #[.int .i64 2, .int .i64 0]),
  ([.agg #[.int .i64 3, .int .i64 0, .int .i64 0, .int .i64 1], .int .i64 0], .tuple #[.int .i64 3, .int .i64 0]),
  ([.agg #[.int .i64 0, .int .i64 0, .int .i64 1, .int .i64 1], .int .i64 0], .tuple #[.int .i64 0, .int .i64 0]),
  ([.agg #[.int .i64 0, .int .i64 0, .int .i64 1, .int .i64 1], .int .i64 1], .tuple #[.int .i64 1, .int .i64 0]),
  ([.agg #[.int .i64 0, .int .i64 0, .int .i64 1, .int .i64 1], .int .i64 2], .tuple #[.int .i64 2, .int .i64 0]),
  ([.agg #[.int .i64 0, .int .i64 0, .int .i64 1, .int .i64 1], .int .i64 3], .tuple #[.int .i64 3, .int .i64 0])]
theorem tw3_ok : runL Tryz.prog 200 tw3 = true := by kernel_rfl
def tw4 : List (List Value × Value) := [([.agg #[.int .i64 0, .int .i64 0, .int .i64 0]], .agg #[.int .i64 0, .int .i64 0])]
theorem tw4_ok : runL Tryz.prog 265 tw4 = true := by kernel_rfl
def tw5 : List (List Value × Value) := [([.agg #[.int .i64 1, .int .i64 1]], .tuple #[.agg #[.int .i64 1, .int .i64 1], .int .i64 0]),
  ([.agg #[.int .i64 2, .int .i64 2]], .tuple #[.agg #[.int .i64 1, .int .i64 1], .int .i64 0]),
  ([.agg #[.int .i64 3, .int .i64 3]], .tuple #[.agg #[.int .i64 1, .int .i64 1], .int .i64 0])]
theorem tw5_ok : runL Tryz.prog 274 tw5 = true := by kernel_rfl
def tw6 : List (List Value × Value) := [([.agg #[.int .i64 1, .int .i64 1], .agg #[.int .i64 0, .int .i64 0]], .tuple #[.int .i64 0, .bool false]),
  ([.agg #[.int .i64 1, .int .i64 1], .agg #[.int .i64 1, .int .i64 1]], .tuple #[.int .i64 0, .bool true])]
theorem tw6_ok : runL Tryz.prog 213 tw6 = true := by kernel_rfl
def tw7 : List (List Value × Value) := [([.agg #[.int .i64 1, .int .i64 1], .agg #[.int .i64 1, .int .i64 1]], .tuple #[.agg #[.int .i64 1, .int .i64 1], .int .i64 0])]
theorem tw7_ok : runL Tryz.prog 162 tw7 = true := by kernel_rfl
def tw8 : List (List Value × Value) := [([.int .i64 0, .agg #[.int .i64 1, .int .i64 1]], .tuple #[.agg #[.int .i64 0, .int .i64 0, .int .i64 1, .int .i64 1], .int .i64 0])]
theorem tw8_ok : runL Tryz.prog 209 tw8 = true := by kernel_rfl
def tw9 : List (List Value × Value) := [([.agg #[.int .i64 4611688217450643456, .int .i64 1], .agg #[.int .i64 (-4611688217450643456), .int .i64 1]], .bool false),
  ([.agg #[.int .i64 (-4611688217450643456), .int .i64 1], .agg #[.int .i64 1, .int .i64 1]], .bool true),
  ([.agg #[.int .i64 1, .int .i64 1], .agg #[.int .i64 4611688217450643456, .int .i64 1]], .bool true),
  ([.agg #[.int .i64 1, .int .i64 1], .agg #[.int .i64 1, .int .i64 1]], .bool false),
  ([.agg #[.int .i64 1, .int .i64 1], .agg #[.int .i64 2, .int .i64 2]], .bool false),
  ([.agg #[.int .i64 2, .int .i64 2], .agg #[.int .i64 1, .int .i64 1]], .bool false),
  ([.agg #[.int .i64 1, .int .i64 1], .agg #[.int .i64 3, .int .i64 3]], .bool false),
  ([.agg #[.int .i64 3, .int .i64 3], .agg #[.int .i64 1, .int .i64 1]], .bool false)]
theorem tw9_ok : runL Tryz.prog 249 tw9 = true := by kernel_rfl
def tw10 : List (List Value × Value) := [([.int .i64 0, .int .i64 1], .agg #[.int .i64 0, .int .u64 0]),
  ([.int .i64 1, .int .i64 0], .agg #[.int .i64 0, .int .u64 0]),
  ([.int .i64 1, .int .i64 1], .agg #[.int .i64 0, .int .u64 1]),
  ([.int .i64 2, .int .i64 1], .agg #[.int .i64 0, .int .u64 2]),
  ([.int .i64 1, .int .i64 2], .agg #[.int .i64 0, .int .u64 2]),
  ([.int .i64 3, .int .i64 1], .agg #[.int .i64 0, .int .u64 3]),
  ([.int .i64 1, .int .i64 3], .agg #[.int .i64 0, .int .u64 3])]
theorem tw10_ok : runL Tryz.prog 220 tw10 = true := by kernel_rfl
def tw11 : List (List Value × Value) := [([.agg #[.int .i64 0, .int .u64 0], .agg #[.int .i64 0, .int .u64 0]], .tuple #[.agg #[.int .i64 0, .int .u64 0], .int .i64 0]),
  ([.agg #[.int .i64 0, .int .u64 1], .agg #[.int .i64 0, .int .u64 1]], .tuple #[.agg #[.int .i64 0, .int .u64 0], .int .i64 0]),
  ([.agg #[.int .i64 0, .int .u64 2], .agg #[.int .i64 0, .int .u64 2]], .tuple #[.agg #[.int .i64 0, .int .u64 0], .int .i64 0]),
  ([.agg #[.int .i64 0, .int .u64 3], .agg #[.int .i64 0, .int .u64 3]], .tuple #[.agg #[.int .i64 0, .int .u64 0], .int .i64 0])]
theorem tw11_ok : runL Tryz.prog 219 tw11 = true := by kernel_rfl
def tw12 : List (List Value × Value) := [([.agg #[.int .i64 0, .int .u64 0], .agg #[.int .i64 1, .int .i64 1]], .tuple #[.agg #[.int .i64 0, .int .i64 0, .int .i64 1, .int .i64 1], .int .i64 0])]
theorem tw12_ok : runL Tryz.prog 163 tw12 = true := by kernel_rfl
def tw : List (Nat × List (List Value × Value)) := [(205, tw0), (168, tw1), (190, tw2), (200, tw3), (265, tw4), (274, tw5), (213, tw6), (162, tw7), (209, tw8), (249, tw9), (220, tw10), (219, tw11), (163, tw12)]
theorem tw_ok : ∀ q ∈ tw, runL Tryz.prog q.1 q.2 = true := by
  intro q hq
  simp only [tw, List.mem_cons, List.not_mem_nil, or_false] at hq
  rcases hq with rfl | rfl | rfl | rfl | rfl | rfl | rfl | rfl | rfl | rfl | rfl | rfl | rfl
  · exact tw0_ok
  · exact tw1_ok
  · exact tw2_ok
  · exact tw3_ok
  · exact tw4_ok
  · exact tw5_ok
  · exact tw6_ok
  · exact tw7_ok
  · exact tw8_ok
  · exact tw9_ok
  · exact tw10_ok
  · exact tw11_ok
  · exact tw12_ok
end Go.Proofs.YtbanjolokkghdaaGreatDoor
namespace Go.Proofs.YtbanjolokkghdaaGreatDoor
open Go.RowKit
set_option maxRecDepth 1000000
noncomputable def cwT : Orc := orcT (mkT tw) (orcR Tryz.prog 128)
theorem cwT_ok : OrcOk Tryz.prog cwT := orc_mkT orc_rises (by kernel_rfl) (by kernel_rfl) tw_ok
def cwc0 : MCall := ⟨53, [.slice (some ⟨3, 0, none⟩) 4 4, .int .i64 0, .int .i64 1], 8, [(3, [.int .i64 0, .int .i64 0, .int .i64 1, .int .i64 1, .int .i64 2, .int .i64 2, .int .i64 3, .int .i64 3], 56, false)], .slice (some ⟨527, 0, some 0⟩) 4 4, [(527, [.int .i64 1, .slice (some ⟨224, 0, some 0⟩) 1 1, .int .i64 0, .int .i64 0, .int .i64 0, .int .i64 1, .slice none 0 0, .int .i64 0, .int .i64 1, .slice (some ⟨312, 0, some 0⟩) 1 1, .int .i64 1, .int .i64 0, .int .i64 0, .int .i64 1, .slice none 0 0, .int .i64 0, .int .i64 1, .slice (some ⟨400, 0, some 0⟩) 1 1, .int .i64 2, .int .i64 0, .int .i64 0, .int .i64 1, .slice none 0 0, .int .i64 0, .int .i64 1, .slice (some ⟨488, 0, some 0⟩) 1 1, .int .i64 3, .int .i64 0, .int .i64 0, .int .i64 1, .slice none 0 0, .int .i64 0], 29, true), (224, [.int .i64 0, .int .i64 0, .int .i64 1], 94, true), (312, [.int .i64 1, .int .i64 0, .int .i64 1], 94, true), (400, [.int .i64 2, .int .i64 0, .int .i64 1], 94, true), (488, [.int .i64 3, .int .i64 0, .int .i64 1], 94, true)], 528⟩
theorem cwc0_ok (t : TypeId) : subB Tryz.prog cwT doorV t cwc0 = true := by kernel_rfl
def cwc1 : MCall := ⟨8, [.slice (some ⟨527, 0, some 0⟩) 4 4], 528, [(527, [.int .i64 1, .slice (some ⟨224, 0, some 0⟩) 1 1, .int .i64 0, .int .i64 0, .int .i64 0, .int .i64 1, .slice none 0 0, .int .i64 0, .int .i64 1, .slice (some ⟨312, 0, some 0⟩) 1 1, .int .i64 1, .int .i64 0, .int .i64 0, .int .i64 1, .slice none 0 0, .int .i64 0, .int .i64 1, .slice (some ⟨400, 0, some 0⟩) 1 1, .int .i64 2, .int .i64 0, .int .i64 0, .int .i64 1, .slice none 0 0, .int .i64 0, .int .i64 1, .slice (some ⟨488, 0, some 0⟩) 1 1, .int .i64 3, .int .i64 0, .int .i64 0, .int .i64 1, .slice none 0 0, .int .i64 0], 29, true), (224, [.int .i64 0, .int .i64 0, .int .i64 1], 94, true), (312, [.int .i64 1, .int .i64 0, .int .i64 1], 94, true), (400, [.int .i64 2, .int .i64 0, .int .i64 1], 94, true), (488, [.int .i64 3, .int .i64 0, .int .i64 1], 94, true)], .tuple #[.int .i64 24, .int .i64 0], [], 740⟩
theorem cwc1_ok (t : TypeId) : subB Tryz.prog cwT doorV t cwc1 = true := by kernel_rfl
def cwc2 : MCall := ⟨53, [.slice (some ⟨3, 0, none⟩) 4 4, .int .i64 0, .int .i64 2], 740, [(3, [.int .i64 0, .int .i64 0, .int .i64 1, .int .i64 1, .int .i64 2, .int .i64 2, .int .i64 3, .int .i64 3], 56, false)], .slice (some ⟨999, 0, some 0⟩) 1 1, [(999, [.int .i64 2, .slice (some ⟨930, 0, some 0⟩) 1 1, .int .i64 0, .int .i64 0, .int .i64 1, .int .i64 1, .slice none 0 0, .int .i64 0], 29, true), (930, [.int .i64 0, .int .i64 1, .int .i64 4], 94, true)], 1000⟩
theorem cwc2_ok (t : TypeId) : subB Tryz.prog cwT doorV t cwc2 = true := by kernel_rfl
def cwc3 : MCall := ⟨8, [.slice (some ⟨999, 0, some 0⟩) 1 1], 1000, [(999, [.int .i64 2, .slice (some ⟨930, 0, some 0⟩) 1 1, .int .i64 0, .int .i64 0, .int .i64 1, .int .i64 1, .slice none 0 0, .int .i64 0], 29, true), (930, [.int .i64 0, .int .i64 1, .int .i64 4], 94, true)], .tuple #[.int .i64 9, .int .i64 0], [], 1074⟩
theorem cwc3_ok (t : TypeId) : subB Tryz.prog cwT doorV t cwc3 = true := by kernel_rfl
def cwc4 : MCall := ⟨53, [.slice (some ⟨3, 0, none⟩) 4 4, .int .i64 0, .int .i64 3], 1074, [(3, [.int .i64 0, .int .i64 0, .int .i64 1, .int .i64 1, .int .i64 2, .int .i64 2, .int .i64 3, .int .i64 3], 56, false)], .slice (some ⟨1365, 0, some 0⟩) 1 1, [(1365, [.int .i64 2, .slice (some ⟨1296, 0, some 0⟩) 1 1, .int .i64 0, .int .i64 0, .int .i64 1, .int .i64 1, .slice none 0 0, .int .i64 0], 29, true), (1296, [.int .i64 0, .int .i64 1, .int .i64 4], 94, true)], 1366⟩
theorem cwc4_ok (t : TypeId) : subB Tryz.prog cwT doorV t cwc4 = true := by kernel_rfl
def cwc5 : MCall := ⟨8, [.slice (some ⟨1365, 0, some 0⟩) 1 1], 1366, [(1365, [.int .i64 2, .slice (some ⟨1296, 0, some 0⟩) 1 1, .int .i64 0, .int .i64 0, .int .i64 1, .int .i64 1, .slice none 0 0, .int .i64 0], 29, true), (1296, [.int .i64 0, .int .i64 1, .int .i64 4], 94, true)], .tuple #[.int .i64 9, .int .i64 0], [], 1440⟩
theorem cwc5_ok (t : TypeId) : subB Tryz.prog cwT doorV t cwc5 = true := by kernel_rfl
def cwc6 : MCall := ⟨53, [.slice (some ⟨3, 0, none⟩) 4 4, .int .i64 0, .int .i64 4], 1440, [(3, [.int .i64 0, .int .i64 0, .int .i64 1, .int .i64 1, .int .i64 2, .int .i64 2, .int .i64 3, .int .i64 3], 56, false)], .slice (some ⟨1520, 0, some 0⟩) 1 1, [(1520, [.int .i64 4, .slice (some ⟨1515, 0, some 0⟩) 1 1, .int .i64 0, .int .i64 0, .int .i64 0, .int .i64 0, .slice (some ⟨1517, 0, some 0⟩) 4 4, .int .i64 0], 29, true), (1515, [.int .i64 0, .int .i64 1, .int .i64 4], 94, true), (1517, [.int .i64 0, .int .i64 1, .int .i64 2, .int .i64 3], 2, true)], 1521⟩
theorem cwc6_ok (t : TypeId) : subB Tryz.prog cwT doorV t cwc6 = true := by kernel_rfl
def cwc7 : MCall := ⟨8, [.slice (some ⟨1520, 0, some 0⟩) 1 1], 1521, [(1520, [.int .i64 4, .slice (some ⟨1515, 0, some 0⟩) 1 1, .int .i64 0, .int .i64 0, .int .i64 0, .int .i64 0, .slice (some ⟨1517, 0, some 0⟩) 4 4, .int .i64 0], 29, true), (1515, [.int .i64 0, .int .i64 1, .int .i64 4], 94, true), (1517, [.int .i64 0, .int .i64 1, .int .i64 2, .int .i64 3], 2, true)], .tuple #[.int .i64 10, .int .i64 0], [], 1597⟩
theorem cwc7_ok (t : TypeId) : subB Tryz.prog cwT doorV t cwc7 = true := by kernel_rfl
def cwc8 : MCall := ⟨53, [.slice (some ⟨3, 0, none⟩) 4 4, .int .i64 0, .int .i64 1], 1601, [(3, [.int .i64 0, .int .i64 0, .int .i64 1, .int .i64 1, .int .i64 2, .int .i64 2, .int .i64 3, .int .i64 3], 56, false)], .slice (some ⟨2120, 0, some 0⟩) 4 4, [(2120, [.int .i64 1, .slice (some ⟨1817, 0, some 0⟩) 1 1, .int .i64 0, .int .i64 0, .int .i64 0, .int .i64 1, .slice none 0 0, .int .i64 0, .int .i64 1, .slice (some ⟨1905, 0, some 0⟩) 1 1, .int .i64 1, .int .i64 0, .int .i64 0, .int .i64 1, .slice none 0 0, .int .i64 0, .int .i64 1, .slice (some ⟨1993, 0, some 0⟩) 1 1, .int .i64 2, .int .i64 0, .int .i64 0, .int .i64 1, .slice none 0 0, .int .i64 0, .int .i64 1, .slice (some ⟨2081, 0, some 0⟩) 1 1, .int .i64 3, .int .i64 0, .int .i64 0, .int .i64 1, .slice none 0 0, .int .i64 0], 29, true), (1817, [.int .i64 0, .int .i64 0, .int .i64 1], 94, true), (1905, [.int .i64 1, .int .i64 0, .int .i64 1], 94, true), (1993, [.int .i64 2, .int .i64 0, .int .i64 1], 94, true), (2081, [.int .i64 3, .int .i64 0, .int .i64 1], 94, true)], 2121⟩
theorem cwc8_ok (t : TypeId) : subB Tryz.prog cwT doorV t cwc8 = true := by kernel_rfl
def cwc9 : MCall := ⟨53, [.slice (some ⟨3, 0, none⟩) 4 4, .int .i64 0, .int .i64 1], 2125, [(3, [.int .i64 0, .int .i64 0, .int .i64 1, .int .i64 1, .int .i64 2, .int .i64 2, .int .i64 3, .int .i64 3], 56, false)], .slice (some ⟨2644, 0, some 0⟩) 4 4, [(2644, [.int .i64 1, .slice (some ⟨2341, 0, some 0⟩) 1 1, .int .i64 0, .int .i64 0, .int .i64 0, .int .i64 1, .slice none 0 0, .int .i64 0, .int .i64 1, .slice (some ⟨2429, 0, some 0⟩) 1 1, .int .i64 1, .int .i64 0, .int .i64 0, .int .i64 1, .slice none 0 0, .int .i64 0, .int .i64 1, .slice (some ⟨2517, 0, some 0⟩) 1 1, .int .i64 2, .int .i64 0, .int .i64 0, .int .i64 1, .slice none 0 0, .int .i64 0, .int .i64 1, .slice (some ⟨2605, 0, some 0⟩) 1 1, .int .i64 3, .int .i64 0, .int .i64 0, .int .i64 1, .slice none 0 0, .int .i64 0], 29, true), (2341, [.int .i64 0, .int .i64 0, .int .i64 1], 94, true), (2429, [.int .i64 1, .int .i64 0, .int .i64 1], 94, true), (2517, [.int .i64 2, .int .i64 0, .int .i64 1], 94, true), (2605, [.int .i64 3, .int .i64 0, .int .i64 1], 94, true)], 2645⟩
theorem cwc9_ok (t : TypeId) : subB Tryz.prog cwT doorV t cwc9 = true := by kernel_rfl
def cwc10 : MCall := ⟨8, [.slice (some ⟨2644, 0, some 0⟩) 4 4], 2645, [(2644, [.int .i64 1, .slice (some ⟨2341, 0, some 0⟩) 1 1, .int .i64 0, .int .i64 0, .int .i64 0, .int .i64 1, .slice none 0 0, .int .i64 0, .int .i64 1, .slice (some ⟨2429, 0, some 0⟩) 1 1, .int .i64 1, .int .i64 0, .int .i64 0, .int .i64 1, .slice none 0 0, .int .i64 0, .int .i64 1, .slice (some ⟨2517, 0, some 0⟩) 1 1, .int .i64 2, .int .i64 0, .int .i64 0, .int .i64 1, .slice none 0 0, .int .i64 0, .int .i64 1, .slice (some ⟨2605, 0, some 0⟩) 1 1, .int .i64 3, .int .i64 0, .int .i64 0, .int .i64 1, .slice none 0 0, .int .i64 0], 29, true), (2341, [.int .i64 0, .int .i64 0, .int .i64 1], 94, true), (2429, [.int .i64 1, .int .i64 0, .int .i64 1], 94, true), (2517, [.int .i64 2, .int .i64 0, .int .i64 1], 94, true), (2605, [.int .i64 3, .int .i64 0, .int .i64 1], 94, true)], .tuple #[.int .i64 24, .int .i64 0], [], 2857⟩
theorem cwc10_ok (t : TypeId) : subB Tryz.prog cwT doorV t cwc10 = true := by kernel_rfl
def cwc11 : MCall := ⟨53, [.slice (some ⟨3, 0, none⟩) 4 4, .int .i64 0, .int .i64 2], 2857, [(3, [.int .i64 0, .int .i64 0, .int .i64 1, .int .i64 1, .int .i64 2, .int .i64 2, .int .i64 3, .int .i64 3], 56, false)], .slice (some ⟨3116, 0, some 0⟩) 1 1, [(3116, [.int .i64 2, .slice (some ⟨3047, 0, some 0⟩) 1 1, .int .i64 0, .int .i64 0, .int .i64 1, .int .i64 1, .slice none 0 0, .int .i64 0], 29, true), (3047, [.int .i64 0, .int .i64 1, .int .i64 4], 94, true)], 3117⟩
theorem cwc11_ok (t : TypeId) : subB Tryz.prog cwT doorV t cwc11 = true := by kernel_rfl
def cwc12 : MCall := ⟨8, [.slice (some ⟨3116, 0, some 0⟩) 1 1], 3117, [(3116, [.int .i64 2, .slice (some ⟨3047, 0, some 0⟩) 1 1, .int .i64 0, .int .i64 0, .int .i64 1, .int .i64 1, .slice none 0 0, .int .i64 0], 29, true), (3047, [.int .i64 0, .int .i64 1, .int .i64 4], 94, true)], .tuple #[.int .i64 9, .int .i64 0], [], 3191⟩
theorem cwc12_ok (t : TypeId) : subB Tryz.prog cwT doorV t cwc12 = true := by kernel_rfl
def cwc13 : MCall := ⟨53, [.slice (some ⟨3, 0, none⟩) 4 4, .int .i64 0, .int .i64 3], 3191, [(3, [.int .i64 0, .int .i64 0, .int .i64 1, .int .i64 1, .int .i64 2, .int .i64 2, .int .i64 3, .int .i64 3], 56, false)], .slice (some ⟨3482, 0, some 0⟩) 1 1, [(3482, [.int .i64 2, .slice (some ⟨3413, 0, some 0⟩) 1 1, .int .i64 0, .int .i64 0, .int .i64 1, .int .i64 1, .slice none 0 0, .int .i64 0], 29, true), (3413, [.int .i64 0, .int .i64 1, .int .i64 4], 94, true)], 3483⟩
theorem cwc13_ok (t : TypeId) : subB Tryz.prog cwT doorV t cwc13 = true := by kernel_rfl
def cwc14 : MCall := ⟨8, [.slice (some ⟨3482, 0, some 0⟩) 1 1], 3483, [(3482, [.int .i64 2, .slice (some ⟨3413, 0, some 0⟩) 1 1, .int .i64 0, .int .i64 0, .int .i64 1, .int .i64 1, .slice none 0 0, .int .i64 0], 29, true), (3413, [.int .i64 0, .int .i64 1, .int .i64 4], 94, true)], .tuple #[.int .i64 9, .int .i64 0], [], 3557⟩
theorem cwc14_ok (t : TypeId) : subB Tryz.prog cwT doorV t cwc14 = true := by kernel_rfl
def cwc15 : MCall := ⟨53, [.slice (some ⟨3, 0, none⟩) 4 4, .int .i64 0, .int .i64 4], 3557, [(3, [.int .i64 0, .int .i64 0, .int .i64 1, .int .i64 1, .int .i64 2, .int .i64 2, .int .i64 3, .int .i64 3], 56, false)], .slice (some ⟨3637, 0, some 0⟩) 1 1, [(3637, [.int .i64 4, .slice (some ⟨3632, 0, some 0⟩) 1 1, .int .i64 0, .int .i64 0, .int .i64 0, .int .i64 0, .slice (some ⟨3634, 0, some 0⟩) 4 4, .int .i64 0], 29, true), (3632, [.int .i64 0, .int .i64 1, .int .i64 4], 94, true), (3634, [.int .i64 0, .int .i64 1, .int .i64 2, .int .i64 3], 2, true)], 3638⟩
theorem cwc15_ok (t : TypeId) : subB Tryz.prog cwT doorV t cwc15 = true := by kernel_rfl
def cwc16 : MCall := ⟨8, [.slice (some ⟨3637, 0, some 0⟩) 1 1], 3638, [(3637, [.int .i64 4, .slice (some ⟨3632, 0, some 0⟩) 1 1, .int .i64 0, .int .i64 0, .int .i64 0, .int .i64 0, .slice (some ⟨3634, 0, some 0⟩) 4 4, .int .i64 0], 29, true), (3632, [.int .i64 0, .int .i64 1, .int .i64 4], 94, true), (3634, [.int .i64 0, .int .i64 1, .int .i64 2, .int .i64 3], 2, true)], .tuple #[.int .i64 10, .int .i64 0], [], 3714⟩
theorem cwc16_ok (t : TypeId) : subB Tryz.prog cwT doorV t cwc16 = true := by kernel_rfl
def cwL : List MCall := [cwc0, cwc1, cwc2, cwc3, cwc4, cwc5, cwc6, cwc7, cwc8, cwc9, cwc10, cwc11, cwc12, cwc13, cwc14, cwc15, cwc16]
noncomputable def cwO : Orc := orcM doorV cwT cwL
theorem cwO_ok : OrcOk Tryz.prog cwO := orc_mem cwT_ok (by kernel_rfl) fun c hc => by
  refine ⟨cwT, cwT_ok, ?_⟩
  simp only [cwL, List.mem_cons, List.not_mem_nil, or_false] at hc
  rcases hc with rfl | rfl | rfl | rfl | rfl | rfl | rfl | rfl | rfl | rfl | rfl | rfl | rfl | rfl | rfl | rfl | rfl
  · exact cwc0_ok
  · exact cwc1_ok
  · exact cwc2_ok
  · exact cwc3_ok
  · exact cwc4_ok
  · exact cwc5_ok
  · exact cwc6_ok
  · exact cwc7_ok
  · exact cwc8_ok
  · exact cwc9_ok
  · exact cwc10_ok
  · exact cwc11_ok
  · exact cwc12_ok
  · exact cwc13_ok
  · exact cwc14_ok
  · exact cwc15_ok
  · exact cwc16_ok
end Go.Proofs.YtbanjolokkghdaaGreatDoor
namespace Go.Proofs.YtbanjolokkghdaaGreatDoor
open Go.RowKit
set_option maxRecDepth 1000000
noncomputable def wk13O : Orc := cwO
theorem wk13O_ok : OrcOk Tryz.prog wk13O := cwO_ok
noncomputable def wk13c : Code := match Tryz.f6.body with | some c => c | none => .skip
def wk13v1 : List Value := [.bool false, .slice (some ⟨3, 0, none⟩) 4 4, .tuple #[], .tuple #[], .tuple #[], .tuple #[], .tuple #[], .tuple #[], .agg #[.int .i64 0, .int .i64 0], .agg #[.int .i64 1, .int .i64 1], .agg #[.int .i64 2, .int .i64 2], .agg #[.int .i64 3, .int .i64 3], .slice (some ⟨3, 0, none⟩) 4 4, .tuple #[], .tuple #[], .tuple #[], .tuple #[], .tuple #[], .tuple #[], .tuple #[], .tuple #[], .tuple #[], .tuple #[], .tuple #[], .tuple #[], .tuple #[], .tuple #[], .tuple #[], .tuple #[], .tuple #[], .tuple #[], .tuple #[], .tuple #[], .tuple #[], .tuple #[], .tuple #[], .tuple #[], .tuple #[], .tuple #[], .tuple #[], .tuple #[], .tuple #[], .tuple #[], .tuple #[], .tuple #[], .tuple #[], .tuple #[], .tuple #[], .tuple #[], .tuple #[], .tuple #[], .tuple #[], .tuple #[], .tuple #[], .tuple #[], .tuple #[], .tuple #[], .tuple #[], .tuple #[], .tuple #[]]
def wk13m1 : Mem := [(3, [.int .i64 0, .int .i64 0, .int .i64 1, .int .i64 1, .int .i64 2, .int .i64 2, .int .i64 3, .int .i64 3], 56, false)]
def wk13v2 : List Value := [.bool false, .slice (some ⟨3, 0, none⟩) 4 4, .int .i64 2, .int .i64 0, .tuple #[], .tuple #[], .tuple #[], .tuple #[], .agg #[.int .i64 0, .int .i64 0], .agg #[.int .i64 1, .int .i64 1], .agg #[.int .i64 2, .int .i64 2], .agg #[.int .i64 3, .int .i64 3], .slice (some ⟨3, 0, none⟩) 4 4, .tuple #[.int .i64 2, .int .i64 0], .slice (some ⟨3, 0, none⟩) 4 4, .tuple #[.int .i64 2, .int .i64 0], .int .i64 2, .int .i64 0, .tuple #[], .tuple #[], .tuple #[], .tuple #[], .tuple #[], .tuple #[], .tuple #[], .tuple #[], .tuple #[], .tuple #[], .tuple #[], .tuple #[], .tuple #[], .tuple #[], .tuple #[], .tuple #[], .tuple #[], .tuple #[], .tuple #[], .tuple #[], .tuple #[], .tuple #[], .tuple #[], .tuple #[], .tuple #[], .tuple #[], .tuple #[], .tuple #[], .tuple #[], .tuple #[], .tuple #[], .tuple #[], .tuple #[], .tuple #[], .tuple #[], .tuple #[], .tuple #[], .tuple #[], .tuple #[], .tuple #[], .tuple #[], .tuple #[]]
def wk13m2 : Mem := [(3, [.int .i64 0, .int .i64 0, .int .i64 1, .int .i64 1, .int .i64 2, .int .i64 2, .int .i64 3, .int .i64 3], 56, false)]
def wk13v3 : List Value := [.bool false, .slice (some ⟨3, 0, none⟩) 4 4, .int .i64 2, .int .i64 0, .slice (some ⟨2120, 0, some 0⟩) 4 4, .int .i64 0, .tuple #[], .tuple #[], .agg #[.int .i64 0, .int .i64 0], .agg #[.int .i64 1, .int .i64 1], .agg #[.int .i64 2, .int .i64 2], .agg #[.int .i64 3, .int .i64 3], .slice (some ⟨3, 0, none⟩) 4 4, .tuple #[.int .i64 2, .int .i64 0], .slice (some ⟨3, 0, none⟩) 4 4, .tuple #[.int .i64 2, .int .i64 0], .int .i64 2, .int .i64 0, .tuple #[.slice (some ⟨2120, 0, some 0⟩) 4 4, .int .i64 0], .slice (some ⟨3, 0, none⟩) 4 4, .tuple #[.slice (some ⟨2120, 0, some 0⟩) 4 4, .int .i64 0], .slice (some ⟨2120, 0, some 0⟩) 4 4, .int .i64 0, .tuple #[], .tuple #[], .tuple #[], .tuple #[], .tuple #[], .tuple #[], .tuple #[], .tuple #[], .tuple #[], .tuple #[], .tuple #[], .tuple #[], .tuple #[], .tuple #[], .tuple #[], .tuple #[], .tuple #[], .tuple #[], .tuple #[], .tuple #[], .tuple #[], .tuple #[], .tuple #[], .tuple #[], .tuple #[], .tuple #[], .tuple #[], .tuple #[], .tuple #[], .tuple #[], .tuple #[], .tuple #[], .tuple #[], .tuple #[], .tuple #[], .tuple #[], .tuple #[]]
def wk13m3 : Mem := [(3, [.int .i64 0, .int .i64 0, .int .i64 1, .int .i64 1, .int .i64 2, .int .i64 2, .int .i64 3, .int .i64 3], 56, false), (2120, [.int .i64 1, .slice (some ⟨1817, 0, some 0⟩) 1 1, .int .i64 0, .int .i64 0, .int .i64 0, .int .i64 1, .slice none 0 0, .int .i64 0, .int .i64 1, .slice (some ⟨1905, 0, some 0⟩) 1 1, .int .i64 1, .int .i64 0, .int .i64 0, .int .i64 1, .slice none 0 0, .int .i64 0, .int .i64 1, .slice (some ⟨1993, 0, some 0⟩) 1 1, .int .i64 2, .int .i64 0, .int .i64 0, .int .i64 1, .slice none 0 0, .int .i64 0, .int .i64 1, .slice (some ⟨2081, 0, some 0⟩) 1 1, .int .i64 3, .int .i64 0, .int .i64 0, .int .i64 1, .slice none 0 0, .int .i64 0], 29, true), (1817, [.int .i64 0, .int .i64 0, .int .i64 1], 94, true), (1905, [.int .i64 1, .int .i64 0, .int .i64 1], 94, true), (1993, [.int .i64 2, .int .i64 0, .int .i64 1], 94, true), (2081, [.int .i64 3, .int .i64 0, .int .i64 1], 94, true)]
theorem wk13_1 (t : TypeId) : pieceB Tryz.prog wk13O (hdC 2 wk13c) ⟨.nil, Tryz.f6.ntmps, [], none⟩ (sDoor t) wk13v1 wk13m1 4 = true := by kernel_rfl
theorem wk13_2 (t : TypeId) : pieceB Tryz.prog wk13O (hdC 1 (tlC 2 wk13c)) (frX wk13v1) (stX (.cells doorV t false) wk13m1 4) wk13v2 wk13m2 1597 = true := by kernel_rfl
theorem wk13_3 (t : TypeId) : pieceB Tryz.prog wk13O (hdC 1 (tlC 1 (tlC 2 wk13c))) (frX wk13v2) (stX (.cells doorV t false) wk13m2 1597) wk13v3 wk13m3 2121 = true := by kernel_rfl
theorem wk13_last (t : TypeId) : lastX Tryz.prog wk13O Tryz.f6 (tlC 1 (tlC 1 (tlC 2 wk13c))) (frX wk13v3) (stX (.cells doorV t false) wk13m3 2121) = true := by kernel_rfl
theorem wk13_goes (t : TypeId) : GoesT Tryz.prog (.cells doorV t false) Tryz.f6 wk13c ⟨.nil, Tryz.f6.ntmps, [], none⟩ (sDoor t) :=
  goes_cut wk13O_ok (by kernel_rfl) 2 rfl (wk13_1 t) (by kernel_rfl) (goes_cut wk13O_ok (by kernel_rfl) 1 rfl (wk13_2 t) (by kernel_rfl) (goes_cut wk13O_ok (by kernel_rfl) 1 rfl (wk13_3 t) (by kernel_rfl) (goes_last wk13O_ok (by kernel_rfl) rfl (wk13_last t))))
theorem wk13_w {w W : World} (h : laidMetH Tryz.prog laidL w) (hb : Below w.heap.size w W) : Calls Tryz.prog 6 #[] W fun e w' => e = .returned (.bool true) ∧ Below W.heap.size W w' := by
  obtain ⟨t, ht⟩ := door_cells h
  exact goes_call Tryz.func6 (c := wk13c) (by kernel_rfl) (by kernel_rfl) (wk13_goes t) (door_inv ((hb.block 0 (Array.getElem?_eq_some_iff.1 ht).1).trans ht))
end Go.Proofs.YtbanjolokkghdaaGreatDoor
namespace Go.Proofs.YtbanjolokkghdaaGreatDoor
open Go.RowKit
end Go.Proofs.YtbanjolokkghdaaGreatDoor
namespace Go.Proofs.YtbanjolokkghdaaGreatDoor
open Go.RowKit
/-- What own leaves of a series. -/
def ownSer (nm : ByteArray) (ep fl la sc : Int) (rows : List SegR) (pts : List (Int × Int)) : SerT := ⟨nm, ep, fl, la, sc, (rows.take (min rows.length 60)).map fun r => ownG r.s, pts.take (min pts.length 60)⟩
/-- A series that came in. -/
structure SerCame (w : World) (ps po : Option Addr) (cs co : Nat) (rows : List SegR) (pts : List (Int × Int)) : Prop where
  segs : SegsCame w ps rows
  opn : PtsIn w po pts
  nilS : ps = none → rows.length = 0 ∧ cs = 0
  nilO : po = none → pts.length = 0 ∧ co = 0
  capS : rows.length ≤ cs
  capO : pts.length ≤ co
theorem SerCame.below {w w' : World} {ps po : Option Addr} {cs co : Nat} {rows : List SegR} {pts : List (Int × Int)} (h : SerCame w ps po cs co rows pts) (hb : Below w.heap.size w w') : SerCame w' ps po cs co rows pts := ⟨h.segs.below hb, h.opn.below hb, h.nilS, h.nilO, h.capS, h.capO⟩
end Go.Proofs.YtbanjolokkghdaaGreatDoor
namespace Go.Proofs.YtbanjolokkghdaaGreatDoor
open Go.ChangeShapes Go.WideShapes Go.ChangeAt Go.RowKit Go.Deep
section
variable {H : Type} {enc : TypeId × Value → H} {w : World} {base : Nat} {spare : Nat → Bool} {held : Bool}
theorem Tryz.fieldsPoint : fieldsOf Tryz.prog 56 = #[(2, 0), (2, 1)] := by kernel_rfl
theorem open_pts {fuel : Nat} {cs : List Value} {x : DataW H × List MemPlace} (h : DataW.trod enc Tryz.prog w base spare held fuel 47 cs = some x) :
    ∃ (p : Option Addr) (l : List (Int × Int)) (cap : Nat), cs = [.slice p l.length cap] ∧ (p = none → l.length = 0 ∧ cap = 0) ∧ l.length ≤ cap ∧ PtsIn w p l := by
  obtain ⟨p, len, cap, rfl, hn, hl, hm, hi⟩ := open_rows (n := 2) (by kernel_rfl) Tryz.fieldsPoint rfl (by omega) (by kernel_rfl) (fun i hi => by
    match i, hi with
    | 0, _ => exact ⟨_, rfl, Tryz.isInt64⟩
    | 1, _ => exact ⟨_, rfl, Tryz.isInt64⟩) h
  obtain ⟨l, rfl, hq⟩ := list_of (Q := fun i (r : Int × Int) => ∃ b o, p = some ⟨b, o, none⟩ ∧ w.cell? ⟨b, o + i * 2, none⟩ = some (.int .i64 r.1) ∧ w.cell? ⟨b, o + i * 2 + 1, none⟩ = some (.int .i64 r.2)) len (fun i hilt => by
    obtain ⟨b, o, e, hj⟩ := hi i hilt
    obtain ⟨f, f1, f2⟩ := hj 0 (by omega)
    obtain ⟨s, s1, s2⟩ := hj 1 (by omega)
    exact ⟨(f, s), b, o, e, by simpa using f1, s1⟩)
  exact ⟨p, l, cap, rfl, hn, hl, ⟨fun i r hr => hq i r hr⟩⟩
end
end Go.Proofs.YtbanjolokkghdaaGreatDoor
namespace Go.Proofs.YtbanjolokkghdaaGreatDoor
open Go.ChangeShapes Go.WideShapes Go.ChangeAt Go.RowKit Go.Deep
section
variable {H : Type} {enc : TypeId × Value → H} {w : World} {base : Nat} {spare : Nat → Bool} {held : Bool}
set_option maxRecDepth 100000 in
theorem open_pts13 {r : Reach} {b0 : Nat} {v : Value} {d : DataW H} {ps : List MemPlace} (hv : Value.okWide Tryz.prog w r b0 47 v) (h : DataW.Trod enc Tryz.prog w base spare held 47 v d ps) :
    ∃ (p : Option Addr) (l : List (Int × Int)) (cap : Nat), v = .slice p l.length cap ∧ (p = none → l.length = 0 ∧ cap = 0) ∧ l.length ≤ cap ∧ PtsIn w p l := by
  have hu : Tryz.prog.underlying 47 = some (.slice 56) := by kernel_rfl
  obtain ⟨a, len, cap, rfl⟩ := okWide_slice hu hv
  obtain ⟨fuel, hf⟩ := h
  obtain ⟨q, pts, co, e, s1, s2, s3⟩ := open_pts hf
  refine ⟨q, pts, co, ?_, s1, s2, s3⟩
  simpa [Value.cells] using e
end
set_option maxRecDepth 100000 in
theorem c_wbands (p : Option Addr) (cap : Nat) (X : List (Int × Int)) (eps : Int) (w : World) (hin : PtsIn w p X) (hnil : p = none → X.length = 0 ∧ cap = 0) (hc : X.length ≤ cap)
    (c1 : ∀ W, Below w.heap.size w W → Calls Tryz.prog 6 #[] W fun e w' => e = .returned (.bool true) ∧ Below W.heap.size W w') :
    Calls Tryz.prog 5 #[.slice p X.length cap, .int .i64 eps] w fun e w' => e = .returned (.bool true) ∧ Below w.heap.size w w' := by
  have c2 := fun W (hW : Below w.heap.size w W) => c_own13 p cap X W (hin.below hW) hnil hc
  obtain ⟨l, hl⟩ : ∃ l, X.take 40 = l := ⟨_, rfl⟩
  have h40 : l.length ≤ 40 := by rw [← hl, List.length_take]; omega
  rw [hl] at c2
  have c3 := fun W g c (h : PtsIn W (some ⟨g, 0, none⟩) l) => c_wnCheck (some ⟨g, 0, none⟩) c l W h (by omega)
  have c4 := fun W g c (h : PtsIn W (some ⟨g, 0, none⟩) l) => c_r13Right (some ⟨g, 0, none⟩) c l W h (by omega)
  have c5 := fun W g c (h : PtsIn W (some ⟨g, 0, none⟩) l) => c_wnBands (some ⟨g, 0, none⟩) c l eps W h (by omega)
  have c6 := fun W g c (h : PtsIn W (some ⟨g, 0, none⟩) l) => c_why (some ⟨g, 0, none⟩) c l eps W h (by omega)
  by_cases h0 : bothE l eps = 0
  · have hb : winB l = true := by
      cases hb : winB l with
      | true => rfl
      | false => unfold bothE at h0; rw [hb] at h0; cases h0
    have hv := valOk h0
    simp only [hb, if_true] at c3 c4
    rw [h0] at c5 c6
    exact wbands_yes p X.length cap l eps 0 w (Lib.hid c1) (Lib.hid c2) (Lib.hid c3) (Lib.hid c4) (Lib.hid c5) (Lib.hid c6) (Lib.hid fun W g c h => c_r13Bands (some ⟨g, 0, none⟩) c l eps W h (by omega) hv)
      (Lib.hid fun W p c p' c' h h' => by
        have hbl : (bndL eps l).length = l.length := by unfold bndL; rw [List.length_map]
        have t := c_eqBnd p c p' c' (bndL eps l) W (by omega) h h'
        rw [hbl] at t
        exact t)
      (Lib.hid fun W g c g' c' h h' => (c_eqPtsG (some ⟨g, 0, none⟩) c (some ⟨g', 0, none⟩) c' l l W (by omega) h h').mono fun e w' ⟨h1, h2⟩ => ⟨by rw [h1]; simp, h2⟩)
  · have hne : (bothE l eps != 0) = true := by simpa using h0
    cases hb : winB l with
    | true =>
      simp only [hb, if_true] at c3 c4
      exact wbands_no p X.length cap l eps (bothE l eps) w h0 hne (Lib.hid c1) (Lib.hid c2) (Lib.hid c3) (Lib.hid c4) (Lib.hid c5) (Lib.hid c6)
    | false =>
      simp only [hb, Bool.false_eq_true, if_false] at c3 c4
      exact wbands_bad p X.length cap l eps (bothE l eps) w h0 hne (Lib.hid c1) (Lib.hid c2) (Lib.hid c3) (Lib.hid c4) (Lib.hid c5) (Lib.hid c6)
set_option maxRecDepth 100000 in
theorem wbands_lifted (os : Os) (started : os.Started) (H : Type) (enc : TypeId × Value → H) :
    ReturnsInHanded {} Tryz.checked os 5 .any (fun w args => (Rows.windowBandsSpec.pre enc Tryz.prog Tryz.f5 Rows.windowBandsRow.domain false w args ∧ laidMetH Tryz.prog laidL w) ∧ sizedMet enc Tryz.prog Tryz.f5 (OpenSpec.ofChange Rows.windowBandsSpec) false w args)
      (Rows.windowBandsSpec.post enc Tryz.prog Tryz.f5 false true false false) := by
  refine returnsInHanded_of_change_and (C := Tryz.checked) (X := fun w _ => laidMetH Tryz.prog laidL w) (fun _ _ _ hh h => h.of_heap hh) Tryz.ownKnob started (by kernel_rfl) Tryz.func5
    (ChangeSpec.witness_shaped (enc := enc) (C := Tryz.checked) (os := os) (X := fun w _ => laidMetH Tryz.prog laidL w) false (World.laidAll Tryz.prog os laidL) #[.slice none 0 0, .int .i64 0] 8 (World.laidAll_os _ _ _)
      (World.shaped_of_ZipB (by kernel_rfl) (by kernel_rfl)) (by kernel_rfl) (by kernel_rfl) (by kernel_rfl)
      (by rw [MakeChecks.laidMetH_plain _ _ _ (by kernel_rfl)]; exact laidMet_laidAll _ (by kernel_rfl) (by kernel_rfl))) ?_
  intro W base args ds gs before hval0 hW hcnd _ hL _
  have hval : ∀ (j : Nat) t v, Tryz.f5.params[j]? = some t → args[j]? = some v → Value.okWide Tryz.prog W .any base t v := hval0
  have hW' := hW
  obtain ⟨p, q, hA0, hV, rfl, hfz, hnd⟩ := hW
  have hA : DataW.TrodAll enc Tryz.prog W 0 (fun _ => true) true Tryz.f5.params.toList args.toList ds p := hA0
  rw [Tryz.params5] at hA hval
  obtain ⟨v0, vs0, d0, ds0, p0, q0, hargs, rfl, rfl, h0, hA⟩ := trodAll_cons hA
  obtain ⟨v1, vs1, d1, ds1, p1, q1, rfl, rfl, rfl, h1, hA⟩ := trodAll_cons hA
  obtain ⟨rfl, rfl, rfl⟩ := trodAll_nil hA
  obtain rfl : args = #[v0, v1] := by rw [← Array.toList_inj, hargs]
  obtain ⟨rfl, rfl⟩ := trodVars_none hV
  obtain ⟨p', X, co, rfl, s1, s2, s3⟩ := open_pts13 (hval 0 _ v0 rfl rfl) h0
  obtain ⟨a, rfl, rfl, rfl, wa⟩ := open_int Tryz.isInt64.1 (hval 1 _ v1 rfl rfl) h1
  clear hA0 hval0
  refine (c_wbands p' co X a W s3 s1 s2 fun W' hb => wk13_w hL hb).mono fun e W' ⟨he, hb⟩ => ?_
  subst he
  exact ⟨_, rfl, law_post Tryz.laidOut (pars_ok (by kernel_rfl)) rfl (by kernel_rfl) rfl hW' hb rfl⟩
theorem wb_in : Tryz.prog.inPlace 5 = Rows.windowBandsRow.inPlace := by kernel_rfl
theorem wb_unf : Tryz.prog.unfollowed 5 = true := by kernel_rfl
theorem wb_rec : Tryz.prog.recurses 5 = true := by kernel_rfl
theorem wb_named : Tryz.prog.varsNamed 5 = Rows.windowBandsRow.named := by kernel_rfl
theorem wb_heard : Tryz.prog.stopsHeard = true := by kernel_rfl
theorem wb_may : Tryz.prog.mayEnter = true := by kernel_rfl
theorem wb_lift : (Rows.windowBandsRow.lifted == Tryz.prog.liftsFinal) = true := by kernel_rfl
theorem wb_make : (Tryz.prog.make == some Rows.windowBandsRow.make) = true := by kernel_rfl
theorem wb_keys : (Rows.windowBandsRow.plainKeys == Tryz.prog.plainKeys) = true := by kernel_rfl
theorem wb_looks : false = Tryz.prog.looks [] := by kernel_rfl
theorem wb_goes : false = Rows.windowBandsRow.goesBy Tryz.prog := by kernel_rfl
theorem wb_main : Tryz.prog.mainIs = some (Rows.windowBandsCard.stood.harness.1, Rows.windowBandsCard.stood.harness.2.toList) := by kernel_rfl
theorem wb_stand : ([47, 2].all fun u => !Tryz.prog.wantsStandIn u) = true := by kernel_rfl
theorem wb_closed : joinedFacts Tryz.prog 5 Tryz.f5 Rows.windowBandsSpec Rows.windowBandsRow = true := by
  unfold joinedFacts
  rw [wb_in, wb_unf, wb_rec, wb_named, wb_heard, wb_may, wb_lift, wb_make, wb_keys, Tryz.laidOut]
  kernel_rfl
theorem wbands_row : Rows.WindowBandsSaid :=
  OpenClaim.holds_of_wide 5 Tryz.f5 rfl rfl rfl rfl rfl rfl rfl ⟨rfl, rfl, rfl, rfl, rfl⟩ rfl rfl rfl rfl rfl (by kernel_rfl) Tryz.func5 wb_closed
    (of_decide_eq_true (by kernel_rfl)) (by unfold Func.isWrapper; first | (rw [if_pos (by decide +kernel)]; kernel_rfl) | (rw [if_neg (by decide +kernel)]; exact ⟨rfl, rfl⟩))
    (fun os started H enc _ => wbands_lifted os started H enc)
theorem windowBands_holds : Rows.WindowBandsCardSaid :=
  Claim7.holds_tied_plain_at .later [] [.data] true Rows.windowBandsCard.stood.harness false wbands_row (fun _ h => by cases h) (by kernel_rfl) (fun _ h => by cases h) windowBands_row_tie rfl ⟨rfl, rfl⟩ wb_main rfl
    (fun f fn hf hfn => by
      obtain rfl : f = 5 := Option.some.inj ((show Tryz.prog.funcNamed "yearbook/yearbooklaw13.WindowBands" = some 5 by kernel_rfl).symm.trans hf) |>.symm
      obtain rfl : fn = Tryz.f5 := (Option.some.inj (Tryz.func5.symm.trans hfn)).symm
      exact ⟨wb_looks, fun j t ht => by
        rw [Tryz.params5] at ht
        have hm : t ∈ [47, 2] := by
          have h2 := Array.mem_of_getElem? ht
          simp at h2
          simp [h2]
        exact (show Tryz.prog.wantsStandIn t = false by simpa using List.all_eq_true.1 wb_stand t hm)⟩)
    wb_goes
#print axioms windowBands_holds
end Go.Proofs.YtbanjolokkghdaaGreatDoor
