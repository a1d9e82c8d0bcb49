/- Parts of the proof that follows: Calls that read memory and make memory, each known by a run on what it reads: an Orc. No condition. | Calls with plain arguments that the chapter's closed code comes to, each known by a run. No condition. -/
import Derived.Test.YtbanjolokkghdaaGreatDoorProg
import Derived.Test.YtbanjolokkghdaaGreatDoorMz34
set_option maxRecDepth 100000
set_option maxHeartbeats 8000000
set_option linter.unusedSimpArgs false
set_option linter.unusedVariables false
namespace Go.Proofs.YtbanjolokkghdaaGreatDoor
open Go.RowKit
set_option maxRecDepth 100000
/-- A call: the function, the arguments, the next number, what it reads of the memory, its value, what it makes, the next number behind it. -/
structure MCall where
  f : FuncId
  args : List Value
  next : Nat
  mi : Mem
  v : Value
  mo : Mem
  next' : Nat
noncomputable def addM : Mem → Tr AO → Tr AO
  | [], T => T
  | (k, cs, t, op) :: l, T => (addM l T).set 24 k (some (.cells cs t op))
/-- the memory that it reads, and nothing more; what is there may not be written -/
noncomputable def stM (d : AO) (M : Mem) (next : Nat) : St := ⟨(memT M).set 24 0 (some d), next, next, big, [], 3⟩
noncomputable def inB (s : St) : Mem → Bool
  | [] => true
  | (k, cs, t, op) :: l => (Nat.blt k s.next && Nat.blt 0 k) && ((match s.get k with | some (.cells cs' t' op') => eqWs cs' cs && (Nat.beq t' t && decide (op' = op)) | _ => false) && inB s l)
noncomputable def outB (s1 : St) (next : Nat) : Mem → Bool
  | [] => true
  | (k, cs, t, op) :: l => (Nat.ble next k && Nat.blt k s1.next) && ((match s1.T.get k with | some (.cells cs' t' op') => eqWs cs' cs && (Nat.beq t' t && decide (op' = op)) | _ => false) && outB s1 next l)
/-- block 0 holds these cells -/
noncomputable def doorB (dv : List Value) (s : St) : Bool := match s.get 0 with | some (.cells cs _ op) => eqWs cs dv && !op | _ => false
/-- a call is known by a run -/
noncomputable def subB (P : Program) (O : Orc) (dv : List Value) (t : TypeId) (c : MCall) : Bool := match (ev P O 1000000).call c.f c.args (stM (.cells dv t false) c.mi c.next) with
  | some (v, s1) => eqW v c.v && (Nat.beq s1.next c.next' && outB s1 c.next c.mo)
  | none => false
noncomputable def hitB (dv : List Value) (c : MCall) (f : FuncId) (args : List Value) (s : St) : Bool := Nat.beq c.f f && (Nat.beq c.next s.next && (eqWs args c.args && (Nat.beq s.ng 3 && (doorB dv s && inB s c.mi))))
noncomputable def orcM (dv : List Value) (O : Orc) : List MCall → Orc
  | [] => O
  | c :: l => fun f args s => bif hitB dv c f args s then some (c.v, { s with T := addM c.mo s.T, next := c.next' }) else orcM dv O l f args s
section
variable {P : Program} {B : Nat} {r : Rn} {s s1 : St} {w : World}
theorem addM_get : ∀ {M : Mem} {next : Nat} {T : Tr AO}, outB s1 next M = true → s1.next ≤ big → ∀ k, (addM M T).get k = T.get k ∨ (next ≤ k ∧ k < s1.next ∧ (addM M T).get k = s1.T.get k ∧ s1.T.get k ≠ none)
  | [], _, _, _, _, k => .inl rfl
  | (k0, cs, t, op) :: l, next, T, h, hb, k => by
    simp only [outB, Bool.and_eq_true] at h
    obtain ⟨h1, h2, h3⟩ := h
    have hlt := blt_lt h1.2
    have hge : next ≤ k0 := Nat.le_of_ble_eq_true h1.1
    have e : (addM ((k0, cs, t, op) :: l) T).get k = if k = k0 then some (.cells cs t op) else (addM l T).get k := Tr.get_set 24 _ k0 _ k (by unfold big at hb; omega)
    rw [e]
    by_cases hk : k = k0
    · subst hk
      rw [if_pos rfl]
      refine .inr ⟨hge, hlt, ?_⟩
      split at h2
      · rename_i cs' t' op' hq
        simp only [Bool.and_eq_true, decide_eq_true_eq] at h2
        rw [hq, eqWs_eq h2.1, Nat.eq_of_beq_eq_true h2.2.1, h2.2.2]
        exact ⟨rfl, by simp⟩
      · cases h2
    · rw [if_neg hk]
      exact addM_get h3 hb k
theorem inB_get : ∀ {M : Mem}, inB s M = true → s.next ≤ big → ∀ k o, (memT M).get k = some o → s.get k = some o ∧ k < s.next ∧ 0 < k
  | [], _, _, k, o, h => by cases h
  | (k0, cs, t, op) :: l, hm, hb, k, o, h => by
    simp only [inB, Bool.and_eq_true] at hm
    obtain ⟨h1, h2, h3⟩ := hm
    have hlt := blt_lt h1.1
    have hlt0 := blt_lt h1.2
    unfold memT at h
    rw [Tr.get_set 24 _ k0 _ k (by unfold big at hb; omega)] at h
    split at h
    · rename_i e
      subst e
      injection h with h
      split at h2
      · rename_i cs' t' op' hq
        simp only [Bool.and_eq_true, decide_eq_true_eq] at h2
        rw [hq, ← h, eqWs_eq h2.1, Nat.eq_of_beq_eq_true h2.2.1, h2.2.2]
        exact ⟨rfl, hlt, hlt0⟩
      · cases h2
    · exact inB_get h3 hb k o h
theorem door_at {dv : List Value} (h : doorB dv s = true) : ∃ t, s.get 0 = some (.cells dv t false) := by
  unfold doorB at h
  split at h
  · rename_i cs t op hq
    simp only [Bool.and_eq_true, Bool.not_eq_true'] at h
    exact ⟨t, by rw [hq, eqWs_eq h.1, h.2]⟩
  · cases h
theorem stM_rel {d : AO} {M : Mem} (h : Rel P B r s w) (hm : inB s M = true) (hd : s.get 0 = some d) (hng : s.ng = 3) : Rel P B r (stM d M s.next) w := by
  have hT : ∀ k, (stM d M s.next).T.get k = if k = 0 then some d else (memT M).get k := fun k => Tr.get_set 24 (memT M) 0 _ k (by decide)
  have hne0 : 0 < s.next := h.lt (by rw [hd]; simp)
  have hsub : ∀ k o, (stM d M s.next).T.get k = some o → s.get k = some o ∧ k < s.next := fun k o ho => by
    rw [hT k] at ho
    split at ho
    · rename_i e; subst e
      exact ⟨hd.trans ho, hne0⟩
    · have := inB_get hm h.nb k o ho
      exact ⟨this.1, this.2.1⟩
  have hne : ∀ k, (stM d M s.next).get k ≠ none → s.get k ≠ none := fun k hk => by
    cases e : (stM d M s.next).T.get k with
    | none => exact absurd e hk
    | some o => rw [(hsub k o e).1]; simp
  refine ⟨h.nb, h.le, h.dom, fun k o ho => h.obj k o (hsub k o ho).1, fun k k' b x x' h1 h2 h3 h4 => h.inj k k' b x x' (hne k h1) (hne k' h2) h3 h4, fun k hk => ?_, (fun k hk => by cases hk), fun g hg => h.gl g (by rw [hng]; exact hg), ?_⟩
  · cases e : (stM d M s.next).T.get k with
    | none => rfl
    | some o => exact absurd (hsub k o e).2 (Nat.not_lt.2 hk)
  · show 3 ≤ s.next
    have := h.gn; rw [hng] at this; exact this
theorem addM_st_get {M : Mem} {next : Nat} (ho : outB s1 next M = true) (hb : s1.next ≤ big) (hnx : next = s.next) (k : Nat) :
    ((k < s.next → (addM M s.T).get k = s.T.get k) ∧ (s.next ≤ k → s.T.get k = none → (addM M s.T).get k ≠ none → (addM M s.T).get k = s1.T.get k ∧ k < s1.next)) := by
  rcases addM_get (T := s.T) ho hb k with h | ⟨h1, h2, h3, h4⟩
  · exact ⟨fun _ => h, fun _ h0 hn => absurd (h.trans h0) hn⟩
  · exact ⟨fun hk => by omega, fun _ _ _ => ⟨h3, h2⟩⟩
theorem hit_good {c : MCall} {dv : List Value} {t : TypeId} {r' : Rn} {w' : World} (h : Rel P B r s w) (hB : c.next' ≤ B) (hnx : c.next = s.next) (hn1 : s1.next = c.next') (ho : outB s1 c.next c.mo = true)
    (g : Good P B (stM (.cells dv t false) c.mi s.next) s1 r r' w w') (hrM : Rel P B r (stM (.cells dv t false) c.mi s.next) w) : Good P B s { s with T := addM c.mo s.T, next := c.next' } r r' w w' := by
  have hb1 : s1.next ≤ big := g.rel.nb
  have hle : s.next ≤ c.next' := by rw [← hn1]; exact g.mono.next
  have hA := addM_st_get (s := s) ho hb1 hnx
  have hnw : ∀ k, k < s.next → ¬ wrt (stM (.cells dv t false) c.mi s.next) k := fun k hk hw => by
    rcases hw with h1 | h1
    · exact absurd hk (Nat.not_lt.2 h1)
    · have h1 : k = big := h1
      have := h.nb
      omega
  have hup : ∀ k p, r k = some p → r' k = some p := g.up hrM
  have hfr : ∀ b, b < w.heap.size → w'.heap[b]? = w.heap[b]? := fun b hb => g.ext.frame b hb fun k x hk hw _ => absurd hw (hnw k hk)
  have hrr : ∀ k, k < s.next ∨ c.next' ≤ k → r' k = r k := fun k hk => g.ext.rr k (by rw [hn1]; exact hk)
  have hhid : s1.hid = [] := g.mono.hid
  have hnewT : ∀ k, s.next ≤ k → (addM c.mo s.T).get k ≠ none → (addM c.mo s.T).get k = s1.T.get k ∧ k < s1.next := fun k hk hn => (hA k).2 hk (h.up k hk) hn
  have hg1 : ∀ k, s1.get k = s1.T.get k := fun k => by unfold St.get; rw [hhid]; rfl
  have hnew : ∀ k o, s.next ≤ k → ({ s with T := addM c.mo s.T, next := c.next' } : St).get k = some o → s1.get k = some o ∧ k < c.next' := fun k o hk hgk => by
    have hh : hidden s.hid k = false := by
      cases e : hidden s.hid k with
      | false => rfl
      | true => exact absurd (h.hlt k e) (Nat.not_lt.2 hk)
    unfold St.get at hgk
    rw [hh] at hgk
    have hgk : (addM c.mo s.T).get k = some o := hgk
    have := hnewT k hk (by rw [hgk]; simp)
    rw [hg1, ← this.1, ← hn1]
    exact ⟨hgk, this.2⟩
  have hold : ∀ k, k < s.next → ({ s with T := addM c.mo s.T, next := c.next' } : St).get k = s.get k := fun k hk => by
    unfold St.get
    show (bif hidden s.hid k then none else (addM c.mo s.T).get k) = _
    rw [(hA k).1 hk]
  have hblk : ∀ k b x, s.next ≤ k → s1.get k ≠ none → r' k = some (b, x) → w.heap.size ≤ b := fun k b x hk hn hr => by
    rcases g.ext.new k b x hk hn hr with h1 | ⟨k0, x0, h1, h2, _⟩
    · exact h1
    · exact absurd h2 (hnw k0 h1)
  have hlt : ∀ k b x, s.get k ≠ none → r k = some (b, x) → b < w.heap.size := fun k b x hn hr => by
    cases e : s.get k with
    | none => exact absurd e hn
    | some o =>
      obtain ⟨b', x', o', h1, h2, _⟩ := h.obj k o e
      rw [h1] at hr
      injection hr with hr; injection hr with e1 _
      rw [← e1]
      exact (Array.getElem?_eq_some_iff.1 h2).1
  refine ⟨⟨hle, rfl, rfl, rfl, fun k hk _ => (hA k).1 hk, fun k hk h0 => ((hA k).1 hk).trans h0, fun hu k hk => ?_, rfl⟩, ⟨hrr, g.ext.size, g.ext.os, g.ext.tape, g.ext.output, fun b hb _ => hfr b hb, fun k b x hk hn hr => ?_⟩, ⟨by rw [← hn1]; exact hb1, hB, fun k h1 h2 => g.rel.dom k (by rw [hn1]; exact h1) h2, fun k o hk => ?_, fun k k' b x x' h1 h2 h3 h4 => ?_, fun k hk => ?_, fun k hk => Nat.lt_of_lt_of_le (h.hlt k hk) hle, fun gg hg => ?_, Nat.le_trans h.gn hle⟩⟩
  · cases e : (addM c.mo s.T).get k with
    | none => first | exact e | rfl
    | some o =>
      have := hnewT k (Nat.le_trans hle hk) (by rw [e]; simp)
      rw [hn1] at this
      exact absurd this.2 (Nat.not_lt.2 hk)
  · cases e : ({ s with T := addM c.mo s.T, next := c.next' } : St).get k with
    | none => exact absurd e hn
    | some o => exact .inl (hblk k b x hk (by rw [(hnew k o hk e).1]; simp) hr)
  · rcases Nat.lt_or_ge k s.next with hk1 | hk1
    · rw [hold k hk1] at hk
      obtain ⟨b, x, o', h1, h2, h3⟩ := h.obj k o hk
      exact ⟨b, x, o', hup _ _ h1, by rw [hfr b (Array.getElem?_eq_some_iff.1 h2).1]; exact h2, h3.mono hup⟩
    · exact g.rel.obj k o (hnew k o hk1 hk).1
  · have hn1' : ∀ k, s.next ≤ k → ({ s with T := addM c.mo s.T, next := c.next' } : St).get k ≠ none → s1.get k ≠ none := fun k hk hn => by
      cases e : ({ s with T := addM c.mo s.T, next := c.next' } : St).get k with
      | none => exact absurd e hn
      | some o => rw [(hnew k o hk e).1]; simp
    rcases Nat.lt_or_ge k s.next with a1 | a1 <;> rcases Nat.lt_or_ge k' s.next with a2 | a2
    · rw [hold k a1] at h1; rw [hold k' a2] at h2
      rw [hrr k (.inl a1)] at h3; rw [hrr k' (.inl a2)] at h4
      exact h.inj k k' b x x' h1 h2 h3 h4
    · rw [hold k a1] at h1
      rw [hrr k (.inl a1)] at h3
      have b1 := hlt k b x h1 h3
      have b2 := hblk k' b x' a2 (hn1' k' a2 h2) h4
      omega
    · rw [hold k' a2] at h2
      rw [hrr k' (.inl a2)] at h4
      have b1 := hlt k' b x' h2 h4
      have b2 := hblk k b x a1 (hn1' k a1 h1) h3
      omega
    · exact g.rel.inj k k' b x x' (hn1' k a1 h1) (hn1' k' a2 h2) h3 h4
  · cases e : (addM c.mo s.T).get k with
    | none => first | exact e | rfl
    | some o =>
      have hk : c.next' ≤ k := hk
      have := hnewT k (Nat.le_trans hle hk) (by rw [e]; simp)
      rw [hn1] at this
      exact absurd this.2 (Nat.not_lt.2 hk)
  · have hg : gg < s.ng := hg
    exact hup _ _ (h.gl gg hg)
theorem hit_mb {O : Orc} (hO : OrcOk P O) (hfo : P.follows .mixedOrders = true) {dv : List Value} {c : MCall} (hc : ∀ t, subB P O dv t c = true) {f : FuncId} {args : List Value} (hh : hitB dv c f args s = true) : MB s { s with T := addM c.mo s.T, next := c.next' } := by
  unfold hitB at hh
  simp only [Bool.and_eq_true] at hh
  obtain ⟨h1, h2, h3, h4, h5, h6⟩ := hh
  have e2 := Nat.eq_of_beq_eq_true h2
  obtain ⟨t, ht⟩ := door_at h5
  have hs := hc t
  unfold subB at hs
  rw [e2] at hs
  split at hs
  · rename_i v s1 hcall
    simp only [Bool.and_eq_true] at hs
    obtain ⟨k1, k2, k3⟩ := hs
    have q2 := Nat.eq_of_beq_eq_true k2
    obtain ⟨hM, hK⟩ := ev_all (P := P) hO hfo 1000000
    have hmb := hM.call _ _ _ _ _ hcall
    intro hb
    have hm := hmb hb
    have hA := addM_st_get (s := s) k3 hm.2 rfl
    refine ⟨⟨by show s.next ≤ c.next'; rw [← q2]; exact hm.1.next, rfl, rfl, rfl, fun k hk _ => (hA k).1 hk, fun k hk h0 => ((hA k).1 hk).trans h0, fun hu k hk => ?_, rfl⟩, by show c.next' ≤ big; rw [← q2]; exact hm.2⟩
    cases e : (addM c.mo s.T).get k with
    | none => first | exact e | rfl
    | some o =>
      have hk : c.next' ≤ k := hk
      have hle : s.next ≤ c.next' := by rw [← q2]; exact hm.1.next
      have := (hA k).2 (Nat.le_trans hle hk) (hu k (Nat.le_trans hle hk)) (by rw [e]; simp)
      rw [q2] at this
      exact absurd this.2 (Nat.not_lt.2 hk)
  · cases hs
theorem hit_ok {O : Orc} (hO : OrcOk P O) (hfo : P.follows .mixedOrders = true) {dv : List Value} {c : MCall} (hc : ∀ t, subB P O dv t c = true) {f : FuncId} {args args' : List Value} (hh : hitB dv c f args s = true) (hr : Rel P B r s w) (hB : c.next' ≤ B) (ha : LR r args args') :
    Upon P (Res P B s { s with T := addM c.mo s.T, next := c.next' } r w c.v) ((callFunc f args'.toArray).run P w) := by
  unfold hitB at hh
  simp only [Bool.and_eq_true] at hh
  obtain ⟨h1, h2, h3, h4, h5, h6⟩ := hh
  have e1 := Nat.eq_of_beq_eq_true h1
  have e2 := Nat.eq_of_beq_eq_true h2
  have e3 := eqWs_eq h3
  have e4 := Nat.eq_of_beq_eq_true h4
  obtain ⟨t, ht⟩ := door_at h5
  have hs := hc t
  unfold subB at hs
  rw [e1, ← e3, e2] at hs
  split at hs
  · rename_i v s1 hcall
    simp only [Bool.and_eq_true] at hs
    obtain ⟨k1, k2, k3⟩ := hs
    have q1 := eqW_eq k1
    have q2 := Nat.eq_of_beq_eq_true k2
    have hrM := stM_rel (P := P) hr h6 ht e4
    obtain ⟨hM, hK⟩ := ev_all (P := P) hO hfo 1000000
    have hup := hK.call _ _ _ _ _ hcall B r w args' hrM (by rw [q2]; exact hB) ha
    refine hup.mono ?_
    rintro v' w' ⟨r', hv, hg⟩
    exact ⟨r', by rw [← q1]; exact hv, hit_good hr hB e2 q2 (by rw [e2]; exact k3) hg hrM⟩
  · cases hs
theorem orc_mem {O : Orc} (hO : OrcOk P O) (hfo : P.follows .mixedOrders = true) {dv : List Value} : ∀ {l : List MCall}, (∀ c ∈ l, ∃ O', OrcOk P O' ∧ ∀ t, subB P O' dv t c = true) → OrcOk P (orcM dv O l)
  | [], _ => hO
  | c :: l, h => by
    obtain ⟨O', hO', hc⟩ := h c (List.mem_cons_self ..)
    have ih := orc_mem hO hfo (dv := dv) (l := l) fun c' hc' => h c' (List.mem_cons_of_mem _ hc')
    refine ⟨fun f args s v s' hh => ?_, fun f args s v s' hh B r w args' hr hB ha => ?_⟩
    · unfold orcM at hh
      rcases bif_or hh with ⟨hq, hh⟩ | ⟨_, hh⟩
      · injection hh with hh; injection hh with _ e2
        rw [← e2]
        exact hit_mb hO' hfo hc hq
      · exact ih.mb _ _ _ _ _ hh
    · unfold orcM at hh
      rcases bif_or hh with ⟨hq, hh⟩ | ⟨_, hh⟩
      · injection hh with hh; injection hh with e1 e2
        subst e1; subst e2
        exact hit_ok hO' hfo hc hq hr hB ha
      · exact ih.ok _ _ _ _ _ hh B r w args' hr hB ha
end
set_option maxRecDepth 1000000
def tx0 : List (List Value × Value) := [([.agg #[.int .i64 5, .int .i64 0, .int .i64 0, .int .i64 1], .int .i64 0, .int .i64 2], .tuple #[.agg #[.int .i64 5, .int .i64 5], .int .i64 0]),
  ([.agg #[.int .i64 7, .int .i64 0, .int .i64 0, .int .i64 1], .int .i64 0, .int .i64 1], .tuple #[.agg #[.int .i64 7, .int .i64 7], .int .i64 0]),
  ([.agg #[.int .i64 5, .int .i64 0, .int .i64 0, .int .i64 1], .int .i64 0, .int .i64 4], .tuple #[.agg #[.int .i64 5, .int .i64 5], .int .i64 0])]
theorem tx0_ok : runL Tryz.prog 190 tx0 = true := by kernel_rfl
def tx1 : List (List Value × Value) := [([.agg #[.int .i64 5, .int .i64 0, .int .i64 0, .int .i64 1], .int .i64 0], .tuple #[.int .i64 5, .int .i64 0]),
  ([.agg #[.int .i64 5, .int .i64 0, .int .i64 0, .int .i64 1], .int .i64 1], .tuple #[.int .i64 5, .int .i64 0]),
  ([.agg #[.int .i64 5, .int .i64 0, .int .i64 0, .int .i64 1], .int .i64 2], .tuple #[.int .i64 5, .int .i64 0]),
  ([.agg #[.int .i64 7, .int .i64 0, .int .i64 0, .int .i64 1], .int .i64 0], .tuple #[.int .i64 7, .int .i64 0]),
  ([.agg #[.int .i64 7, .int .i64 0, .int .i64 0, .int .i64 1], .int .i64 1], .tuple #[.int .i64 7, .int .i64 0]),
  ([.agg #[.int .i64 5, .int .i64 0, .int .i64 0, .int .i64 1], .int .i64 3], .tuple #[.int .i64 5, .int .i64 0]),
  ([.agg #[.int .i64 5, .int .i64 0, .int .i64 0, .int .i64 1], .int .i64 4], .tuple #[.int .i64 5, .int .i64 0])]
theorem tx1_ok : runL Tryz.prog 200 tx1 = true := by kernel_rfl
def tx2 : List (List Value × Value) := [([.agg #[.int .i64 0, .int .i64 5, .int .i64 1], .int .i64 2], .agg #[.int .i64 0, .int .i64 4, .int .i64 6]),
  ([.agg #[.int .i64 1, .int .i64 5, .int .i64 1], .int .i64 2], .agg #[.int .i64 1, .int .i64 4, .int .i64 6]),
  ([.agg #[.int .i64 2, .int .i64 5, .int .i64 1], .int .i64 2], .agg #[.int .i64 2, .int .i64 4, .int .i64 6]),
  ([.agg #[.int .i64 3, .int .i64 7, .int .i64 0], .int .i64 2], .agg #[.int .i64 3, .int .i64 5, .int .i64 9]),
  ([.agg #[.int .i64 4, .int .i64 7, .int .i64 0], .int .i64 2], .agg #[.int .i64 4, .int .i64 5, .int .i64 9]),
  ([.agg #[.int .i64 0, .int .i64 5, .int .i64 1], .int .i64 1], .agg #[.int .i64 0, .int .i64 5, .int .i64 5]),
  ([.agg #[.int .i64 1, .int .i64 5, .int .i64 1], .int .i64 1], .agg #[.int .i64 1, .int .i64 5, .int .i64 5]),
  ([.agg #[.int .i64 2, .int .i64 5, .int .i64 1], .int .i64 1], .agg #[.int .i64 2, .int .i64 5, .int .i64 5]),
  ([.agg #[.int .i64 3, .int .i64 7, .int .i64 0], .int .i64 1], .agg #[.int .i64 3, .int .i64 6, .int .i64 8]),
  ([.agg #[.int .i64 4, .int .i64 7, .int .i64 0], .int .i64 1], .agg #[.int .i64 4, .int .i64 6, .int .i64 8])]
theorem tx2_ok : runL Tryz.prog 73 tx2 = true := by kernel_rfl
def tx3 : List (List Value × Value) := [([.agg #[.int .i64 5, .int .i64 6]], .tuple #[.int .i64 5, .int .i64 0])]
theorem tx3_ok : runL Tryz.prog 205 tx3 = true := by kernel_rfl
def tx4 : List (List Value × Value) := [([.agg #[.int .i64 5, .int .i64 0, .int .i64 0, .int .i64 1]], .int .i64 1)]
theorem tx4_ok : runL Tryz.prog 168 tx4 = true := by kernel_rfl
def tx5 : List (List Value × Value) := [([.agg #[.int .i64 0, .int .i64 4, .int .i64 6]], .agg #[.int .i64 0, .int .i64 5]),
  ([.agg #[.int .i64 0, .int .i64 5, .int .i64 5]], .agg #[.int .i64 0, .int .i64 5])]
theorem tx5_ok : runL Tryz.prog 265 tx5 = true := by kernel_rfl
def tx6 : List (List Value × Value) := [([.agg #[.int .i64 (-1), .int .i64 1]], .tuple #[.agg #[.int .i64 (-1), .int .i64 1], .int .i64 0]),
  ([.agg #[.int .i64 1, .int .i64 1]], .tuple #[.agg #[.int .i64 1, .int .i64 1], .int .i64 0]),
  ([.agg #[.int .i64 (-1), .int .i64 2]], .tuple #[.agg #[.int .i64 (-1), .int .i64 2], .int .i64 0]),
  ([.agg #[.int .i64 1, .int .i64 2]], .tuple #[.agg #[.int .i64 1, .int .i64 2], .int .i64 0]),
  ([.agg #[.int .i64 0, .int .i64 3]], .tuple #[.agg #[.int .i64 0, .int .i64 1], .int .i64 0]),
  ([.agg #[.int .i64 4, .int .i64 3]], .tuple #[.agg #[.int .i64 4, .int .i64 3], .int .i64 0]),
  ([.agg #[.int .i64 0, .int .i64 4]], .tuple #[.agg #[.int .i64 0, .int .i64 1], .int .i64 0]),
  ([.agg #[.int .i64 4, .int .i64 4]], .tuple #[.agg #[.int .i64 1, .int .i64 1], .int .i64 0]),
  ([.agg #[.int .i64 0, .int .i64 1]], .tuple #[.agg #[.int .i64 0, .int .i64 1], .int .i64 0]),
  ([.agg #[.int .i64 0, .int .i64 2]], .tuple #[.agg #[.int .i64 0, .int .i64 1], .int .i64 0]),
  ([.agg #[.int .i64 1, .int .i64 3]], .tuple #[.agg #[.int .i64 1, .int .i64 3], .int .i64 0]),
  ([.agg #[.int .i64 3, .int .i64 3]], .tuple #[.agg #[.int .i64 1, .int .i64 1], .int .i64 0]),
  ([.agg #[.int .i64 1, .int .i64 4]], .tuple #[.agg #[.int .i64 1, .int .i64 4], .int .i64 0]),
  ([.agg #[.int .i64 3, .int .i64 4]], .tuple #[.agg #[.int .i64 3, .int .i64 4], .int .i64 0])]
theorem tx6_ok : runL Tryz.prog 274 tx6 = true := by kernel_rfl
def tx7 : List (List Value × Value) := [([.agg #[.int .i64 (-1), .int .i64 1], .agg #[.int .i64 0, .int .i64 0]], .tuple #[.int .i64 0, .bool false]),
  ([.agg #[.int .i64 1, .int .i64 1], .agg #[.int .i64 0, .int .i64 0]], .tuple #[.int .i64 0, .bool false]),
  ([.agg #[.int .i64 (-1), .int .i64 1], .agg #[.int .i64 1, .int .i64 1]], .tuple #[.int .i64 (-1), .bool true]),
  ([.agg #[.int .i64 (-1), .int .i64 2], .agg #[.int .i64 (-1), .int .i64 1]], .tuple #[.int .i64 1, .bool true]),
  ([.agg #[.int .i64 1, .int .i64 2], .agg #[.int .i64 1, .int .i64 1]], .tuple #[.int .i64 (-1), .bool true]),
  ([.agg #[.int .i64 (-1), .int .i64 2], .agg #[.int .i64 1, .int .i64 2]], .tuple #[.int .i64 (-1), .bool true]),
  ([.agg #[.int .i64 0, .int .i64 1], .agg #[.int .i64 (-1), .int .i64 2]], .tuple #[.int .i64 1, .bool true]),
  ([.agg #[.int .i64 4, .int .i64 3], .agg #[.int .i64 1, .int .i64 2]], .tuple #[.int .i64 1, .bool true]),
  ([.agg #[.int .i64 0, .int .i64 1], .agg #[.int .i64 1, .int .i64 2]], .tuple #[.int .i64 (-1), .bool true]),
  ([.agg #[.int .i64 0, .int .i64 1], .agg #[.int .i64 0, .int .i64 1]], .tuple #[.int .i64 0, .bool true]),
  ([.agg #[.int .i64 1, .int .i64 1], .agg #[.int .i64 1, .int .i64 2]], .tuple #[.int .i64 1, .bool true]),
  ([.agg #[.int .i64 0, .int .i64 1], .agg #[.int .i64 0, .int .i64 0]], .tuple #[.int .i64 0, .bool false]),
  ([.agg #[.int .i64 1, .int .i64 3], .agg #[.int .i64 0, .int .i64 1]], .tuple #[.int .i64 1, .bool true]),
  ([.agg #[.int .i64 1, .int .i64 1], .agg #[.int .i64 0, .int .i64 1]], .tuple #[.int .i64 1, .bool true]),
  ([.agg #[.int .i64 1, .int .i64 4], .agg #[.int .i64 1, .int .i64 3]], .tuple #[.int .i64 (-1), .bool true]),
  ([.agg #[.int .i64 3, .int .i64 4], .agg #[.int .i64 0, .int .i64 1]], .tuple #[.int .i64 1, .bool true])]
theorem tx7_ok : runL Tryz.prog 213 tx7 = true := by kernel_rfl
def tx8 : List (List Value × Value) := [([.agg #[.int .i64 0, .int .i64 1], .agg #[.int .i64 1, .int .i64 2]], .tuple #[.agg #[.int .i64 0, .int .i64 1], .int .i64 0]),
  ([.agg #[.int .i64 (-1), .int .i64 4], .agg #[.int .i64 2, .int .i64 2]], .tuple #[.agg #[.int .i64 0, .int .i64 1], .int .i64 0])]
theorem tx8_ok : runL Tryz.prog 162 tx8 = true := by kernel_rfl
def tx9 : List (List Value × Value) := [([.int .i64 5, .agg #[.int .i64 0, .int .i64 1]], .tuple #[.agg #[.int .i64 5, .int .i64 0, .int .i64 0, .int .i64 1], .int .i64 0])]
theorem tx9_ok : runL Tryz.prog 209 tx9 = true := by kernel_rfl
def tx10_0 : List (List Value × Value) := [([.agg #[.int .i64 4611688217450643456, .int .i64 1], .agg #[.int .i64 (-4611688217450643456), .int .i64 1]], .bool false),
  ([.agg #[.int .i64 (-4611688217450643456), .int .i64 1], .agg #[.int .i64 (-2), .int .i64 1]], .bool true),
  ([.agg #[.int .i64 2, .int .i64 1], .agg #[.int .i64 4611688217450643456, .int .i64 1]], .bool true),
  ([.agg #[.int .i64 2, .int .i64 1], .agg #[.int .i64 (-2), .int .i64 1]], .bool false),
  ([.agg #[.int .i64 (-2), .int .i64 1], .agg #[.int .i64 (-2), .int .i64 2]], .bool true),
  ([.agg #[.int .i64 2, .int .i64 2], .agg #[.int .i64 2, .int .i64 1]], .bool true),
  ([.agg #[.int .i64 (-2), .int .i64 2], .agg #[.int .i64 (-2), .int .i64 1]], .bool false),
  ([.agg #[.int .i64 2, .int .i64 1], .agg #[.int .i64 2, .int .i64 2]], .bool false),
  ([.agg #[.int .i64 2, .int .i64 2], .agg #[.int .i64 (-2), .int .i64 2]], .bool false),
  ([.agg #[.int .i64 (-2), .int .i64 2], .agg #[.int .i64 (-1), .int .i64 3]], .bool true),
  ([.agg #[.int .i64 5, .int .i64 3], .agg #[.int .i64 2, .int .i64 2]], .bool false),
  ([.agg #[.int .i64 (-1), .int .i64 3], .agg #[.int .i64 (-1), .int .i64 2]], .bool false),
  ([.agg #[.int .i64 5, .int .i64 2], .agg #[.int .i64 2, .int .i64 2]], .bool false),
  ([.agg #[.int .i64 (-1), .int .i64 3], .agg #[.int .i64 (-1), .int .i64 1]], .bool false),
  ([.agg #[.int .i64 5, .int .i64 1], .agg #[.int .i64 2, .int .i64 2]], .bool false),
  ([.agg #[.int .i64 2, .int .i64 2], .agg #[.int .i64 (-1), .int .i64 3]], .bool false),
  ([.agg #[.int .i64 (-1), .int .i64 3], .agg #[.int .i64 (-1), .int .i64 4]], .bool true),
  ([.agg #[.int .i64 5, .int .i64 4], .agg #[.int .i64 2, .int .i64 2]], .bool false),
  ([.agg #[.int .i64 (-1), .int .i64 4], .agg #[.int .i64 (-1), .int .i64 3]], .bool false),
  ([.agg #[.int .i64 (-1), .int .i64 4], .agg #[.int .i64 (-1), .int .i64 2]], .bool false),
  ([.agg #[.int .i64 (-1), .int .i64 4], .agg #[.int .i64 (-4), .int .i64 1]], .bool false),
  ([.agg #[.int .i64 4, .int .i64 1], .agg #[.int .i64 2, .int .i64 2]], .bool false),
  ([.agg #[.int .i64 2, .int .i64 2], .agg #[.int .i64 (-1), .int .i64 4]], .bool false)]
theorem tx10_0_ok : runL Tryz.prog 249 tx10_0 = true := by kernel_rfl
def tx10_1 : List (List Value × Value) := [([.agg #[.int .i64 (-4611688217450643456), .int .i64 1], .agg #[.int .i64 0, .int .i64 1]], .bool true),
  ([.agg #[.int .i64 0, .int .i64 1], .agg #[.int .i64 4611688217450643456, .int .i64 1]], .bool true),
  ([.agg #[.int .i64 0, .int .i64 1], .agg #[.int .i64 0, .int .i64 1]], .bool false),
  ([.agg #[.int .i64 0, .int .i64 1], .agg #[.int .i64 0, .int .i64 2]], .bool false),
  ([.agg #[.int .i64 0, .int .i64 2], .agg #[.int .i64 0, .int .i64 1]], .bool false),
  ([.agg #[.int .i64 0, .int .i64 1], .agg #[.int .i64 1, .int .i64 3]], .bool true),
  ([.agg #[.int .i64 3, .int .i64 3], .agg #[.int .i64 0, .int .i64 1]], .bool false),
  ([.agg #[.int .i64 1, .int .i64 3], .agg #[.int .i64 1, .int .i64 2]], .bool true),
  ([.agg #[.int .i64 3, .int .i64 2], .agg #[.int .i64 0, .int .i64 1]], .bool false),
  ([.agg #[.int .i64 1, .int .i64 2], .agg #[.int .i64 1, .int .i64 1]], .bool true),
  ([.agg #[.int .i64 3, .int .i64 1], .agg #[.int .i64 0, .int .i64 1]], .bool false),
  ([.agg #[.int .i64 0, .int .i64 1], .agg #[.int .i64 1, .int .i64 1]], .bool true)]
theorem tx10_1_ok : runL Tryz.prog 249 tx10_1 = true := by kernel_rfl
def tx10 : List (List Value × Value) := tx10_0 ++ (tx10_1)
theorem tx10_ok : runL Tryz.prog 249 tx10 = true := runL_app tx10_0_ok (tx10_1_ok)
def tx11 : List (List Value × Value) := [([.int .i64 4, .int .i64 1], .agg #[.int .i64 0, .int .u64 4]),
  ([.int .i64 0, .int .i64 0], .agg #[.int .i64 0, .int .u64 0]),
  ([.int .i64 0, .int .i64 1], .agg #[.int .i64 0, .int .u64 0]),
  ([.int .i64 0, .int .i64 2], .agg #[.int .i64 0, .int .u64 0]),
  ([.int .i64 5, .int .i64 1], .agg #[.int .i64 0, .int .u64 5]),
  ([.int .i64 0, .int .i64 3], .agg #[.int .i64 0, .int .u64 0]),
  ([.int .i64 0, .int .i64 4], .agg #[.int .i64 0, .int .u64 0])]
theorem tx11_ok : runL Tryz.prog 220 tx11 = true := by kernel_rfl
def tx12 : List (List Value × Value) := [([.agg #[.int .i64 0, .int .u64 4], .agg #[.int .i64 0, .int .u64 0]], .tuple #[.agg #[.int .i64 0, .int .u64 4], .int .i64 0]),
  ([.agg #[.int .i64 0, .int .u64 5], .agg #[.int .i64 0, .int .u64 0]], .tuple #[.agg #[.int .i64 0, .int .u64 5], .int .i64 0])]
theorem tx12_ok : runL Tryz.prog 219 tx12 = true := by kernel_rfl
def tx13 : List (List Value × Value) := [([.agg #[.int .i64 0, .int .u64 5], .agg #[.int .i64 0, .int .u64 4]], .int .i64 1)]
theorem tx13_ok : runL Tryz.prog 221 tx13 = true := by kernel_rfl
def tx14 : List (List Value × Value) := [([.agg #[.int .i64 0, .int .u64 5], .agg #[.int .i64 0, .int .i64 1]], .tuple #[.agg #[.int .i64 5, .int .i64 0, .int .i64 0, .int .i64 1], .int .i64 0])]
theorem tx14_ok : runL Tryz.prog 163 tx14 = true := by kernel_rfl
def tx : List (Nat × List (List Value × Value)) := [(190, tx0), (200, tx1), (73, tx2), (205, tx3), (168, tx4), (265, tx5), (274, tx6), (213, tx7), (162, tx8), (209, tx9), (249, tx10), (220, tx11), (219, tx12), (221, tx13), (163, tx14)]
theorem tx_ok : ∀ q ∈ tx, runL Tryz.prog q.1 q.2 = true := by
  intro q hq
  simp only [tx, List.mem_cons, List.not_mem_nil, or_false] at hq
  rcases hq with rfl | rfl | rfl | rfl | rfl | rfl | rfl | rfl | rfl | rfl | rfl | rfl | rfl | rfl | rfl
  · exact tx0_ok
  · exact tx1_ok
  · exact tx2_ok
  · exact tx3_ok
  · exact tx4_ok
  · exact tx5_ok
  · exact tx6_ok
  · exact tx7_ok
  · exact tx8_ok
  · exact tx9_ok
  · exact tx10_ok
  · exact tx11_ok
  · exact tx12_ok
  · exact tx13_ok
  · exact tx14_ok
end Go.Proofs.YtbanjolokkghdaaGreatDoor
