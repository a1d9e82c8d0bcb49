/- Parts of the proof that follows: A run of closed code: a region in the text's order. No condition. | A run of closed code: a region that draws its order, its steps in the text's order. No condition. | A run of closed code: a region that draws its order, what its steps turn. No condition. | A run of closed code: a region that draws its order, one step in whatever order: the memory. No condition. -/
import Derived.TacticsIn
import Derived.Test.YtbanjolokkghdaaGreatDoorWz32
set_option linter.unusedSimpArgs false
set_option linter.unusedVariables false
namespace Go.Proofs.YtbanjolokkghdaaGreatDoor
open Go.RowKit
set_option maxRecDepth 100000
/-- the open fence, in a round or not -/
def FO (ro : Option Nat) : Fence := { Fence.wide with round := ro }
section
variable {P : Program} {B : Nat} {r : Rn} {s s' : St} {w : World} {v : Value} {ro : Option Nat} {n : Nat}
theorem upon_in {o : Oper} {a : Act} {next : Act → World → Prop} {Q : Exit → Act → World → Prop} {K : Value → World → Prop} {res : Result Go.Next} (h : Upon P K res) (hn : ∀ v w', K v w' → next (a.put o.dst v) w') : o.uponIn (FO ro) n P a next Q res := by
  cases res with
  | halt x w' => cases h
  | ok x w' =>
    cases x <;> simp only [Upon] at h <;> simp only [Oper.uponIn]
    · exact hn _ _ h
    · exact hn _ _ h
    · refine ⟨fun e => by simp [FO, Fence.wide] at e, ?_⟩
      have := (h (n - 1)).mono (R' := fun e w'' => match e with | .returned v => next (a.put o.dst v) w'' | .panicked chain => Q (.panic chain) a w'' | .outgrown => LetsOut Q) (by rintro e w'' ⟨v, rfl, hk⟩; exact hn _ _ hk)
      exact this.mono fun e w'' hh => by cases e <;> exact hh
    · refine ⟨fun e => by simp [FO, Fence.wide] at e, ?_⟩
      have := (h (n - 1)).mono (R' := fun e w'' => match e with | .returned v => next (a.put o.dst v) w'' | .panicked chain => Q (.panic chain) a w'' | .outgrown => LetsOut Q) (by rintro e w'' ⟨v, rfl, hk⟩; exact hn _ _ hk)
      exact this.mono fun e w'' hh => by cases e <;> exact hh
theorem exec_nd {R : Rec} {ρ : Operand → Value} {o : Oper} (h : exec P R ρ o s = some (v, s')) (c : Call) : o.op ≠ .defer c := by
  intro e
  unfold exec pureK execH at h
  rw [e] at h
  cases h
theorem op_in {o : Oper} {a : Act} {next : Act → World → Prop} {Q : Exit → Act → World → Prop} {K : Value → World → Prop} (hd : ∀ c, o.op ≠ .defer c) (h : Upon P K ((execOp a.eval o).run P w)) (hn : ∀ v w', K v w' → next (a.put o.dst v) w') : o.wpIn (FO ro) n P a w next Q := by
  refine ⟨fun _ _ => trivial, ?_⟩
  rw [Oper.semAt_eq _ _ _ hd]
  exact upon_in h hn
def MkR (r : Rn) (marks : List Nat) (ds : List Deferred) : Prop := ds.length = marks.length ∧ ∀ (i : Nat) d, marks[i]? = some d → ∃ b x, r d = some (b, x) ∧ ds[i]? = some { target := .collected b, args := #[] }
def FrR (r : Rn) (fr : Fr) (a : Act) : Prop := SlR r fr.t fr.m a.tmps ∧ MkR r fr.marks a.defers
theorem MkR.mono {r r' : Rn} (hr : ∀ k p, r k = some p → r' k = some p) {m : List Nat} {ds : List Deferred} (h : MkR r m ds) : MkR r' m ds := ⟨h.1, fun i d hd => let ⟨b, x, h1, h2⟩ := h.2 i d hd; ⟨b, x, hr _ _ h1, h2⟩⟩
theorem FrR.mono {r r' : Rn} (hr : ∀ k p, r k = some p → r' k = some p) {fr : Fr} {a : Act} (h : FrR r fr a) : FrR r' fr a := ⟨h.1.mono hr, h.2.mono hr⟩
theorem ev_ok {ng : Nat} {fr : Fr} {a : Act} (hg : ∀ g, g < ng → r g = some (g, 0)) (h : SlR r fr.t fr.m a.tmps) {x : Operand} (hx : okOpd ng x = true) : VR r (fr.ev x) (a.eval x) := by
  cases x with
  | tmp t => exact h.2.2 t
  | const v => exact .pln hx
  | global g => exact .ptr (hg g (blt_lt hx))
  | func f => exact .pln rfl
theorem FrR.put {fr fr' : Fr} {a : Act} (h : FrR r fr a) {d : Option Tmp} {v v' : Value} (hp : fr.put d v = some fr') (hv : VR r v v') : FrR r fr' (a.put d v') := by
  obtain ⟨_, _, _, h4⟩ := put_fr hp
  rcases h4 with ⟨rfl, rfl⟩ | ⟨k, rfl, hk, rfl⟩
  · exact h
  · exact ⟨h.1.put hk hv, h.2⟩
theorem VR.boolR {b : Bool} {v : Value} (h : VR r v (.bool b)) : v = .bool b := by
  generalize hu : Value.bool b = u at h
  cases h <;> first | rfl | (exact hu.symm) | (cases hu; done) | (cases hu; rfl)
theorem guard_ok {ops : Array Oper} {fr : Fr} {o : Oper} {a : Act} (h : ∀ k want d, o.guard = some (k, want) → wrOf ops k = some d → VR r (fr.get d) (a.tmps.getD d undef)) : Region.wanted o (yielded ops a.tmps) = guardB ops fr o := by
  unfold guardB
  cases hg : o.guard with
  | none => simp [Region.wanted, hg]
  | some p =>
    obtain ⟨k, want⟩ := p
    simp only
    cases hd : wrOf ops k with
    | none =>
      unfold wrOf at hd
      simp [Region.wanted, hg, yielded, hd]
    | some d =>
      have hv := h k want d hg hd
      simp only
      by_cases hb : ∃ b, a.tmps.getD d undef = .bool b
      · obtain ⟨b, hb⟩ := hb
        rw [hb] at hv
        rw [hv.boolR, wanted_some hg hd hb]
        cases b <;> cases want <;> rfl
      · have h2 : ∀ b, fr.get d ≠ .bool b := fun b e => by rw [e] at hv; exact hb ⟨b, hv.bool⟩
        have h3 : Region.wanted o (yielded ops a.tmps) = false := by
          unfold wrOf at hd
          simp only [Region.wanted, hg, yielded, hd, Option.bind_some]
          cases hx : a.tmps[d]? with
          | none => rfl
          | some u =>
            cases u <;> first | rfl | skip
            rename_i b
            exact absurd ⟨b, by simp [hx]⟩ hb
        rw [h3]
        split
        · rename_i b e; exact absurd e (h2 b)
        · rfl
theorem okOps_mem {ng : Nat} {ops : Array Oper} (h : okOps ng ops = true) {o : Oper} (ho : o ∈ ops.toList) {x : Operand} (hx : x ∈ o.op.operands) : okOpd ng x = true := by
  unfold okOps at h
  have := List.all_eq_true.1 h o ho
  exact List.all_eq_true.1 this x (by simpa using hx)
/-- A region in the text's order. -/
theorem seqB_ok {R : Rec} (hM : RM R) (hR : SoundC P R) {ops : Array Oper} {ng : Nat} (hok : okOps ng ops = true) {Q : Exit → Act → World → Prop} : ∀ (l : List Oper) (fr fr' : Fr) (s s' : St) (r : Rn) (w : World) (a : Act), s.ng = ng → (∀ o ∈ l, o ∈ ops.toList) → seqB P R ops l fr s = some (fr', s') → s'.next ≤ B → Rel P B r s w → FrR r fr a →
    (∀ r' a' w', FrR r' fr' a' → Good P B s s' r r' w w' → Q .normal a' w') → wpListIn (FO ro) n P ops Q l a w
  | [], fr, fr', s, s', r, w, a, _, _, h, hB, hr, hf, hQ => by
    injection h with h; injection h with h1 h2; subst h1; subst h2
    exact hQ r a w hf (Good.refl hr)
  | o :: l, fr, fr', s, s', r, w, a, hng, hl, h, hB, hr, hf, hQ => by
    simp only [seqB] at h
    have ho := hl o (by simp)
    have hg := guard_ok (ops := ops) (fr := fr) (o := o) (a := a) (r := r) fun k want d _ _ => hf.1.2.2 d
    unfold wpListIn
    rw [hg]
    rcases bif_or h with ⟨hw, h⟩ | ⟨hw, h⟩
    · rw [hw, if_pos rfl]
      split at h
      · rename_i q hq
        split at h
        · rename_i fr1 hp
          have hm := (seqB_mb hM l fr1 fr' q.2 s' h).1
          have hq2 := (exec_mb hM hq hr.nb)
          have hle : q.2.next ≤ B := Nat.le_trans (hm hq2.2).1.next hB
          have hx := exec_ok hR (v := q.1) (s' := q.2) hr hle hq (ρ' := a.eval) fun x hx => ev_ok (fun g hg => hr.gl g (hng ▸ hg)) hf.1 (okOps_mem hok ho hx)
          refine op_in (exec_nd hq) hx ?_
          rintro v' w' ⟨r', hv, hG⟩
          refine seqB_ok hM hR hok l fr1 fr' q.2 s' r' w' _ (hG.mono.ng.trans hng) (fun o ho => hl o (by simp [ho])) h hB hG.rel ((hf.mono (hG.up hr)).put hp hv) fun r2 a2 w2 h1 h2 => hQ r2 a2 w2 h1 (hG.trans h2)
        · cases h
      · cases h
    · rw [hw, if_neg (by simp)]
      split at h
      · rename_i fr1 hp
        exact ⟨fun _ _ => trivial, seqB_ok hM hR hok l fr1 fr' s s' r w _ hng (fun o ho => hl o (by simp [ho])) h hB hr (hf.put hp VR.undef) hQ⟩
      · cases h
end
end Go.Proofs.YtbanjolokkghdaaGreatDoor
namespace Go.Proofs.YtbanjolokkghdaaGreatDoor
open Go.RowKit
set_option maxRecDepth 100000
def AA (ops : Array Oper) : List Nat := ancs ops.toList []
def WW (ops : Array Oper) : List Bool := wrs ops (AA ops)
def StepT (P : Program) (R : Rec) (ops : Array Oper) (ps : List (Nat × Nat)) (i : Nat) (fr : Fr) (s : St) (rs : List (Nat × Nat × Nat)) (fr1 : Fr) (s1 : St) (rs1 : List (Nat × Nat × Nat)) (v : Value) : Prop :=
  ∃ o, ops[i]? = some o ∧ fr.put o.dst v = some fr1 ∧
    ((guardB ops fr o = false ∧ v = undef ∧ s1 = s ∧ rs1 = rs) ∨ (guardB ops fr o = true ∧ pureK o = true ∧ execP P fr.ev o = some v ∧ s1 = s ∧ rs1 = rs) ∨
     (guardB ops fr o = true ∧ pureK o = false ∧ ∃ q, execH P R fr.ev o (inEv (AA ops) (WW ops) ps i rs s) = some (v, q) ∧ s1 = back s q ∧ rs1 = (i, s.next, q.next) :: rs))
theorem any_trace {P : Program} {R : Rec} {ops : Array Oper} {ps : List (Nat × Nat)} : ∀ (l : List Oper) (i : Nat) (rs : List (Nat × Nat × Nat)) (fr fr' : Fr) (s s' : St), (∀ j, l[j]? = ops[i + j]?) → anyB P R ops (AA ops) (WW ops) ps l i rs fr s = some (fr', s') →
    ∃ (F : Nat → Fr) (S : Nat → St) (RS : Nat → List (Nat × Nat × Nat)) (V : Nat → Value), F i = fr ∧ S i = s ∧ RS i = rs ∧ F (i + l.length) = fr' ∧ S (i + l.length) = s' ∧ ∀ k, i ≤ k → k < i + l.length → StepT P R ops ps k (F k) (S k) (RS k) (F (k + 1)) (S (k + 1)) (RS (k + 1)) (V k)
  | [], i, rs, fr, fr', s, s', _, h => by
    injection h with h; injection h with h1 h2; subst h1; subst h2
    exact ⟨fun _ => fr, fun _ => s, fun _ => rs, fun _ => undef, rfl, rfl, rfl, rfl, rfl, fun k h1 h2 => by simp at h2; omega⟩
  | o :: l, i, rs, fr, fr', s, s', hl, h => by
    have ho : ops[i]? = some o := by simpa using (hl 0).symm
    have hl' : ∀ j, l[j]? = ops[i + 1 + j]? := fun j => by have := hl (j + 1); simpa [Nat.add_assoc, Nat.add_comm 1 j] using this
    have key : ∀ (fr1 : Fr) (s1 : St) (rs1 : List (Nat × Nat × Nat)) (v : Value), anyB P R ops (AA ops) (WW ops) ps l (i + 1) rs1 fr1 s1 = some (fr', s') → StepT P R ops ps i fr s rs fr1 s1 rs1 v →
        ∃ (F : Nat → Fr) (S : Nat → St) (RS : Nat → List (Nat × Nat × Nat)) (V : Nat → Value), F i = fr ∧ S i = s ∧ RS i = rs ∧ F (i + (o :: l).length) = fr' ∧ S (i + (o :: l).length) = s' ∧ ∀ k, i ≤ k → k < i + (o :: l).length → StepT P R ops ps k (F k) (S k) (RS k) (F (k + 1)) (S (k + 1)) (RS (k + 1)) (V k) := by
      intro fr1 s1 rs1 v h1 h2
      obtain ⟨F, S, RS, V, e1, e2, e3, e4, e5, e6⟩ := any_trace l (i + 1) rs1 fr1 fr' s1 s' hl' h1
      have hlen : i + (o :: l).length = i + 1 + l.length := by simp; omega
      refine ⟨fun k => if k = i then fr else F k, fun k => if k = i then s else S k, fun k => if k = i then rs else RS k, fun k => if k = i then v else V k, if_pos rfl, if_pos rfl, if_pos rfl, ?_, ?_, fun k h3 h4 => ?_⟩
      · simp only []; rw [if_neg (by simp), hlen]; exact e4
      · simp only []; rw [if_neg (by simp), hlen]; exact e5
      · by_cases hk : k = i
        · subst hk
          simp only [if_true]
          rw [if_neg (by omega), if_neg (by omega), if_neg (by omega), e1, e2, e3]
          exact h2
        · simp only [if_neg hk, if_neg (show k + 1 ≠ i by omega)]
          exact e6 k (by omega) (by omega)
    simp only [anyB] at h
    rcases bif_or h with ⟨hg, h⟩ | ⟨hg, h⟩
    · rcases bif_or h with ⟨hp, h⟩ | ⟨hp, h⟩
      · split at h
        · rename_i v hv
          split at h
          · rename_i fr1 hpt
            exact key fr1 s rs v h ⟨o, ho, hpt, .inr (.inl ⟨hg, hp, hv, rfl, rfl⟩)⟩
          · cases h
        · cases h
      · split at h
        · rename_i q hq
          split at h
          · rename_i fr1 hpt
            exact key fr1 (back s q.2) _ q.1 h ⟨o, ho, hpt, .inr (.inr ⟨hg, hp, q.2, hq, rfl, rfl⟩)⟩
          · cases h
        · cases h
    · split at h
      · rename_i fr1 hpt
        exact key fr1 s rs undef h ⟨o, ho, hpt, .inl ⟨hg, rfl, rfl, rfl⟩⟩
      · cases h
/-! what stands ahead -/
theorem mask_bit (A : List Nat) (k : Nat) : ∀ (es : List Edge), Nat.testBit (maskOf A es) k = true → ∃ e ∈ es, Region.binds .any e = true ∧ (k = e.on ∨ Nat.testBit (A.getD e.on 0) k = true)
  | [], h => by simp [maskOf] at h
  | e :: es, h => by
    have hm : maskOf A (e :: es) = bif Region.binds .any e then Nat.lor (Nat.lor (maskOf A es) (Nat.shiftLeft 1 e.on)) (A.getD e.on 0) else maskOf A es := rfl
    rw [hm] at h
    cases hb : Region.binds .any e with
    | false =>
      rw [hb] at h
      obtain ⟨e', h1, h2⟩ := mask_bit A k es h
      exact ⟨e', by simp [h1], h2⟩
    | true =>
      rw [hb] at h
      have h : Nat.testBit ((maskOf A es ||| (1 <<< e.on)) ||| A.getD e.on 0) k = true := h
      rw [Nat.testBit_or, Nat.testBit_or, Bool.or_eq_true, Bool.or_eq_true] at h
      rcases h with (h | h) | h
      · obtain ⟨e', h1, h2⟩ := mask_bit A k es h
        exact ⟨e', by simp [h1], h2⟩
      · refine ⟨e, by simp, hb, .inl ?_⟩
        rw [Nat.testBit_shiftLeft] at h
        simp only [Bool.and_eq_true, decide_eq_true_eq] at h
        have h2 := h.2
        rcases Nat.eq_zero_or_pos (k - e.on) with h3 | h3
        · omega
        · exfalso
          have : Nat.testBit 1 (k - e.on) = false := Nat.testBit_lt_two_pow (by have : 2 ^ 1 ≤ 2 ^ (k - e.on) := Nat.pow_le_pow_right (by omega) h3; omega)
          rw [this] at h2; cases h2
      · exact ⟨e, by simp, hb, .inr h⟩
theorem ancs_len : ∀ (l : List Oper) (A : List Nat), (ancs l A).length = A.length + l.length
  | [], A => rfl
  | o :: l, A => by simp only [ancs]; rw [ancs_len l]; simp; omega
theorem ancs_pre : ∀ (l : List Oper) (A : List Nat), (ancs l A).take A.length = A
  | [], A => by simp [ancs]
  | o :: l, A => by
    simp only [ancs]
    have h := ancs_pre l (A ++ [maskOf A o.after.toList])
    have h2 := congrArg (List.take A.length) h
    rw [List.take_take] at h2
    simpa using h2
theorem ancs_at : ∀ (l : List Oper) (A : List Nat) (j : Nat) (o : Oper), l[j]? = some o → (ancs l A)[A.length + j]? = some (maskOf ((ancs l A).take (A.length + j)) o.after.toList)
  | [], A, j, o, h => by simp at h
  | p :: l, A, 0, o, h => by
    simp at h
    subst h
    simp only [ancs, Nat.add_zero]
    have h1 := ancs_pre l (A ++ [maskOf A p.after.toList])
    have h2 : (ancs l (A ++ [maskOf A p.after.toList])).take A.length = A := by
      have := congrArg (List.take A.length) h1
      rw [List.take_take] at this
      simpa using this
    rw [h2]
    have h3 := congrArg (fun q => q[A.length]?) h1
    simp only [List.getElem?_take] at h3
    simpa using h3
  | p :: l, A, j + 1, o, h => by
    simp only [ancs]
    have := ancs_at l (A ++ [maskOf A p.after.toList]) j o (by simpa using h)
    have e : (A ++ [maskOf A p.after.toList]).length + j = A.length + (j + 1) := by simp; omega
    rw [e] at this
    exact this
theorem anc_bit {ops : Array Oper} {i k : Nat} (h : bitL (AA ops) i k = true) : ∃ o, ops[i]? = some o ∧ ∃ e ∈ o.after, Region.binds .any e = true ∧ (k = e.on ∨ (e.on < i ∧ bitL (AA ops) e.on k = true)) := by
  unfold bitL at h
  have hi : i < (AA ops).length := by
    rcases Nat.lt_or_ge i (AA ops).length with h1 | h1
    · exact h1
    · rw [show (AA ops).getD i 0 = 0 by simp [h1]] at h; simp at h
  have hi' : i < ops.toList.length := by have := ancs_len ops.toList []; unfold AA at hi; simp at this ⊢; omega
  have hat := ancs_at ops.toList [] i ops.toList[i] (by simp [hi'])
  simp only [List.length_nil, Nat.zero_add] at hat
  have e : (AA ops).getD i 0 = maskOf ((AA ops).take i) ops.toList[i].after.toList := by
    have hat' : (AA ops)[i]? = some (maskOf ((AA ops).take i) ops.toList[i].after.toList) := hat
    simp [hat']
  rw [e] at h
  obtain ⟨ed, h1, h2, h3⟩ := mask_bit _ k _ h
  refine ⟨ops.toList[i], by simp, ed, by simpa using h1, h2, ?_⟩
  rcases h3 with h3 | h3
  · exact .inl h3
  · right
    rcases Nat.lt_or_ge ed.on i with h4 | h4
    · refine ⟨h4, ?_⟩
      unfold bitL
      rw [show (AA ops).getD ed.on 0 = ((AA ops).take i).getD ed.on 0 by simp [List.getElem?_take, h4]]
      exact h3
    · rw [show ((AA ops).take i).getD ed.on 0 = 0 by simp [List.getElem?_take, Nat.not_lt.2 h4]] at h3
      simp at h3
theorem anc_all {ops : Array Oper} {L : Nat → Bool} (down : ∀ j o, L j = true → ops[j]? = some o → ∀ e ∈ o.after, Region.binds .any e = true → L e.on = true) {k : Nat} : ∀ (i : Nat), (∀ o, ops[i]? = some o → ∀ e ∈ o.after, Region.binds .any e = true → L e.on = true) → bitL (AA ops) i k = true → L k = true := by
  intro i
  induction i using Nat.strongRecOn with
  | ind i ih =>
    intro hi h
    obtain ⟨o, ho, e, he, hb, h1 | ⟨h1, h2⟩⟩ := anc_bit h
    · rw [h1]; exact hi o ho e he hb
    · exact ih e.on h1 (fun o' ho' => down e.on o' (hi o ho e he hb) ho') h2
theorem ahead_symm {A : List Nat} {i k : Nat} (h : i ≠ k) : aheadB A i k = aheadB A k i := by
  unfold aheadB
  rcases Nat.lt_or_ge i k with h1 | h1
  · have e1 : Nat.blt i k = true := by simp [Nat.blt]; omega
    have e2 : Nat.blt k i = false := by
      cases e : Nat.blt k i with
      | false => rfl
      | true => have := blt_lt e; omega
    rw [e1, e2]; rfl
  · have e1 : Nat.blt k i = true := by simp [Nat.blt]; omega
    have e2 : Nat.blt i k = false := by
      cases e : Nat.blt i k with
      | false => rfl
      | true => have := blt_lt e; omega
    rw [e1, e2]; rfl
theorem ahead_lt {A : List Nat} {i k : Nat} (h : k < i) : aheadB A i k = bitL A i k := by
  unfold aheadB
  rw [show Nat.blt k i = true by simp [Nat.blt]; omega]; rfl
theorem ww_ahead {ops : Array Oper} {i k : Nat} {o : Oper} (h : (WW ops).getD i false = true) (hne : k ≠ i) (ho : ops[k]? = some o) (hp : pureK o = false) : aheadB (AA ops) i k = true := by
  unfold WW wrs at h
  have hi : i < ops.size := by
    rcases Nat.lt_or_ge i ops.size with h1 | h1
    · exact h1
    · rw [show ((List.range ops.size).map fun i => wrB ops (AA ops) i).getD i false = false by simp [h1]] at h; cases h
  rw [show ((List.range ops.size).map fun i => wrB ops (AA ops) i).getD i false = wrB ops (AA ops) i by simp [hi]] at h
  unfold wrB at h
  have hk : k < ops.size := (Array.getElem?_eq_some_iff.1 ho).1
  have := List.all_eq_true.1 h k (List.mem_range.2 hk)
  simp only [Bool.or_eq_true] at this
  rcases this with (h1 | h1) | h1
  · exact absurd (Nat.eq_of_beq_eq_true h1) hne
  · exact h1
  · rw [ho] at h1; simp only at h1; rw [hp] at h1; cases h1
end Go.Proofs.YtbanjolokkghdaaGreatDoor
namespace Go.Proofs.YtbanjolokkghdaaGreatDoor
open Go.RowKit
set_option maxRecDepth 100000
structure RC (P : Program) (R : Rec) (ops : Array Oper) (ps : List (Nat × Nat)) (F : Nat → Fr) (S : Nat → St) (RS : Nat → List (Nat × Nat × Nat)) (V : Nat → Value) : Prop where
  hM : RM R
  step : ∀ k, k < ops.size → StepT P R ops ps k (F k) (S k) (RS k) (F (k + 1)) (S (k + 1)) (RS (k + 1)) (V k)
  rs0 : RS 0 = []
  ok : okR (S 0).ng ops = true
  ap : apartB (S 0).lim (S 0).one (S 0).next ps = true
  nb : (S 0).next ≤ big
  up0 : ∀ k, (S 0).next ≤ k → (S 0).T.get k = none
  hl0 : ∀ k, hidden (S 0).hid k = true → k < (S 0).next
  fm : (F 0).m ≤ big
  gn : (S 0).ng ≤ (S 0).next
/-- the third kind of step -/
def Third (P : Program) (R : Rec) (ops : Array Oper) (ps : List (Nat × Nat)) (F : Nat → Fr) (S : Nat → St) (RS : Nat → List (Nat × Nat × Nat)) (V : Nat → Value) (k : Nat) : Prop :=
  ∃ o, ops[k]? = some o ∧ guardB ops (F k) o = true ∧ pureK o = false ∧ ∃ q, execH P R (F k).ev o (inEv (AA ops) (WW ops) ps k (RS k) (S k)) = some (V k, q) ∧ S (k + 1) = back (S k) q ∧ RS (k + 1) = (k, (S k).next, q.next) :: RS k
section
variable {P : Program} {R : Rec} {ops : Array Oper} {ps : List (Nat × Nat)} {F : Nat → Fr} {S : Nat → St} {RS : Nat → List (Nat × Nat × Nat)} {V : Nat → Value}
def inK (ops : Array Oper) (ps : List (Nat × Nat)) (S : Nat → St) (RS : Nat → List (Nat × Nat × Nat)) (k : Nat) : St := inEv (AA ops) (WW ops) ps k (RS k) (S k)
theorem RC.kind (c : RC P R ops ps F S RS V) {k : Nat} (hk : k < ops.size) : (S (k + 1) = S k ∧ RS (k + 1) = RS k) ∨ Third P R ops ps F S RS V k := by
  obtain ⟨o, ho, _, h⟩ := c.step k hk
  rcases h with ⟨_, _, h1, h2⟩ | ⟨_, _, _, h1, h2⟩ | ⟨h1, h2, q, h3, h4, h5⟩
  · exact .inl ⟨h1, h2⟩
  · exact .inl ⟨h1, h2⟩
  · exact .inr ⟨o, ho, h1, h2, q, h3, h4, h5⟩
theorem RC.base (c : RC P R ops ps F S RS V) : ∀ k, k ≤ ops.size → (S k).lim = (S 0).lim ∧ (S k).one = (S 0).one ∧ (S k).hid = (S 0).hid ∧ (S k).next ≤ big ∧ Mono (S 0) (S k)
  | 0, _ => ⟨rfl, rfl, rfl, c.nb, Mono.refl _⟩
  | k + 1, hk => by
    obtain ⟨h1, h2, h3, h4, h5⟩ := c.base k (by omega)
    rcases c.kind (show k < ops.size by omega) with ⟨e, _⟩ | ⟨o, ho, hg, hp, q, hq, e, _⟩
    · rw [e]; exact ⟨h1, h2, h3, h4, h5⟩
    · have hap : apartB (S k).lim (S k).one (S 0).next ps = true := by rw [h1, h2]; exact c.ap
      obtain ⟨m, hb⟩ := back_mb (s := S k) hap (execH_mb c.hM hq) h4
      rw [e]
      exact ⟨h1, h2, h3, hb, h5.trans m⟩
theorem RC.m1 (c : RC P R ops ps F S RS V) {k : Nat} (hk : k < ops.size) : Mono (S k) (S (k + 1)) := by
  obtain ⟨h1, h2, h3, h4, h5⟩ := c.base k (by omega)
  rcases c.kind hk with ⟨e, _⟩ | ⟨o, ho, hg, hp, q, hq, e, _⟩
  · rw [e]; exact Mono.refl _
  · have hap : apartB (S k).lim (S k).one (S 0).next ps = true := by rw [h1, h2]; exact c.ap
    rw [e]; exact (back_mb (s := S k) hap (execH_mb c.hM hq) h4).1
theorem RC.mono (c : RC P R ops ps F S RS V) {j : Nat} : ∀ k, j ≤ k → k ≤ ops.size → Mono (S j) (S k)
  | 0, h, _ => by
    obtain rfl : j = 0 := by omega
    exact Mono.refl _
  | k + 1, h, hk => by
    rcases Nat.lt_or_ge k j with h1 | h1
    · obtain rfl : j = k + 1 := by omega
      exact Mono.refl _
    · exact (c.mono k h1 (by omega)).trans (c.m1 (by omega))
theorem RC.upk (c : RC P R ops ps F S RS V) {k : Nat} (hk : k ≤ ops.size) : ∀ i, (S k).next ≤ i → (S k).T.get i = none := (c.base k hk).2.2.2.2.up c.up0
theorem RC.inK_next (_c : RC P R ops ps F S RS V) (k : Nat) : (inK ops ps S RS k).next = (S k).next := (inEv_T _ _ _ _ _ _).2.1
theorem RC.inK_ng' (_c : RC P R ops ps F S RS V) (k : Nat) : (inK ops ps S RS k).ng = (S k).ng := (inEv_T _ _ _ _ _ _).2.2
theorem RC.inK_T (_c : RC P R ops ps F S RS V) (k : Nat) : (inK ops ps S RS k).T = (S k).T := (inEv_T _ _ _ _ _ _).1
theorem RC.rs_mem (c : RC P R ops ps F S RS V) {j : Nat} (hj : j < ops.size) (ht : Third P R ops ps F S RS V j) : ∀ k, j < k → k ≤ ops.size → (j, (S j).next, (S (j + 1)).next) ∈ RS k
  | 0, h, _ => by omega
  | k + 1, h, hk => by
    by_cases e : j = k
    · subst e
      obtain ⟨o, ho, hg, hp, q, hq, e1, e2⟩ := ht
      rw [e2, e1]; exact List.mem_cons_self ..
    · have ih := c.rs_mem hj ht k (by omega) (by omega)
      rcases c.kind (show k < ops.size by omega) with ⟨_, e2⟩ | ⟨o, ho, hg, hp, q, hq, e1, e2⟩
      · rw [e2]; exact ih
      · rw [e2]; exact List.mem_cons_of_mem _ ih
theorem RC.rs_le (c : RC P R ops ps F S RS V) : ∀ k, k ≤ ops.size → ∀ p ∈ RS k, p.2.2 ≤ (S k).next
  | 0, _, p, hp => by rw [c.rs0] at hp; cases hp
  | k + 1, hk, p, hp => by
    have hm := (c.m1 (show k < ops.size by omega)).next
    have ih := c.rs_le k (by omega)
    rcases c.kind (show k < ops.size by omega) with ⟨e1, e2⟩ | ⟨o, ho, hg, hq', q, hq, e1, e2⟩
    · rw [e2] at hp; rw [e1]; exact ih p hp
    · rw [e2] at hp
      rcases List.mem_cons.1 hp with rfl | hp
      · rw [e1]; exact Nat.le_refl _
      · exact Nat.le_trans (ih p hp) hm
theorem hidden_mem {a b k : Nat} : ∀ {l : List (Nat × Nat)}, (a, b) ∈ l → a ≤ k → k < b → hidden l k = true
  | [], h, _, _ => by cases h
  | (x, y) :: l, h, h1, h2 => by
    simp only [hidden, Bool.or_eq_true, Bool.and_eq_true, Nat.ble_eq]
    rcases List.mem_cons.1 h with e | h
    · injection e with e1 e2; subst e1; subst e2
      exact .inl ⟨h1, by simp [Nat.blt]; omega⟩
    · exact .inr (hidden_mem h h1 h2)
theorem hidden_lt {n : Nat} : ∀ {l : List (Nat × Nat)}, (∀ p ∈ l, p.2 ≤ n) → ∀ k, hidden l k = true → k < n
  | [], _, k, h => by cases h
  | (x, y) :: l, hl, k, h => by
    simp only [hidden, Bool.or_eq_true, Bool.and_eq_true] at h
    rcases h with h | h
    · have := blt_lt h.2; have := hl (x, y) (by simp); omega
    · exact hidden_lt (fun p hp => hl p (by simp [hp])) k h
theorem RC.hlt (c : RC P R ops ps F S RS V) {k : Nat} (hk : k ≤ ops.size) : ∀ i, hidden (inK ops ps S RS k).hid i = true → i < (S k).next := by
  obtain ⟨h1, h2, h3, h4, h5⟩ := c.base k hk
  have h0 : ∀ i, hidden (S k).hid i = true → i < (S k).next := fun i hi => by
    rw [h3] at hi; exact Nat.lt_of_lt_of_le (c.hl0 i hi) h5.next
  intro i hi
  unfold inK inEv at hi
  cases hw : (WW ops).getD k false with
  | true => rw [hw] at hi; exact h0 i hi
  | false =>
    rw [hw] at hi
    have hi : hidden (hidOf (AA ops) k (RS k) ps ++ (S k).hid) i = true := hi
    rw [hidden_app, Bool.or_eq_true] at hi
    rcases hi with hi | hi
    · refine hidden_lt (n := (S k).next) (fun p hp => ?_) i hi
      unfold hidOf at hp
      rcases List.mem_append.1 hp with hp | hp
      · obtain ⟨q, hq, e⟩ := List.mem_filterMap.1 hp
        cases hb : bitL (AA ops) k q.1 with
        | true => rw [hb] at e; cases e
        | false => rw [hb] at e; injection e with e; subst e; exact c.rs_le k hk q hq
      · obtain ⟨q, hq, e⟩ := List.mem_filterMap.1 hp
        cases hb : (Nat.beq q.1 k || aheadB (AA ops) k q.1) with
        | true => rw [hb] at e; cases e
        | false => rw [hb] at e; injection e with e; subst e; have := (apartB_mem c.ap q hq).2; have := h5.next; show q.2 + 1 ≤ _; omega
    · exact h0 i hi
/-- step k turns what number id has -/
def Turns (S : Nat → St) (k id : Nat) : Prop := (S (k + 1)).T.get id ≠ (S k).T.get id
def Sees (ops : Array Oper) (ps : List (Nat × Nat)) (S : Nat → St) (RS : Nat → List (Nat × Nat × Nat)) (k id : Nat) : Prop := id < (S k).next ∧ hidden (inK ops ps S RS k).hid id = false
theorem RC.turns (c : RC P R ops ps F S RS V) {k id : Nat} (hk : k < ops.size) (h : Turns S k id) : Third P R ops ps F S RS V k ∧ ((Sees ops ps S RS k id ∧ wrt (inK ops ps S RS k) id) ∨ ((S k).next ≤ id ∧ id < (S (k + 1)).next)) := by
  rcases c.kind hk with ⟨e, _⟩ | ht
  · exact absurd (by rw [e]) h
  refine ⟨ht, ?_⟩
  rcases Nat.lt_or_ge id (S k).next with h1 | h1
  · left
    obtain ⟨o, ho, hg, hp, q, hq, e1, e2⟩ := ht
    have h4 := (c.base k (by omega)).2.2.2.1
    obtain ⟨m, _⟩ := execH_mb c.hM hq (by rw [(inEv_T _ _ _ _ _ _).2.1]; exact h4)
    have hs : ¬ (¬ wrt (inK ops ps S RS k) id ∨ hidden (inK ops ps S RS k).hid id = true) := fun hh => by
      have := m.same id (by rw [(inEv_T _ _ _ _ _ _).2.1]; exact h1) hh
      rw [(inEv_T _ _ _ _ _ _).1] at this
      apply h
      rw [e1]; exact this
    refine ⟨⟨h1, ?_⟩, ?_⟩
    · cases e : hidden (inK ops ps S RS k).hid id with
      | false => rfl
      | true => exact absurd (.inr e) hs
    · exact Classical.not_not.1 fun hh => hs (.inl hh)
  · right
    refine ⟨h1, ?_⟩
    rcases Nat.lt_or_ge id (S (k + 1)).next with h2 | h2
    · exact h2
    · exact absurd ((c.upk (show k + 1 ≤ ops.size by omega) id h2).trans (c.upk (show k ≤ ops.size by omega) id h1).symm) h
/-- What one step sees and another turns: the one stands ahead of the other. -/
theorem RC.cmp (c : RC P R ops ps F S RS V) {i k id : Nat} (hi : i < ops.size) (hk : k < ops.size) (hne : i ≠ k) (ti : Third P R ops ps F S RS V i) (hs : Sees ops ps S RS i id) (ht : Turns S k id) : aheadB (AA ops) i k = true := by
  obtain ⟨tk, hd⟩ := c.turns hk ht
  have tk0 := tk
  obtain ⟨oi, hoi, _, hpi, _⟩ := ti
  obtain ⟨ok, hok, _, hpk, _⟩ := tk
  cases hwi : (WW ops).getD i false with
  | true => exact ww_ahead hwi (Ne.symm hne) hok hpk
  | false =>
    cases hwk : (WW ops).getD k false with
    | true => rw [ahead_symm hne]; exact ww_ahead hwk hne hoi hpi
    | false =>
      cases ha : aheadB (AA ops) i k with
      | true => rfl
      | false =>
        exfalso
        have hh := hs.2
        have e1 : (inK ops ps S RS i).hid = hidOf (AA ops) i (RS i) ps ++ (S i).hid := by unfold inK inEv; rw [hwi]; rfl
        rw [e1, hidden_app, Bool.or_eq_false_iff] at hh
        unfold hidOf at hh
        rw [hidden_app, Bool.or_eq_false_iff] at hh
        obtain ⟨⟨h1, h2⟩, _⟩ := hh
        have hnew : (S k).next ≤ id → id < (S (k + 1)).next → False := fun g1 g2 => by
          rcases Nat.lt_or_ge k i with hlt | hge
          · have hm := c.rs_mem hk tk0 i hlt (by omega)
            have : ((S k).next, (S (k + 1)).next) ∈ (RS i).filterMap fun r => bif bitL (AA ops) i r.1 then none else some (r.2.1, r.2.2) := by
              refine List.mem_filterMap.2 ⟨_, hm, ?_⟩
              simp only []
              rw [ahead_lt hlt] at ha
              rw [ha]; rfl
            rw [hidden_mem this g1 g2] at h1; cases h1
          · have := (c.mono k (show i ≤ k by omega) (by omega)).next
            have := hs.1
            omega
        rcases hd with ⟨⟨g1, _⟩, g2⟩ | ⟨g1, g2⟩
        · have e2 : inK ops ps S RS k = { S k with lim := (S k).next, one := oneOf k ps, hid := hidOf (AA ops) k (RS k) ps ++ (S k).hid } := by unfold inK inEv; rw [hwk]; rfl
          rw [e2] at g2
          rcases g2 with g2 | g2
          · have g2 : (S k).next ≤ id := g2; omega
          · have g2 : id = oneOf k ps := g2
            rcases oneOf_mem (i := k) (ps := ps) with e | e
            · have := (c.base k (by omega)).2.2.2.1; omega
            · rw [← g2] at e
              have : (id, id + 1) ∈ ps.filterMap fun p => bif Nat.beq p.1 i || aheadB (AA ops) i p.1 then none else some (p.2, Nat.succ p.2) := by
                refine List.mem_filterMap.2 ⟨_, e, ?_⟩
                simp only []
                rw [ha, show Nat.beq k i = false by
                  cases e3 : Nat.beq k i with
                  | false => rfl
                  | true => exact absurd (Nat.eq_of_beq_eq_true e3) (Ne.symm hne)]
                rfl
              rw [hidden_mem this (Nat.le_refl _) (by omega)] at h2; cases h2
        · exact hnew g1 g2
open Classical in
/-- What number id has, where the steps of L have been carried out. -/
noncomputable def vw (S : Nat → St) (L : Nat → Bool) (id : Nat) : Nat → Option AO
  | 0 => (S 0).T.get id
  | n + 1 => if L n = true ∧ Turns S n id then (S (n + 1)).T.get id else vw S L id n
theorem vw_congr {L L' : Nat → Bool} {id : Nat} : ∀ n, (∀ k, k < n → Turns S k id → L k = L' k) → vw S L id n = vw S L' id n
  | 0, _ => rfl
  | n + 1, h => by
    have ih := vw_congr n fun k hk => h k (by omega)
    simp only [vw]
    by_cases ht : Turns S n id
    · rw [h n (by omega) ht, ih]
    · rw [if_neg fun hh => ht hh.2, if_neg fun hh => ht hh.2, ih]
/-- all that turns it has been carried out -/
theorem vw_done {L : Nat → Bool} {id : Nat} : ∀ n, (∀ k, k < n → Turns S k id → L k = true) → vw S L id n = (S n).T.get id
  | 0, _ => rfl
  | n + 1, h => by
    have ih := vw_done n fun k hk => h k (by omega)
    simp only [vw]
    by_cases ht : Turns S n id
    · rw [if_pos ⟨h n (by omega) ht, ht⟩]
    · rw [if_neg fun hh => ht hh.2, ih]
      exact (Classical.not_not.1 ht).symm
theorem vw_stay {L : Nat → Bool} {id i : Nat} : ∀ n, i ≤ n → (∀ k, i ≤ k → k < n → Turns S k id → L k = false) → vw S L id n = vw S L id i
  | 0, h, _ => by
    obtain rfl : i = 0 := by omega
    rfl
  | n + 1, h, hk => by
    rcases Nat.lt_or_ge n i with h1 | h1
    · obtain rfl : i = n + 1 := by omega
      rfl
    · have ih := vw_stay n h1 fun k g1 g2 => hk k g1 (by omega)
      simp only [vw]
      rw [if_neg (fun hh => (by have := hk n h1 (by omega) hh.2; rw [hh.1] at this; cases this))]
      exact ih
end
end Go.Proofs.YtbanjolokkghdaaGreatDoor
namespace Go.Proofs.YtbanjolokkghdaaGreatDoor
open Go.RowKit
set_option maxRecDepth 100000
theorem Upon.mono {P : Program} {K K' : Value → World → Prop} {res : Result Go.Next} (h : Upon P K res) (hk : ∀ v w, K v w → K' v w) : Upon P K' res := by
  cases res with
  | halt x w' => exact h
  | ok x w' =>
    cases x <;> simp only [Upon] at h ⊢
    · exact hk _ _ h
    · exact hk _ _ h
    · exact fun n => (h n).mono fun e w'' ⟨v, e1, e2⟩ => ⟨v, e1, hk _ _ e2⟩
    · exact fun n => (h n).mono fun e w'' ⟨v, e1, e2⟩ => ⟨v, e1, hk _ _ e2⟩
structure HI (P : Program) (ops : Array Oper) (S : Nat → St) (r0 : Rn) (w0 : World) (L : Nat → Bool) (r : Rn) (w : World) : Prop where
  obj : ∀ id o, hidden (S 0).hid id = false → vw S L id ops.size = some o → ∃ b x o', r id = some (b, x) ∧ w.heap[b]? = some o' ∧ OR P r x o o'
  inj : ∀ id id' b x x', hidden (S 0).hid id = false → hidden (S 0).hid id' = false → vw S L id ops.size ≠ none → vw S L id' ops.size ≠ none → r id = some (b, x) → r id' = some (b, x') → id = id'
  fresh : ∀ j, j < ops.size → L j = false → ∀ k, (S j).next ≤ k → k < (S (j + 1)).next → r k = none
  rr : ∀ k, k < (S 0).next ∨ (S ops.size).next ≤ k → r k = r0 k
  size : w0.heap.size ≤ w.heap.size
  os : w.os = w0.os
  tape : w.tape = w0.tape
  output : w.output = w0.output
  frame : ∀ b, b < w0.heap.size → (∀ k x, k < (S 0).next → wrt (S 0) k → (S 0).get k ≠ none → r0 k ≠ some (b, x)) → w.heap[b]? = w0.heap[b]?
  new : ∀ k b x, (S 0).next ≤ k → hidden (S 0).hid k = false → vw S L k ops.size ≠ none → r k = some (b, x) → w0.heap.size ≤ b ∨ ∃ k0 x0, k0 < (S 0).next ∧ wrt (S 0) k0 ∧ (S 0).get k0 ≠ none ∧ r0 k0 = some (b, x0)
  gl : ∀ g, g < (S 0).ng → r g = some (g, 0)
def Lx (L : Nat → Bool) (i : Nat) : Nat → Bool := fun j => if j = i then true else L j
structure RF (ops : Array Oper) (L : Nat → Bool) (i : Nat) : Prop where
  unl : L i = false
  anc : ∀ k, bitL (AA ops) i k = true → L k = true
  desc : ∀ k, k < ops.size → bitL (AA ops) k i = true → L k = false
section
variable {P : Program} {R : Rec} {ops : Array Oper} {ps : List (Nat × Nat)} {F : Nat → Fr} {S : Nat → St} {RS : Nat → List (Nat × Nat × Nat)} {V : Nat → Value} {r0 r : Rn} {w0 w : World} {L : Nat → Bool} {i : Nat}
theorem RC.hid0 (c : RC P R ops ps F S RS V) (hi : i ≤ ops.size) {id : Nat} (h : hidden (inK ops ps S RS i).hid id = false) : hidden (S 0).hid id = false := by
  cases e : hidden (S 0).hid id with
  | false => rfl
  | true =>
    have := hid_inI (A := AA ops) (W := WW ops) (ps := ps) (i := i) (rs := RS i) (s := S i) (k := id) (by rw [(c.base i hi).2.2.1]; exact e)
    unfold inK at h
    rw [this] at h; cases h
theorem RC.get_sees (c : RC P R ops ps F S RS V) (hi : i ≤ ops.size) {id : Nat} {o : AO} (h : (inK ops ps S RS i).get id = some o) : Sees ops ps S RS i id ∧ (S i).T.get id = some o := by
  rw [getT] at h
  split at h
  · cases h
  · rename_i hh
    rw [c.inK_T] at h
    refine ⟨⟨?_, by simpa using hh⟩, h⟩
    rcases Nat.lt_or_ge id (S i).next with h1 | h1
    · exact h1
    · rw [c.upk hi id h1] at h; cases h
theorem RC.see (c : RC P R ops ps F S RS V) (hi : i < ops.size) (rf : RF ops L i) (ti : Third P R ops ps F S RS V i) {id : Nat} (hs : Sees ops ps S RS i id) : vw S L id ops.size = (S i).T.get id := by
  rw [vw_stay ops.size (i := i) (by omega) ?_, vw_done i ?_]
  · intro k hk ht
    have := c.cmp hi (by omega) (by omega) ti hs ht
    rw [ahead_lt hk] at this
    exact rf.anc k this
  · intro k hk hk2 ht
    by_cases e : k = i
    · subst e; exact rf.unl
    · have := c.cmp hi hk2 (Ne.symm e) ti hs ht
      rw [ahead_symm (Ne.symm e), ahead_lt (by omega)] at this
      exact rf.desc k hk2 this
theorem RC.see' (c : RC P R ops ps F S RS V) (hi : i < ops.size) (rf : RF ops L i) (ti : Third P R ops ps F S RS V i) {id : Nat} (hs : Sees ops ps S RS i id) : vw S (Lx L i) id ops.size = (S (i + 1)).T.get id := by
  rw [vw_stay ops.size (i := i + 1) (by omega) ?_, vw_done (i + 1) ?_]
  · intro k hk ht
    unfold Lx
    by_cases e : k = i
    · rw [if_pos e]
    · rw [if_neg e]
      have := c.cmp hi (by omega) (by omega) ti hs ht
      rw [ahead_lt (by omega)] at this
      exact rf.anc k this
  · intro k hk hk2 ht
    unfold Lx
    rw [if_neg (by omega)]
    have := c.cmp hi hk2 (by omega) ti hs ht
    rw [ahead_symm (by omega), ahead_lt (by omega)] at this
    exact rf.desc k hk2 this
theorem RC.new' (c : RC P R ops ps F S RS V) (hi : i < ops.size) (rf : RF ops L i) {id : Nat} (h1 : (S i).next ≤ id) (h2 : id < (S (i + 1)).next) : vw S (Lx L i) id ops.size = (S (i + 1)).T.get id := by
  rw [vw_stay ops.size (i := i + 1) (by omega) ?_, vw_done (i + 1) ?_]
  · intro k hk ht
    unfold Lx
    by_cases e : k = i
    · rw [if_pos e]
    · exfalso
      obtain ⟨_, hd⟩ := c.turns (by omega) ht
      have g1 := (c.mono i (show k + 1 ≤ i by omega) (by omega)).next
      have g2 := (c.mono i (show k ≤ i by omega) (by omega)).next
      rcases hd with ⟨⟨q1, _⟩, _⟩ | ⟨_, q1⟩ <;> omega
  · intro k hk hk2 ht
    unfold Lx
    rw [if_neg (by omega)]
    obtain ⟨tk, hd⟩ := c.turns hk2 ht
    have g1 := (c.mono k (show i + 1 ≤ k by omega) (by omega)).next
    rcases hd with ⟨hs, _⟩ | ⟨q1, _⟩
    · by_cases hti : Turns S i id
      · have := c.cmp hk2 hi (by omega) tk hs hti
        rw [ahead_lt (by omega)] at this
        exact rf.desc k hk2 this
      · exfalso
        have e0 : (S (i + 1)).T.get id = none := (Classical.not_not.1 hti).trans (c.upk (by omega) id h1)
        have e1 := (c.mono k (show i + 1 ≤ k by omega) (by omega)).dead id h2 e0
        have e2 := (c.mono (k + 1) (show i + 1 ≤ k + 1 by omega) (by omega)).dead id h2 e0
        exact ht (e2.trans e1.symm)
    · omega
theorem RC.old' (c : RC P R ops ps F S RS V) (hi : i < ops.size) {id : Nat} (h1 : ¬ Sees ops ps S RS i id) (h2 : ¬ ((S i).next ≤ id ∧ id < (S (i + 1)).next)) : vw S (Lx L i) id ops.size = vw S L id ops.size := by
  refine vw_congr ops.size fun k hk ht => ?_
  unfold Lx
  rw [if_neg]
  rintro rfl
  obtain ⟨_, hd⟩ := c.turns hk ht
  rcases hd with ⟨hs, _⟩ | hn
  · exact h1 hs
  · exact h2 hn
/-- a step that looks at no memory -/
theorem RC.pure' (c : RC P R ops ps F S RS V) (hI : HI P ops S r0 w0 L r w) (hi : i < ops.size) (he : S (i + 1) = S i) : HI P ops S r0 w0 (Lx L i) r w := by
  have hv : ∀ id, vw S (Lx L i) id ops.size = vw S L id ops.size := fun id => vw_congr ops.size fun k hk ht => by
    unfold Lx
    rw [if_neg]
    rintro rfl
    exact ht (by rw [he])
  refine ⟨fun id o h1 h2 => hI.obj id o h1 (by rw [← hv]; exact h2), fun id id' b x x' h1 h2 h3 h4 => hI.inj id id' b x x' h1 h2 (by rw [← hv]; exact h3) (by rw [← hv]; exact h4), fun j hj hL => hI.fresh j hj ?_, hI.rr, hI.size, hI.os, hI.tape, hI.output, hI.frame, fun k b x h1 h2 h3 => hI.new k b x h1 h2 (by rw [← hv]; exact h3), hI.gl⟩
  unfold Lx at hL
  split at hL
  · cases hL
  · exact hL
theorem RC.inK_ng (c : RC P R ops ps F S RS V) {k : Nat} (hk : k ≤ ops.size) : (inK ops ps S RS k).ng = (S 0).ng := (c.inK_ng' k).trans (c.base k hk).2.2.2.2.ng
theorem RC.rel (c : RC P R ops ps F S RS V) (hI : HI P ops S r0 w0 L r w) (hi : i < ops.size) (rf : RF ops L i) (ti : Third P R ops ps F S RS V i) : Rel P (S (i + 1)).next r (inK ops ps S RS i) w := by
  have hn := c.inK_next i
  refine ⟨by rw [hn]; exact (c.base i (by omega)).2.2.2.1, by rw [hn]; exact (c.m1 hi).next, fun k h1 h2 => hI.fresh i hi rf.unl k (by rw [← hn]; exact h1) h2, fun k o h => ?_, fun k k' b x x' h1 h2 h3 h4 => ?_, fun k h => by rw [c.inK_T]; exact c.upk (by omega) k (by rw [← hn]; exact h), fun k h => by rw [hn]; exact c.hlt (by omega) k h, fun g hg => hI.gl g (by rw [c.inK_ng (by omega)] at hg; exact hg), by rw [c.inK_ng (by omega), hn]; exact Nat.le_trans c.gn (c.base i (by omega)).2.2.2.2.next⟩
  · obtain ⟨hs, e⟩ := c.get_sees (by omega) h
    exact hI.obj k o (c.hid0 (by omega) hs.2) (by rw [c.see hi rf ti hs, e])
  · cases e1 : (inK ops ps S RS i).get k with
    | none => exact absurd e1 h1
    | some o1 =>
      cases e2 : (inK ops ps S RS i).get k' with
      | none => exact absurd e2 h2
      | some o2 =>
        obtain ⟨s1, g1⟩ := c.get_sees (by omega) e1
        obtain ⟨s2, g2⟩ := c.get_sees (by omega) e2
        exact hI.inj k k' b x x' (c.hid0 (by omega) s1.2) (c.hid0 (by omega) s2.2) (by rw [c.see hi rf ti s1, g1]; simp) (by rw [c.see hi rf ti s2, g2]; simp) h3 h4
/-- a step that looks at memory, or calls -/
theorem RC.third (c : RC P R ops ps F S RS V) (hR : SoundC P R) (hI : HI P ops S r0 w0 L r w) (hi : i < ops.size) (rf : RF ops L i) {o : Oper} {q : St} {ρ' : Operand → Value} (ti : Third P R ops ps F S RS V i)
    (hq : execH P R (F i).ev o (inEv (AA ops) (WW ops) ps i (RS i) (S i)) = some (V i, q)) (hS : S (i + 1) = back (S i) q) (hρ : ∀ x ∈ o.op.operands, VR r ((F i).ev x) (ρ' x)) :
    Upon P (fun v' w' => ∃ r', VR r' (V i) v' ∧ (∀ k p, r k = some p → r' k = some p) ∧ HI P ops S r0 w0 (Lx L i) r' w') ((execOp ρ' o).run P w) := by
  have hrel := c.rel hI hi rf ti
  have hqn : q.next = (S (i + 1)).next := by rw [hS]; rfl
  have hqT : q.T = (S (i + 1)).T := by rw [hS]; rfl
  refine (execH_ok' hR hrel (by rw [hqn]; exact Nat.le_refl _) hq hρ).mono ?_
  rintro v' w' ⟨r', hv, hG⟩
  have hn := c.inK_next i
  have hup := hG.up hrel
  have hbase := c.base i (by omega)
  have hm1 := (c.m1 hi).next
  have hrr : ∀ k, k < (S i).next ∨ (S (i + 1)).next ≤ k → r' k = r k := fun k hk => hG.ext.rr k (by rw [hqn]; show k < (inK ops ps S RS i).next ∨ _; rw [hn]; exact hk)
  have qget : ∀ id, hidden (inK ops ps S RS i).hid id = false → q.get id = (S (i + 1)).T.get id := fun id hh => by
    rw [getT, hG.mono.hid]
    show (if hidden (inK ops ps S RS i).hid id = true then none else _) = _
    rw [hh, hqT]; rfl
  have nhid : ∀ id, (S i).next ≤ id → hidden (inK ops ps S RS i).hid id = false := fun id h => by
    cases e : hidden (inK ops ps S RS i).hid id with
    | false => rfl
    | true => exact absurd (c.hlt (by omega) id e) (by omega)
  -- what is seen, or new
  have vis : ∀ id, (Sees ops ps S RS i id ∨ ((S i).next ≤ id ∧ id < (S (i + 1)).next)) → vw S (Lx L i) id ops.size = q.get id := by
    rintro id (h | ⟨h1, h2⟩)
    · rw [c.see' hi rf ti h, qget id h.2]
    · rw [c.new' hi rf h1 h2, qget id (nhid id h1)]
  -- a number that is seen by the step, of a block
  have seen : ∀ k, (inK ops ps S RS i).get k ≠ none → Sees ops ps S RS i k ∧ vw S L k ops.size ≠ none := fun k h => by
    cases e : (inK ops ps S RS i).get k with
    | none => exact absurd e h
    | some oo =>
      obtain ⟨s1, g1⟩ := c.get_sees (by omega) e
      exact ⟨s1, by rw [c.see hi rf ti s1, g1]; simp⟩
  have back0 : ∀ k0 b x0, k0 < (inK ops ps S RS i).next → wrt (inK ops ps S RS i) k0 → (inK ops ps S RS i).get k0 ≠ none → r k0 = some (b, x0) → w0.heap.size ≤ b ∨ ∃ k x, k < (S 0).next ∧ wrt (S 0) k ∧ (S 0).get k ≠ none ∧ r0 k = some (b, x) := by
    intro k0 b x0 h1 h2 h3 h4
    obtain ⟨s1, g1⟩ := seen k0 h3
    rcases Nat.lt_or_ge k0 (S 0).next with h5 | h5
    · right
      have hap : apartB (S i).lim (S i).one (S 0).next ps = true := by rw [hbase.1, hbase.2.1]; exact c.ap
      have hw : wrt (S i) k0 := wrt_inI hap hbase.2.2.2.1 s1.1 h2
      refine ⟨k0, x0, h5, by unfold wrt at *; rw [← hbase.1, ← hbase.2.1]; exact hw, ?_, by rw [← hI.rr k0 (.inl h5)]; exact h4⟩
      rw [getT, c.hid0 (by omega) s1.2]
      intro e
      have e : (S 0).T.get k0 = none := e
      have := hbase.2.2.2.2.dead k0 h5 e
      rw [c.see hi rf ti s1, this] at g1
      exact g1 rfl
    · exact hI.new k0 b x0 h5 (c.hid0 (by omega) s1.2) g1 h4
  have deadS : ∀ id, Sees ops ps S RS i id → vw S (Lx L i) id ops.size ≠ none → vw S L id ops.size ≠ none := fun id hs h => by
    rw [c.see' hi rf ti hs] at h
    rw [c.see hi rf ti hs]
    intro e
    exact h ((c.m1 hi).dead id hs.1 e)
  have mixed : ∀ id id' b x x', (Sees ops ps S RS i id ∨ ((S i).next ≤ id ∧ id < (S (i + 1)).next)) → ¬ (Sees ops ps S RS i id' ∨ ((S i).next ≤ id' ∧ id' < (S (i + 1)).next)) → hidden (S 0).hid id = false → hidden (S 0).hid id' = false →
      vw S (Lx L i) id ops.size ≠ none → vw S (Lx L i) id' ops.size ≠ none → r' id = some (b, x) → r' id' = some (b, x') → id = id' := by
    intro id id' b x x' h1 h2 d1 d2 v1 v2 e1 e2
    have h2a : ¬ Sees ops ps S RS i id' := fun h => h2 (.inl h)
    have h2b : ¬ ((S i).next ≤ id' ∧ id' < (S (i + 1)).next) := fun h => h2 (.inr h)
    rw [c.old' hi h2a h2b] at v2
    rw [hrr id' (by omega)] at e2
    have hbl : b < w.heap.size := by
      cases e : vw S L id' ops.size with
      | none => exact absurd e v2
      | some oo =>
        obtain ⟨b', y, o', g1, g2, _⟩ := hI.obj id' oo d2 e
        rw [e2] at g1; injection g1 with g1; injection g1 with g1 _; subst g1
        exact (Array.getElem?_eq_some_iff.1 g2).1
    rcases h1 with hs | ⟨n1, n2⟩
    · rw [hrr id (.inl hs.1)] at e1
      exact hI.inj id id' b x x' d1 d2 (deadS id hs v1) v2 e1 e2
    · rcases hG.ext.new id b x (by show (inK ops ps S RS i).next ≤ id; rw [hn]; exact n1) (by rw [← vis id (.inr ⟨n1, n2⟩)]; exact v1) e1 with h3 | ⟨k0, x0, a1, a2, a3, a4⟩
      · omega
      · obtain ⟨s1, g1⟩ := seen k0 a3
        have := hI.inj k0 id' b x0 x' (c.hid0 (by omega) s1.2) d2 g1 v2 a4 e2
        subst this
        exact absurd s1 h2a
  refine ⟨r', hv, hup, fun id oo h1 h2 => ?_, fun id id' b x x' h1 h2 h3 h4 h5 h6 => ?_, fun j hj hL k h1 h2 => ?_, fun k hk => ?_, Nat.le_trans hI.size hG.ext.size, hG.ext.os.trans hI.os, hG.ext.tape.trans hI.tape, hG.ext.output.trans hI.output, fun b hb H => ?_, fun k b x h1 h2 h3 h4 => ?_, fun g hg => hup _ _ (hI.gl g hg)⟩
  · by_cases hs : Sees ops ps S RS i id ∨ ((S i).next ≤ id ∧ id < (S (i + 1)).next)
    · rw [vis id hs] at h2
      exact hG.rel.obj id oo h2
    · have hsa : ¬ Sees ops ps S RS i id := fun h => hs (.inl h)
      rw [c.old' hi hsa fun h => hs (.inr h)] at h2
      obtain ⟨b, x, o', g1, g2, g3⟩ := hI.obj id oo h1 h2
      refine ⟨b, x, o', hup _ _ g1, (hG.ext.frame b (Array.getElem?_eq_some_iff.1 g2).1 fun k y a1 a2 a3 a4 => ?_).trans g2, g3.mono hup⟩
      obtain ⟨s1, q1⟩ := seen k a3
      have := hI.inj k id b y x (c.hid0 (by omega) s1.2) h1 q1 (by rw [h2]; simp) a4 g1
      subst this
      exact hsa s1
  · by_cases hs : Sees ops ps S RS i id ∨ ((S i).next ≤ id ∧ id < (S (i + 1)).next)
    · by_cases hs' : Sees ops ps S RS i id' ∨ ((S i).next ≤ id' ∧ id' < (S (i + 1)).next)
      · rw [vis id hs] at h3
        rw [vis id' hs'] at h4
        exact hG.rel.inj id id' b x x' h3 h4 h5 h6
      · exact mixed id id' b x x' hs hs' h1 h2 h3 h4 h5 h6
    · by_cases hs' : Sees ops ps S RS i id' ∨ ((S i).next ≤ id' ∧ id' < (S (i + 1)).next)
      · exact (mixed id' id b x' x hs' hs h2 h1 h4 h3 h6 h5).symm
      · have a1 : ¬ ((S i).next ≤ id ∧ id < (S (i + 1)).next) := fun h => hs (.inr h)
        have a2 : ¬ ((S i).next ≤ id' ∧ id' < (S (i + 1)).next) := fun h => hs' (.inr h)
        rw [c.old' hi (fun h => hs (.inl h)) a1] at h3
        rw [c.old' hi (fun h => hs' (.inl h)) a2] at h4
        rw [hrr id (by omega)] at h5
        rw [hrr id' (by omega)] at h6
        exact hI.inj id id' b x x' h1 h2 h3 h4 h5 h6
  · unfold Lx at hL
    split at hL
    · cases hL
    · rename_i hne
      have : r' k = r k := by
        refine hrr k ?_
        rcases Nat.lt_or_ge j i with hlt | hge
        · left; have := (c.mono i (show j + 1 ≤ i by omega) (by omega)).next; omega
        · right; have := (c.mono j (show i + 1 ≤ j by omega) (by omega)).next; omega
      rw [this]; exact hI.fresh j hj hL k h1 h2
  · have g1 := hbase.2.2.2.2.next
    have g2 := (c.mono ops.size (show i + 1 ≤ ops.size by omega) (Nat.le_refl _)).next
    rw [hrr k (by omega)]
    exact hI.rr k hk
  · refine (hG.ext.frame b (Nat.lt_of_lt_of_le hb hI.size) fun k x a1 a2 a3 a4 => ?_).trans (hI.frame b hb H)
    rcases back0 k b x a1 a2 a3 a4 with h5 | ⟨k0, x0, q1, q2, q3, q4⟩
    · omega
    · exact H k0 x0 q1 q2 q3 q4
  · by_cases hnew : (S i).next ≤ k ∧ k < (S (i + 1)).next
    · rcases hG.ext.new k b x (by show (inK ops ps S RS i).next ≤ k; rw [hn]; exact hnew.1) (by rw [← vis k (.inr hnew)]; exact h3) h4 with h5 | ⟨k0, x0, a1, a2, a3, a4⟩
      · exact .inl (Nat.le_trans hI.size h5)
      · exact back0 k0 b x0 a1 a2 a3 a4
    · rw [hrr k (by omega)] at h4
      by_cases hs : Sees ops ps S RS i k
      · exact hI.new k b x h1 h2 (deadS k hs h3) h4
      · rw [c.old' hi hs hnew] at h3
        exact hI.new k b x h1 h2 h3 h4
end
end Go.Proofs.YtbanjolokkghdaaGreatDoor
