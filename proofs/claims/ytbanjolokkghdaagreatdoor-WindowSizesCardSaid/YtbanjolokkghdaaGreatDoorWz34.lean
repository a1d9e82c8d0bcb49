/- Parts of the proof that follows: A run of closed code: a region that draws its order. No condition. | A run of closed code: what the steps leave as it was; a step taken apart. No condition. | A run of closed code: what the steps of the machine do: ranges over functions, rounds, calls. No condition. -/
import Derived.OrdersIn
import Derived.RangeFuncNested
import Derived.RangeFuncRecord
import Derived.LoopNIn
import Derived.Test.YtbanjolokkghdaaGreatDoorWz33
set_option linter.unusedSimpArgs false
set_option linter.unusedVariables false
namespace Go.Proofs.YtbanjolokkghdaaGreatDoor
open Go.RowKit
set_option maxRecDepth 100000
structure SI (ops : Array Oper) (F : Nat → Fr) (V : Nat → Value) (L : Nat → Bool) (r : Rn) (a : Act) : Prop where
  size : a.tmps.size = (F 0).m
  wr : ∀ j s, j < ops.size → L j = true → wrOf ops j = some s → VR r (V j) (a.tmps.getD s undef)
  un : ∀ s, (∀ j, j < ops.size → L j = true → wrOf ops j ≠ some s) → VR r ((F 0).get s) (a.tmps.getD s undef)
  mks : MkR r (F 0).marks a.defers
theorem uniq_ok {ng : Nat} {ops : Array Oper} (h : okR ng ops = true) {i j : Nat} {d : Tmp} (hi : wrOf ops i = some d) (hj : wrOf ops j = some d) : i = j := by
  have hs : ∀ k d, wrOf ops k = some d → k < ops.size := fun k d hk => by
    unfold wrOf at hk
    rcases Nat.lt_or_ge k ops.size with h | h
    · exact h
    · rw [Array.getElem?_eq_none h] at hk; cases hk
  unfold okR at h
  simp only [Bool.and_eq_true] at h
  have := List.all_eq_true.1 (List.all_eq_true.1 h.1.1.2 i (List.mem_range.2 (hs i d hi))) j (List.mem_range.2 (hs j d hj))
  simpa [hi, hj] using this
theorem reads_ok {ng : Nat} {ops : Array Oper} (h : okR ng ops = true) {i j : Nat} {o : Oper} {s : Tmp} (ho : ops[i]? = some o) (hs : s ∈ o.looksAt ops) (hj : wrOf ops j = some s) (hne : i ≠ j) : aheadB (AA ops) i j = true := by
  have hjs : j < ops.size := by
    unfold wrOf at hj
    rcases Nat.lt_or_ge j ops.size with h | h
    · exact h
    · rw [Array.getElem?_eq_none h] at hj; cases hj
  unfold okR at h
  simp only [Bool.and_eq_true] at h
  have := List.all_eq_true.1 h.1.2 i (List.mem_range.2 (Array.getElem?_eq_some_iff.1 ho).1)
  rw [ho] at this
  have := List.all_eq_true.1 (List.all_eq_true.1 this s hs) j (List.mem_range.2 hjs)
  rw [hj] at this
  simp only [Bool.or_eq_true] at this
  rcases this with h1 | h1
  · exfalso
    rw [show Nat.beq s s = true from Nat.beq_refl s] at h1
    cases h1
  · rw [bq, if_neg hne] at h1
    exact h1
theorem back_ok {ng : Nat} {ops : Array Oper} (h : okR ng ops = true) {i : Nat} {o : Oper} (ho : ops[i]? = some o) {e : Edge} (he : e ∈ o.after) (hb : Region.binds .any e = true) : e.on < i := by
  unfold okR at h
  simp only [Bool.and_eq_true] at h
  have := List.all_eq_true.1 h.1.1.1 i (List.mem_range.2 (Array.getElem?_eq_some_iff.1 ho).1)
  simp only [ho] at this
  have := Array.all_eq_true_iff_forall_mem.1 this e he
  simpa [hb] using this
theorem least_rdy {ng : Nat} {ops : Array Oper} (hok : okR ng ops = true) {listed : Array Bool} (hls : listed.size = ops.size) : ∀ i, i < ops.size → listed.getD i false = false → ∃ k, k ∈ Region.ready .any ops listed := by
  intro i
  induction i using Nat.strongRecOn with
  | ind i ih =>
    intro hi hl
    by_cases hex : ∃ j, j < i ∧ listed.getD j false = false
    · obtain ⟨j, hj, hjl⟩ := hex
      exact ih j hj (by omega) hjl
    · refine ⟨i, mem_ready.2 ⟨?_, ops[i], by simp [hi], fun e he hb => ?_⟩⟩
      · simp [hls, hi] at hl ⊢; exact hl
      · cases h : listed.getD e.on false with
        | true => rfl
        | false => exact absurd ⟨e.on, back_ok hok (show ops[i]? = some ops[i] by simp [hi]) he hb, h⟩ hex
section
variable {P : Program} {R : Rec} {ops : Array Oper} {ps : List (Nat × Nat)} {F : Nat → Fr} {S : Nat → St} {RS : Nat → List (Nat × Nat × Nat)} {V : Nat → Value} {r0 r : Rn} {w0 w : World} {L : Nat → Bool} {i : Nat}
theorem RC.fm' (c : RC P R ops ps F S RS V) : ∀ k, k ≤ ops.size → (F k).m = (F 0).m ∧ (F k).marks = (F 0).marks ∧ (F k).round = (F 0).round
  | 0, _ => ⟨rfl, rfl, rfl⟩
  | k + 1, h => by
    obtain ⟨o, ho, hp, _⟩ := c.step k (by omega)
    obtain ⟨h1, h2, h3, _⟩ := put_fr hp
    obtain ⟨g1, g2, g3⟩ := c.fm' k (by omega)
    exact ⟨h1.trans g1, h2.trans g2, h3.trans g3⟩
theorem RC.fget (c : RC P R ops ps F S RS V) (s : Tmp) : ∀ k, k ≤ ops.size → (∃ j, j < k ∧ wrOf ops j = some s ∧ (F k).get s = V j) ∨ ((∀ j, j < k → wrOf ops j ≠ some s) ∧ (F k).get s = (F 0).get s)
  | 0, _ => .inr ⟨fun j hj => by omega, rfl⟩
  | k + 1, h => by
    obtain ⟨o, ho, hp, _⟩ := c.step k (by omega)
    have hw : wrOf ops k = o.dst := by unfold wrOf; rw [ho]; rfl
    obtain ⟨h1, h2, h3, h4⟩ := put_fr hp
    rcases h4 with ⟨e1, e2⟩ | ⟨d, e1, hd, e2⟩
    · rw [e2]
      rcases c.fget s k (by omega) with ⟨j, hj, hj1, hj2⟩ | ⟨hj1, hj2⟩
      · exact .inl ⟨j, by omega, hj1, hj2⟩
      · refine .inr ⟨fun j hj => ?_, hj2⟩
        by_cases e : j = k
        · subst e; rw [hw, e1]; simp
        · exact hj1 j (by omega)
    · have hb : d + 2 ≤ 2 ^ 24 := by
        have q1 := (c.fm' k (by omega)).1
        have q2 := c.fm
        rw [← q1] at q2
        unfold big at q2
        exact Nat.le_trans (Nat.succ_le_succ hd) (by omega)
      have hg : (F (k + 1)).get s = if s = d then V k else (F k).get s := by
        rw [e2]
        unfold Fr.get
        simp only []
        rw [Tr.get_set 24 _ d _ s hb]
        split <;> rfl
      by_cases e : s = d
      · subst e
        exact .inl ⟨k, by omega, by rw [hw, e1], by rw [hg, if_pos rfl]⟩
      · rw [if_neg e] at hg
        rw [hg]
        rcases c.fget s k (by omega) with ⟨j, hj, hj1, hj2⟩ | ⟨hj1, hj2⟩
        · exact .inl ⟨j, by omega, hj1, hj2⟩
        · refine .inr ⟨fun j hj => ?_, hj2⟩
          by_cases e' : j = k
          · subst e'; rw [hw, e1]; intro h; injection h with h; exact e h.symm
          · exact hj1 j (by omega)
theorem RC.slot (c : RC P R ops ps F S RS V) (hi : i < ops.size) (rf : RF ops L i) {a : Act} (hS : SI ops F V L r a) {o : Oper} (ho : ops[i]? = some o) {s : Tmp} (hs : s ∈ o.looksAt ops) : VR r ((F i).get s) (a.tmps.getD s undef) := by
  rcases c.fget s i (by omega) with ⟨j, hj, hj1, hj2⟩ | ⟨hj1, hj2⟩
  · rw [hj2]
    have := reads_ok c.ok ho hs hj1 (by omega)
    rw [ahead_lt hj] at this
    exact hS.wr j s (by omega) (rf.anc j this) hj1
  · rw [hj2]
    refine hS.un s fun j hj hL hw => ?_
    by_cases e : j = i
    · subst e; rw [rf.unl] at hL; cases hL
    · rcases Nat.lt_or_ge j i with hlt | hge
      · exact hj1 j hlt hw
      · have := reads_ok c.ok ho hs hw (Ne.symm e)
        rw [ahead_symm (Ne.symm e), ahead_lt (by omega)] at this
        rw [rf.desc j hj this] at hL; cases hL
theorem RC.sput (c : RC P R ops ps F S RS V) (hi : i < ops.size) {a : Act} (hS : SI ops F V L r a) {o : Oper} (ho : ops[i]? = some o) {r' : Rn} (hup : ∀ k p, r k = some p → r' k = some p) {v' : Value} (hv : VR r' (V i) v') : SI ops F V (Lx L i) r' (a.put o.dst v') := by
  have hw : wrOf ops i = o.dst := by unfold wrOf; rw [ho]; rfl
  have hdm : ∀ d, o.dst = some d → d < a.tmps.size := fun d hd => by
    obtain ⟨o2, ho2, hp, _⟩ := c.step i hi
    rw [ho] at ho2; injection ho2 with ho2; subst ho2
    obtain ⟨h1, h2, h3, h4⟩ := put_fr hp
    rcases h4 with ⟨e1, _⟩ | ⟨d', e1, hd', _⟩
    · rw [hd] at e1; cases e1
    · rw [hd] at e1; injection e1 with e1; subst e1
      rw [hS.size, ← (c.fm' i (by omega)).1]; exact hd'
  have hkeep : ∀ s, o.dst ≠ some s → (a.put o.dst v').tmps.getD s undef = a.tmps.getD s undef := fun s hs => by
    cases hd : o.dst with
    | none => rfl
    | some d => exact getD_put_ne (fun e => hs (by rw [hd, e]))
  refine ⟨?_, fun j s hj hL hjs => ?_, fun s hs => ?_, ?_⟩
  · have := hS.size
    cases hd : o.dst <;> simp [Act.put, this]
  · by_cases e : j = i
    · subst e
      have hd : o.dst = some s := by rw [← hw]; exact hjs
      rw [hd, getD_put_eq (hdm s hd)]; exact hv
    · have hL' : L j = true := by unfold Lx at hL; rw [if_neg e] at hL; exact hL
      rw [hkeep s fun hd => e (uniq_ok c.ok hjs (by rw [hw, hd]))]
      exact (hS.wr j s hj hL' hjs).mono hup
  · rw [hkeep s fun hd => hs i hi (by unfold Lx; rw [if_pos rfl]) (by rw [hw, hd])]
    refine (hS.un s fun j hj hL => hs j hj ?_).mono hup
    unfold Lx; split
    · rfl
    · exact hL
  · cases hd : o.dst <;> exact hS.mks.mono hup
def InvE (P : Program) (ops : Array Oper) (F : Nat → Fr) (S : Nat → St) (V : Nat → Value) (r0 : Rn) (w0 : World) (listed : Array Bool) (a : Act) (w : World) : Prop :=
  listed.size = ops.size ∧ (∀ i o, ops[i]? = some o → listed.getD i false = true → ∀ e ∈ o.after, Region.binds .any e = true → listed.getD e.on false = true) ∧
  ∃ r, HI P ops S r0 w0 (fun j => listed.getD j false) r w ∧ SI ops F V (fun j => listed.getD j false) r a
theorem RC.inv_step (c : RC P R ops ps F S RS V) (hR : SoundC P R) {ro : Option Nat} {n : Nat} {Q : Exit → Act → World → Prop} {listed : Array Bool} {a : Act} (hv : InvE P ops F S V r0 w0 listed a w) (hr : i ∈ Region.ready .any ops listed) :
    wpOpIn (FO ro) n P ops Q i (InvE P ops F S V r0 w0 (listed.setIfInBounds i true)) a w := by
  obtain ⟨hls, down, r, hI, hS⟩ := hv
  obtain ⟨hun, o, ho, hall⟩ := mem_ready.1 hr
  have hi : i < ops.size := (Array.getElem?_eq_some_iff.1 ho).1
  have hil : i < listed.size := by rw [hls]; exact hi
  have hunf := getD_false_of hil hun
  have rf : RF ops (fun j => listed.getD j false) i := by
    refine ⟨hunf, fun k hk => ?_, fun k hk hb => ?_⟩
    · refine anc_all (ops := ops) (L := fun j => listed.getD j false) (fun j o h1 h2 => down j o h2 h1) i (fun o' ho' => ?_) hk
      rw [ho] at ho'; injection ho' with ho'; subst ho'; exact hall
    · cases e : listed.getD k false with
      | false => rfl
      | true =>
        have := anc_all (ops := ops) (L := fun j => listed.getD j false) (fun j o h1 h2 => down j o h2 h1) k (fun o' ho' => down k o' ho' e) hb
        rw [show listed.getD i false = true from this] at hunf; cases hunf
  have hLx : (fun j => (listed.setIfInBounds i true).getD j false) = Lx (fun j => listed.getD j false) i := by
    funext j
    unfold Lx
    by_cases e : j = i
    · subst e; rw [if_pos rfl]; simp [hil]
    · rw [if_neg e, getD_set_ne false (Ne.symm e)]
  have down' : ∀ j o, ops[j]? = some o → (listed.setIfInBounds i true).getD j false = true → ∀ e ∈ o.after, Region.binds .any e = true → (listed.setIfInBounds i true).getD e.on false = true := by
    intro j o' hj hl e he hb
    refine getD_set_true ?_
    by_cases e' : j = i
    · subst e'; rw [ho] at hj; injection hj with hj; subst hj; exact hall e he hb
    · rw [getD_set_ne false (Ne.symm e')] at hl; exact down j o' hj hl e he hb
  have fin : ∀ r' v' w', (∀ k p, r k = some p → r' k = some p) → VR r' (V i) v' → HI P ops S r0 w0 (Lx (fun j => listed.getD j false) i) r' w' → InvE P ops F S V r0 w0 (listed.setIfInBounds i true) (a.put o.dst v') w' := fun r' v' w' h1 h2 h3 =>
    ⟨by simp [hls], down', r', by rw [hLx]; exact h3, by rw [hLx]; exact c.sput hi hS ho h1 h2⟩
  have hslot : ∀ s ∈ o.looksAt ops, VR r ((F i).get s) (a.tmps.getD s undef) := fun s hs => c.slot hi rf hS ho hs
  have hok2 : okOps (S 0).ng ops = true := by have := c.ok; unfold okR at this; simp only [Bool.and_eq_true] at this; exact this.2
  have hρ : ∀ x ∈ o.op.operands, VR r ((F i).ev x) (a.eval x) := fun x hx => by
    have hx2 := okOps_mem hok2 (o := o) (Array.mem_toList_iff.2 (Array.mem_of_getElem? ho)) hx
    cases x with
    | tmp t => exact hslot t (by unfold Oper.looksAt; simp; exact .inl ⟨_, hx, rfl⟩)
    | const v => exact .pln hx2
    | global g => exact .ptr (hI.gl g (blt_lt hx2))
    | func f => exact .pln rfl
  have hg := guard_ok (ops := ops) (fr := F i) (o := o) (a := a) (r := r) fun k want d h1 h2 => hslot d (by
    unfold wrOf at h2
    simp [Oper.looksAt, h1, h2])
  unfold wpOpIn
  simp only [ho]
  rw [hg]
  obtain ⟨o2, ho2, hp, hk⟩ := c.step i hi
  rw [ho] at ho2; injection ho2 with ho2; subst ho2
  rcases hk with ⟨e1, e2, e3, e4⟩ | ⟨e1, e2, e3, e4, e5⟩ | ⟨e1, e2, q, e3, e4, e5⟩
  · rw [e1, if_neg (by simp)]
    exact ⟨fun _ _ => trivial, fin r undef w (fun _ _ h => h) (by rw [e2]; exact VR.undef) (c.pure' hI hi e3)⟩
  · rw [e1, if_pos rfl]
    obtain ⟨v', h1, h2⟩ := execP_ok e3 hρ
    refine op_in (K := fun u w' => u = v' ∧ w' = w) (fun cc hc => by unfold pureK at e2; rw [hc] at e2; cases e2) (by rw [h2 w]; exact ⟨rfl, rfl⟩) ?_
    rintro u w' ⟨rfl, rfl⟩
    exact fin r u w' (fun _ _ h => h) h1 (c.pure' hI hi e4)
  · rw [e1, if_pos rfl]
    refine op_in (fun cc hc => ?_) (c.third hR hI hi rf ⟨o, ho, e1, e2, q, e3, e4, e5⟩ e3 e4 hρ) ?_
    · unfold execH at e3; rw [hc] at e3; cases e3
    · rintro v' w' ⟨r', h1, h2, h3⟩
      exact fin r' v' w' h2 h1 h3
theorem RC.all (c : RC P R ops ps F S RS V) (hR : SoundC P R) {ro : Option Nat} {n : Nat} {Q : Exit → Act → World → Prop}
    (hQ : ∀ listed a w, InvE P ops F S V r0 w0 listed a w → (∀ i, i < ops.size → listed.getD i false = true) → Q .normal a w) :
    ∀ (f : Nat) (listed : Array Bool) (a : Act) (w : World), InvE P ops F S V r0 w0 listed a w → listed.toList.count false = f → wpAnyIn (FO ro) n P .any ops Q f listed a w := by
  have done : ∀ (listed : Array Bool) (a : Act) (w : World), InvE P ops F S V r0 w0 listed a w → Region.ready .any ops listed = [] → Q .normal a w := fun listed a w hv he => by
    refine hQ listed a w hv fun i hi => ?_
    cases e : listed.getD i false with
    | true => rfl
    | false =>
      obtain ⟨k, hk⟩ := least_rdy c.ok hv.1 i hi e
      rw [he] at hk; cases hk
  intro f
  induction f with
  | zero =>
    intro listed a w hv hcnt
    have hready : Region.ready .any ops listed = [] := by
      apply List.eq_nil_iff_forall_not_mem.2
      intro k hk
      obtain ⟨h1, o, ho, _⟩ := mem_ready.1 hk
      have hk' := (Array.getElem?_eq_some_iff.1 ho).1
      have hk2 : k < listed.size := by rw [hv.1]; exact hk'
      have hf := getD_false_of hk2 h1
      have : false ∈ listed.toList := by
        have e : listed[k] = false := by simpa [hk2] using hf
        rw [← e]; exact Array.mem_toList_iff.2 (Array.getElem_mem hk2)
      exact absurd hcnt (by have := List.count_pos_iff.2 this; omega)
    exact ⟨hready, done listed a w hv hready⟩
  | succ f ih =>
    intro listed a w hv hcnt
    refine ⟨fun he => done listed a w hv he, fun i hi => ?_⟩
    refine wpOpIn_mono (fun a' w' hv' => ih _ a' w' hv' ?_) (c.inv_step hR hv hi)
    obtain ⟨hun, o, ho, _⟩ := mem_ready.1 hi
    have his : i < listed.size := by rw [hv.1]; exact (Array.getElem?_eq_some_iff.1 ho).1
    have hunf := getD_false_of his hun
    have hg : listed.toList[i]? = some false := by simp [his] at hunf; simp [his, hunf]
    have := count_set listed.toList i hg
    rw [Array.toList_setIfInBounds]; omega
end
/-- **A REGION, in whatever order.** -/
theorem regB_ok {P : Program} {R : Rec} {B : Nat} (hf : P.follows .mixedOrders = true) (hM : RM R) (hR : SoundC P R) {id : Nat} {ops : Array Oper} {draw : Bool} {ro : Option Nat} {n : Nat} {Q : Exit → Act → World → Prop} {fr fr' : Fr} {s s' : St} {r : Rn} {w : World} {a : Act}
    (h : regB P R ops draw fr s = some (fr', s')) (hB : s'.next ≤ B) (hr : Rel P B r s w) (hfr : FrR r fr a) (hQ : ∀ r' a' w', FrR r' fr' a' → Good P B s s' r r' w w' → Q .normal a' w') : (Code.region id ops draw).wpIn (FO ro) n P Q a w := by
  have h0 := h
  unfold regB at h
  cases draw with
  | false =>
    obtain ⟨hok, h⟩ := bif_some (show (bif okOps s.ng ops then seqB P R ops ops.toList fr s else none) = some (fr', s') from h)
    exact wpIn_region_list (seqB_ok hM hR hok ops.toList fr fr' s s' r w a rfl (fun o ho => ho) h hB hr hfr hQ)
  | true =>
    obtain ⟨hok, h⟩ := bif_some (show (bif okR s.ng ops then _ else none) = some (fr', s') from h)
    obtain ⟨hap, h⟩ := bif_some h
    obtain ⟨F, S, RS, V, f0, s0, rs0, fN, sN, hst⟩ := any_trace ops.toList 0 [] fr fr' s s' (by simp) h
    simp only [Nat.zero_add, Array.length_toList] at fN sN hst
    have c : RC P R ops _ F S RS V := ⟨hM, fun k hk => hst k (Nat.zero_le _) hk, rs0, by rw [s0]; exact hok, by rw [s0]; exact hap, by rw [s0]; exact hr.nb, by rw [s0]; exact hr.up, by rw [s0]; exact hr.hlt, by rw [f0]; exact hfr.1.2.1, by rw [s0]; exact hr.gn⟩
    have hmono := (regB_mb hM h0).1 hr.nb
    refine wpIn_region_any hf (c.all hR (r0 := r) (w0 := w) (fun listed a' w' hv hall => ?_) _ _ _ _ ⟨by simp, (fun i o ho hl => by rw [getD_replicate_false] at hl; cases hl), r, ?_, ?_⟩ (by simp))
    · obtain ⟨hls, _, r', hI, hS⟩ := hv
      have hv : ∀ id, vw S (fun j => listed.getD j false) id ops.size = s'.T.get id := fun id => by rw [vw_done ops.size fun k hk _ => hall k hk, sN]
      have hh : s'.hid = s.hid := hmono.1.hid
      have hget : ∀ id, s'.get id = if hidden s.hid id = true then none else s'.T.get id := fun id => by rw [getT, hh]
      refine hQ r' a' w' ⟨⟨?_, ?_, fun t => ?_⟩, ?_⟩ ⟨hmono.1, ⟨fun k hk => ?_, hI.size, hI.os, hI.tape, hI.output, fun b hb H => ?_, fun k b x h1 h2 h3 => ?_⟩, ⟨hmono.2, hB, fun k h1 h2 => ?_, fun k o hk => ?_, fun k k' b x x' h1 h2 h3 h4 => ?_, hmono.1.up hr.up, fun k hk => ?_, fun g hg => hI.gl g (by rw [s0, ← hmono.1.ng]; exact hg), by rw [hmono.1.ng]; exact Nat.le_trans hr.gn hmono.1.next⟩⟩
      · rw [hS.size, ← fN, (c.fm' ops.size (Nat.le_refl _)).1]
      · rw [← fN, (c.fm' ops.size (Nat.le_refl _)).1]; exact c.fm
      · have := c.fget t ops.size (Nat.le_refl _)
        rw [fN] at this
        rcases this with ⟨j, hj, hj1, hj2⟩ | ⟨hj1, hj2⟩
        · show VR r' (fr'.get t) _
          rw [hj2]; exact hS.wr j t hj (hall j hj) hj1
        · show VR r' (fr'.get t) _
          rw [hj2]; exact hS.un t fun j hj _ => hj1 j hj
      · have := hS.mks
        rw [← (c.fm' ops.size (Nat.le_refl _)).2.1, fN] at this
        exact this
      · exact hI.rr k (by rw [s0, sN]; exact hk)
      · exact hI.frame b hb (by rw [s0]; exact H)
      · have := hI.new k b x (by rw [s0]; exact h1) ?_ ?_ h3
        · rw [s0] at this; exact this
        · rw [s0]
          cases e : hidden s.hid k with
          | false => rfl
          | true => rw [hget, e] at h2; exact absurd rfl h2
        · rw [hv]
          rw [hget] at h2
          split at h2
          · exact absurd rfl h2
          · exact h2
      · rw [hI.rr k (.inr (by rw [sN]; exact h1))]
        exact hr.dom k (Nat.le_trans hmono.1.next h1) h2
      · rw [hget] at hk
        split at hk
        · cases hk
        · rename_i e
          exact hI.obj k o (by rw [s0]; simpa using e) (by rw [hv]; exact hk)
      · rw [hget] at h1 h2
        split at h1
        · exact absurd rfl h1
        · rename_i e1
          split at h2
          · exact absurd rfl h2
          · rename_i e2
            exact hI.inj k k' b x x' (by rw [s0]; simpa using e1) (by rw [s0]; simpa using e2) (by rw [hv]; exact h1) (by rw [hv]; exact h2) h3 h4
      · rw [hh] at hk
        exact Nat.lt_of_lt_of_le (hr.hlt k hk) hmono.1.next
    · have hv : ∀ id, vw S (fun j => (Array.replicate ops.size false).getD j false) id ops.size = s.T.get id := fun id => by
        rw [vw_stay ops.size (i := 0) (Nat.zero_le _) fun k _ _ _ => getD_replicate_false _ _]
        show (S 0).T.get id = _
        rw [s0]
      refine ⟨fun id o h1 h2 => ?_, fun id id' b x x' h1 h2 h3 h4 h5 h6 => ?_, fun j hj _ k h1 h2 => ?_, fun _ _ => rfl, Nat.le_refl _, rfl, rfl, rfl, fun _ _ _ => rfl, fun k b x h1 h2 h3 h4 => ?_, fun g hg => hr.gl g (by rw [s0] at hg; exact hg)⟩
      · rw [s0] at h1
        rw [hv] at h2
        exact hr.obj id o (by rw [getT, h1]; exact h2)
      · rw [s0] at h1 h2
        rw [hv] at h3 h4
        exact hr.inj id id' b x x' (by rw [getT, h1]; exact h3) (by rw [getT, h2]; exact h4) h5 h6
      · refine hr.dom k ?_ ?_
        · have := (c.mono j (Nat.zero_le _) (by omega)).next; rw [s0] at this; omega
        · have := (c.mono ops.size (show j + 1 ≤ ops.size by omega) (Nat.le_refl _)).next; rw [sN] at this; omega
      · rw [s0] at h1
        rw [hv] at h3
        exact absurd (hr.up k h1) h3
    · refine ⟨by rw [f0]; exact hfr.1.1, (fun j t hj hl => by rw [getD_replicate_false] at hl; cases hl), (fun t _ => by rw [f0]; exact hfr.1.2.2 t), by rw [f0]; exact hfr.2⟩
end Go.Proofs.YtbanjolokkghdaaGreatDoor
namespace Go.Proofs.YtbanjolokkghdaaGreatDoor
open Go.RowKit
set_option maxRecDepth 100000
section
variable {P : Program} {R : Rec} {fr fr' : Fr} {s s' : St} {e : Exit} {v : Value}
/-- the block for deferred calls: a new one, or that of the loop around -/
def EntB (fr : Fr) (s : St) (d : Nat) (mk : List Nat) (s1 : St) : Prop :=
  (fr.round = none ∧ s.new (.dfr true) = some (d, s1) ∧ mk = [d]) ∨
  (∃ l a b c m ps asg body, fr.round = some l ∧ s.get l = some (.loop a b c m ps asg body d) ∧ mk = [] ∧ s1 = s)
theorem rangeB {f : Operand} {ps : Array Tmp} {asg body : Code} (h : stepCode P R (.rangeFunc f ps asg body) fr s = some (e, fr', s')) : okOpd s.ng f = true ∧ entersB P (fr.ev f) = true ∧ ∃ d mk s1 l s2 v s3 st pend t m ps' asg' body' d', EntB fr s d mk s1 ∧ s1.new (.loop .ready none fr.t fr.m ps asg body d) = some (l, s2) ∧
    callV R (fr.ev f) [.func (.yield l) #[] #[]] s2 = some (v, s3) ∧ s3.get l = some (.loop st pend t m ps' asg' body' d') ∧ st ≠ .busy ∧ s3.put l (some (.loop .exhausted pend t m ps' asg' body' d')) = some s' ∧ fr' = { fr with marks := mk ++ fr.marks } ∧
    ((pend = none ∧ e = .normal) ∨ (pend = some .ret ∧ e = .ret) ∨ ∃ k, pend = some (.exit k) ∧ e = .exit k) := by
  unfold stepCode at h
  simp only at h
  obtain ⟨hok, h⟩ := bif_some h
  rw [Bool.and_eq_true] at hok
  refine ⟨hok.1, hok.2, ?_⟩
  split at h
  · cases h
  rename_i d mk s1 hent
  have hE : EntB fr s d mk s1 := by
    split at hent
    · rename_i l hl
      split at hent
      · rename_i a b c m ps asg body d' hg
        injection hent with hent; injection hent with e1 e2; injection e2 with e2 e3
        subst e1; subst e2; subst e3
        exact .inr ⟨l, _, _, _, _, _, _, _, hl, hg, rfl, rfl⟩
      · cases hent
    · rename_i hl
      obtain ⟨k, t1, h1, h2⟩ := map_new hent
      injection h2 with e1 e2; injection e2 with e2 e3
      subst e1; subst e2; subst e3
      exact .inl ⟨hl, h1, rfl⟩
  split at h
  · cases h
  rename_i l s2 hn
  split at h
  · cases h
  rename_i v s3 hc
  split at h
  · rename_i st pend t m ps' asg' body' d' hg
    split at h
    · cases h
    rename_i hne
    have hb : st ≠ .busy := hne
    split at h
    · cases h
    rename_i s4 hp
    refine ⟨d, mk, s1, l, s2, v, s3, st, pend, t, m, ps', asg', body', d', hE, hn, hc, hg, hb, ?_⟩
    split at h
    · injection h with h; injection h with e1 e2; injection e2 with e2 e3
      subst e3
      exact ⟨hp, e2.symm, .inl ⟨rfl, e1.symm⟩⟩
    · injection h with h; injection h with e1 e2; injection e2 with e2 e3
      subst e3
      exact ⟨hp, e2.symm, .inr (.inl ⟨rfl, e1.symm⟩)⟩
    · injection h with h; injection h with e1 e2; injection e2 with e2 e3
      subst e3
      exact ⟨hp, e2.symm, .inr (.inr ⟨_, rfl, e1.symm⟩)⟩
    · cases h
  · cases h
theorem EntB.mb {d : Nat} {mk : List Nat} {s1 : St} (h : EntB fr s d mk s1) : MB s s1 := by
  rcases h with ⟨_, h, _⟩ | ⟨_, _, _, _, _, _, _, _, _, _, _, rfl⟩
  · exact new_mb h
  · exact MB.refl _
theorem stepCode_mb (hR : RM R) {c : Code} (h : stepCode P R c fr s = some (e, fr', s')) : MB s s' ∧ fr'.round = fr.round ∧ fr'.m = fr.m := by
  have refl : some (e, fr', s') = some (e, fr, s) → MB s s' ∧ fr'.round = fr.round ∧ fr'.m = fr.m := by
    rintro h; injection h with h; injection h with _ h; injection h with h1 h2; subst h1; subst h2; exact ⟨MB.refl _, rfl, rfl⟩
  have tr : ∀ {c1 c2 : Code} {e1 fr1 s1}, R.code c1 fr s = some (e1, fr1, s1) → R.code c2 fr1 s1 = some (e, fr', s') → MB s s' ∧ fr'.round = fr.round ∧ fr'.m = fr.m := by
    intro c1 c2 e1 fr1 s1 h1 h2
    obtain ⟨a1, a2, a3⟩ := hR.code _ _ _ _ _ _ h1
    obtain ⟨b1, b2, b3⟩ := hR.code _ _ _ _ _ _ h2
    exact ⟨a1.trans b1, b2.trans a2, b3.trans a3⟩
  cases c with
  | rangeFunc f ps asg body =>
    obtain ⟨_, _, d, mk, s1, l, s2, v, s3, st, pend, t, m, ps', asg', body', d', h1, h2, h3, h4, _, h5, rfl, _⟩ := rangeB h
    exact ⟨((h1.mb.trans (new_mb h2)).trans (callV_mb hR h3)).trans (put_mb h4 h5), rfl, rfl⟩
  | region id ops draw =>
    unfold stepCode at h
    simp only [Option.map_eq_some_iff, Prod.mk.injEq] at h
    obtain ⟨q, hq, _, rfl, rfl⟩ := h
    obtain ⟨h1, h2⟩ := regB_mb hR (fr' := q.1) (s' := q.2) hq
    exact ⟨h1, h2.1, h2.2.1⟩
  | seq a b =>
    unfold stepCode at h
    simp only at h
    split at h
    · rename_i hq; exact tr hq h
    · exact hR.code _ _ _ _ _ _ h
  | loop b =>
    unfold stepCode at h
    simp only at h
    split at h
    · rename_i hq; exact tr hq h
    · exact hR.code _ _ _ _ _ _ h
  | block id b =>
    unfold stepCode at h
    simp only at h
    split at h
    · rename_i k fr1 s1 hq
      have := hR.code _ _ _ _ _ _ hq
      rcases bif_or h with ⟨_, h⟩ | ⟨_, h⟩ <;> (injection h with h; injection h with _ h; injection h with h1 h2; subst h1; subst h2; exact this)
    · exact hR.code _ _ _ _ _ _ h
  | cond c a b =>
    unfold stepCode at h
    simp only at h
    have h := (bif_some h).2
    split at h
    · rcases bif_or h with ⟨_, h⟩ | ⟨_, h⟩ <;> exact hR.code _ _ _ _ _ _ h
    · cases h
  | scope b =>
    unfold stepCode at h
    simp only at h
    split at h
    · exact hR.back _ _ _ _ _ _ _ h
    · cases h
  | skip => exact refl (by unfold stepCode at h; simp only at h; injection h with h; injection h with h1 h2; injection h2 with h2 h3; subst h1; subst h2; subst h3; rfl)
  | label l => exact refl (by unfold stepCode at h; simp only at h; injection h with h; injection h with h1 h2; injection h2 with h2 h3; subst h1; subst h2; subst h3; rfl)
  | exit l => exact refl (by unfold stepCode at h; simp only at h; injection h with h; injection h with h1 h2; injection h2 with h2 h3; subst h1; subst h2; subst h3; rfl)
  | goto l => exact refl (by unfold stepCode at h; simp only at h; injection h with h; injection h with h1 h2; injection h2 with h2 h3; subst h1; subst h2; subst h3; rfl)
  | ret => exact refl (by unfold stepCode at h; simp only at h; injection h with h; injection h with h1 h2; injection h2 with h2 h3; subst h1; subst h2; subst h3; rfl)
  | _ => unfold stepCode at h; cases h
def tupV : List Value → Value
  | [v] => v
  | vs => .tuple vs.toArray
theorem tupB : ∀ vs : List Value, (∀ u, vs = [u] → False) → Value.tuple vs.toArray = tupV vs
  | [], _ => rfl
  | [u], h => (h u rfl).elim
  | _ :: _ :: _, _ => rfl
theorem callB {f : FuncId} {args : List Value} {O : Orc} (h : stepCall P O R f args s = some (v, s')) : O f args s = some (v, s') ∨ ∃ fn, P.funcs[f]? = some fn ∧ (fn.name == "runtime.NumGoroutine") = false ∧
    ((fn.body = none ∧ pls args = true ∧ pv P (callFunc f args.toArray) = some (.value v) ∧ pl v = true ∧ s' = s) ∨
     ∃ c e fr s1 vs, fn.body = some c ∧ args.length ≤ fn.ntmps ∧ fn.ntmps ≤ big ∧ R.code c ⟨putAll args 0 .nil, fn.ntmps, [], none⟩ s = some (e, fr, s1) ∧ (e = .normal ∨ e = .ret) ∧ takeMarks fr.marks s1 = some s' ∧ resB P s' fr fn.results.toList = some vs ∧ v = tupV vs) := by
  unfold stepCall at h
  split at h
  · rename_i u hu
    injection h with h; subst h
    exact .inl hu
  refine .inr ?_
  split at h
  · cases h
  rename_i fn hfn
  rcases bif_or h with ⟨_, h⟩ | ⟨hn, h⟩
  · cases h
  refine ⟨fn, hfn, hn, ?_⟩
  split at h
  · rename_i hb
    obtain ⟨hp, h⟩ := bif_some h
    split at h
    · rename_i u hu
      obtain ⟨hpl, h⟩ := bif_some h
      injection h with h; injection h with h1 h2; subst h1; subst h2
      exact .inl ⟨hb, hp, hu, hpl, rfl⟩
    · cases h
  · rename_i c hb
    obtain ⟨hle, h⟩ := bif_some h
    simp only [Bool.and_eq_true, Nat.ble_eq] at hle
    refine .inr ?_
    split at h
    · rename_i e fr s1 hc
      have h2 : (e = .normal ∨ e = .ret) ∧ (match takeMarks fr.marks s1 with
          | none => none
          | some st => match resB P st fr fn.results.toList with
            | some [v] => some (v, st)
            | some vs => some (Value.tuple vs.toArray, st)
            | none => none) = some (v, s') := by
        split at h
        · exact ⟨.inl rfl, h⟩
        · exact ⟨.inr rfl, h⟩
        · cases h
      obtain ⟨he, h⟩ := h2
      split at h
      · cases h
      rename_i s2 ht
      split at h
      · rename_i u hu
        injection h with h; injection h with h1 h2; subst h1; subst h2
        exact ⟨c, e, fr, s1, _, hb, hle.1, hle.2, hc, he, ht, hu, rfl⟩
      · rename_i vs hne hu
        injection h with h; injection h with h1 h2; subst h1; subst h2
        refine ⟨c, e, fr, s1, vs, hb, hle.1, hle.2, hc, he, ht, hu, tupB vs hne⟩
      · cases h
    · cases h
theorem stepCall_mb {O : Orc} (hO : ∀ f args s v s', O f args s = some (v, s') → MB s s') (hR : RM R) {f : FuncId} {args : List Value} (h : stepCall P O R f args s = some (v, s')) : MB s s' := by
  rcases callB h with h | ⟨fn, _, _, h⟩
  · exact hO _ _ _ _ _ h
  rcases h with ⟨_, _, _, _, rfl⟩ | ⟨c, e, fr, s1, vs, _, _, _, h1, _, h2, _⟩
  · exact MB.refl _
  · exact (hR.code _ _ _ _ _ _ h1).1.trans (takeMarks_mb _ _ _ h2)
def jumpOf : Exit → Option (Option Code)
  | .normal => some none
  | .ret => some (some .ret)
  | .exit k => some (some (.exit k))
  | _ => none
theorem yieldB {l : Nat} {args : List Value} (h : stepYield P R l args s = some (v, s')) : ∃ pend t m ps asg body d t' fr1 s1 pend2 t2 m2 ps2 asg2 body2 d2 s2 e fr3 s3 st3 pend3 t3 m3 ps3 asg3 body3 d3 jump, s.get l = some (.loop .ready pend t m ps asg body d) ∧ args.length = ps.size ∧ putPar m (ps.toList.zip args) t = some t' ∧
    R.code asg ⟨t', m, [], some l⟩ s = some (.normal, fr1, s1) ∧ s1.get l = some (.loop .ready pend2 t2 m2 ps2 asg2 body2 d2) ∧ s1.put l (some (.loop .busy pend2 t2 m2 ps2 asg2 body2 d2)) = some s2 ∧ R.code body fr1 s2 = some (e, fr3, s3) ∧
    s3.get l = some (.loop st3 pend3 t3 m3 ps3 asg3 body3 d3) ∧ jumpOf e = some jump ∧ s3.put l (some (.loop (bif jump.isNone then .ready else .done) jump t3 m3 ps3 asg3 body3 d3)) = some s' ∧ v = .bool jump.isNone := by
  unfold stepYield at h
  split at h
  · rename_i pend t m ps asg body d hg
    obtain ⟨hl, h⟩ := bif_some h
    have hl := Nat.eq_of_beq_eq_true hl
    split at h
    · cases h
    rename_i t' ht
    split at h
    · rename_i fr1 s1 hc
      split at h
      · rename_i pend2 t2 m2 ps2 asg2 body2 d2 hg2
        split at h
        · cases h
        rename_i s2 hp
        split at h
        · cases h
        rename_i e fr3 s3 hb
        split at h
        · rename_i st3 pend3 t3 m3 ps3 asg3 body3 d3 jump hg3 hj
          simp only [Option.map_eq_some_iff, Prod.mk.injEq] at h
          obtain ⟨s4, hp4, e1, e2⟩ := h
          subst e2
          refine ⟨pend, t, m, ps, asg, body, d, t', fr1, s1, pend2, t2, m2, ps2, asg2, body2, d2, s2, e, fr3, s3, st3, pend3, t3, m3, ps3, asg3, body3, d3, jump, hg, hl, ht, hc, hg2, hp, hb, hg3, ?_, hp4, e1.symm⟩
          cases e <;> first | exact hj | (simp at hj; done) | (cases hj; done) | (unfold jumpOf; exact hj)
        · cases h
      · cases h
    · cases h
  · cases h
theorem stepYield_mb (hR : RM R) {l : Nat} {args : List Value} (h : stepYield P R l args s = some (v, s')) : MB s s' := by
  obtain ⟨pend, t, m, ps, asg, body, d, t', fr1, s1, pend2, t2, m2, ps2, asg2, body2, d2, s2, e, fr3, s3, st3, pend3, t3, m3, ps3, asg3, body3, d3, jump, _, _, _, h1, h2, h3, h4, h5, _, h6, _⟩ := yieldB h
  exact (((hR.code _ _ _ _ _ _ h1).1.trans (put_mb h2 h3)).trans (hR.code _ _ _ _ _ _ h4).1).trans (put_mb h5 h6)
theorem stepBack_mb (hR : RM R) {b c : Code} (h : stepBack R b c fr s = some (e, fr', s')) : MB s s' ∧ fr'.round = fr.round ∧ fr'.m = fr.m := by
  unfold stepBack at h
  split at h
  · rename_i l fr1 s1 hq
    obtain ⟨a1, a2, a3⟩ := hR.code _ _ _ _ _ _ hq
    split at h
    · obtain ⟨b1, b2, b3⟩ := hR.back _ _ _ _ _ _ _ h
      exact ⟨a1.trans b1, b2.trans a2, b3.trans a3⟩
    · injection h with h; injection h with h1 h2; injection h2 with h2 h3; subst h1; subst h2; subst h3
      exact ⟨a1, a2, a3⟩
  · exact hR.code _ _ _ _ _ _ h
theorem step_rm {O : Orc} (hO : ∀ f args s v s', O f args s = some (v, s') → MB s s') (hR : RM R) : RM ⟨stepCode P R, stepCall P O R, stepYield P R, stepBack R⟩ :=
  ⟨fun _ _ _ _ _ _ h => stepCode_mb hR h, fun _ _ _ _ _ h => stepCall_mb hO hR h, fun _ _ _ _ _ h => stepYield_mb (P := P) hR h, fun _ _ _ _ _ _ _ h => stepBack_mb hR h⟩
end
end Go.Proofs.YtbanjolokkghdaaGreatDoor
namespace Go.Proofs.YtbanjolokkghdaaGreatDoor
open Go.RowKit
set_option maxRecDepth 100000
def RoR (r : Rn) : Option Nat → Option Nat → Prop
  | none, none => True
  | some l, some b => ∃ x, r l = some (b, x)
  | _, _ => False
theorem RoR.mono {r r' : Rn} (hr : ∀ k p, r k = some p → r' k = some p) : ∀ {x y : Option Nat}, RoR r x y → RoR r' x y
  | none, none, _ => trivial
  | some _, some _, ⟨x, h⟩ => ⟨x, hr _ _ h⟩
/-- what is known without a walk is so, and leaves what is there -/
structure OrcOk (P : Program) (O : Orc) : Prop where
  mb : ∀ f args s v s', O f args s = some (v, s') → MB s s'
  ok : ∀ f args s v s', O f args s = some (v, s') → ∀ B r w args', Rel P B r s w → s'.next ≤ B → LR r args args' → Upon P (Res P B s s' r w v) ((callFunc f args'.toArray).run P w)
/-- what a run of code says -/
def CodeS (P : Program) (fr : Fr) (s : St) (e : Exit) (fr' : Fr) (s' : St) (W : Option Nat → Nat → (Exit → Act → World → Prop) → Act → World → Prop) : Prop :=
  ∀ (B : Nat) (r : Rn) (w : World) (a : Act) (ro : Option Nat) (n : Nat) (Q : Exit → Act → World → Prop), Rel P B r s w → s'.next ≤ B → FrR r fr a → RoR r fr.round ro → (∀ r' a' w', FrR r' fr' a' → Good P B s s' r r' w w' → Q e a' w') → W ro n Q a w
/-- code within a scope -/
def InSc (P : Program) (b c : Code) (Q : Exit → Act → World → Prop) (a : Act) (w : World) : Prop :=
  ∀ (f : Frame) (k : List Item) (cs : List Frame), ∃ e a' w', Q e a' w' ∧ Arrives P (lone (f.at a (.code c :: .inScope b :: k)) cs w) f k cs e a' w'
structure SoundK (P : Program) (R : Rec) : Prop extends SoundC P R where
  code : ∀ c fr s e fr' s', R.code c fr s = some (e, fr', s') → CodeS P fr s e fr' s' fun ro n Q a w => c.wpIn (FO ro) n P Q a w
  back : ∀ b c fr s e fr' s', R.back b c fr s = some (e, fr', s') → fr.round = none → CodeS P fr s e fr' s' fun _ _ Q a w => InSc P b c Q a w
  loop : ∀ c fr s e fr' s', R.code (.loop c) fr s = some (e, fr', s') → ∃ m, CodeS P fr s e fr' s' fun ro n Q a w => Code.roundsIn (FO ro) n P c Q m a w
section
variable {P : Program} {R : Rec} {B : Nat} {r : Rn} {fr fr' : Fr} {s s' : St} {e : Exit} {v : Value} {w : World} {a : Act} {ro : Option Nat}
theorem sem_pure {α : Type} : ∀ x : Sem α, x.bind Sem.pure = x
  | .pure a => rfl
  | .load m a k => congrArg (Sem.load m a) (funext fun v => sem_pure (k v))
  | .store m a v k => congrArg (Sem.store m a v) (sem_pure k)
  | .new o k => congrArg (Sem.new o) (funext fun v => sem_pure (k v))
  | .shape r k => congrArg (Sem.shape r) (funext fun v => sem_pure (k v))
  | .freeze a n k => congrArg (Sem.freeze a n) (sem_pure k)
  | .frozen a k => congrArg (Sem.frozen a) (funext fun v => sem_pure (k v))
  | .getObj r k => congrArg (Sem.getObj r) (funext fun v => sem_pure (k v))
  | .setObj r o k => congrArg (Sem.setObj r o) (sem_pure k)
  | .choose q k => congrArg (Sem.choose q) (funext fun v => sem_pure (k v))
  | .sys c k => congrArg (Sem.sys c) (funext fun v => sem_pure (k v))
  | .program k => congrArg Sem.program (funext fun v => sem_pure (k v))
  | .mark m k => congrArg (Sem.mark m) (sem_pure k)
  | .halt h => rfl
theorem sem_assoc {α β γ : Type} (f : α → Sem β) (g : β → Sem γ) : ∀ x : Sem α, (x.bind f).bind g = x.bind fun a => (f a).bind g
  | .pure a => rfl
  | .load m a k => congrArg (Sem.load m a) (funext fun v => sem_assoc f g (k v))
  | .store m a v k => congrArg (Sem.store m a v) (sem_assoc f g k)
  | .new o k => congrArg (Sem.new o) (funext fun v => sem_assoc f g (k v))
  | .shape r k => congrArg (Sem.shape r) (funext fun v => sem_assoc f g (k v))
  | .freeze a n k => congrArg (Sem.freeze a n) (sem_assoc f g k)
  | .frozen a k => congrArg (Sem.frozen a) (funext fun v => sem_assoc f g (k v))
  | .getObj r k => congrArg (Sem.getObj r) (funext fun v => sem_assoc f g (k v))
  | .setObj r o k => congrArg (Sem.setObj r o) (sem_assoc f g k)
  | .choose q k => congrArg (Sem.choose q) (funext fun v => sem_assoc f g (k v))
  | .sys c k => congrArg (Sem.sys c) (funext fun v => sem_assoc f g (k v))
  | .program k => congrArg Sem.program (funext fun v => sem_assoc f g (k v))
  | .mark m k => congrArg (Sem.mark m) (sem_assoc f g k)
  | .halt h => rfl
theorem semLaw : LawfulMonad Sem := LawfulMonad.mk' Sem (fun x => sem_pure x) (fun _ _ => rfl) (fun x f g => sem_assoc f g x)
theorem MB.nx (h : MB s s') (hb : s.next ≤ big) : s.next ≤ s'.next := (h hb).1.next
theorem Rel.at_loop (h : Rel P B r s w) {l b x : Nat} {st : LoopState} {pend : Option Code} {t : Tr Value} {m : Nat} {ps : Array Tmp} {asg body : Code} {d : Nat} (hg : s.get l = some (.loop st pend t m ps asg body d)) (hr : r l = some (b, x)) :
    ∃ fn tm d' y, w.heap[b]? = some (.loop { state := st, pending := pend, fn := fn, tmps := tm, params := ps, assign := asg, body := body, defers := d' }) ∧ r d = some (d', y) ∧ SlR r t m tm := by
  obtain ⟨b', x', o', h1, h2, fn, tm, d', y, h3, h4, h5⟩ := h.obj _ _ hg
  rw [hr] at h1; injection h1 with h1; injection h1 with e1 e2
  subst e1; subst h3
  exact ⟨fn, tm, d', y, h2, h4, h5⟩
theorem put_loop (h : Rel P B r s w) {l b x : Nat} {st st2 : LoopState} {pend pend2 : Option Code} {t : Tr Value} {m : Nat} {ps : Array Tmp} {asg body : Code} {d : Nat} (hg : s.get l = some (.loop st pend t m ps asg body d)) (hp : s.put l (some (.loop st2 pend2 t m ps asg body d)) = some s') (hr : r l = some (b, x))
    {fn : FuncId} {tm : Array Value} {d' y : Nat} (hw : w.heap[b]? = some (.loop { state := st, pending := pend, fn := fn, tmps := tm, params := ps, assign := asg, body := body, defers := d' })) (hd : r d = some (d', y)) (ht : SlR r t m tm) :
    Good P B s s' r r w (w.putObj b (.loop { state := st2, pending := pend2, fn := fn, tmps := tm, params := ps, assign := asg, body := body, defers := d' })) :=
  put_ok h hp hg hr (Set1.obj _ (Array.getElem?_eq_some_iff.1 hw).1) ⟨fn, tm, d', y, rfl, hd, ht⟩
theorem ent_ok {d : Nat} {mk : List Nat} {s1 s2 : St} {l : Nat} {ps : Array Tmp} {asg body : Code} (hE : EntB fr s d mk s1) (hn : s1.new (.loop .ready none fr.t fr.m ps asg body d) = some (l, s2)) (hB : s2.next ≤ B) (h : Rel P B r s w) (hf : FrR r fr a) (ho : RoR r fr.round ro) (fn : FuncId) :
    ∃ lb mark w2 r2 x, (Instr.enterLoop fn a.tmps ps asg body ro).run P w = .ok (lb, mark) w2 ∧ Good P B s s2 r r2 w w2 ∧ r2 l = some (lb, x) ∧ FrR r2 { fr with marks := mk ++ fr.marks } { a with defers := mark ++ a.defers } := by
  rcases hE with ⟨hro, hd, rfl⟩ | ⟨l0, st, pend, t, m, ps0, asg0, body0, hro, hg, rfl, rfl⟩
  · rw [hro] at ho
    cases ro with
    | some _ => cases ho
    | none =>
    have hB1 : s1.next ≤ B := Nat.le_trans ((new_mb hn).nx ((new_mb hd) h.nb).2) hB
    have g1 := new_ok h hB1 hd (Push1.alloc w (.deferred (some []))) (x := 0) rfl
    have hk : upd r d (w.heap.size, 0) d = some (w.heap.size, 0) := upd_self _ _ _
    have hup1 := g1.up h
    have hsz : (w.alloc (.deferred (some []))).heap.size = w.heap.size + 1 := World.size_alloc _ _
    have hne : d ≠ l := by
      obtain ⟨_, e1, e2⟩ := new_some hd
      obtain ⟨_, e3, _⟩ := new_some hn
      rw [e1, e3, e2]; exact Nat.ne_of_lt (Nat.lt_succ_self _)
    have g2 := new_ok g1.rel hB hn (Push1.alloc (w.alloc (.deferred (some []))) (.loop { state := .ready, pending := none, fn := fn, tmps := a.tmps, params := ps, assign := asg, body := body, defers := w.heap.size })) (x := 0) (by
      refine ⟨fn, a.tmps, w.heap.size, 0, rfl, ?_, ?_⟩
      · rw [upd_ne hne]; exact hk
      · refine (hf.1.mono hup1).mono fun k p hkp => ?_
        by_cases e : k = l
        · subst e
          have := (g1.rel).fresh hn hB
          rw [this] at hkp; cases hkp
        · rw [upd_ne e]; exact hkp)
    rw [hsz] at g2
    refine ⟨_, _, _, _, 0, run_enterLoop_outer _ _ _ _ _, g1.trans g2, upd_self _ _ _, ?_, ?_⟩
    · exact (hf.1.mono hup1).mono (g2.up g1.rel)
    · have hm := (hf.2.mono hup1).mono (g2.up g1.rel)
      refine ⟨by simp [hm.1], fun i k hi => ?_⟩
      cases i with
      | zero =>
        simp at hi; subst hi
        exact ⟨w.heap.size, 0, by rw [upd_ne hne]; exact hk, by simp⟩
      | succ i =>
        have hi : fr.marks[i]? = some k := by simpa using hi
        obtain ⟨b, x, h1, h2⟩ := hm.2 i k hi
        exact ⟨b, x, h1, by simpa using h2⟩
  · rw [hro] at ho
    cases ro with
    | none => cases ho
    | some b0 =>
    obtain ⟨x0, hr0⟩ := ho
    obtain ⟨fn0, tm0, d', y, h1, h2, h3⟩ := h.at_loop hg hr0
    have hup : ∀ k p, r k = some p → upd r l (w.heap.size, 0) k = some p := fun k p hkp => by
      by_cases e : k = l
      · subst e
        have := h.fresh hn hB
        rw [this] at hkp; cases hkp
      · rw [upd_ne e]; exact hkp
    have g := new_ok h hB hn (Push1.alloc w (.loop { state := .ready, pending := none, fn := fn, tmps := a.tmps, params := ps, assign := asg, body := body, defers := d' })) (x := 0) ⟨fn, a.tmps, d', y, rfl, hup _ _ h2, hf.1.mono hup⟩
    exact ⟨_, _, _, _, 0, run_enterLoop_inner h1 _ _ _ _ _, g, upd_self _ _ _, hf.1.mono hup, hf.2.mono hup⟩
theorem putPar_ok {m : Nat} : ∀ {l : List Tmp} {zs zs' : List Value} {t t' : Tr Value} {tm : Array Value}, zs.length = l.length → LR r zs zs' → SlR r t m tm → putPar m (l.zip zs) t = some t' → SlR r t' m ((l.zip zs').foldl (fun tmps p => tmps.setIfInBounds p.1 p.2) tm)
  | [], _, _, t, t', tm, _, _, hs, h => by
    simp only [List.zip_nil_left, putPar] at h ⊢
    injection h with h; subst h; exact hs
  | d :: l, [], _, _, _, _, hl, _, _, _ => by simp at hl
  | d :: l, v :: zs, zs', t, t', tm, hl, ha, hs, h => by
    obtain ⟨v', q, rfl, h1, h2⟩ := ha.uncons
    simp only [List.zip_cons_cons, putPar] at h ⊢
    obtain ⟨hd, h⟩ := bif_some h
    exact putPar_ok (by simpa using hl) h2 (hs.put (blt_lt hd) h1) h
theorem roundPost_of {l : Nat} {K : Ending → World → Prop} {jump : Option Code} (hj : jumpOf e = some jump) (h : ∃ v w', (Instr.endRound l jump).run P w = .ok v w' ∧ K (.returned v) w') : roundPost P l K e a w := by
  cases e <;> simp [jumpOf] at hj <;> subst hj <;> exact h
theorem marks_ok {fn : Func} {tm : Array Value} {K : Ending → World → Prop} {n : Nat} : ∀ {ms : List Nat} {ds : List Deferred} {s : St} {w : World}, MkR r ms ds → takeMarks ms s = some s' → Rel P B r s w → (∀ w', Good P B s s' r r w w' → LeavesInM Fence.wide n P fn tm K [] .returning w') → LeavesInM Fence.wide n P fn tm K ds .returning w
  | [], ds, s, w, hm, h, hr, hK => by
    have : ds = [] := by have := hm.1; simpa using this
    subst this
    injection h with h; subst h
    exact hK w (Good.refl hr)
  | d :: ms, [], s, w, hm, h, hr, hK => by have := hm.1; simp at this
  | d :: ms, x :: ds, s, w, hm, h, hr, hK => by
    simp only [takeMarks] at h
    split at h
    · rename_i hg
      split at h
      · rename_i s1 hp
        obtain ⟨b, y, h1, h2⟩ := hm.2 0 d rfl
        simp at h2; subst h2
        obtain ⟨b', y', o', h3, h4, h5⟩ := hr.obj _ _ hg
        rw [h1] at h3; injection h3 with h3; injection h3 with e1 e2; subst e1; subst e2
        have h5 : o' = .deferred (some []) := h5
        subst h5
        have g := put_ok hr hp hg h1 (Set1.obj (.deferred none) (Array.getElem?_eq_some_iff.1 h4).1) rfl
        refine ⟨by simp, .inl ⟨_, _, rfl, run_takeDeferred h4, ?_⟩⟩
        refine marks_ok (ms := ms) ⟨by have := hm.1; simpa using this, fun i k hi => hm.2 (i + 1) k (by simpa using hi)⟩ h g.rel fun w' g2 => hK w' (g.trans g2)
      · cases h
    · cases h
theorem mapM_run {α β : Type} {f : α → Sem β} : ∀ (zs : List α) (vs : List β), vs.length = zs.length → (∀ j (hj : j < zs.length) (hj' : j < vs.length), (f zs[j]).run P w = .ok (vs[j]) w) → (zs.mapM f).run P w = .ok vs w
  | [], [], _, _ => rfl
  | [], _ :: _, hl, _ => by simp at hl
  | _ :: _, [], hl, _ => by simp at hl
  | x :: zs, v :: vs, hl, h => by
    have := semLaw
    have h0 := h 0 (by simp) (by simp)
    have ih := mapM_run zs vs (by simpa using hl) fun j hj hj' => h (j + 1) (by simpa using hj) (by simpa using hj')
    rw [List.mapM_cons, Sem.run_bind, show (f x).run P w = _ from h0]
    simp only [Result.andThen]
    rw [Sem.run_bind, ih]
    rfl
def resF (tm : Array Value) : ResultVar → Sem Value
  | .tmp t => pure (tm.getD t undef)
  | .cell b t => do loadVar t (← asAddr (tm.getD b undef))
theorem resF_eq (fn : Func) (tm : Array Value) : results fn tm = (do let vs ← fn.results.mapM (resF tm); pure (if h : vs.size = 1 then vs[0] else .tuple vs)) := rfl
theorem res_ok (hr : Rel P B r s w) (hf : SlR r fr.t fr.m a.tmps) : ∀ {l : List ResultVar} {vs : List Value}, resB P s fr l = some vs → ∃ vs' : List Value, LR r vs vs' ∧ vs'.length = l.length ∧ ∀ j (hj : j < l.length) (hj' : j < vs'.length), (resF a.tmps l[j]).run P w = .ok (vs'[j]) w
  | [], vs, h => by
    injection h with h; subst h
    exact ⟨[], LR.nil, rfl, fun j hj => by simp at hj⟩
  | .tmp t :: l, vs, h => by
    simp only [resB] at h
    split at h
    · rename_i us hu
      injection h with h; subst h
      obtain ⟨us', h1, h2, h3⟩ := res_ok hr hf hu
      refine ⟨a.tmps.getD t undef :: us', LR.cons (hf.2.2 t) h1, by simp [h2], fun j hj hj' => ?_⟩
      cases j with
      | zero => rfl
      | succ j => exact h3 j (by simpa using hj) (by simpa using hj')
    · cases h
  | .cell b t :: l, vs, h => by
    simp only [resB] at h
    split at h
    · rename_i k off hk
      split at h
      · rename_i u us hl hu
        injection h with h; subst h
        obtain ⟨us', h1, h2, h3⟩ := res_ok hr hf hu
        have hv : VR r (fr.get b) (a.tmps.getD b undef) := hf.2.2 b
        rw [hk] at hv
        have hp : ∃ b' x, r k = some (b', x) ∧ a.tmps.getD b undef = .pointer (some ⟨b', off, none⟩) := by
          generalize hq : a.tmps.getD b undef = q at hv
          cases hv with
          | pln h => simp [pl] at h
          | ptr h => exact ⟨_, _, h, rfl⟩
        obtain ⟨b', x, hx, hp⟩ := hp
        obtain ⟨u', hu1, hu2⟩ := ld_ok hr hl hx
        refine ⟨u' :: us', LR.cons hu1 h1, by simp [h2], fun j hj hj' => ?_⟩
        cases j with
        | zero =>
          show (Bind.bind (asAddr (a.tmps.getD b undef)) (loadVar t)).run P w = _
          rw [hp]
          simpa [asAddr, Sem.run_bind, Result.andThen] using hu2
        | succ j => exact h3 j (by simpa using hj) (by simpa using hj')
      · cases h
    · cases h
theorem results_ok (hr : Rel P B r s w) (hf : SlR r fr.t fr.m a.tmps) {fn : Func} {vs : List Value} (h : resB P s fr fn.results.toList = some vs) : ∃ v', (results fn a.tmps).run P w = .ok v' w ∧ VR r (tupV vs) v' := by
  obtain ⟨vs', h1, h2, h3⟩ := res_ok hr hf h
  have hm := mapM_run (P := P) (w := w) fn.results.toList vs' h2 h3
  have e1 : (results fn a.tmps).run P w = .ok (if h : vs'.toArray.size = 1 then vs'.toArray[0] else .tuple vs'.toArray) w := by
    have := semLaw
    rw [resF_eq, Array.mapM_eq_mapM_toList, Sem.run_bind, map_eq_pure_bind, Sem.run_bind]
    rw [hm]
    rfl
  refine ⟨_, e1, ?_⟩
  match vs, vs', h1 with
  | [], vs', h1 => rw [h1.nil']; exact .pln rfl
  | [v], vs', h1 =>
    obtain ⟨v', rfl, hv⟩ := h1.un1
    exact hv
  | v :: u :: vs, vs', h1 =>
    have hl := h1.1
    have : ¬ vs'.toArray.size = 1 := by simp [← hl]
    rw [dif_neg this]
    exact .tu h1.arr.1 h1.arr.2
end
end Go.Proofs.YtbanjolokkghdaaGreatDoor
