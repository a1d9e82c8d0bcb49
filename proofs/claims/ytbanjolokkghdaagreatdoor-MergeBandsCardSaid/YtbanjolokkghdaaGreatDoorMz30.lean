/- Parts of the proof that follows: A run of closed code: the operations that look at memory, but calls. No condition. | A run of closed code: append, copy, clear, len, cap, min, max. No condition. -/
import Derived.Lib.AppendZerosOnto
import Derived.Test.YtbanjolokkghdaaGreatDoorMz29
set_option maxRecDepth 100000
set_option maxHeartbeats 8000000
set_option linter.unusedSimpArgs false
set_option linter.unusedVariables false
namespace Go.Proofs.YtbanjolokkghdaaGreatDoor
open Go.RowKit
section
variable {P : Program} {B : Nat} {r : Rn} {s s' : St} {w : World}
theorem rd_ok (h : Rel P B r s w) {k off n b x : Nat} {l : List Value} (hl : rd s k off n = some l) (hr : r k = some (b, x)) : l.length = n ∧ ∃ l', LR r l l' ∧ (∀ j v, l'[j]? = some v → w.cell? ((⟨b, off, none⟩ : Addr).add j) = some v) ∧ ∀ v ∈ l', v.oneCell' = true := by
  unfold rd at hl
  split at hl
  · rename_i cs t op hg
    obtain ⟨b', x', o', e1, e2, a, rfl, e3, e4⟩ := h.obj k _ hg
    rw [hr] at e1; injection e1 with e1; injection e1 with e1 e1'; subst e1; subst e1'
    cases hb : Nat.ble (Nat.add off n) cs.length with
    | false => rw [hb] at hl; cases hl
    | true =>
      rw [hb] at hl
      injection hl with hl
      rw [takeN_eq, dropN_eq] at hl
      have hle : off + n ≤ cs.length := by simpa using hb
      have hlen : l.length = n := by rw [← hl]; simp; omega
      have hsz : cs.length ≤ a.size := by rw [e3]; omega
      have hget : ∀ j, j < n → ∃ v v', l[j]? = some v ∧ a[off + j]? = some v' ∧ VR r v v' ∧ v.oneCell' = true := fun j hj => by
        have hj' : off + j < cs.length := by omega
        have e5 : cs[off + j]? = some cs[off + j] := by simp [hj']
        obtain ⟨v', a1, a2, a3⟩ := e4 _ _ e5
        refine ⟨cs[off + j], v', ?_, a1, a2, a3⟩
        rw [← hl, List.getElem?_take, if_pos hj, List.getElem?_drop, e5]
      refine ⟨hlen, (a.toList.drop off).take n, ⟨by rw [hlen]; simp; omega, fun i v v' h1 h2 => ?_⟩, fun j v hv => ?_, fun v hv => ?_⟩
      · have hi : i < n := by rw [← hlen]; exact (List.getElem?_eq_some_iff.1 h1).1
        obtain ⟨u, u', g1, g2, g3, _⟩ := hget i hi
        rw [List.getElem?_take, if_pos hi, List.getElem?_drop] at h2
        rw [g1] at h1; injection h1 with h1; subst h1
        have : a[off + i]? = some v' := by simpa using h2
        rw [g2] at this; injection this with this; subst this
        exact g3
      · rw [addr_add, cell_of_row w b (off + j) a t (0, 0) e2]
        rw [List.getElem?_take] at hv
        split at hv
        · rw [List.getElem?_drop] at hv; simpa using hv
        · cases hv
      · obtain ⟨j, hj⟩ := List.mem_iff_getElem?.1 hv
        have hjn : j < n := by
          rw [List.getElem?_take] at hj
          split at hj
          · assumption
          · cases hj
        obtain ⟨u, u', g1, g2, g3, g4⟩ := hget j hjn
        rw [List.getElem?_take, if_pos hjn, List.getElem?_drop] at hj
        have : a[off + j]? = some v := by simpa using hj
        rw [g2] at this; injection this with this; subst this
        rw [g3.one]; exact g4
  · cases hl
theorem splice_get {α : Type} (a vs : List α) (off i : Nat) (h : off + vs.length ≤ a.length) : (a.take off ++ (vs ++ a.drop (off + vs.length)))[i]? = if i < off then a[i]? else if i < off + vs.length then vs[i - off]? else a[i]? := by
  rw [List.getElem?_append]
  have h1 : (a.take off).length = off := by simp; omega
  rw [h1]
  split
  · rename_i h2; rw [List.getElem?_take, if_pos h2]
  · rw [List.getElem?_append]
    split
    · rename_i h2 h3; rw [if_pos (by omega)]
    · rename_i h2 h3
      rw [if_neg (by omega), List.getElem?_drop]
      congr 1; omega
theorem wr_ok (h : Rel P B r s w) {k off b x : Nat} {vs vs' : List Value} (hl : wr s k off vs = some s') (hr : r k = some (b, x)) (hv : LR r vs vs') :
    ∃ cur t, w.heap[b]? = some (.cells cur t (0, 0)) ∧ off + vs'.length ≤ cur.size ∧ (∀ v ∈ vs', v.oneCell' = true) ∧ (∃ cs op, s.get k = some (.cells cs t op) ∧ cs.length ≤ cur.size) ∧ Good P B s s' r r w (w.setRow b (cur.toList.take off ++ vs' ++ cur.toList.drop (off + vs'.length)).toArray) := by
  unfold wr at hl
  split at hl
  · rename_i cs t op hg
    obtain ⟨b', x', o', e1, e2, a, rfl, e3, e4⟩ := h.obj k _ hg
    rw [hr] at e1; injection e1 with e1; injection e1 with e1 e1'; subst e1; subst e1'
    cases hb : (Nat.ble (Nat.add off vs.length) cs.length && ones vs) with
    | false => rw [hb] at hl; cases hl
    | true =>
      rw [hb] at hl
      simp only [cond_true] at hl
      simp only [Bool.and_eq_true] at hb
      have hle : off + vs.length ≤ cs.length := by simpa using hb.1
      have hvl := hv.1
      have hsz : cs.length ≤ a.size := by rw [e3]; omega
      have h1 := hv.oneAll hb.2
      refine ⟨a, t, e2, by omega, h1, ⟨cs, op, hg, hsz⟩, put_ok h hl hg hr (Set1.row e2) ⟨_, rfl, ?_, fun i v hiv => ?_⟩⟩
      · simp only [takeN_eq, dropN_eq]
        simp
        omega
      · rw [takeN_eq, dropN_eq] at hiv
        have hiv : (cs.take off ++ (vs ++ cs.drop (off + vs.length)))[i]? = some v := hiv
        rw [splice_get cs vs off i hle] at hiv
        have e5 : (a.toList.take off ++ vs' ++ a.toList.drop (off + vs'.length)).toArray[i]? = if i < off then a.toList[i]? else if i < off + vs'.length then vs'[i - off]? else a.toList[i]? := by
          have := splice_get a.toList vs' off i (by simp; omega)
          rw [← List.append_assoc] at this
          simpa using this
        rw [e5]
        split at hiv
        · rename_i hi
          rw [if_pos hi]
          obtain ⟨v', g1, g2, g3⟩ := e4 i v hiv
          exact ⟨v', by simpa using g1, g2, g3⟩
        · rename_i hi
          rw [if_neg hi]
          split at hiv
          · rename_i hi2
            rw [if_pos (by omega)]
            obtain ⟨v', g1, g2⟩ := hv.get hiv
            exact ⟨v', g1, g2, ones_mem hb.2 v (List.mem_of_getElem? hiv)⟩
          · rename_i hi2
            rw [if_neg (by omega)]
            obtain ⟨v', g1, g2, g3⟩ := e4 i v hiv
            exact ⟨v', by simpa using g1, g2, g3⟩
  · cases hl
theorem ld_ok (h : Rel P B r s w) {t : TypeId} {k off b x : Nat} {v : Value} (hl : ld P s t k off = some v) (hr : r k = some (b, x)) : ∃ v', VR r v v' ∧ (loadVar t ⟨b, off, none⟩).run P w = .ok v' w := by
  unfold ld at hl
  split at hl
  · rename_i n ha hs
    simp only [Option.map_eq_some_iff] at hl
    obtain ⟨l, hl, rfl⟩ := hl
    obtain ⟨h1, l', h2, h3, _⟩ := rd_ok h hl hr
    refine ⟨.agg l'.toArray, .ag h2.arr.1 h2.arr.2, ?_⟩
    have := run_loadCells_list (P := P) w ⟨b, off, none⟩ l' h3
    rw [← h2.1, h1] at this
    simp [loadVar, aggB_true ha, szB_run hs, this]
  · rename_i n ha hs
    split at hl
    · rename_i u q hq
      injection hl with hl; subst hl
      obtain ⟨h1, l', h2, h3, _⟩ := rd_ok h hq hr
      obtain ⟨v', q', rfl, g1, g2⟩ := h2.uncons
      have := h3 0 v' rfl
      rw [addr_add, Nat.add_zero] at this
      exact ⟨v', g1, by simp [loadVar, aggB_false ha, this]⟩
    · cases hl
  · cases hl
/-- what comes of an operation -/
def Upon (P : Program) (K : Value → World → Prop) : Result Go.Next → Prop
  | .ok (.value v) w => K v w
  | .ok .skip w => K undef w
  | .ok (.enter f args) w => ∀ n, CallsIn Fence.wide n P f args w fun e w' => ∃ v, e = .returned v ∧ K v w'
  | .ok (.round l f tmps asg body) w => ∀ n, RoundIn Fence.wide n P l f tmps asg body w fun e w' => ∃ v, e = .returned v ∧ K v w'
  | _ => False
def Res (P : Program) (B : Nat) (s s' : St) (r : Rn) (w : World) (v : Value) (v' : Value) (w' : World) : Prop := ∃ r', VR r' v v' ∧ Good P B s s' r r' w w'
theorem cells_or {cs cs' : List Value} {x : Nat} {t : TypeId} {r : Rn} (h : LR r cs cs') (h1 : ones cs = true) : OR P r x (.cells cs t false) (.cells cs'.toArray t (0, 0)) :=
  ⟨cs'.toArray, rfl, by simp [h.1], fun i v hv => let ⟨v', g1, g2⟩ := h.get hv; ⟨v', by simpa using g1, g2, ones_mem h1 v (List.mem_of_getElem? hv)⟩⟩
theorem newC_ok (h : Rel P B r s w) (hB : s'.next ≤ B) {cs cs' : List Value} {t : TypeId} {v : Value} (hn : newC s cs t = some (v, s')) (hc : LR r cs cs') : Res P B s s' r w v (.pointer (some ⟨w.heap.size, 0, none⟩)) (w.alloc (.cells cs'.toArray t)) := by
  unfold newC at hn
  cases h1 : ones cs with
  | false => rw [h1] at hn; cases hn
  | true =>
    rw [h1] at hn
    simp only [cond_true, Option.map_eq_some_iff] at hn
    obtain ⟨⟨k, s2⟩, hn, e⟩ := hn
    injection e with e1 e2
    have e2 : s2 = s' := e2
    subst e2; subst e1
    obtain ⟨_, hk, _⟩ := new_some hn
    have hup : ∀ i p, r i = some p → upd r k (w.heap.size, 0) i = some p := fun i p hi => by rw [upd_ne (by rintro rfl; rw [h.fresh hn hB] at hi; cases hi)]; exact hi
    exact ⟨_, .ptr (upd_self _ _ _), new_ok h hB hn (x := 0) (Push1.alloc w _) (cells_or (hc.mono hup) h1)⟩
theorem reps_mod (l : List Value) : ∀ (n i : Nat), i < n * l.length → (reps n l)[i]? = l[i % l.length]?
  | 0, i, h => by simp at h
  | n + 1, i, h => by
    simp only [reps]
    rw [List.getElem?_append]
    split
    · rename_i hi; rw [Nat.mod_eq_of_lt hi]
    · rename_i hi
      have hl : l.length ≤ i := by omega
      rw [reps_mod l n (i - l.length) (by rw [Nat.succ_mul] at h; omega)]
      congr 1
      rw [Nat.mod_eq_sub_mod hl]
theorem reps_len (l : List Value) : ∀ n, (reps n l).length = n * l.length
  | 0 => by simp [reps]
  | n + 1 => by simp only [reps, List.length_append, reps_len l n]; rw [Nat.succ_mul]; omega
theorem made_reps (z : Array Value) (n : Nat) : madeCells z (n * z.size) = (reps n z.toList).toArray := by
  apply Array.ext'
  apply List.ext_getElem?
  intro i
  by_cases hi : i < n * z.size
  · have hz : 0 < z.size := Nat.pos_of_ne_zero fun h => by rw [h] at hi; simp at hi
    have hm : i % z.size < z.size := Nat.mod_lt _ hz
    have := reps_mod z.toList n i (by simpa using hi)
    simp only [Array.length_toList] at this
    simp [madeCells, hi, this, hm]
  · have h1 : (reps n z.toList).length ≤ i := by rw [reps_len]; simp; omega
    simp [madeCells, hi, h1]
theorem reps_ones {l : List Value} (h : ones l = true) : ∀ n, ones (reps n l) = true
  | 0 => rfl
  | n + 1 => by
    have ap : ∀ (a b : List Value), ones a = true → ones b = true → ones (a ++ b) = true := by
      intro a b
      induction a with
      | nil => exact fun _ h => h
      | cons v a ih => intro h1 h2; simp only [List.cons_append, ones, Bool.and_eq_true] at h1 ⊢; exact ⟨h1.1, ih h1.2 h2⟩
    exact ap _ _ h (reps_ones h n)
theorem pls_app : ∀ (a b : List Value), pls a = true → pls b = true → pls (a ++ b) = true
  | [], b, _, h => h
  | v :: a, b, h1, h2 => by simp only [List.cons_append, pls, Bool.and_eq_true] at h1 ⊢; exact ⟨h1.1, pls_app a b h1.2 h2⟩
theorem reps_pls {l : List Value} (h : pls l = true) : ∀ n, pls (reps n l) = true
  | 0 => rfl
  | n + 1 => pls_app _ _ h (reps_pls h n)
theorem pl_cells {z : Value} (h : pl z = true) : pls z.cells.toList = true := by
  cases z <;> try (simp [Value.cells, pls, h]; done)
  rename_i c
  obtain ⟨c⟩ := c
  show pls c = true
  simpa [pl] using h
theorem blt_lt {a b : Nat} (h : Nat.blt a b = true) : a < b := by simp [Nat.blt] at h; omega
theorem nb {s s' : St} {f : Nat × St → Value × St} {q : Option (Nat × St)} {v : Value} (h : q.map f = some (v, s')) : ∃ k s1, q = some (k, s1) ∧ f (k, s1) = (v, s') := by
  simp only [Option.map_eq_some_iff] at h
  obtain ⟨⟨k, s1⟩, h1, h2⟩ := h
  exact ⟨k, s1, h1, h2⟩
theorem elemB_some {t e : TypeId} (h : elemB P t = some e) : P.underlying t = some (.slice e) := by
  unfold elemB at h
  split at h
  · rename_i u; injection h with h; subst h; exact u
  · cases h
theorem VR.mpv {r : Rn} {k b x : Nat} {v' : Value} (h : VR r (.map (some k)) v') (hr : r k = some (b, x)) : v' = .map (some b) := by
  cases h with
  | pln h => simp [pl] at h
  | mp h => rw [hr] at h; injection h with h; injection h with h _; subst h; rfl
theorem mfind_ok {r : Rn} {kd a : IntKind} {x : Int} : ∀ (es : List MapEntry) (es' : List MapEntry) (i : Nat) (q : Option Value), mfind (.int a x) es = some q → es'.length = es.length → (∀ (j : Nat) e, es[j]? = some e → ∃ e', es'[j]? = some e' ∧ e'.key = e.key ∧ VR r e.val e'.val) →
    (q = none → Instr.findNow (.int kd) (.int a x) es' i = some none) ∧ (∀ v, q = some v → ∃ j v', Instr.findNow (.int kd) (.int a x) es' i = some (some (j, v')) ∧ VR r v v')
  | [], es', i, q, h, hl, _ => by
    cases es' with
    | nil => simp [mfind] at h; subst h; exact ⟨fun _ => rfl, fun v hv => by cases hv⟩
    | cons e l => simp at hl
  | e :: es, es', i, q, h, hl, he => by
    cases es' with
    | nil => simp at hl
    | cons e' l =>
      obtain ⟨e2, g1, g2, g3⟩ := he 0 e rfl
      simp only [List.getElem?_cons_zero, Option.some.injEq] at g1
      subst g1
      have ih := mfind_ok (r := r) (kd := kd) (a := a) (x := x) es l (i + 1) q
      simp only [mfind] at h
      split at h
      · rename_i a2 x2 b2 y2 k1 k2
        injection k2 with k2 k3; subst k2; subst k3
        cases hd : decide (a2 = a) with
        | false => rw [hd] at h; cases h
        | true =>
          rw [hd] at h
          simp only [cond_true] at h
          have ha : a2 = a := by simpa using hd
          subst ha
          simp only [Instr.findNow, g2, k1, Instr.sameNow, if_true]
          cases hx : decide (x = x2) with
          | true =>
            rw [hx] at h
            injection h with h; subst h
            have hx : x = x2 := by simpa using hx
            subst hx
            simp only [beq_self_eq_true]
            exact ⟨fun h => (by cases h), fun v hv => (by injection hv with hv; subst hv; exact ⟨i, _, rfl, g3⟩)⟩
          | false =>
            rw [hx] at h
            have hx : ¬ x = x2 := by simpa using hx
            have : (x == x2) = false := by simpa using hx
            simp only [this]
            exact ih h (by simpa using hl) fun j e3 h3 => he (j + 1) e3 (by simpa using h3)
      · cases h
variable {ρ ρ' : Operand → Value} {o : Oper} {v : Value}
theorem fillP_ok {parts : Array (Nat × Operand)} {place : Nat → Option (Nat × Nat)} {c c' out : Array Value} (hp : ∀ p ∈ parts.toList, VR r (ρ p.2) (ρ' p.2)) (hc : AR r c c') (h : Instr.fill place c (parts.toList.map fun p => (p.1, ρ p.2)) = some out) :
    ∃ out', Instr.fill place c' (parts.toList.map fun p => (p.1, ρ' p.2)) = some out' ∧ AR r out out' :=
  fill_ok place _ _ c c' out (by simp) (fun i p p' e1 e2 => by
    simp only [List.getElem?_map, Option.map_eq_some_iff] at e1 e2
    obtain ⟨q, hq, rfl⟩ := e1
    obtain ⟨q', hq', rfl⟩ := e2
    rw [hq] at hq'; injection hq' with hq'; subst hq'
    exact hp q (List.mem_of_getElem? hq)) hc h
/-- The operations that look at memory, but calls. -/
theorem execH_ok {R : Rec} (h : Rel P B r s w) (hB : s'.next ≤ B) (he : execH P R ρ o s = some (v, s')) (hρ : ∀ x ∈ o.op.operands, VR r (ρ x) (ρ' x)) (hnc : ∀ c, o.op ≠ .call c) : Upon P (Res P B s s' r w v) ((execOp ρ' o).run P w) := by
  unfold execH at he
  split at he
  · rename_i e hop
    split at he
    · rename_i z hz
      obtain ⟨i, hi, hzz, hpz⟩ := zeroB_some hz
      have e1 : (execOp ρ' o).run P w = .ok (.value (.pointer (some ⟨w.heap.size, 0, none⟩))) (w.alloc (.cells z.cells e)) := by
        simp [execOp, hop, Instr.alloc, zeroValue, typeInfo, hi, hzz, newVar, newRow]
      rw [e1]
      exact newC_ok h hB he (cs' := z.cells.toList) (VR.pln hpz).cells
    · cases he
  · rename_i e x hop
    have e1 : (execOp ρ' o).run P w = .ok (.value (.pointer (some ⟨w.heap.size, 0, none⟩))) (w.alloc (.cells (ρ' x).cells e)) := by
      simp [execOp, hop, Instr.box, newVar, newRow]
    rw [e1]
    exact newC_ok h hB he (cs' := (ρ' x).cells.toList) (hρ x (by simp [hop, Op.operands])).cells
  · rename_i t len parts hop
    split at he
    · cases he
    · rename_i e hE
      have hu := elemB_some hE
      split at he
      · rename_i sz z hsz hz
        obtain ⟨i, hi, hzz, hpz⟩ := zeroB_some hz
        have hsi : i.size = sz := by unfold szB at hsz; rw [hi] at hsz; simpa using hsz
        cases hc : (Nat.beq sz 0 || Nat.blt 10000 (len * sz) || !(Nat.beq z.cells.size sz)) with
        | true => rw [hc] at he; cases he
        | false =>
          rw [hc] at he
          simp only [cond_false] at he
          simp only [Bool.or_eq_false_iff, Bool.not_eq_false'] at hc
          obtain ⟨⟨c1, c2⟩, c3⟩ := hc
          have c3 : z.cells.size = sz := Nat.eq_of_beq_eq_true c3
          have c1 : sz ≠ 0 := by rintro rfl; cases c1
          have c2 : len * sz ≤ 10000 := by
            rcases Nat.lt_or_ge 10000 (len * sz) with hh | hh
            · exfalso
              have : Nat.blt 10000 (len * sz) = true := by simp [Nat.blt]; omega
              rw [this] at c2; cases c2
            · exact hh
          split at he
          · cases he
          · rename_i cs hcs
            have hz0 : LR r (reps len z.cells.toList) (reps len z.cells.toList) := LR.plain (reps_pls (pl_cells hpz) len)
            obtain ⟨out', f1, f2⟩ := fillP_ok (r := r) (ρ' := ρ') (fun p hp => hρ p.2 (by simp only [hop, Op.operands, List.mem_toArray, List.mem_map]; exact ⟨p, hp, rfl⟩)) hz0.arr hcs
            cases h1 : ones cs.toList with
            | false => rw [h1] at he; cases he
            | true =>
              rw [h1] at he
              obtain ⟨k, s1, hn, e2⟩ := nb (s := s) he
              simp only [Prod.mk.injEq] at e2
              obtain ⟨e2, rfl⟩ := e2
              have hm : (Array.range (len * sz)).map (z.cells[· % z.cells.size]!) = (reps len z.cells.toList).toArray := by
                have := made_reps z.cells len
                rw [c3] at this
                unfold madeCells at this
                rw [← this, c3]
              have e1 : (execOp ρ' o).run P w = .ok (.value (.slice (some ⟨w.heap.size, 0, none⟩) len len)) (w.alloc (.cells out' e)) := by
                have hlim : ¬ (2 ^ 24 < len * sz) := by omega
                have hlim' : ¬ (16777216 < len * sz) := by omega
                by_cases h0 : len * sz = 0
                · have hl0 : len = 0 := by rcases Nat.mul_eq_zero.1 h0 with hh | hh; exact hh; exact absurd hh c1
                  subst hl0
                  have hr : (#[] : Array Value) = (reps 0 z.cells.toList).toArray := rfl
                  simp only [Nat.zero_mul] at hm
                  simp [execOp, hop, Instr.buildSlice, run_underlying hu, szB_run hsz, newRow]
                  simp only [reps] at f1
                  rw [show Array.map (fun _ : Nat => (default : Value)) (Array.range 0) = ([] : List Value).toArray from by simp [Array.range_zero'], f1]
                  simp
                · have hm' : Array.map (fun x => z.cells[x % sz]!) (Array.range (len * sz)) = (reps len z.cells.toList).toArray := by rw [← hm, c3]
                  simp [execOp, hop, Instr.buildSlice, run_underlying hu, szB_run hsz, newRow, hlim', h0, zeroValue, typeInfo, hi, hzz, c3, hm', f1]
              rw [e1, ← e2]
              obtain ⟨_, hk, _⟩ := new_some hn
              have hup : ∀ i p, r i = some p → upd r k (w.heap.size, 0) i = some p := fun i p hi => by rw [upd_ne (by rintro rfl; rw [h.fresh hn hB] at hi; cases hi)]; exact hi
              refine ⟨_, .sl (upd_self _ _ _), new_ok h hB hn (x := 0) (Push1.alloc w _) ?_⟩
              have := cells_or (P := P) (t := e) (x := 0) (f2.list.mono hup) h1
              simpa using this
      · cases he
  · rename_i t a hop
    split at he
    · rename_i k off hk
      simp only [Option.map_eq_some_iff, Prod.mk.injEq] at he
      obtain ⟨u, hl, rfl, rfl⟩ := he
      have ha := hρ a (by simp [hop, Op.operands])
      rw [hk] at ha
      obtain ⟨b, x, hr, e⟩ := ha.pt
      obtain ⟨v', g1, g2⟩ := ld_ok h hl hr
      have e1 : (execOp ρ' o).run P w = .ok (.value v') w := by simp [execOp, hop, e, Instr.loadAt, Instr.sureAddr, g2]
      rw [e1]
      exact ⟨r, g1, Good.refl h⟩
    · cases he
  · rename_i t a x hop
    split at he
    · rename_i k off n hk hsz
      cases hc : Nat.beq (ρ x).cells.size n with
      | false => rw [hc] at he; cases he
      | true =>
        rw [hc] at he
        simp only [cond_true, Option.map_eq_some_iff, Prod.mk.injEq] at he
        obtain ⟨s1, hl, rfl, rfl⟩ := he
        have hc := Nat.eq_of_beq_eq_true hc
        have ha := hρ a (by simp [hop, Op.operands])
        rw [hk] at ha
        obtain ⟨b, y, hr, e⟩ := ha.pt
        have hx := (hρ x (by simp [hop, Op.operands])).cells
        obtain ⟨cur, t', g1, g2, g3, _, g4⟩ := wr_ok h hl hr hx
        have hst := run_storeCells_at P b off t' (ρ' x).cells.toList 0 cur w g1 (by simpa using g2) g3
        have hn : (ρ' x).cells.size = n := by have := hx.1; simp at this; omega
        have e1 : (execOp ρ' o).run P w = .ok .skip (w.setRow b (cur.toList.take off ++ (ρ' x).cells.toList ++ cur.toList.drop (off + (ρ' x).cells.toList.length)).toArray) := by
          simp only [Nat.add_zero] at hst
          simp [execOp, hop, e, Instr.storeAt, Instr.sureAddr, storeVar, szB_run hsz, hn]
          rw [hst]
          simp [hn]
        rw [e1]
        exact ⟨r, VR.undef, g4⟩
    · cases he
  · rename_i t l c hop
    split at he
    · cases he
    · rename_i e hE
      have hu := elemB_some hE
      split at he
      · rename_i i z kl l' kc c' hi hz hl hc
        obtain ⟨i2, hi2, hzz, hpz⟩ := zeroB_some hz
        rw [hi] at hi2; injection hi2 with hi2; subst hi2
        cases hcc : (Nat.ble l' c' && Nat.ble (Nat.mul c' (Nat.add (Nat.add i.size i.bytes) 1)) 10000000 && Nat.beq z.cells.size i.size && ones z.cells.toList) with
        | false => rw [hcc] at he; cases he
        | true =>
          rw [hcc] at he
          simp only [cond_true] at he
          simp only [Bool.and_eq_true, Nat.ble_eq] at hcc
          obtain ⟨⟨⟨c1, c2⟩, c3⟩, c4⟩ := hcc
          have c3 := Nat.eq_of_beq_eq_true c3
          have c2 : c' * (i.size + i.bytes + 1) ≤ 10000000 := c2
          obtain ⟨k, s1, hn, e2⟩ := nb (s := s) he
          simp only [Prod.mk.injEq] at e2
          obtain ⟨e2, rfl⟩ := e2
          have hl' := hρ l (by simp [hop, Op.operands])
          have hc' := hρ c (by simp [hop, Op.operands])
          rw [hl] at hl'
          rw [hc] at hc'
          have hb : i.bytes * c' ≤ 10000000 := by
            have : c' * (i.size + i.bytes + 1) = c' * i.size + i.bytes * c' + c' := by rw [Nat.mul_add, Nat.mul_add, Nat.mul_comm c' i.bytes, Nat.mul_one]
            omega
          have hcb : c' ≤ 10000000 := by
            have : c' * (i.size + i.bytes + 1) = c' * i.size + i.bytes * c' + c' := by rw [Nat.mul_add, Nat.mul_add, Nat.mul_comm c' i.bytes, Nat.mul_one]
            omega
          have hmk := run_make (P := P) w t e i z hu hi hzz kl kc (l' : Int) (c' : Int) (by omega) (by omega) (by have : ((i.bytes * c' : Nat) : Int) ≤ 10000000 := (by omega); rw [Int.natCast_mul] at this; omega) (by omega)
          have e1 : (execOp ρ' o).run P w = .ok (.value (.slice (some ⟨w.heap.size, 0, none⟩) l' c')) (w.alloc (.cells (madeCells z.cells (c' * i.size)) e)) := by
            have q1 := hl'.int
            have q2 := hc'.int
            simp only [Int.ofNat_eq_natCast] at q1 q2
            simp only [execOp, hop, q1, q2]
            simp [hmk]
          rw [e1, ← e2]
          obtain ⟨_, hk, _⟩ := new_some hn
          refine ⟨_, .sl (upd_self _ _ _), new_ok h hB hn (x := 0) (Push1.alloc w _) ?_⟩
          have := cells_or (P := P) (t := e) (x := 0) (r := upd r k (w.heap.size, 0)) (LR.plain (reps_pls (pl_cells hpz) c')) (reps_ones c4 c')
          rw [← made_reps, c3] at this
          exact this
      · cases he
  · rename_i t hop
    obtain ⟨k, s1, hn, e2⟩ := nb (s := s) he
    simp only [Prod.mk.injEq] at e2
    obtain ⟨rfl, rfl⟩ := e2
    have e1 : (execOp ρ' o).run P w = .ok (.value (.map (some w.heap.size))) (w.alloc (.map #[] 0)) := by
      simp [execOp, hop, Instr.makeMap]
    rw [e1]
    exact ⟨_, .mp (upd_self _ _ _), new_ok h hB hn (x := 0) (Push1.alloc w _) ⟨#[], rfl, rfl, fun i e hi => by simp at hi⟩⟩
  · rename_i t m k y hop
    split at he
    · rename_i rr kt et hm hut
      split at he
      · rename_i kd a x es c hkt hk hg
        split at he
        · rename_i hf
          simp only [Option.map_eq_some_iff, Prod.mk.injEq] at he
          obtain ⟨s1, hl, rfl, rfl⟩ := he
          have hm' := hρ m (by simp [hop, Op.operands])
          have hk' := hρ k (by simp [hop, Op.operands])
          have hy' := hρ y (by simp [hop, Op.operands])
          rw [hm] at hm'
          rw [hk] at hk'
          obtain ⟨b, x0, o', hr, hw, es', rfl, g2, g3⟩ := h.obj _ _ hg
          have hmb : ρ' m = .map (some b) := hm'.mpv hr
          obtain ⟨f1, _⟩ := mfind_ok (r := r) (kd := kd) es es'.toList 0 none hf (by simpa using g2) (fun j e hj => by simpa using g3 j e hj)
          have hlt : b < w.heap.size := (Array.getElem?_eq_some_iff.1 hw).1
          have hck : (Instr.checkKey false 10000 kt (.int a x)).run P w = .ok () w := by
            show (Instr.checkKey false (9999 + 1) kt (.int a x)).run P w = _
            rw [Instr.checkKey]
            simp [run_underlying hkt]
          have e1 : (execOp ρ' o).run P w = .ok .skip { w with heap := w.heap.setIfInBounds b (.map (es'.push { key := .int a x, val := ρ' y, born := c }) (c + 1)) } := by
            simp [execOp, hop, hmb, hk'.int, Instr.mapUpdate, run_underlying hut, getObj, setObj, Sem.run, hw, hck, Instr.findKey, run_underlying hkt, f1 rfl]
          rw [e1]
          refine ⟨r, VR.undef, put_ok h hl hg hr (Set1.obj _ hlt) ⟨_, rfl, by simp [g2], fun i e hi => ?_⟩⟩
          rw [List.getElem?_append] at hi
          split at hi
          · rename_i hlt2
            obtain ⟨e', q1, q2, q3⟩ := g3 i e hi
            exact ⟨e', by rw [Array.getElem?_push, if_neg (by omega)]; exact q1, q2, q3⟩
          · rename_i hlt2
            have : i = es.length := by
              rcases Nat.lt_or_ge (i - es.length) 1 with hh | hh
              · omega
              · rw [List.getElem?_eq_none (by simpa using hh)] at hi; cases hi
            subst this
            simp at hi
            subst hi
            exact ⟨{ key := .int a x, val := ρ' y, born := c }, by rw [← g2]; simp, rfl, hy'⟩
        · cases he
      · cases he
    · cases he
  · rename_i t m k hop
    split at he
    · rename_i rr kt et hm hut
      split at he
      · rename_i kd a x es c hkt hk hg
        have hm' := hρ m (by simp [hop, Op.operands])
        have hk' := hρ k (by simp [hop, Op.operands])
        rw [hm] at hm'
        rw [hk] at hk'
        obtain ⟨b, x0, o', hr, hw, es', rfl, g2, g3⟩ := h.obj _ _ hg
        have hmb : ρ' m = .map (some b) := hm'.mpv hr
        have hck : ∀ em, (Instr.checkKey em 10000 kt (.int a x)).run P w = .ok () w := fun em => by
          show (Instr.checkKey em (9999 + 1) kt (.int a x)).run P w = _
          rw [Instr.checkKey]
          simp [run_underlying hkt]
        split at he
        · rename_i z hf hz
          injection he with he; injection he with e2 e3; subst e2; subst e3
          obtain ⟨i, hi, hzz, hpz⟩ := zeroB_some hz
          obtain ⟨f1, _⟩ := mfind_ok (r := r) (kd := kd) es es'.toList 0 none hf (by simpa using g2) (fun j e hj => by simpa using g3 j e hj)
          have e1 : (execOp ρ' o).run P w = .ok (.value (.tuple #[z, .bool false])) w := by
            simp [execOp, hop, hmb, hk'.int, Instr.lookup, run_underlying hut, getObj, Sem.run, hw, hck, Instr.findKey, run_underlying hkt, f1 rfl, zeroValue, typeInfo, hi, hzz]
          rw [e1]
          exact ⟨r, .pln (by simp [pl, pls, hpz]), Good.refl h⟩
        · rename_i u z hf hz
          injection he with he; injection he with e2 e3; subst e2; subst e3
          obtain ⟨_, f2⟩ := mfind_ok (r := r) (kd := kd) es es'.toList 0 (some u) hf (by simpa using g2) (fun j e hj => by simpa using g3 j e hj)
          obtain ⟨j, u', f3, f4⟩ := f2 u rfl
          have e1 : (execOp ρ' o).run P w = .ok (.value (.tuple #[u', .bool true])) w := by
            simp [execOp, hop, hmb, hk'.int, Instr.lookup, run_underlying hut, getObj, Sem.run, hw, hck, Instr.findKey, run_underlying hkt, f3]
          rw [e1]
          have := (LR.cons f4 (LR.cons (r := r) (.pln (v := .bool true) rfl) LR.nil)).arr
          exact ⟨r, .tu this.1 this.2, Good.refl h⟩
        · cases he
      · cases he
    · cases he
  · rename_i t x hop
    split at he
    · rename_i sx hx hu
      obtain ⟨k, s1, hn, e2⟩ := nb (s := s) he
      simp only [Prod.mk.injEq] at e2
      obtain ⟨rfl, rfl⟩ := e2
      have hx' := hρ x (by simp [hop, Op.operands])
      rw [hx] at hx'
      have e1 : (execOp ρ' o).run P w = .ok (.value (.pointer (some ⟨w.heap.size, 0, none⟩))) (w.alloc (.stringIter sx 0)) := by
        simp [execOp, hop, hx'.str, Instr.range, run_underlying hu]
      rw [e1]
      exact ⟨_, .ptr (upd_self _ _ _), new_ok h hB hn (x := 0) (Push1.alloc w _) rfl⟩
    · cases he
  · rename_i x hop
    split at he
    · rename_i k hk
      split at he
      · rename_i sx pos hg
        have hx' := hρ x (by simp [hop, Op.operands])
        rw [hk] at hx'
        obtain ⟨b, y, hr, e⟩ := hx'.pt
        obtain ⟨b', y', o', hr', hw, rfl⟩ := h.obj _ _ hg
        rw [hr] at hr'; injection hr' with hr'; injection hr' with hr' hr2; subst hr'; subst hr2
        have hlt : b < w.heap.size := (Array.getElem?_eq_some_iff.1 hw).1
        cases hc : Nat.blt pos sx.size with
        | true =>
          rw [hc] at he
          simp only [cond_true, Option.map_eq_some_iff, Prod.mk.injEq] at he
          obtain ⟨s1, hl, rfl, rfl⟩ := he
          have hp := blt_lt hc
          have e1 : (execOp ρ' o).run P w = .ok (.value (.tuple #[.bool true, .int .i64 pos, .int .i32 (Utf8.decode sx pos).1])) { w with heap := w.heap.setIfInBounds b (.stringIter sx (pos + (Utf8.decode sx pos).2)) } := by
            simp [execOp, hop, e, Instr.next, getObj, setObj, Sem.run, hw, hp, goInt]
          rw [e1]
          exact ⟨r, .pln rfl, put_ok h hl hg hr (Set1.obj _ hlt) rfl⟩
        | false =>
          rw [hc] at he
          injection he with he; injection he with e2 e3; subst e2; subst e3
          have hp : ¬ pos < sx.size := fun hh => by
            have : Nat.blt pos sx.size = true := by simp [Nat.blt]; omega
            rw [this] at hc; cases hc
          have e1 : (execOp ρ' o).run P w = .ok (.value (.tuple #[.bool false])) w := by
            simp [execOp, hop, e, Instr.next, getObj, Sem.run, hw, hp]
          rw [e1]
          exact ⟨r, .pln rfl, Good.refl h⟩
      · cases he
    · cases he
  · rename_i c hop; exact absurd hop (hnc c)
  · cases he
end
set_option maxRecDepth 100000
theorem arr_app (l : List Value) (a : Array Value) : (l ++ a.toList).toArray = l.toArray ++ a := by apply Array.ext'; simp
section
variable {P : Program} {B : Nat} {r : Rn} {s s' : St} {w : World} {v : Value}
theorem grown_ge (w : World) (need old : Nat) (e : TypeId) : need ≤ grownCap w need old e := by unfold grownCap; exact Nat.le_add_right _ _
theorem growBy_le (n : Nat) : ∀ (k c : Nat), c ≤ n → Builtin.growBy n k c ≤ 2 * n + 768
  | 0, c, h => by simp only [Builtin.growBy]; omega
  | k + 1, c, h => by
    simp only [Builtin.growBy]
    split
    · omega
    · rename_i hc
      rcases Nat.lt_or_ge n (c + (c + 768) / 4) with h1 | h1
      · cases k with
        | zero => simp only [Builtin.growBy]; omega
        | succ k => simp only [Builtin.growBy]; rw [if_pos (by omega)]; omega
      · exact growBy_le n k _ h1
theorem nextslicecap_le {n c : Nat} (h : c < n) : Builtin.nextslicecap n c ≤ 8 * (n + 64) + 256 := by
  unfold Builtin.nextslicecap
  split
  · omega
  · split
    · omega
    · have := growBy_le n 4 c (by omega); omega
theorem fit_of {n c b : Nat} (h : c < n) (hb : 8 * (n + 64) * (b + 1) ≤ 100000000) : Builtin.nextslicecap n c * b ≤ 281474976710656 := by
  have h1 := nextslicecap_le h
  have h2 : Builtin.nextslicecap n c * b ≤ (8 * (n + 64) + 256) * (b + 1) := Nat.mul_le_mul h1 (by omega)
  have h3 : (8 * (n + 64) + 256) * (b + 1) ≤ 2 * (8 * (n + 64)) * (b + 1) := Nat.mul_le_mul_right _ (by omega)
  rw [Nat.mul_assoc] at h3
  omega
theorem zeros_len (z : Array Value) (k : Nat) : (Builtin.zeroCells z k).size = k * z.size := by simp [Builtin.zeroCells]
/-- a grown row: what it holds, and room behind it -/
theorem open_or {cs cs' : List Value} {x : Nat} {t : TypeId} {i : TypeInfo} {r : Rn} {tail : List Value} (hi : P.info? t = some i) (h : LR r cs cs') (h1 : ones cs = true) (ht : tail.length = x * i.size) : OR P r x (.cells cs t true) (.cells (cs' ++ tail).toArray t (0, 0)) :=
  ⟨_, rfl, by simp [h.1, ht, szB, hi], fun j v hv => by
    obtain ⟨v', g1, g2⟩ := h.get hv
    have hj : j < cs'.length := (List.getElem?_eq_some_iff.1 g1).1
    have g1' : (cs' ++ tail)[j]? = some v' := by rw [List.getElem?_append_left hj]; exact g1
    exact ⟨v', by simpa using g1', g2, ones_mem h1 v (List.mem_of_getElem? hv)⟩⟩
theorem LR.len {l l' : List Value} (h : LR r l l') : l'.length = l.length := h.1.symm
theorem rd_ones (h : Rel P B r s w) {k off n : Nat} {l : List Value} (hl : rd s k off n = some l) : ones l = true := by
  have h0 := hl
  unfold rd at h0
  split at h0
  · rename_i cs t op hg
    obtain ⟨b, x, o', e1, e2, a, rfl, e3, e4⟩ := h.obj k _ hg
    obtain ⟨-, l', h2, -, h4⟩ := rd_ok h hl e1
    clear e4 e3 hg h0 hl e2
    induction l generalizing l' with
    | nil => rfl
    | cons u q ih =>
      obtain ⟨v', q', rfl, g1, g2⟩ := h2.uncons
      simp only [ones, Bool.and_eq_true]
      exact ⟨by rw [← g1.one]; exact h4 v' (by simp), ih q' g2 fun v hv => h4 v (by simp [hv])⟩
  · cases h0
theorem ones_app : ∀ {a b : List Value}, ones a = true → ones b = true → ones (a ++ b) = true
  | [], b, _, h => h
  | v :: a, b, h1, h2 => by simp only [List.cons_append, ones, Bool.and_eq_true] at h1 ⊢; exact ⟨h1.1, ones_app h1.2 h2⟩
theorem bif_one {α : Type} {c : Bool} {x : Option α} {y : α} (h : (bif c then x else none) = some y) : c = true ∧ x = some y := by
  cases c with
  | true => exact ⟨rfl, h⟩
  | false => cases h
theorem zeros_reps (z : Array Value) (n : Nat) : Builtin.zeroCells z n = (reps n z.toList).toArray := by
  have := made_reps z n
  unfold madeCells at this
  unfold Builtin.zeroCells
  exact this
theorem appZ_ok (h : Rel P B r s w) (hB : s'.next ≤ B) {t u : TypeId} {x x' : Value} {n : Nat} {k : IntKind} (hb : appZ P s t u x n = some (v, s')) (hx : VR r x x') (ty : TypeId) :
    ∃ v' w', (Builtin.append_ #[t, u] ty #[x', .int k n]).run P w = .ok v' w' ∧ Res P B s s' r w v v' w' := by
  unfold appZ at hb
  split at hb
  case h_2 => cases hb
  rename_i kn hut
  split at hb
  · cases hb
  rename_i e hE
  have hu := elemB_some hE
  split at hb
  case h_2 => cases hb
  rename_i i z hi hz
  obtain ⟨i2, hi2, hzz, hpz⟩ := zeroB_some hz
  rw [hi] at hi2; injection hi2 with hi2; subst hi2
  obtain ⟨hc, hb⟩ := bif_one hb
  simp only [Bool.and_eq_true] at hc
  have hzs := Nat.eq_of_beq_eq_true hc.1
  have hn0 := blt_lt hc.2.1
  have hs0 := blt_lt hc.2.2.1
  have hone := hc.2.2.2
  have tl : ∀ g : Nat, ((Builtin.zeroCells z.cells g).toList).length = g * i.size := fun g => by simp [zeros_len, hzs]
  have hpls : pls (reps n z.cells.toList) = true := reps_pls (pl_cells hpz) n
  have hro : ones (reps n z.cells.toList) = true := reps_ones hone n
  split at hb
  · obtain ⟨hbig, hb⟩ := bif_one hb
    have hbig1 : 8 * (0 + n + 64) * (i.bytes + 1) ≤ 100000000 := by
      have : 8 * (n + 64) * (i.bytes + 1) ≤ 100000000 := by simpa using hbig
      rw [Nat.zero_add]; exact this
    have hnn : n ≤ 100000000 := by
      have : 8 * (0 + n + 64) * 1 ≤ 8 * (0 + n + 64) * (i.bytes + 1) := Nat.mul_le_mul_left _ (by omega)
      omega
    obtain ⟨kk, s1, hn, e2⟩ := nb (s := s) hb
    simp only [Prod.mk.injEq] at e2
    obtain ⟨rfl, rfl⟩ := e2
    rw [hx.same rfl]
    have hb1 : n * i.bytes ≤ 281474976710656 := by
      have : n * i.bytes ≤ 8 * (0 + n + 64) * (i.bytes + 1) := Nat.mul_le_mul (by omega) (by omega)
      omega
    refine ⟨_, _, Lib.run_append_nil_zeros w t u ty e i z k kn hu hut hi hzz n hn0 hs0 (by omega) hb1, upd r kk (w.heap.size, grownCap w n 0 e - n), ?_, new_ok h hB hn (Push1.drew w _) ?_⟩
    · have hge := grown_ge w n 0 e
      have := VR.so (r := upd r kk (w.heap.size, grownCap w n 0 e - n)) (off := 0) (n := n) (c := n) (upd_self r kk _)
      rwa [show n + (grownCap w n 0 e - n) = grownCap w n 0 e by omega] at this
    · have := open_or (P := P) (x := grownCap w n 0 e - n) (r := upd r kk (w.heap.size, grownCap w n 0 e - n)) hi (LR.plain hpls) hro (tl _)
      rw [arr_app, ← zeros_reps] at this
      exact this
  · rename_i k0 off len cap _
    obtain ⟨hg, hb3⟩ := bif_one hb
    clear hb
    simp only [Bool.and_eq_true] at hg
    have hroom : cap < len + n := blt_lt hg.1
    have hbig1 : 8 * (len + n + 64) * (i.bytes + 1) ≤ 100000000 := by simpa using hg.2
    have hnn : len + n ≤ 100000000 := by
      have : 8 * (len + n + 64) * 1 ≤ 8 * (len + n + 64) * (i.bytes + 1) := Nat.mul_le_mul_left _ (by omega)
      omega
    split at hb3
    · cases hb3
    rename_i old hold
    obtain ⟨k', off', b, x, hr, hx⟩ := hx.slc
    have hk : k' = k0 ∧ off' = off := by rcases hx with ⟨e1, _⟩ | ⟨e1, _⟩ <;> injection e1 with e1 e3 e4 <;> exact ⟨e1.symm, e3.symm⟩
    obtain ⟨rfl, rfl⟩ := hk
    obtain ⟨ho1, old', ho2, ho3, ho4⟩ := rd_ok h hold hr
    have hol : old'.length = len * i.size := by rw [ho2.len]; exact ho1
    have hoo := rd_ones h hold
    obtain ⟨k2, s1, hn, e2⟩ := nb (s := s) hb3
    simp only [Prod.mk.injEq] at e2
    obtain ⟨rfl, rfl⟩ := e2
    have hxx : x' = .slice (some ⟨b, off', none⟩) len cap := by
      rcases hx with ⟨_, e2⟩ | ⟨e1, _⟩
      · exact e2
      · injection e1 with _ _ e1; cases e1
    subst hxx
    have hf := run_firstCells_some (P := P) w.drew i.size len ⟨b, off', none⟩ len cap old' hol (by simpa using ho3)
    have hb1 : n * i.bytes ≤ 281474976710656 := by
      have : n * i.bytes ≤ 8 * (len + n + 64) * (i.bytes + 1) := Nat.mul_le_mul (by omega) (by omega)
      omega
    refine ⟨_, _, Lib.run_append_grow_zeros w t u ty e i z k kn hu hut hi hzz (some ⟨b, off', none⟩) len cap old' hf n hn0 hs0 hroom (by omega) hb1 (fit_of hroom hbig1), upd r k2 (w.heap.size, grownCap w (len + n) cap e - (len + n)), ?_, new_ok h hB hn (Push1.drew w _) ?_⟩
    · have hge := grown_ge w (len + n) cap e
      have := VR.so (r := upd r k2 (w.heap.size, grownCap w (len + n) cap e - (len + n))) (off := 0) (n := len + n) (c := len + n) (upd_self r k2 _)
      rwa [show len + n + (grownCap w (len + n) cap e - (len + n)) = grownCap w (len + n) cap e by omega] at this
    · have hup : ∀ j p, r j = some p → upd r k2 (w.heap.size, grownCap w (len + n) cap e - (len + n)) j = some p := fun j p hj => by rw [upd_ne (by rintro rfl; rw [h.fresh hn hB] at hj; cases hj)]; exact hj
      have := open_or (P := P) (x := grownCap w (len + n) cap e - (len + n)) hi ((ho2.app (LR.plain hpls)).mono hup) (ones_app hoo hro) (tl _)
      rw [arr_app, ← List.append_toArray, ← zeros_reps] at this
      exact this
  · cases hb
theorem appB_ok (h : Rel P B r s w) (hB : s'.next ≤ B) {t : TypeId} {x y x' y' : Value} (hb : appB P s t x y = some (v, s')) (hx : VR r x x') (hy : VR r y y') (ty : TypeId) :
    ∃ v' w', (Builtin.append_ #[t, t] ty #[x', y']).run P w = .ok v' w' ∧ Res P B s s' r w v v' w' := by
  unfold appB at hb
  split at hb
  · cases hb
  rename_i e hE
  have hu := elemB_some hE
  split at hb
  case h_2 => cases hb
  rename_i i z hi hz
  obtain ⟨i2, hi2, hzz, hpz⟩ := zeroB_some hz
  rw [hi] at hi2; injection hi2 with hi2; subst hi2
  cases hzs : Nat.beq z.cells.size i.size with
  | false => rw [hzs] at hb; cases hb
  | true =>
    rw [hzs] at hb
    have hzs := Nat.eq_of_beq_eq_true hzs
    simp only [cond_true] at hb
    split at hb
    · rename_i a len cap kb ob sb n cb
      obtain ⟨kb', ob', bb, xb, hrb, hy⟩ := hy.slc
      have hyy : ∃ c', y' = .slice (some ⟨bb, ob, none⟩) n c' ∧ kb' = kb := by
        rcases hy with ⟨e1, e2⟩ | ⟨e1, e2⟩ <;> injection e1 with e1 e3 e4 <;> subst e1 <;> subst e3 <;> exact ⟨_, e2, rfl⟩
      obtain ⟨cb', rfl, rfl⟩ := hyy
      clear hy
      split at hb
      · cases hb
      rename_i src hsrc
      obtain ⟨hl1, src', hl2, hl3, hl4⟩ := rd_ok h hsrc hrb
      have hsl : src'.length = n * i.size := by rw [hl2.len]; exact hl1
      have hso := rd_ones h hsrc
      cases hroom : Nat.ble (Nat.add len n) cap with
      | true =>
        rw [hroom] at hb
        simp only [cond_true] at hb
        have hroom : len + n ≤ cap := by simpa using hroom
        split at hb
        · rename_i k sp
          split at hb
          · rename_i cs0 t' op hg
            cases ht : Nat.beq t' e with
            | false => rw [ht] at hb; cases hb
            | true =>
              rw [ht] at hb
              have ht := Nat.eq_of_beq_eq_true ht
              subst ht
              simp only [cond_true, Option.map_eq_some_iff, Prod.mk.injEq] at hb
              obtain ⟨s1, hw, rfl, rfl⟩ := hb
              obtain ⟨k', off', b, x, hr, hx⟩ := hx.slc
              have hk : k' = k := by rcases hx with ⟨e1, _⟩ | ⟨e1, _⟩ <;> injection e1 with e1 e3 e4 <;> exact e1.symm
              subst hk
              obtain ⟨cur, t2, g1, g2, g3, ⟨cs1, op1, g5, _⟩, g4⟩ := wr_ok h hw hr hl2
              rw [hg] at g5; injection g5 with g5; injection g5 with _ g5 _; subst g5
              rcases hx with ⟨e1, e2⟩ | ⟨e1, e2⟩ <;> injection e1 with e1 e3 e4 <;> subst e3 <;> subst e4 <;> subst e2
              · exact ⟨_, _, run_append_room w t ty _ i hu hi b len cap cur g1 ⟨bb, ob, none⟩ n cb' src' hsl hl3 hl4 hroom g2, r, .sl hr, g4⟩
              · exact ⟨_, _, run_append_room w t ty _ i hu hi b len (cap + x) cur g1 ⟨bb, ob, none⟩ n cb' src' hsl hl3 hl4 (by omega) g2, r, .so hr, g4⟩
          · cases hb
        · cases hb
      | false =>
        rw [hroom] at hb
        simp only [cond_false] at hb
        have hroom : cap < len + n := by
          rcases Nat.lt_or_ge cap (len + n) with hh | hh
          · exact hh
          · have : Nat.ble (Nat.add len n) cap = true := by simpa using hh
            rw [this] at hroom; cases hroom
        cases hbig : (Nat.ble (Nat.mul (Nat.mul 8 (Nat.add (Nat.add len n) 64)) (Nat.add i.bytes 1)) 100000000 && ones src) with
        | false => rw [hbig] at hb; cases hb
        | true =>
          rw [hbig] at hb
          simp only [cond_true] at hb
          simp only [Bool.and_eq_true, Nat.ble_eq] at hbig
          have hbig1 : 8 * (len + n + 64) * (i.bytes + 1) ≤ 100000000 := hbig.1
          have hnn : len + n ≤ 100000000 := by
            have : 8 * (len + n + 64) * 1 ≤ 8 * (len + n + 64) * (i.bytes + 1) := Nat.mul_le_mul_left _ (by omega)
            omega
          have tl : ∀ g : Nat, ((Builtin.zeroCells z.cells g).toList).length = g * i.size := fun g => by simp [zeros_len, hzs]
          split at hb
          · -- nothing before
            cases h0 : (Nat.beq len 0 && Nat.beq cap 0) with
            | false => rw [h0] at hb; cases hb
            | true =>
              rw [h0] at hb
              simp only [cond_true] at hb
              simp only [Bool.and_eq_true] at h0
              obtain ⟨rfl, rfl⟩ : len = 0 ∧ cap = 0 := ⟨Nat.eq_of_beq_eq_true h0.1, Nat.eq_of_beq_eq_true h0.2⟩
              cases hn0 : Nat.blt 0 n with
              | false => rw [hn0] at hb; cases hb
              | true =>
                rw [hn0] at hb
                obtain ⟨k, s1, hn, e2⟩ := nb (s := s) hb
                simp only [Prod.mk.injEq] at e2
                obtain ⟨rfl, rfl⟩ := e2
                have hn0 := blt_lt hn0
                rw [hx.same rfl]
                have hb1 : n * i.bytes ≤ 281474976710656 := by
                  have : n * i.bytes ≤ 8 * (0 + n + 64) * (i.bytes + 1) := Nat.mul_le_mul (by omega) (by omega)
                  omega
                refine ⟨_, _, run_append_nil w t ty e i z hu hi hzz ⟨bb, ob, none⟩ n cb' src' hsl hl3 hn0 (by omega) hb1, upd r k (w.heap.size, grownCap w n 0 e - n), ?_, new_ok h hB hn (Push1.drew w _) ?_⟩
                · have hge := grown_ge w n 0 e
                  have := VR.so (r := upd r k (w.heap.size, grownCap w n 0 e - n)) (off := 0) (n := n) (c := n) (upd_self r k _)
                  rwa [show n + (grownCap w n 0 e - n) = grownCap w n 0 e by omega] at this
                · obtain ⟨_, hk, _⟩ := new_some hn
                  have hup : ∀ j p, r j = some p → upd r k (w.heap.size, grownCap w n 0 e - n) j = some p := fun j p hj => by rw [upd_ne (by rintro rfl; rw [h.fresh hn hB] at hj; cases hj)]; exact hj
                  have := open_or (P := P) (x := grownCap w n 0 e - n) hi (hl2.mono hup) hso (tl _)
                  rw [arr_app] at this
                  exact this
          · rename_i k off sp
            split at hb
            · cases hb
            rename_i old hold
            obtain ⟨k', off', b, x, hr, hx⟩ := hx.slc
            have hk : k' = k ∧ off' = off := by rcases hx with ⟨e1, _⟩ | ⟨e1, _⟩ <;> injection e1 with e1 e3 e4 <;> exact ⟨e1.symm, e3.symm⟩
            obtain ⟨rfl, rfl⟩ := hk
            obtain ⟨ho1, old', ho2, ho3, ho4⟩ := rd_ok h hold hr
            have hol : old'.length = len * i.size := by rw [ho2.len]; exact ho1
            have hoo := rd_ones h hold
            have hall := ones_app hoo hso
            -- it grows, the memory being s0's
            have grow : ∀ (s0 : St) (cap' : Nat), Rel P B r s0 w → cap' < len + n → s0.next = s.next → ∀ k2 s2, s2.next ≤ B → s0.new (.cells (old ++ src) e true) = some (k2, s2) →
                ∃ v' w', (Builtin.append_ #[t, t] ty #[.slice (some ⟨b, off', none⟩) len cap', .slice (some ⟨bb, ob, none⟩) n cb']).run P w = .ok v' w' ∧ Res P B s0 s2 r w (.slice (some ⟨k2, 0, some 0⟩) (len + n) (len + n)) v' w' := by
              intro s0 cap' h0 hc hnx k2 s2 hB2 hn
              obtain ⟨_, hk, _⟩ := new_some hn
              refine ⟨_, _, run_append_grow w t ty e i z hu hi hzz ⟨b, off', none⟩ len cap' old' hol ho3 ⟨bb, ob, none⟩ n cb' src' hsl hl3 hc (by omega) (fit_of hc hbig1), upd r k2 (w.heap.size, grownCap w (len + n) cap' e - (len + n)), ?_, new_ok h0 hB2 hn (Push1.drew w _) ?_⟩
              · have hge := grown_ge w (len + n) cap' e
                have := VR.so (r := upd r k2 (w.heap.size, grownCap w (len + n) cap' e - (len + n))) (off := 0) (n := len + n) (c := len + n) (upd_self r k2 _)
                rwa [show len + n + (grownCap w (len + n) cap' e - (len + n)) = grownCap w (len + n) cap' e by omega] at this
              · have hup : ∀ j p, r j = some p → upd r k2 (w.heap.size, grownCap w (len + n) cap' e - (len + n)) j = some p := fun j p hj => by rw [upd_ne (by rintro rfl; rw [h0.fresh hn hB2] at hj; cases hj)]; exact hj
                have := open_or (P := P) (x := grownCap w (len + n) cap' e - (len + n)) hi ((ho2.app hl2).mono hup) hall (tl _)
                rw [arr_app, ← List.append_toArray] at this
                exact this
            split at hb
            · -- a bounded part: it grows
              obtain ⟨k2, s1, hn, e2⟩ := nb (s := s) hb
              simp only [Prod.mk.injEq] at e2
              obtain ⟨rfl, rfl⟩ := e2
              rcases hx with ⟨e1, e2⟩ | ⟨e1, e2⟩
              · subst e2
                exact grow s cap h hroom rfl k2 _ hB hn
              · injection e1 with _ _ e1; cases e1
            · rename_i q
              split at hb
              · rename_i cs t' hg
                cases hc : (Nat.beq t' e && Nat.beq cs.length (Nat.mul cap i.size)) with
                | false => rw [hc] at hb; cases hb
                | true =>
                  rw [hc] at hb
                  simp only [cond_true] at hb
                  simp only [Bool.and_eq_true] at hc
                  have ht := Nat.eq_of_beq_eq_true hc.1
                  have hcl : cs.length = cap * i.size := Nat.eq_of_beq_eq_true hc.2
                  subst ht
                  split at hb
                  · cases hb
                  rename_i s1 hd
                  obtain ⟨k2, s2, hn, e2⟩ := nb (s := s) hb
                  simp only [Prod.mk.injEq] at e2
                  obtain ⟨rfl, rfl⟩ := e2
                  rcases hx with ⟨e1, e2⟩ | ⟨e1, e2⟩
                  · injection e1 with _ _ e1; cases e1
                  · subst e2
                    rcases Nat.lt_or_ge (cap + x) (len + n) with hlt | hge
                    · have g0 := drop_ok (x := x) (b := b) h hd hg
                      obtain ⟨v', w', a1, r', a2, a3⟩ := grow s1 (cap + x) g0.rel hlt (by obtain ⟨_, _, rfl⟩ := put_some hd; rfl) k2 _ hB hn
                      exact ⟨v', w', a1, r', a2, g0.trans a3⟩
                    · obtain ⟨b', x', o', q1, q2, cur, rfl, q3, q4⟩ := h.obj _ _ hg
                      rw [hr] at q1; injection q1 with q1; injection q1 with q1 q1'; subst q1; subst q1'
                      have hsz : (szB P t').getD 0 = i.size := by simp [szB, hi]
                      rw [if_pos rfl, hsz, hcl] at q3
                      have hmul : (cap + x) * i.size = cap * i.size + x * i.size := Nat.add_mul _ _ _
                      have hle : (len + n) * i.size ≤ (cap + x) * i.size := Nat.mul_le_mul_right _ hge
                      have hmul2 : (len + n) * i.size = len * i.size + n * i.size := Nat.add_mul _ _ _
                      have hmul3 : (cap + x) * i.size = (len + n) * i.size + (cap + x - (len + n)) * i.size := by rw [← Nat.add_mul]; congr 1; omega
                      have hrun := run_append_room w t ty t' i hu hi b len (cap + x) cur q2 ⟨bb, ob, none⟩ n cb' src' hsl hl3 hl4 hge (by omega)
                      have holdeq : old' = cur.toList.take (len * i.size) := by
                        apply List.ext_getElem?
                        intro j
                        by_cases hj : j < len * i.size
                        · have e1 : old'[j]? = some (old'[j]'(by omega)) := by simp [hol, hj]
                          have e2 := ho3 j _ e1
                          rw [addr_add, cell_of_row w b (0 + j) cur t' (0, 0) q2] at e2
                          rw [e1, List.getElem?_take, if_pos hj, ← e2]
                          simp
                        · rw [List.getElem?_eq_none (by omega), List.getElem?_take, if_neg hj]
                      obtain ⟨_, hk, _⟩ := new_some hn
                      have hk : k2 = s.next := by rw [hk]; obtain ⟨_, _, rfl⟩ := put_some hd; rfl
                      have hfr : r k2 = none := (drop_ok (x := x) (b := b) h hd hg).rel.fresh hn hB
                      have hup : ∀ j p, r j = some p → upd r k2 (b, cap + x - (len + n)) j = some p := fun j p hj => by rw [upd_ne (by rintro rfl; rw [hfr] at hj; cases hj)]; exact hj
                      refine ⟨_, _, hrun, upd r k2 (b, cap + x - (len + n)), ?_, move_ok h hB hd hn hg hr (Set1.row q2) ?_⟩
                      · have := VR.so (r := upd r k2 (b, cap + x - (len + n))) (off := 0) (n := len + n) (c := len + n) (upd_self r k2 _)
                        rwa [show len + n + (cap + x - (len + n)) = cap + x by omega] at this
                      · have := open_or (P := P) (x := cap + x - (len + n)) (tail := cur.toList.drop (len * i.size + src'.length)) hi ((ho2.app hl2).mono hup) hall (by simp; omega)
                        rw [holdeq] at this
                        exact this
              · cases hb
    · rename_i a len cap n cb
      cases h0 : (Nat.beq n 0 && Nat.ble len cap) with
      | false => rw [h0] at hb; cases hb
      | true =>
        rw [h0] at hb
        injection hb with hb
        injection hb with e1 e2
        subst e1; subst e2
        simp only [Bool.and_eq_true, Nat.ble_eq] at h0
        have hn := Nat.eq_of_beq_eq_true h0.1
        subst hn
        rw [hy.same rfl]
        cases a with
        | none =>
          rw [hx.same rfl]
          exact ⟨_, _, by simp [Builtin.append_, run_underlying hu, szB_run (show szB P e = some i.size by simp [szB, hi]), Builtin.lenOf, Builtin.firstCells, h0.2], r, .pln rfl, Good.refl h⟩
        | some a =>
          have hx0 := hx
          obtain ⟨k, off, b, x, hr, hx⟩ := hx.slc
          rcases hx with ⟨e1, e2⟩ | ⟨e1, e2⟩ <;> subst e2
          · exact ⟨_, _, by simp [Builtin.append_, run_underlying hu, szB_run (show szB P e = some i.size by simp [szB, hi]), Builtin.lenOf, Builtin.firstCells, h0.2, storeCells], r, hx0, Good.refl h⟩
          · exact ⟨_, _, by simp [Builtin.append_, run_underlying hu, szB_run (show szB P e = some i.size by simp [szB, hi]), Builtin.lenOf, Builtin.firstCells, show len ≤ cap + x by omega, storeCells], r, hx0, Good.refl h⟩
    · cases hb
end
end Go.Proofs.YtbanjolokkghdaaGreatDoor
