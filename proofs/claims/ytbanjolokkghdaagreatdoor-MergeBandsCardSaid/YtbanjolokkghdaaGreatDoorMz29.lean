/- Parts of the proof that follows: A run of closed code: the operations that look at no memory. No condition. | A run of closed code: the operations that look at no memory, told. No condition. | A run of closed code: what is made, written, let go. No condition. -/
import Derived.Laws.AppendOwn
import Derived.Laws.MakeOwn
import Derived.Laws.CopyRow
import Derived.Test.YtbanjolokkghdaaGreatDoorMz28
set_option maxRecDepth 100000
set_option maxHeartbeats 8000000
set_option linter.unusedSimpArgs false
set_option linter.unusedVariables false
namespace Go.Proofs.YtbanjolokkghdaaGreatDoor
open Go.RowKit
theorem pv_run {α : Type} {P : Program} : ∀ {s : Sem α} {a : α}, pv P s = some a → ∀ w, s.run P w = .ok a w
  | .pure a, b, h, w => by simp [pv] at h; subst h; rfl
  | .program k, b, h, w => by simp only [pv] at h; exact pv_run (s := k P) h w
  | .mark m k, b, h, w => by simp only [pv] at h; exact pv_run (s := k) h w
  | .load .., _, h, _ => by simp [pv] at h
  | .store .., _, h, _ => by simp [pv] at h
  | .new .., _, h, _ => by simp [pv] at h
  | .shape .., _, h, _ => by simp [pv] at h
  | .freeze .., _, h, _ => by simp [pv] at h
  | .frozen .., _, h, _ => by simp [pv] at h
  | .getObj .., _, h, _ => by simp [pv] at h
  | .setObj .., _, h, _ => by simp [pv] at h
  | .choose .., _, h, _ => by simp [pv] at h
  | .sys .., _, h, _ => by simp [pv] at h
  | .halt .., _, h, _ => by simp [pv] at h
theorem aggB_true {P : Program} {t : TypeId} (h : aggB P t = some true) (w : World) : (isAgg t).run P w = .ok true w := by
  unfold aggB at h
  cases hu : P.underlying t with
  | none => rw [hu] at h; cases h
  | some d => rw [hu] at h; cases d <;> simp at h <;> simp [isAgg, run_underlying hu]
theorem aggB_false {P : Program} {t : TypeId} (h : aggB P t = some false) (w : World) : (isAgg t).run P w = .ok false w := by
  unfold aggB at h
  cases hu : P.underlying t with
  | none => rw [hu] at h; cases h
  | some d => rw [hu] at h; cases d <;> simp at h <;> simp [isAgg, run_underlying hu]
theorem szB_run {P : Program} {t : TypeId} {n : Nat} (h : szB P t = some n) (w : World) : (sizeOf t).run P w = .ok n w := by
  unfold szB at h
  cases hi : P.info? t with
  | none => rw [hi] at h; cases h
  | some i => rw [hi] at h; simp at h; subst h; simp [sizeOf, typeInfo, hi]
theorem partB_run {P : Program} {r : Rn} {t : TypeId} {cs cs' : Array Value} {off : Nat} {v : Value} (h : partB P t cs off = some v) (hc : AR r cs cs') : ∃ v', VR r v v' ∧ ∀ w, (part t cs' off).run P w = .ok v' w := by
  unfold partB at h
  split at h
  · rename_i n ha hs
    injection h with h; subst h
    refine ⟨.agg (cs'.extract off (off + n)), ?_, fun w => by simp [part, aggB_true ha, szB_run hs]⟩
    have e : ∀ a : Array Value, a.extract off (off + n) = ((a.toList.drop off).take n).toArray := fun a => by apply Array.ext'; simp
    rw [e, e]
    obtain ⟨h1, h2⟩ := ((hc.list.drop off).take n).arr
    exact .ag h1 h2
  · rename_i ha hs
    obtain ⟨v', h1, h2⟩ := hc.get h
    exact ⟨v', h2, fun w => by simp [part, aggB_false ha, h1]⟩
  · cases h
theorem plain_run {P : Program} {r : Rn} {ρ ρ' : Operand → Value} {o : Oper} {v : Value} (h : pvV P ρ o = some v) (hs : ∀ cs b, o.op ≠ .select cs b) (hρ : ∀ x ∈ o.op.operands, VR r (ρ x) (ρ' x)) (hp : ∀ x ∈ o.op.operands, pl (ρ x) = true) :
    ∃ v', VR r v v' ∧ ∀ w, (execOp ρ' o).run P w = .ok (.value v') w := by
  have e := execOp_congr (ρ := ρ') (ρ' := ρ) o hs fun x hx => (hρ x hx).same (hp x hx)
  unfold pvV at h
  split at h
  · rename_i v0 hpv
    cases hv : pl v0 with
    | false => rw [hv] at h; cases h
    | true =>
      rw [hv] at h
      injection h with h; subst h
      exact ⟨v0, .pln hv, fun w => by rw [e]; exact pv_run hpv w⟩
  · cases h
theorem fill_foldl {r : Rn} (off : Nat) : ∀ (l l' : List Value) (n : Nat) (c c' : Array Value), LR r l l' → AR r c c' → AR r ((l.zipIdx n).foldl (fun cs (x : Value × Nat) => cs.setIfInBounds (off + x.2) x.1) c) ((l'.zipIdx n).foldl (fun cs (x : Value × Nat) => cs.setIfInBounds (off + x.2) x.1) c')
  | [], l', n, c, c', h, hc => by rw [h.nil']; exact hc
  | v :: l, l', n, c, c', h, hc => by
    obtain ⟨v', q, rfl, h1, h2⟩ := h.uncons
    simp only [List.zipIdx_cons, List.foldl_cons]
    refine fill_foldl off l q (n + 1) _ _ h2 ⟨by simp [hc.1], fun i a a' e1 e2 => ?_⟩
    rw [Array.getElem?_setIfInBounds] at e1 e2
    by_cases hi : off + n = i
    · subst hi
      rw [if_pos rfl] at e1 e2
      by_cases hs : off + n < c.size
      · rw [if_pos hs] at e1; rw [if_pos (hc.1 ▸ hs)] at e2
        injection e1 with e1; injection e2 with e2; subst e1; subst e2; exact h1
      · rw [if_neg hs] at e1; cases e1
    · rw [if_neg hi] at e1 e2
      exact hc.2 i a a' e1 e2
theorem fill_ok {r : Rn} (place : Nat → Option (Nat × Nat)) : ∀ (ps ps' : List (Nat × Value)) (c c' out : Array Value), ps.map (·.1) = ps'.map (·.1) → (∀ (i : Nat) (p p' : Nat × Value), ps[i]? = some p → ps'[i]? = some p' → VR r p.2 p'.2) → AR r c c' → Instr.fill place c ps = some out → ∃ out', Instr.fill place c' ps' = some out' ∧ AR r out out'
  | [], ps', c, c', out, e, hp, hc, h => by
    cases ps' with
    | nil => simp [Instr.fill] at h; subst h; exact ⟨c', rfl, hc⟩
    | cons p q => simp at e
  | (i, v) :: ps, ps', c, c', out, e, hp, hc, h => by
    cases ps' with
    | nil => simp at e
    | cons p q =>
      obtain ⟨i', v'⟩ := p
      simp only [List.map_cons, List.cons.injEq] at e
      obtain ⟨rfl, e⟩ := e
      have hv : VR r v v' := hp 0 _ _ rfl rfl
      have hcv := hv.cells
      have hsz : v.cells.size = v'.cells.size := by simpa using hcv.1
      simp only [Instr.fill] at h ⊢
      cases hpl : place i with
      | none => rw [hpl] at h; cases h
      | some ab =>
        obtain ⟨a, b⟩ := ab
        rw [hpl] at h
        simp only at h ⊢
        split at h
        · cases h
        · rename_i hn
          rw [if_neg (by rw [← hsz, ← hc.1]; exact hn)]
          refine fill_ok place ps q _ _ out e (fun k p p' h1 h2 => hp (k + 1) p p' (by simpa using h1) (by simpa using h2)) ?_ h
          have := fill_foldl (r := r) a v.cells.toList v'.cells.toList 0 c c' hcv hc
          have fe : ∀ (b c : Array Value), b.zipIdx.foldl (fun cs (x : Value × Nat) => cs.setIfInBounds (a + x.2) x.1) c = b.toList.zipIdx.foldl (fun cs (x : Value × Nat) => cs.setIfInBounds (a + x.2) x.1) c := fun b c => by rw [← Array.foldl_toList, Array.toList_zipIdx]
          rw [← fe, ← fe] at this
          exact this
theorem VR.undef {r : Rn} : VR r undef undef := .pln rfl
theorem zeroB_some {P : Program} {t : TypeId} {z : Value} (h : zeroB P t = some z) : ∃ i, P.info? t = some i ∧ i.zero = some z ∧ pl z = true := by
  unfold zeroB at h
  cases hi : P.info? t with
  | none => rw [hi] at h; cases h
  | some it =>
    rw [hi] at h
    simp only [Option.bind_some] at h
    cases hz : it.zero with
    | none => rw [hz] at h; cases h
    | some z' =>
      rw [hz] at h
      simp only [Option.bind_some] at h
      cases e : pl z' with
      | true => rw [e] at h; injection h with h; subst h; exact ⟨it, rfl, hz, e⟩
      | false => rw [e] at h; cases h
theorem built_ok {P : Program} {r : Rn} {t : TypeId} {ps ps' : List (Nat × Value)} {out : Array Value} (hz : (zeroB P t).isSome = true) (e : ps.map (·.1) = ps'.map (·.1)) (hp : ∀ (i : Nat) (p p' : Nat × Value), ps[i]? = some p → ps'[i]? = some p' → VR r p.2 p'.2) (h : P.built t ps = some out) :
    ∃ out', P.built t ps' = some out' ∧ AR r out out' := by
  obtain ⟨z, hz⟩ := Option.isSome_iff_exists.1 hz
  obtain ⟨it, hi, hzz, hpz⟩ := zeroB_some hz
  have hc : AR r z.cells z.cells := by have := (VR.pln (r := r) hpz).cells; exact ⟨rfl, fun i a a' h1 h2 => this.2 i a a' (by simpa using h1) (by simpa using h2)⟩
  unfold Program.built at h ⊢
  cases hu : P.underlying t with
  | none => simp [hi, hu] at h
  | some d =>
    cases d <;> try (simp [hi, hu] at h; done)
    · simp only [hi, hu, hzz] at h ⊢
      cases hie : P.info? ‹TypeId› with
      | none => simp [hie] at h
      | some ie => simp only [hie] at h ⊢; exact fill_ok _ ps ps' _ _ out e hp hc h
    · simp only [hi, hu, hzz] at h ⊢
      rename_i fs
      cases hm : fs.toList.mapM (fun f => (P.info? f.type).map fun i => (f.offset, i.size)) with
      | none => simp [hm] at h
      | some places => simp only [hm] at h ⊢; exact fill_ok _ ps ps' _ _ out e hp hc h
theorem equal_run {P : Program} {t : TypeId} {x y : Value} {b : Bool} {w : World} (h : (Op.equalIn (9999 + 1) t x y).run P w = .ok b w) : (Op.equal t x y).run P w = .ok b w := h
theorem nilB_run {P : Program} {r : Rn} {t : TypeId} {x y x' y' : Value} (h : nilB P t x y = true) (hx : VR r x x') (hy : VR r y y') (w : World) : (Op.equal t x' y').run P w = .ok false w ∧ (∀ op : BinOp, ∀ a b : Operand, (eqGuard op t a b x' y').run P w = .ok () w) ∧
    binOp .eql t x' y' = (do pure (.bool (← Op.equal t x' y'))) ∧ binOp .neq t x' y' = (do pure (.bool (!(← Op.equal t x' y')))) := by
  have eg : ∀ (op : BinOp) (a b : Operand) (u v : Value), (∀ c, u ≠ .agg c) → u ≠ .nilIface → (eqGuard op t a b u v).run P w = .ok () w := fun op a b u v h1 h2 => by
    unfold eqGuard
    cases op <;> cases u <;> first | rfl | exact absurd rfl (h1 _) | exact absurd rfl h2
  unfold nilB at h
  split at h <;> first | (cases h; done) | skip
  all_goals
    rename_i hu
    cases hx <;> cases hy <;> (try (rename_i hq; simp [pl] at hq; done)) <;> refine ⟨equal_run ?_, fun op a b => eg op a b _ _ (by intro c h; cases h) (by intro h; cases h), rfl, rfl⟩ <;> rw [Op.equalIn] <;> simp [run_underlying hu]
theorem VR.tup {r : Rn} {c : Array Value} {v' : Value} (h : VR r (.tuple c) v') : ∃ c', v' = .tuple c' ∧ AR r c c' := by
  cases h with
  | pln h => obtain ⟨c⟩ := c; exact ⟨⟨c⟩, rfl, (LR.plain (by simpa [pl] using h)).arr⟩
  | tu h3 h4 => exact ⟨_, rfl, h3, h4⟩
theorem VR.agg {r : Rn} {c : Array Value} {v' : Value} (h : VR r (.agg c) v') : ∃ c', v' = .agg c' ∧ AR r c c' := by
  cases h with
  | pln h => obtain ⟨c⟩ := c; exact ⟨⟨c⟩, rfl, (LR.plain (by simpa [pl] using h)).arr⟩
  | ag h3 h4 => exact ⟨_, rfl, h3, h4⟩
theorem VR.pt {r : Rn} {k off : Nat} {v' : Value} (h : VR r (.pointer (some ⟨k, off, none⟩)) v') : ∃ b x, r k = some (b, x) ∧ v' = .pointer (some ⟨b, off, none⟩) := by
  cases h with
  | pln h => simp [pl] at h
  | ptr h => exact ⟨_, _, h, rfl⟩
theorem VR.ptr' {r : Rn} {a : Addr} {v' : Value} (h : VR r (.pointer (some a)) v') : ∃ k off b x, a = ⟨k, off, none⟩ ∧ r k = some (b, x) ∧ v' = .pointer (some ⟨b, off, none⟩) := by
  cases h with
  | pln h => simp [pl] at h
  | ptr h => exact ⟨_, _, _, _, rfl, h, rfl⟩
theorem VR.slc {r : Rn} {a : Addr} {n c : Nat} {v' : Value} (h : VR r (.slice (some a) n c) v') : ∃ k off b x, r k = some (b, x) ∧ ((a = ⟨k, off, none⟩ ∧ v' = .slice (some ⟨b, off, none⟩) n c) ∨ (a = ⟨k, off, some 0⟩ ∧ v' = .slice (some ⟨b, off, none⟩) n (c + x))) := by
  cases h with
  | pln h => simp [pl] at h
  | sl h => exact ⟨_, _, _, _, h, .inl ⟨rfl, rfl⟩⟩
  | so h => exact ⟨_, _, _, _, h, .inr ⟨rfl, rfl⟩⟩
theorem ival_some {v : Value} {n : Nat} (h : ival v = some n) : ∃ k, v = .int k (n : Int) := by
  unfold ival at h
  split at h
  · split at h
    · injection h with h; subst h; exact ⟨_, rfl⟩
    · cases h
  · cases h
theorem VR.ival {r : Rn} {v v' : Value} {n : Nat} (h : VR r v v') (hi : Go.Proofs.YtbanjolokkghdaaGreatDoor.ival v = some n) : ∃ k, v' = .int k (n : Int) := by
  obtain ⟨k, rfl⟩ := ival_some hi
  exact ⟨k, h.int⟩
theorem addr_add (b off n : Nat) : (⟨b, off, none⟩ : Addr).add n = ⟨b, off + n, none⟩ := by unfold Addr.add; split <;> simp_all
theorem sliceBound_run {P : Program} (k : IntKind) (n y : Nat) (c : BoundsCode) (h : n ≤ y) (w : World) : (Instr.sliceBound (.int k (n : Int)) y c).run P w = .ok n w := by
  have h1 : (n : Int) ≤ (y : Int) := by omega
  simp [Instr.sliceBound, asIntOf, h1]
theorem bnd_some {v : Value} {d n : Nat} (h : bnd (some v) d = some n) : ival v = some n := h
section
variable {P : Program} {r : Rn} {ρ ρ' : Operand → Value} {o : Oper} {v : Value}
theorem slB_ok {t e : TypeId} {sz len cap : Nat} {a : Option Addr} {x' : Value} {lo hi mx lo' hi' mx' : Option Value} (hu : P.underlying t = some (.slice e)) (hsz : szB P e = some sz) (hx : VR r (.slice a len cap) x')
    (hlo : (lo = none ∧ lo' = none) ∨ ∃ u u', lo = some u ∧ lo' = some u' ∧ VR r u u') (hhi : (hi = none ∧ hi' = none) ∨ ∃ u u', hi = some u ∧ hi' = some u' ∧ VR r u u') (hmx : (mx = none ∧ mx' = none) ∨ ∃ u u', mx = some u ∧ mx' = some u' ∧ VR r u u')
    (h : slB sz a len cap lo hi mx = some v) : ∃ v', VR r v v' ∧ ∀ w, (Instr.sliceAt t x' lo' hi' mx').run P w = .ok v' w := by
  unfold slB at h
  split at h
  case h_2 => cases h
  rename_i m hh l e1 e2 e3
  cases hc : (Nat.ble m cap && Nat.ble hh m && Nat.ble l hh && (mx.isNone || hi.isSome)) with
  | false => rw [hc] at h; cases h
  | true =>
    rw [hc] at h
    simp only [cond_true] at h
    simp only [Bool.and_eq_true, Nat.ble_eq] at hc
    obtain ⟨⟨⟨c1, c2⟩, c3⟩, c4⟩ := hc
    -- the bounds
    have key : ∀ (b' : Option Addr) (cap' m' : Nat), (mx = none → m' = cap') → (mx ≠ none → m' = m) → m ≤ m' → m ≤ cap' →
        ∀ w, (Instr.sliceAt t (.slice b' len cap') lo' hi' mx').run P w = .ok (.slice (if m' = l then b' else b'.map (·.add (l * sz))) (hh - l) (m' - l)) w := by
      intro b' cap' m' g1 g2 g3 g4 w
      have hb : (Instr.sliceBounds true len cap' lo' hi' mx').run P w = .ok (l, hh, m') w := by
        rcases hmx with ⟨rfl, rfl⟩ | ⟨um, um', rfl, rfl, vm⟩
        · have := g1 rfl; subst this
          rcases hhi with ⟨rfl, rfl⟩ | ⟨uh, uh', rfl, rfl, vh⟩
          · simp only [bnd, Option.some.injEq] at e2; subst e2
            rcases hlo with ⟨rfl, rfl⟩ | ⟨ul, ul', rfl, rfl, vl⟩
            · simp only [bnd, Option.some.injEq] at e3; subst e3
              simp [Instr.sliceBounds]
            · obtain ⟨k, rfl⟩ := vl.ival (bnd_some e3)
              simp [Instr.sliceBounds, sliceBound_run k l len _ c3]
          · obtain ⟨kh, rfl⟩ := vh.ival (bnd_some e2)
            rcases hlo with ⟨rfl, rfl⟩ | ⟨ul, ul', rfl, rfl, vl⟩
            · simp only [bnd, Option.some.injEq] at e3; subst e3
              simp [Instr.sliceBounds, sliceBound_run kh hh m' _ (by omega)]
            · obtain ⟨k, rfl⟩ := vl.ival (bnd_some e3)
              simp [Instr.sliceBounds, sliceBound_run k l hh _ c3, sliceBound_run kh hh m' _ (by omega)]
        · have := g2 (by simp); subst this
          obtain ⟨km, rfl⟩ := vm.ival (bnd_some e1)
          rcases hhi with ⟨rfl, rfl⟩ | ⟨uh, uh', rfl, rfl, vh⟩
          · simp at c4
          · obtain ⟨kh, rfl⟩ := vh.ival (bnd_some e2)
            rcases hlo with ⟨rfl, rfl⟩ | ⟨ul, ul', rfl, rfl, vl⟩
            · simp only [bnd, Option.some.injEq] at e3; subst e3
              simp [Instr.sliceBounds, sliceBound_run kh hh m' _ (by omega), sliceBound_run km m' cap' _ g4]
            · obtain ⟨k, rfl⟩ := vl.ival (bnd_some e3)
              simp [Instr.sliceBounds, sliceBound_run k l hh _ c3, sliceBound_run kh hh m' _ (by omega), sliceBound_run km m' cap' _ g4]
      simp [Instr.sliceAt, Instr.slice, run_underlying hu, hb, szB_run hsz]
    cases a with
    | none =>
      injection h with h; subst h
      rw [hx.same rfl]
      have hm : mx = none → m = cap := fun e => by subst e; simpa [bnd] using e1.symm
      refine ⟨.slice none (hh - l) (m - l), .pln rfl, fun w => ?_⟩
      rw [key none cap m (fun e => hm e) (fun _ => rfl) (Nat.le_refl _) c1 w]
      simp
    | some a =>
      obtain ⟨k, off, b, x, hr, hx⟩ := hx.slc
      rcases hx with ⟨rfl, rfl⟩ | ⟨rfl, rfl⟩
      · have hm : mx = none → m = cap := fun e => by subst e; simpa [bnd] using e1.symm
        have h' : v = .slice (some ⟨k, if m = l then off else off + l * sz, none⟩) (hh - l) (m - l) := by
          simp only at h
          injection h with h; subst h; rw [bq]; split <;> rfl
        subst h'
        refine ⟨.slice (some ⟨b, if m = l then off else off + l * sz, none⟩) (hh - l) (m - l), .sl hr, fun w => ?_⟩
        rw [key (some ⟨b, off, none⟩) cap m (fun e => hm e) (fun _ => rfl) (Nat.le_refl _) c1 w]
        split <;> simp [addr_add]
      · rcases hmx with ⟨hm1, hm2⟩ | ⟨um, um', hm1, hm2, vm⟩
        · have hm : m = cap := by subst hm1; simpa [bnd] using e1.symm
          subst hm
          rw [hm1] at h
          simp only at h
          rw [bq] at h
          split at h
          · cases h
          · rename_i hne
            injection h with h; subst h
            refine ⟨.slice (some ⟨b, off + l * sz, none⟩) (hh - l) (m - l + x), .so hr, fun w => ?_⟩
            rw [key (some ⟨b, off, none⟩) (m + x) (m + x) (fun _ => rfl) (fun e => absurd hm1 e) (by omega) (by omega) w, if_neg (by omega)]
            simp only [Option.map_some, addr_add]
            congr 2
            omega
        · have h' : v = .slice (some ⟨k, if m = l then off else off + l * sz, none⟩) (hh - l) (m - l) := by
            rw [hm1] at h
            simp only at h
            injection h with h; subst h; rw [bq]; split <;> rfl
          subst h'
          refine ⟨.slice (some ⟨b, if m = l then off else off + l * sz, none⟩) (hh - l) (m - l), .sl hr, fun w => ?_⟩
          rw [key (some ⟨b, off, none⟩) (cap + x) m (fun e => by rw [hm1] at e; cases e) (fun _ => rfl) (Nat.le_refl _) (by omega) w]
          split <;> simp [addr_add]
theorem mapR (l : List Operand) (h : ∀ x ∈ l, VR r (ρ x) (ρ' x)) : LR r (l.map ρ) (l.map ρ') := LR.map ρ ρ' l h
theorem arrR {c : Array Operand} (h : ∀ x ∈ c, VR r (ρ x) (ρ' x)) : AR r (c.map ρ) (c.map ρ') := by
  have := (mapR (r := r) (ρ := ρ) (ρ' := ρ') c.toList (fun x hx => h x (by simpa using hx))).arr
  have e : ∀ f : Operand → Value, (c.toList.map f).toArray = c.map f := fun f => by apply Array.ext'; simp
  rwa [e, e] at this
theorem optR {x : Option Operand} (h : ∀ y, x = some y → VR r (ρ y) (ρ' y)) : (x.map ρ = none ∧ x.map ρ' = none) ∨ ∃ u u', x.map ρ = some u ∧ x.map ρ' = some u' ∧ VR r u u' := by
  cases x with
  | none => exact .inl ⟨rfl, rfl⟩
  | some y => exact .inr ⟨_, _, rfl, rfl, h y rfl⟩
theorem execP_ok (h : execP P ρ o = some v) (hρ : ∀ x ∈ o.op.operands, VR r (ρ x) (ρ' x)) : ∃ v', VR r v v' ∧ ∀ w, (execOp ρ' o).run P w = .ok (.value v') w := by
  unfold execP at h
  split at h
  · rename_i x hop
    injection h with h; subst h
    exact ⟨ρ' x, hρ x (by simp [hop, Op.operands]), fun w => by simp [execOp, hop]⟩
  · rename_i x hop
    injection h with h; subst h
    exact ⟨ρ' x, hρ x (by simp [hop, Op.operands]), fun w => by simp [execOp, hop]⟩
  · rename_i c a b hop
    split at h
    · rename_i t hc
      injection h with h; subst h
      have hc' : ρ' c = .bool t := by have := hρ c (by simp [hop, Op.operands]); rw [hc] at this; exact this.bool
      cases t with
      | true => exact ⟨ρ' a, hρ a (by simp [hop, Op.operands]), fun w => by simp [execOp, hop, hc', asBool]⟩
      | false => exact ⟨ρ' b, hρ b (by simp [hop, Op.operands]), fun w => by simp [execOp, hop, hc', asBool]⟩
    · cases h
  · rename_i x i hop
    split at h
    · rename_i vs hx
      have hx' := hρ x (by simp [hop, Op.operands])
      rw [hx] at hx'
      obtain ⟨c', e, ha⟩ := hx'.tup
      obtain ⟨v', h1, h2⟩ := ha.get h
      exact ⟨v', h2, fun w => by simp [execOp, hop, e, Instr.extract, h1]⟩
    · cases h
  · rename_i t x f hop
    split at h
    · rename_i fs cs hu hx
      split at h
      · rename_i fd hfd
        have hx' := hρ x (by simp [hop, Op.operands])
        rw [hx] at hx'
        obtain ⟨c', e, ha⟩ := hx'.agg
        obtain ⟨v', h1, h2⟩ := partB_run h ha
        exact ⟨v', h1, fun w => by simp [execOp, hop, e, Instr.field, run_underlying hu, hfd, asAgg, h2]⟩
      · cases h
    · cases h
  · rename_i t x i hop
    cases hc : (pl (ρ x) && pl (ρ i)) with
    | true =>
      rw [hc] at h
      simp only [Bool.and_eq_true] at hc
      exact plain_run h (by intro cs b e; rw [hop] at e; cases e) hρ (by intro y hy; simp [hop, Op.operands] at hy; rcases hy with rfl | rfl <;> first | exact hc.1 | exact hc.2)
    | false =>
      rw [hc] at h
      simp only [cond_false] at h
      split at h
      · rename_i n e cs k hu hx hk
        split at h
        · rename_i sz hsz
          have hx' := hρ x (by simp [hop, Op.operands])
          rw [hx] at hx'
          obtain ⟨c', e', ha⟩ := hx'.agg
          obtain ⟨ki, hi⟩ := (hρ i (by simp [hop, Op.operands])).ival hk
          cases hlt : Nat.blt k n with
          | false => rw [hlt] at h; cases h
          | true =>
            rw [hlt] at h
            have hlt' : k < n := by simp [Nat.blt] at hlt; omega
            obtain ⟨v', h1, h2⟩ := partB_run h ha
            exact ⟨v', h1, fun w => by simp [execOp, hop, e', hi, Instr.index, asIntOf, run_underlying hu, hlt', szB_run hsz, h2]⟩
        · cases h
      · cases h
  · rename_i t parts hop
    cases hz : (zeroB P t).isSome with
    | false => rw [hz] at h; cases h
    | true =>
      rw [hz] at h
      simp only [cond_true, Option.map_eq_some_iff] at h
      obtain ⟨out, h, rfl⟩ := h
      have hp : ∀ p ∈ parts.toList, VR r (ρ p.2) (ρ' p.2) := fun p hp => hρ p.2 (by simp only [hop, Op.operands, List.mem_toArray, List.mem_map]; exact ⟨p, hp, rfl⟩)
      obtain ⟨out', h1, h2⟩ := built_ok (r := r) (ps' := parts.toList.map fun p => (p.1, ρ' p.2)) hz (by simp) (fun i p p' e1 e2 => by
        simp only [List.getElem?_map, Option.map_eq_some_iff] at e1 e2
        obtain ⟨q, hq, rfl⟩ := e1
        obtain ⟨q', hq', rfl⟩ := e2
        rw [hq] at hq'; injection hq' with hq'; subst hq'
        exact hp q (List.mem_of_getElem? hq)) h
      refine ⟨.agg out', .ag h2.1 h2.2, fun w => ?_⟩
      have := run_build (P := P) w t (parts.map fun p => (p.1, ρ' p.2)) out' (by simpa using h1)
      simp [execOp, hop, this]
  · rename_i g first cap hop
    injection h with h; subst h
    obtain ⟨a1, a2⟩ := arrR (r := r) (ρ := ρ) (ρ' := ρ') (c := first) (fun x hx => hρ x (by simp [hop, Op.operands, hx]))
    obtain ⟨a3, a4⟩ := arrR (r := r) (ρ := ρ) (ρ' := ρ') (c := cap) (fun x hx => hρ x (by simp [hop, Op.operands, hx]))
    exact ⟨.func (.func g) (first.map ρ') (cap.map ρ'), .fn a1 a2 a3 a4, fun w => by simp [execOp, hop, Instr.makeFunc]⟩
  · rename_i x hop
    have hx := hρ x (by simp [hop, Op.operands])
    split at h
    · rename_i a e
      injection h with h; subst h
      rw [e] at hx
      obtain ⟨k, off, b, y, rfl, hr, e'⟩ := hx.ptr'
      exact ⟨_, .ptr hr, fun w => by simp [execOp, hop, e']⟩
    · rename_i g a b e
      injection h with h; subst h
      rw [e] at hx
      refine ⟨ρ' x, hx, fun w => ?_⟩
      generalize hu : ρ' x = u at hx
      cases hx with
      | pln h => simp [execOp, hop, hu]
      | fn h1 h2 h3 h4 => simp [execOp, hop, hu]
    · rename_i g a b e
      injection h with h; subst h
      rw [e] at hx
      refine ⟨ρ' x, hx, fun w => ?_⟩
      generalize hu : ρ' x = u at hx
      cases hx with
      | pln h => simp [pl] at h
      | yl h => simp [execOp, hop, hu]
    · cases h
  · rename_i op t x y yt hop
    have hx := hρ x (by simp [hop, Op.operands])
    have hy := hρ y (by simp [hop, Op.operands])
    cases hn : eqNil P t op (ρ x) (ρ y) with
    | some u =>
      rw [hn] at h
      injection h with h; subst h
      unfold eqNil at hn
      cases hb : nilB P t (ρ x) (ρ y) with
      | false => rw [hb] at hn; cases hn
      | true =>
        rw [hb] at hn
        simp only [cond_true] at hn
        split at hn
        · injection hn with hn; subst hn
          refine ⟨.bool false, .pln rfl, fun w => ?_⟩
          obtain ⟨n1, n2, n3, n4⟩ := nilB_run hb hx hy w
          simp [execOp, hop, n2, n3, n1]
        · injection hn with hn; subst hn
          refine ⟨.bool true, .pln rfl, fun w => ?_⟩
          obtain ⟨n1, n2, n3, n4⟩ := nilB_run hb hx hy w
          simp [execOp, hop, n2, n4, n1]
        · cases hn
    | none =>
      rw [hn] at h
      simp only at h
      cases hc : (pl (ρ x) && pl (ρ y)) with
      | false => rw [hc] at h; cases h
      | true =>
        rw [hc] at h
        simp only [Bool.and_eq_true] at hc
        exact plain_run h (by intro cs b e; rw [hop] at e; cases e) hρ (by intro z hz; simp [hop, Op.operands] at hz; rcases hz with rfl | rfl <;> first | exact hc.1 | exact hc.2)
  · rename_i op t x hop
    cases hc : pl (ρ x) with
    | false => rw [hc] at h; cases h
    | true =>
      rw [hc] at h
      exact plain_run h (by intro cs b e; rw [hop] at e; cases e) hρ (by intro z hz; simp [hop, Op.operands] at hz; subst hz; exact hc)
  · rename_i s d x hop
    cases hc : pl (ρ x) with
    | false => rw [hc] at h; cases h
    | true =>
      rw [hc] at h
      exact plain_run h (by intro cs b e; rw [hop] at e; cases e) hρ (by intro z hz; simp [hop, Op.operands] at hz; subst hz; exact hc)
  · rename_i s x f hop
    have hx := hρ x (by simp [hop, Op.operands])
    split at h
    · rename_i k off fs e hu
      split at h
      · rename_i fd hfd
        split at h
        · rename_i n hsz
          injection h with h; subst h
          rw [e] at hx
          obtain ⟨b, y, hr, e'⟩ := hx.pt
          exact ⟨_, .ptr hr, fun w => by simp [execOp, hop, e', Instr.fieldAt, run_underlying hu, hfd, Instr.sureAddr, fieldPlace, szB_run hsz, addr_add]⟩
        · cases h
      · cases h
    · cases h
  · rename_i t x i hop
    have hx := hρ x (by simp [hop, Op.operands])
    have hi := hρ i (by simp [hop, Op.operands])
    split at h
    · rename_i len e k off n hu hx0 hk
      split at h
      · rename_i sz hsz
        cases hlt : Nat.blt n len with
        | false => rw [hlt] at h; cases h
        | true =>
          rw [hlt] at h
          injection h with h; subst h
          have hlt' : n < len := by simp [Nat.blt] at hlt; omega
          rw [hx0] at hx
          obtain ⟨b, y, hr, e'⟩ := hx.pt
          obtain ⟨ki, hi⟩ := hi.ival hk
          exact ⟨_, .ptr hr, fun w => by simp [execOp, hop, e', hi, Instr.indexAt, asIntOf, run_underlying hu, Instr.sureAddr, hlt', szB_run hsz, addr_add]⟩
      · cases h
    · rename_i e k off sp len cap n hu hx0 hk
      split at h
      · rename_i sz hsz
        cases hlt : Nat.blt n len with
        | false => rw [hlt] at h; cases h
        | true =>
          rw [hlt] at h
          injection h with h; subst h
          have hlt' : n < len := by simp [Nat.blt] at hlt; omega
          rw [hx0] at hx
          obtain ⟨k', off', b, y, hr, hx⟩ := hx.slc
          obtain ⟨ki, hi⟩ := hi.ival hk
          rcases hx with ⟨e1, e'⟩ | ⟨e1, e'⟩ <;> injection e1 with e1 e2 e3 <;> subst e1 <;> subst e2 <;>
            exact ⟨_, .ptr hr, fun w => by simp [execOp, hop, e', hi, Instr.indexAt, asIntOf, run_underlying hu, hlt', szB_run hsz, addr_add]⟩
      · cases h
    · cases h
  · rename_i t x lo hi mx hop
    have hx := hρ x (by simp [hop, Op.operands])
    split at h
    · rename_i e a len cap hu e0
      split at h
      · rename_i sz hsz
        rw [e0] at hx
        obtain ⟨v', h1, h2⟩ := slB_ok hu hsz hx (optR fun y hy => hρ y (by simp [hop, Op.operands, hy])) (optR fun y hy => hρ y (by simp [hop, Op.operands, hy])) (optR fun y hy => hρ y (by simp [hop, Op.operands, hy])) h
        exact ⟨v', h1, fun w => by simp [execOp, hop, h2]⟩
      · cases h
    · cases hc : (pl (ρ x) && ((lo.toList ++ hi.toList ++ mx.toList).all fun y => pl (ρ y))) with
      | false => rw [hc] at h; cases h
      | true =>
        rw [hc] at h
        simp only [Bool.and_eq_true, List.all_eq_true] at hc
        exact plain_run h (by intro cs b e; rw [hop] at e; cases e) hρ (by
          intro z hz
          simp only [hop, Op.operands, Array.mem_append, List.mem_toArray, List.mem_singleton, Option.mem_toArray] at hz
          rcases hz with ((rfl | hz) | hz) | hz
          · exact hc.1
          · exact hc.2 z (by simp [hz])
          · exact hc.2 z (by simp [hz])
          · exact hc.2 z (by simp [hz]))
    · cases h
  · cases h
end
structure Push1 (w w' : World) (o : Obj) : Prop where
  size : w'.heap.size = w.heap.size + 1
  last : w'.heap[w.heap.size]? = some o
  rest : ∀ b, b < w.heap.size → w'.heap[b]? = w.heap[b]?
  os : w'.os = w.os
  tape : w'.tape = w.tape
  output : w'.output = w.output
structure Set1 (w w' : World) (b : Nat) (o : Obj) : Prop where
  size : w'.heap.size = w.heap.size
  at_ : w'.heap[b]? = some o
  rest : ∀ k, k ≠ b → w'.heap[k]? = w.heap[k]?
  os : w'.os = w.os
  tape : w'.tape = w.tape
  output : w'.output = w.output
theorem Push1.alloc (w : World) (o : Obj) : Push1 w (w.alloc o) o := ⟨by show (w.heap.push o).size = _; simp, by show (w.heap.push o)[w.heap.size]? = _; simp, fun b hb => by show (w.heap.push o)[b]? = _; simp [Array.getElem?_push, Nat.ne_of_lt hb], rfl, rfl, rfl⟩
theorem Push1.drew (w : World) (o : Obj) : Push1 w (w.drew.alloc o) o := ⟨(Push1.alloc w.drew o).size, (Push1.alloc w.drew o).last, (Push1.alloc w.drew o).rest, rfl, rfl, rfl⟩
theorem Set1.row {w : World} {b : Nat} {old cs : Array Value} {t : TypeId} (h : w.heap[b]? = some (.cells old t (0, 0))) : Set1 w (w.setRow b cs) b (.cells cs t (0, 0)) :=
  ⟨by simp, setRow_heap w b old cs t (0, 0) h, fun k hk => setRow_other w b k cs hk, rfl, rfl, rfl⟩
theorem Set1.obj {w : World} {b : Nat} (o : Obj) (h : b < w.heap.size) : Set1 w { w with heap := w.heap.setIfInBounds b o } b o :=
  ⟨by simp, by simp [h], fun k hk => by simp [Array.getElem?_setIfInBounds, Ne.symm hk], rfl, rfl, rfl⟩
def upd (r : Rn) (k : Nat) (p : Nat × Nat) : Rn := fun i => if i = k then some p else r i
theorem upd_self (r : Rn) (k : Nat) (p : Nat × Nat) : upd r k p k = some p := if_pos rfl
theorem upd_ne {r : Rn} {k i : Nat} {p : Nat × Nat} (h : i ≠ k) : upd r k p i = r i := if_neg h
theorem new_some {s s' : St} {o : AO} {k : Nat} (h : s.new o = some (k, s')) : s.next < big ∧ k = s.next ∧ s' = { s with T := s.T.set 24 s.next (some o), next := s.next + 1 } := by
  unfold St.new at h
  cases hb : Nat.blt s.next big with
  | false => rw [hb] at h; cases h
  | true =>
    rw [hb] at h
    injection h with h
    injection h with h1 h2
    exact ⟨by simpa [Nat.blt, Nat.lt_iff_add_one_le] using hb, h1.symm, h2.symm⟩
theorem put_some {s s' : St} {k : Nat} {o : Option AO} (h : s.put k o = some s') : wrt s k ∧ k < s.next ∧ s' = { s with T := s.T.set 24 k o } := by
  unfold St.put at h
  cases hb : ((Nat.ble s.lim k || Nat.beq k s.one) && Nat.blt k s.next) with
  | false => rw [hb] at h; cases h
  | true =>
    rw [hb] at h
    injection h with h
    simp only [Bool.and_eq_true, Bool.or_eq_true, Nat.ble_eq] at hb
    refine ⟨?_, by have := hb.2; simp [Nat.blt] at this; omega, h.symm⟩
    rcases hb.1 with h1 | h1
    · exact .inl h1
    · exact .inr (Nat.eq_of_beq_eq_true h1)
theorem getT (s : St) (k : Nat) : s.get k = if hidden s.hid k = true then none else s.T.get k := by unfold St.get; cases hidden s.hid k <;> rfl
section
variable {P : Program} {B : Nat} {r : Rn} {s s' : St} {w w' : World}
theorem _root_.Go.Proofs.YtbanjolokkghdaaGreatDoor.Rel.fresh (h : Rel P B r s w) {o : AO} {k : Nat} (hn : s.new o = some (k, s')) (hB : s'.next ≤ B) : r k = none := by
  obtain ⟨_, rfl, rfl⟩ := new_some hn
  exact h.dom s.next (Nat.le_refl _) hB
/-- Something new. -/
theorem new_ok (h : Rel P B r s w) (hB : s'.next ≤ B) {o : AO} {k : Nat} (hn : s.new o = some (k, s')) {o' : Obj} (hp : Push1 w w' o') {x : Nat} (ho : OR P (upd r k (w.heap.size, x)) x o o') : Good P B s s' r (upd r k (w.heap.size, x)) w w' := by
  obtain ⟨h1, rfl, rfl⟩ := new_some hn
  have hB : s.next + 1 ≤ B := hB
  have hk : s.next + 2 ≤ 2 ^ 24 := by unfold big at h1; omega
  have hfr : r s.next = none := h.dom s.next (Nat.le_refl _) (by omega)
  have hT : ∀ i, (s.T.set 24 s.next (some o)).get i = if i = s.next then some o else s.T.get i := fun i => Tr.get_set 24 s.T s.next (some o) i hk
  have hnh : hidden s.hid s.next = false := by
    cases e : hidden s.hid s.next with
    | false => rfl
    | true => exact absurd (h.hlt _ e) (by omega)
  have hup : ∀ i p, r i = some p → upd r s.next (w.heap.size, x) i = some p := fun i p hi => by rw [upd_ne (by rintro rfl; rw [hfr] at hi; cases hi)]; exact hi
  have hg : ∀ i, ({ s with T := s.T.set 24 s.next (some o), next := s.next + 1 } : St).get i = if i = s.next then some o else s.get i := fun i => by
    rw [getT, getT]
    show (if hidden s.hid i = true then none else (s.T.set 24 s.next (some o)).get i) = _
    rw [hT]
    by_cases e : i = s.next
    · subst e; rw [if_pos rfl, if_pos rfl, hnh]; rfl
    · rw [if_neg e, if_neg e]
  have hold : ∀ i b y, s.get i ≠ none → r i = some (b, y) → b < w.heap.size := fun i b y hi hr => by
    cases e : s.get i with
    | none => exact absurd e hi
    | some oo =>
      obtain ⟨b', y', o2, a1, a2, _⟩ := h.obj i oo e
      rw [hr] at a1; injection a1 with a1; injection a1 with a1 _; subst a1
      exact (Array.getElem?_eq_some_iff.1 a2).1
  refine ⟨⟨Nat.le_succ _, rfl, rfl, rfl, fun i hi _ => ?_, fun i hi hd => ?_, fun _ i hi => ?_, rfl⟩, ⟨fun i hi => upd_ne (by rcases hi with hi | hi; omega; have hi : s.next + 1 ≤ i := hi; omega), by rw [hp.size]; omega, hp.os, hp.tape, hp.output, fun b hb _ => hp.rest b hb, fun i b y hi hgi hr => ?_⟩, ⟨h1, hB, fun i hi hiB => ?_, fun i oo hi => ?_, fun i j b y y' hi hj ri rj => ?_, fun i hi => ?_, fun i hi => ?_, fun g hg => hup _ _ (h.gl g hg), Nat.le_succ_of_le h.gn⟩⟩
  · show (s.T.set 24 s.next (some o)).get i = _
    rw [hT, if_neg (by omega)]
  · show (s.T.set 24 s.next (some o)).get i = _
    rw [hT, if_neg (by omega)]; exact hd
  · have hi : s.next + 1 ≤ i := hi
    show (s.T.set 24 s.next (some o)).get i = none
    rw [hT, if_neg (by omega)]; exact h.up i (by omega)
  · rw [hg] at hgi
    by_cases e : i = s.next
    · subst e; rw [upd_self] at hr; injection hr with hr; injection hr with hr _; left; omega
    · rw [if_neg e] at hgi; exact absurd (h.lt hgi) (by omega)
  · have hi : s.next + 1 ≤ i := hi
    rw [upd_ne (by omega)]; exact h.dom i (by omega) hiB
  · rw [hg] at hi
    by_cases e : i = s.next
    · subst e; rw [if_pos rfl] at hi; injection hi with hi; subst hi
      exact ⟨_, _, _, upd_self _ _ _, hp.last, ho⟩
    · rw [if_neg e] at hi
      obtain ⟨b, y, o2, a1, a2, a3⟩ := h.obj i oo hi
      exact ⟨b, y, o2, hup _ _ a1, (hp.rest b (hold i b y (by rw [hi]; simp) a1)).trans a2, a3.mono hup⟩
  · rw [hg] at hi hj
    by_cases e : i = s.next
    · subst e
      rw [upd_self] at ri; injection ri with ri; injection ri with ri _; subst ri
      by_cases e' : j = s.next
      · exact e'.symm
      · rw [if_neg e'] at hj; rw [upd_ne e'] at rj; exact absurd (hold j _ _ hj rj) (by omega)
    · rw [if_neg e] at hi; rw [upd_ne e] at ri
      by_cases e' : j = s.next
      · subst e'; rw [upd_self] at rj; injection rj with rj; injection rj with rj _; subst rj
        exact absurd (hold i _ _ hi ri) (by omega)
      · rw [if_neg e'] at hj; rw [upd_ne e'] at rj; exact h.inj i j b y y' hi hj ri rj
  · show (s.T.set 24 s.next (some o)).get i = none
    rw [hT, if_neg (by have : s.next + 1 ≤ i := hi; omega)]
    exact h.up i (by have : s.next + 1 ≤ i := hi; omega)
  · have := h.hlt i hi; show i < s.next + 1; omega
/-- A block is written. -/
theorem put_ok (h : Rel P B r s w) {k b x : Nat} {o1 o2 : AO} (hn : s.put k (some o2) = some s') (hv : s.get k = some o1) (hr : r k = some (b, x)) {o' : Obj} (hp : Set1 w w' b o') (ho : OR P r x o2 o') : Good P B s s' r r w w' := by
  obtain ⟨h1, h2, rfl⟩ := put_some hn
  have hk : k + 2 ≤ 2 ^ 24 := by have hb9 := h.nb; unfold big at hb9; omega
  have hT : ∀ i, (s.T.set 24 k (some o2)).get i = if i = k then some o2 else s.T.get i := fun i => Tr.get_set 24 s.T k (some o2) i hk
  have hnh : hidden s.hid k = false := by
    cases e : hidden s.hid k with
    | false => rfl
    | true => rw [getT, e] at hv; cases hv
  have hg : ∀ i, ({ s with T := s.T.set 24 k (some o2) } : St).get i = if i = k then some o2 else s.get i := fun i => by
    rw [getT, getT]
    show (if hidden s.hid i = true then none else (s.T.set 24 k (some o2)).get i) = _
    rw [hT]
    by_cases e : i = k
    · subst e; rw [if_pos rfl, if_pos rfl, hnh]; rfl
    · rw [if_neg e, if_neg e]
  have hne : s.get k ≠ none := by rw [hv]; simp
  refine ⟨⟨Nat.le_refl _, rfl, rfl, rfl, fun i hi hw => ?_, fun i hi hd => ?_, fun _ i hi => ?_, rfl⟩, ⟨fun i hi => rfl, by rw [hp.size]; exact Nat.le_refl _, hp.os, hp.tape, hp.output, fun bb hb hno => hp.rest bb ?_, fun i bb y hi hgi _ => ?_⟩, ⟨h.nb, h.le, h.dom, fun i oo hi => ?_, fun i j bb y y' hi hj ri rj => ?_, fun i hi => ?_, h.hlt, h.gl, h.gn⟩⟩
  · show (s.T.set 24 k (some o2)).get i = _
    rw [hT, if_neg ?_]
    rintro rfl
    rcases hw with hw | hw
    · exact hw h1
    · rw [hnh] at hw; cases hw
  · show (s.T.set 24 k (some o2)).get i = _
    rw [hT, if_neg ?_]
    · exact hd
    · rintro rfl
      rw [getT, hnh, if_neg (by simp)] at hv
      rw [hd] at hv; cases hv
  · have hi' : s.next ≤ i := hi
    show (s.T.set 24 k (some o2)).get i = none
    rw [hT, if_neg (by omega)]; exact h.up i hi'
  · rintro rfl; exact hno k x h2 h1 hne hr
  · rw [hg] at hgi
    have hi' : s.next ≤ i := hi
    rw [if_neg (by omega)] at hgi
    exact absurd (h.lt hgi) (by omega)
  · rw [hg] at hi
    by_cases e : i = k
    · subst e; rw [if_pos rfl] at hi; injection hi with hi; subst hi
      exact ⟨b, x, o', hr, hp.at_, ho⟩
    · rw [if_neg e] at hi
      obtain ⟨b', y, o3, a1, a2, a3⟩ := h.obj i oo hi
      refine ⟨b', y, o3, a1, (hp.rest b' ?_).trans a2, a3⟩
      rintro rfl
      exact e (h.inj i k b' y x (by rw [hi]; simp) hne a1 hr)
  · rw [hg] at hi hj
    have f : ∀ i, (if i = k then some o2 else s.get i) ≠ none → s.get i ≠ none := fun i hi => by
      by_cases e : i = k
      · subst e; exact hne
      · rwa [if_neg e] at hi
    exact h.inj i j bb y y' (f i hi) (f j hj) ri rj
  · show (s.T.set 24 k (some o2)).get i = none
    have hi' : s.next ≤ i := hi
    rw [hT, if_neg (by omega)]; exact h.up i hi'
/-- A block is let go, and is another's from here on, as it was written just now. -/
theorem move_ok {s1 : St} (h : Rel P B r s w) (hB : s'.next ≤ B) {k b x k2 x2 : Nat} {o1 o2 : AO} (hd : s.put k none = some s1) (hn : s1.new o2 = some (k2, s')) (hv : s.get k = some o1) (hr : r k = some (b, x)) {o' : Obj} (hp : Set1 w w' b o') (ho : OR P (upd r k2 (b, x2)) x2 o2 o') :
    Good P B s s' r (upd r k2 (b, x2)) w w' := by
  obtain ⟨h1, h2, rfl⟩ := put_some hd
  obtain ⟨h3, e3, es⟩ := new_some hn
  have e3 : k2 = s.next := e3
  subst e3
  have sT : s'.T = (s.T.set 24 k none).set 24 s.next (some o2) := by rw [es]
  have sn : s'.next = s.next + 1 := by rw [es]
  have sl : s'.lim = s.lim := by rw [es]
  have so : s'.one = s.one := by rw [es]
  have sh : s'.hid = s.hid := by rw [es]
  have sng : s'.ng = s.ng := by rw [es]
  clear es hn hd
  have hfr : r s.next = none := h.dom s.next (Nat.le_refl _) (by omega)
  have hk : k + 2 ≤ 2 ^ 24 := by have hb9 := h.nb; unfold big at hb9; omega
  have hk2 : s.next + 2 ≤ 2 ^ 24 := by have hb9 := h.nb; unfold big at hb9; omega
  have hT : ∀ i, ((s.T.set 24 k none).set 24 s.next (some o2)).get i = if i = s.next then some o2 else if i = k then none else s.T.get i := fun i => by
    rw [Tr.get_set 24 _ s.next (some o2) i hk2, Tr.get_set 24 s.T k none i hk]
  have hnh : hidden s.hid k = false := by
    cases e : hidden s.hid k with
    | false => rfl
    | true => rw [getT, e] at hv; cases hv
  have hnh2 : hidden s.hid s.next = false := by
    cases e : hidden s.hid s.next with
    | false => rfl
    | true => exact absurd (h.hlt _ e) (by omega)
  have hup : ∀ i p, r i = some p → upd r s.next (b, x2) i = some p := fun i p hi => by rw [upd_ne (by rintro rfl; rw [hfr] at hi; cases hi)]; exact hi
  have hg : ∀ i, s'.get i = if i = s.next then some o2 else if i = k then none else s.get i := fun i => by
    rw [getT, getT, sh, sT, hT]
    by_cases e : i = s.next
    · subst e; rw [if_pos rfl, if_pos rfl, hnh2]; rfl
    · rw [if_neg e, if_neg e]
      by_cases e' : i = k
      · subst e'; rw [if_pos rfl, if_pos rfl]; split <;> rfl
      · rw [if_neg e', if_neg e']
  have hne : s.get k ≠ none := by rw [hv]; simp
  refine ⟨⟨by omega, sl, so, sh, fun i hi hw => ?_, fun i hi hdd => ?_, fun _ i hi => ?_, sng⟩, ⟨fun i hi => upd_ne (by omega), by rw [hp.size]; exact Nat.le_refl _, hp.os, hp.tape, hp.output, fun bb hb hno => hp.rest bb ?_, fun i bb y hi hgi hri => ?_⟩, ⟨by rw [sn]; exact h3, hB, fun i hi hiB => ?_, fun i oo hi => ?_, fun i j bb y y' hi hj ri rj => ?_, fun i hi => ?_, fun i hi => ?_, fun g hg => hup _ _ (h.gl g (sng ▸ hg)), sng ▸ sn ▸ Nat.le_succ_of_le h.gn⟩⟩
  · rw [sT, hT, if_neg (by omega), if_neg ?_]
    rintro rfl
    rcases hw with hw | hw
    · exact hw h1
    · rw [hnh] at hw; cases hw
  · rw [sT, hT, if_neg (by omega)]
    split
    · rfl
    · exact hdd
  · rw [sT, hT, if_neg (by omega), if_neg (by omega)]; exact h.up i (by omega)
  · rintro rfl; exact hno k x h2 h1 hne hr
  · rw [hg] at hgi
    by_cases e : i = s.next
    · subst e; rw [upd_self] at hri; injection hri with hri; injection hri with hri _; subst hri
      exact .inr ⟨k, x, h2, h1, hne, hr⟩
    · rw [if_neg e] at hgi
      split at hgi
      · exact absurd rfl hgi
      · exact absurd (h.lt hgi) (by omega)
  · rw [upd_ne (by omega)]; exact h.dom i (by omega) hiB
  · rw [hg] at hi
    by_cases e : i = s.next
    · subst e; rw [if_pos rfl] at hi; injection hi with hi; subst hi
      exact ⟨b, x2, o', upd_self _ _ _, hp.at_, ho⟩
    · rw [if_neg e] at hi
      by_cases e' : i = k
      · rw [if_pos e'] at hi; cases hi
      · rw [if_neg e'] at hi
        obtain ⟨b', y, o3, a1, a2, a3⟩ := h.obj i oo hi
        refine ⟨b', y, o3, hup _ _ a1, (hp.rest b' ?_).trans a2, a3.mono hup⟩
        rintro rfl
        exact e' (h.inj i k b' y x (by rw [hi]; simp) hne a1 hr)
  · rw [hg] at hi hj
    by_cases e : i = s.next
    · subst e
      rw [upd_self] at ri; injection ri with ri; injection ri with ri _; subst ri
      by_cases e' : j = s.next
      · exact e'.symm
      · rw [if_neg e'] at hj
        rw [upd_ne e'] at rj
        by_cases e2 : j = k
        · rw [if_pos e2] at hj; exact absurd rfl hj
        · rw [if_neg e2] at hj; exact absurd (h.inj j k b y' x hj hne rj hr) e2
    · rw [if_neg e] at hi; rw [upd_ne e] at ri
      have hi2 : i ≠ k ∧ s.get i ≠ none := by
        by_cases e2 : i = k
        · rw [if_pos e2] at hi; exact absurd rfl hi
        · rw [if_neg e2] at hi; exact ⟨e2, hi⟩
      by_cases e' : j = s.next
      · subst e'; rw [upd_self] at rj; injection rj with rj; injection rj with rj _; subst rj
        exact absurd (h.inj i k b y x hi2.2 hne ri hr) hi2.1
      · rw [if_neg e'] at hj; rw [upd_ne e'] at rj
        have hj2 : s.get j ≠ none := by
          by_cases e2 : j = k
          · rw [if_pos e2] at hj; exact absurd rfl hj
          · rw [if_neg e2] at hj; exact hj
        exact h.inj i j bb y y' hi2.2 hj2 ri rj
  · rw [sT, hT, if_neg (by omega), if_neg (by omega)]; exact h.up i (by omega)
  · rw [sh] at hi; have := h.hlt i hi; omega
/-- A block is let go. -/
theorem drop_ok (h : Rel P B r s w) {k b x : Nat} {o1 : AO} (hd : s.put k none = some s') (hv : s.get k = some o1) : Good P B s s' r r w w := by
  obtain ⟨h1, h2, rfl⟩ := put_some hd
  have hk : k + 2 ≤ 2 ^ 24 := by have hb9 := h.nb; unfold big at hb9; omega
  have hT : ∀ i, (s.T.set 24 k none).get i = if i = k then none else s.T.get i := fun i => Tr.get_set 24 s.T k none i hk
  have hnh : hidden s.hid k = false := by
    cases e : hidden s.hid k with
    | false => rfl
    | true => rw [getT, e] at hv; cases hv
  have hg : ∀ i, ({ s with T := s.T.set 24 k none } : St).get i ≠ none → s.get i ≠ none ∧ ({ s with T := s.T.set 24 k none } : St).get i = s.get i := fun i => by
    rw [getT, getT]
    show (if hidden s.hid i = true then none else (s.T.set 24 k none).get i) ≠ none → _ ∧ (if hidden s.hid i = true then none else (s.T.set 24 k none).get i) = _
    rw [hT]
    intro hh
    split at hh
    · exact absurd rfl hh
    · rename_i e1
      rw [if_neg e1, if_neg e1]
      split at hh
      · exact absurd rfl hh
      · rename_i e2
        rw [if_neg e2]; exact ⟨hh, rfl⟩
  refine ⟨⟨Nat.le_refl _, rfl, rfl, rfl, fun i hi hw => ?_, fun i hi hdd => ?_, fun _ i hi => ?_, rfl⟩, ⟨fun i hi => rfl, Nat.le_refl _, rfl, rfl, rfl, fun _ _ _ => rfl, fun i bb y hi hgi _ => ?_⟩, ⟨h.nb, h.le, h.dom, fun i oo hi => ?_, fun i j bb y y' hi hj ri rj => ?_, fun i hi => ?_, h.hlt, h.gl, h.gn⟩⟩
  · show (s.T.set 24 k none).get i = _
    rw [hT, if_neg ?_]
    rintro rfl
    rcases hw with hw | hw
    · exact hw h1
    · rw [hnh] at hw; cases hw
  · show (s.T.set 24 k none).get i = _
    rw [hT]; split
    · rfl
    · exact hdd
  · have hi' : s.next ≤ i := hi
    show (s.T.set 24 k none).get i = none
    rw [hT]; split
    · rfl
    · exact h.up i hi'
  · exact absurd (h.lt (hg i hgi).1) (by have hi' : s.next ≤ i := hi; omega)
  · rw [(hg i (by rw [hi]; simp)).2] at hi
    exact h.obj i oo hi
  · exact h.inj i j bb y y' (hg i hi).1 (hg j hj).1 ri rj
  · show (s.T.set 24 k none).get i = none
    have hi' : s.next ≤ i := hi
    rw [hT]; split
    · rfl
    · exact h.up i hi'
end
end Go.Proofs.YtbanjolokkghdaaGreatDoor
