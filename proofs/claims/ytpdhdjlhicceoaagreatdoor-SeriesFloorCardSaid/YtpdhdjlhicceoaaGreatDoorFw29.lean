/- Parts of the proof that follows: slices.Clone, of segments and points, and of runs and numbers that may be nil. No condition. | A region that draws its order, in which one step writes into a block of the call's own, and what that block holds is told before and behind: the step may stand ahead of some that only read. No condition. | The laws of chapter 26: own. No condition. | slices.Clone of runs, and of numbers: what comes of it begins where its block does. No condition. -/
import Derived.Test.YtpdhdjlhicceoaaGreatDoorFw28
set_option linter.unusedSimpArgs false
set_option linter.unusedVariables false
namespace Go.Proofs.YtpdhdjlhicceoaaGreatDoor
open Go.RowKit
/-- A row that lies in a block of its own. -/
def RowOwn (w : World) (e : TypeId) (n k : Nat) (news : List Value) (v : Value) (w' : World) : Prop := ∃ g cap' cur, v = .slice (some ⟨g, 0, none⟩) n cap' ∧ w.heap.size ≤ g ∧ Blk w' g cur e ∧ n ≤ cap' ∧ cur.toList.take k = news
set_option maxRecDepth 100000 in
set_option maxHeartbeats 2000000 in
theorem cloneSeg_some (a : Addr) (cap : Nat) (rows : List SegR) (w : World) (hl : rows.length ≤ 100) (h : SegsCame w (some a) rows) : Calls Tryz.prog 43 #[.slice (some a) rows.length cap] w fun e w' => ∃ v, e = .returned v ∧ Below w.heap.size w w' ∧ RowOwn w 49 rows.length (rows.length * 8) (flatSegs rows) v w' := by
  have hnil : ∀ W, (binOp .eql 23 (.slice (some a) rows.length cap) (.slice none 0 0)).run Tryz.prog W = .ok (.bool false) W := fun W => Lib.run_eql_slice_nil W 23 49 _ _ _ _ _ (by kernel_rfl)
  go_enter Tryz.func43, Tryz.ntmps43
  go_upto_region 3 with (fail)
  clear hnil
  have hmk : ∀ W, (Instr.buildSlice 23 0 #[]).run Tryz.prog W = .ok (.slice (some ⟨W.heap.size, 0, none⟩) 0 0) (W.alloc (.cells #[] 49)) := fun W => by kernel_rfl
  obtain ⟨i, hi, hz0, hz1, hz2⟩ := info_parts Tryz.infoSeg
  have hW : Below w.heap.size w (w.alloc (.cells #[] 49)) := belowAny
  have hown0 := World.ownsRow_made (e := 49) (size := 8) (base := w.heap.size) w #[] 0 (Nat.le_refl _) (by simp [maxLen]) (by simp)
  go_wp2_with (at_builtin; refine wpList_append_own _ rfl (.tmp 5) (.tmp 6) 23 rfl w.heap.size 49 i _ 8 96 (by kernel_rfl) hi hz0 hz1 hz2 rfl (by omega) _ 0 [] rfl hown0 a rows.length cap (flatSegs rows) rfl (by rw [flatSegs_len]) (fun j u hu => (h.below hW).flat a rfl j u hu) (fun v hv => flatSegs_one v hv) (by simp [maxLen]; omega) (by omega) (by simp) ?_)
  intro v' w' hown hgr hvn
  have hB := Lib.hid (clone_below hgr)
  replace hown := Lib.hid hown
  replace hvn := Lib.hid hvn
  clear hgr
  go_wp2
  go_ret
  obtain ⟨_, h2 | ⟨g, cap', cur, rfl, hg, hb, hn, _, hc, ht⟩⟩ := hown.out
  · exact (hvn.out h2.1).elim
  · exact ⟨_, rfl, hB.out, g, cap', cur, by simp, hg, hb, by omega, by simpa using ht⟩
set_option maxRecDepth 100000 in
set_option maxHeartbeats 2000000 in
theorem clonePt_some (a : Addr) (cap : Nat) (l : List (Int × Int)) (w : World) (hl : l.length ≤ 100) (h : PtsIn w (some a) l) : Calls Tryz.prog 44 #[.slice (some a) l.length cap] w fun e w' => ∃ v, e = .returned v ∧ Below w.heap.size w w' ∧ RowOwn w 53 l.length (l.length * 2) (flatPts l) v w' := by
  have hnil : ∀ W, (binOp .eql 24 (.slice (some a) l.length cap) (.slice none 0 0)).run Tryz.prog W = .ok (.bool false) W := fun W => Lib.run_eql_slice_nil W 24 53 _ _ _ _ _ (by kernel_rfl)
  go_enter Tryz.func44, Tryz.ntmps44
  go_upto_region 3 with (fail)
  clear hnil
  have hmk : ∀ W, (Instr.buildSlice 24 0 #[]).run Tryz.prog W = .ok (.slice (some ⟨W.heap.size, 0, none⟩) 0 0) (W.alloc (.cells #[] 53)) := fun W => by kernel_rfl
  obtain ⟨i, hi, hz0, hz1, hz2⟩ := info_parts Tryz.infoPt
  have hW : Below w.heap.size w (w.alloc (.cells #[] 53)) := belowAny
  have hown0 := World.ownsRow_made (e := 53) (size := 2) (base := w.heap.size) w #[] 0 (Nat.le_refl _) (by simp [maxLen]) (by simp)
  go_wp2_with (at_builtin; refine wpList_append_own _ rfl (.tmp 5) (.tmp 6) 24 rfl w.heap.size 53 i _ 2 16 (by kernel_rfl) hi hz0 hz1 hz2 rfl (by omega) _ 0 [] rfl hown0 a l.length cap (flatPts l) rfl (by rw [flatPts_len9]) (fun j u hu => pts_flat9 (h.below hW) j u hu) (fun v hv => flatPts_one9 l v hv) (by simp [maxLen]; omega) (by omega) (by simp) ?_)
  intro v' w' hown hgr hvn
  have hB := Lib.hid (clone_below hgr)
  replace hown := Lib.hid hown
  replace hvn := Lib.hid hvn
  clear hgr
  go_wp2
  go_ret
  obtain ⟨_, h2 | ⟨g, cap', cur, rfl, hg, hb, hn, _, hc, ht⟩⟩ := hown.out
  · exact (hvn.out h2.1).elim
  · exact ⟨_, rfl, hB.out, g, cap', cur, by simp, hg, hb, by omega, by simpa using ht⟩
set_option maxRecDepth 100000 in
set_option maxHeartbeats 2000000 in
theorem cloneSeg_nil (w : World) : Calls Tryz.prog 43 #[.slice none 0 0] w fun e w' => e = .returned (.slice none 0 0) ∧ Below w.heap.size w w' := by
  go_enter Tryz.func43, Tryz.ntmps43
  have hnil : ∀ W, (binOp .eql 23 (.slice none 0 0) (.slice none 0 0)).run Tryz.prog W = .ok (.bool true) W := fun W => by kernel_rfl
  go_wp2
  go_ret
  exact ⟨rfl, belowAny⟩
set_option maxRecDepth 100000 in
set_option maxHeartbeats 2000000 in
theorem clonePt_nil (w : World) : Calls Tryz.prog 44 #[.slice none 0 0] w fun e w' => e = .returned (.slice none 0 0) ∧ Below w.heap.size w w' := by
  go_enter Tryz.func44, Tryz.ntmps44
  have hnil : ∀ W, (binOp .eql 24 (.slice none 0 0) (.slice none 0 0)).run Tryz.prog W = .ok (.bool true) W := fun W => by kernel_rfl
  go_wp2
  go_ret
  exact ⟨rfl, belowAny⟩
end Go.Proofs.YtpdhdjlhicceoaaGreatDoor
namespace Go.Proofs.YtpdhdjlhicceoaaGreatDoor
open Go.RowKit
section
variable {P : Program} {ops : Array Oper} {C : World → Prop} {X : List (Nat × Nat)} {a0 : Act} {n : Nat} {Q : Exit → Act → World → Prop}
theorem inv_putS {m i : Nat} {o : Oper} {Ψ : Nat → Spec} {listed : Array Bool} {a : Act} {w w' : World} {u : Value} (hok : Ok ops n m) (hm : m = a0.tmps.size) (hC : ∀ i, i < n → ∀ u w w', C w → Rex (priv X i) w w' → Ψ i u w' → C w')
    (hcl : ∀ i, i < n → Closed (others X i) (Ψ i)) (inv : Inv ops C a0 n Ψ listed a w) (hr : i ∈ Region.ready .any ops listed) (hi : i < n) (ho : ops[i]? = some o)
    (hR : Rex (priv X i) w w') (hΨ : Ψ i u w') (hnew : isAlloc o = true → u = undef ∨ NewPtr w w' u) : Inv ops C a0 n Ψ (listed.setIfInBounds i true) (a.put o.dst u) w' := by
  obtain ⟨hun, o', ho', hall⟩ := mem_ready.1 hr
  obtain rfl : o' = o := by rw [ho] at ho'; injection ho' with h; exact h.symm
  have hil : i < listed.size := by rw [inv.lsize]; exact (Array.getElem?_eq_some_iff.1 ho).1
  have hwi : wrOf ops i = o'.dst := by simp [wrOf, ho]
  have hset : ∀ j, (listed.setIfInBounds i true).getD j false = true → j = i ∨ listed.getD j false = true := by
    intro j hj
    by_cases hji : j = i
    · exact .inl hji
    · exact .inr (by rwa [getD_set_ne false (Ne.symm hji)] at hj)
  have hdsz : ∀ d, o'.dst = some d → d < a.tmps.size := fun d hd => by rw [inv.size, ← hm]; exact hok.dst i d hi (by rw [hwi, hd])
  have hkeep : ∀ s, o'.dst ≠ some s → (a.put o'.dst u).tmps.getD s undef = a.tmps.getD s undef := by
    intro s hs
    cases hd : o'.dst with
    | none => rfl
    | some d => exact getD_put_ne (fun e => hs (by rw [hd, e]))
  have hput : ∀ d, o'.dst = some d → (a.put o'.dst u).tmps.getD d undef = u := by
    intro d hd
    rw [hd]
    exact getD_put_eq (hdsz d hd)
  have hclosed : ∀ j, j < n → j ≠ i → ∀ v, Ψ j v w → Ψ j v w' := fun j hj hji v hv => hcl j hj v w w' (hR.more (priv_sub (Ne.symm hji))) hv
  have hother : ∀ j, j < n → j ≠ i → ∀ d, wrOf ops j = some d → o'.dst ≠ some d := fun j hj hji d hd e => hji (hok.uniq j i d hj hi hd (by rw [hwi, e]))
  refine ⟨hC i hi u _ _ inv.c hR hΨ, ?_, ?_, by simp [inv.lsize], ?_, ?_, ?_, ?_, ?_, ?_⟩
  · cases hd : o'.dst <;> simp [Act.put, inv.size]
  · cases hd : o'.dst <;> simp [Act.put, inv.defers]
  · intro j oj hj hl e he hb
    rcases hset j hl with rfl | hl
    · have : oj = o' := by rw [ho] at hj; injection hj with h; exact h.symm
      subst this
      exact getD_set_true (hall e he hb)
    · exact getD_set_true (inv.down j oj hj hl e he hb)
  · intro j hj hl d hd
    by_cases hji : j = i
    · subst hji
      rw [hput d (by rw [← hwi, hd])]
      exact hΨ
    · rw [hkeep d (hother j hj hji d hd)]
      exact hclosed j hj hji _ (inv.val j hj ((hset j hl).resolve_left hji) d hd)
  · intro j hj hl hd
    by_cases hji : j = i
    · subst hji; exact ⟨u, hΨ⟩
    · obtain ⟨u', hu'⟩ := inv.eff j hj ((hset j hl).resolve_left hji) hd
      exact ⟨u', hclosed j hj hji _ hu'⟩
  · intro s hs
    have h1 : o'.dst ≠ some s := by
      have := hs i hi (by simp [hil])
      rwa [hwi] at this
    rw [hkeep s h1]
    exact inv.old s fun j hj hl => hs j hj (getD_set_true hl)
  · intro j oj d hj hl hoj hal hd x hx
    by_cases hji : j = i
    · subst hji
      have : oj = o' := by rw [ho] at hoj; injection hoj with h; exact h.symm
      subst this
      rw [hput d hd] at hx
      rcases hnew hal with h | ⟨b, h, _, hb⟩
      · rw [h] at hx; simp [undef] at hx
      · rw [h] at hx; injection hx with hx; injection hx with hx; subst hx; exact hb
    · have hne := hother j hj hji d (by simp [wrOf, hoj, hd])
      rw [hkeep d hne] at hx
      exact Nat.lt_of_lt_of_le (inv.new j oj d hj ((hset j hl).resolve_left hji) hoj hal hd x hx) hR.size
  · intro j oj d k ok d' hj hk hjk hlj hlk hoj hok' haj hak hd hd' x hx hx'
    by_cases hji : j = i
    · subst hji
      have : oj = o' := by rw [ho] at hoj; injection hoj with h; exact h.symm
      subst this
      rw [hput d hd] at hx
      have hne := hother k hk (Ne.symm hjk) d' (by simp [wrOf, hok', hd'])
      rw [hkeep d' hne] at hx'
      have h2 := inv.new k ok d' hk ((hset k hlk).resolve_left (Ne.symm hjk)) hok' hak hd' x hx'
      rcases hnew haj with h | ⟨b, h, hb, _⟩
      · rw [h] at hx; simp [undef] at hx
      · rw [h] at hx; injection hx with hx; injection hx with hx; subst hx; simp at h2; omega
    · by_cases hki : k = i
      · subst hki
        have : ok = o' := by rw [ho] at hok'; injection hok' with h; exact h.symm
        subst this
        rw [hput d' hd'] at hx'
        have hne := hother j hj hji d (by simp [wrOf, hoj, hd])
        rw [hkeep d hne] at hx
        have h2 := inv.new j oj d hj ((hset j hlj).resolve_left hji) hoj haj hd x hx
        rcases hnew hak with h | ⟨b, h, hb, _⟩
        · rw [h] at hx'; simp [undef] at hx'
        · rw [h] at hx'; injection hx' with hx'; injection hx' with hx'; subst hx'; simp at h2; omega
      · have hne := hother j hj hji d (by simp [wrOf, hoj, hd])
        have hne' := hother k hk hki d' (by simp [wrOf, hok', hd'])
        rw [hkeep d hne] at hx
        rw [hkeep d' hne'] at hx'
        exact inv.apart j oj d k ok d' hj hk hjk ((hset j hlj).resolve_left hji) ((hset k hlk).resolve_left hki) hoj hok' haj hak hd hd' x hx hx'
theorem inv_stepS {m i : Nat} {Ψ : Nat → Spec} {listed : Array Bool} {a : Act} {w : World} (hok : Ok ops n m) (hm : m = a0.tmps.size) (hC : ∀ i, i < n → ∀ u w w', C w → Rex (priv X i) w w' → Ψ i u w' → C w')
    (hcl : ∀ i, i < n → Closed (others X i) (Ψ i)) (hop : ∀ i o, i < n → ops[i]? = some o → okOp P ops C (priv X i) (envOf a0 (accAt ops Ψ i)) o (Ψ i))
    (inv : Inv ops C a0 n Ψ listed a w) (hr : i ∈ Region.ready .any ops listed) (hi : i < n) :
    wpOp P ops Q i (Inv ops C a0 n Ψ (listed.setIfInBounds i true)) a w := by
  obtain ⟨_, o, ho, _⟩ := mem_ready.1 hr
  obtain ⟨h1, h2⟩ := hop i o hi ho a w inv.c (inv_env hok inv hr hi ho)
  unfold wpOp
  simp only [ho]
  by_cases hw : Region.wanted o (yielded ops a.tmps) = true
  · simp only [hw, if_true]
    refine .inl ?_
    have h1 := h1 hw
    unfold Oper.wp
    generalize (execOp a.eval o).run P w = r at h1
    cases r with
    | ok x w' =>
      cases x <;> simp only [runND] at h1 <;> simp only [Oper.upon]
      case value u => exact inv_putS hok hm hC hcl inv hr hi ho h1.1 h1.2.1 fun ha => .inr (h1.2.2 ha)
      case skip => exact inv_putS hok hm hC hcl inv hr hi ho h1.1 h1.2.1 fun ha => by rw [h1.2.2] at ha; cases ha
      case enter f args =>
        obtain ⟨rfl, hna, hc⟩ := h1
        refine hc.mono fun e w'' ⟨u, he, hR, hΦ⟩ => ?_
        subst he
        exact inv_putS hok hm hC hcl inv hr hi ho hR hΦ fun ha => by rw [hna] at ha; cases ha
    | halt x w' => simp only [runND] at h1
  · have hw' : Region.wanted o (yielded ops a.tmps) = false := by simpa using hw
    simp only [hw', Bool.false_eq_true, if_false]
    exact inv_putS hok hm hC hcl inv hr hi ho (Rex.refl _ _) (h2 hw') fun _ => .inl rfl
theorem nd_tailS {m : Nat} {Ψ : Nat → Spec} (hok : Ok ops n m) (hm : m = a0.tmps.size) (hC : ∀ i, i < n → ∀ u w w', C w → Rex (priv X i) w w' → Ψ i u w' → C w')
    (hcl : ∀ i, i < n → Closed (others X i) (Ψ i)) (hop : ∀ i o, i < n → ops[i]? = some o → okOp P ops C (priv X i) (envOf a0 (accAt ops Ψ i)) o (Ψ i))
    (hQ : ∀ c a d v w, Q (.panic c) (Act.put a d v) w → Q (.panic c) a w)
    (hFin : ∀ a w, (∃ listed, Inv ops C a0 n Ψ listed a w ∧ ∀ i, i < n → listed.getD i false = true) → wpList P ops Q (ops.toList.drop n) a w) :
    ∀ (f : Nat) (listed : Array Bool) (a : Act) (w : World), Inv ops C a0 n Ψ listed a w → listed.toList.count false = f →
      (∀ i o, i < n → ops[i]? = some o → pureB o = false → listed.getD i false = true) → (∀ t, n ≤ t → listed.getD t false = false) → wpAny P .any ops Q f listed a w := by
  intro f
  induction f with
  | zero =>
    intro listed a w inv hcnt hnp htl
    have hall : ∀ i, i < ops.size → listed.getD i false = true := by
      intro i hi
      have h0 : ¬ false ∈ listed.toList := by rw [← List.count_eq_zero]; exact hcnt
      have hi' : i < listed.size := by rw [inv.lsize]; exact hi
      cases hb : listed[i] with
      | true => simp [hi', hb]
      | false => exact absurd (by rw [← hb]; exact Array.mem_toList_iff.2 (Array.getElem_mem hi')) h0
    have hn : n = ops.size := by
      rcases Nat.lt_or_ge n ops.size with h | h
      · have := htl n (Nat.le_refl _); rw [hall n h] at this; cases this
      · exact Nat.le_antisymm hok.le h
    have hready : Region.ready .any ops listed = [] := by
      apply List.eq_nil_iff_forall_not_mem.2
      intro k hk
      obtain ⟨h1, o, ho, _⟩ := mem_ready.1 hk
      have hk' := (Array.getElem?_eq_some_iff.1 ho).1
      have h2 := hall k hk'
      simp [inv.lsize, hk'] at h1 h2
      rw [h1] at h2; cases h2
    have := hFin a w ⟨listed, inv, fun i hi => hall i (by omega)⟩
    rw [hn, List.drop_eq_nil_of_le (by simp)] at this
    exact ⟨hready, this⟩
  | succ f ih =>
    intro listed a w inv hcnt hnp htl
    by_cases hbody : ∀ i, i < n → listed.getD i false = true
    · -- only the tail is left
      have hl : listed = (Array.replicate n true) ++ Array.replicate (ops.size - n) false := by
        have hle := hok.le
        apply Array.ext
        · simp [inv.lsize]; omega
        · intro i h1 h2
          by_cases hi : i < n
          · have := hbody i hi
            simp [h1] at this
            simp [hi, this]
          · have := htl i (by omega)
            simp [h1] at this
            simp [Array.getElem_append, hi, this]
      have hc : listed.toList.count false = ops.size - n := by
        rw [hl]; simp [List.count_replicate]
      have hseq := hok.seq
      unfold seqTailB at hseq
      rw [← hl] at hseq
      have hlen : (ops.toList.drop n).length = ops.size - n := by simp
      have := wpAny_of_seq (P := P) (md := .any) (Q' := Q) (ops.toList.drop n) n listed a w (fun j => by rw [List.getElem?_drop]; simp) (by rw [hlen]; exact hseq) (hFin a w ⟨listed, inv, hbody⟩)
      rw [hlen] at this
      have he : ops.size - n = f + 1 := by omega
      rwa [he] at this
    · obtain ⟨i0, hi0⟩ := Classical.not_forall.1 hbody
      obtain ⟨hi0n, hi0l⟩ := Classical.not_imp.1 hi0
      have hle := hok.le
      obtain ⟨k, hk1, hk2, hk3⟩ := least_ready hok inv.lsize i0 (by omega) (by simpa using hi0l)
      obtain ⟨hun, o, ho, _⟩ := mem_ready.1 hk2
      have hks : k < listed.size := by rw [inv.lsize]; exact (Array.getElem?_eq_some_iff.1 ho).1
      have hunf := getD_false_of hks hun
      have hp : pureB o = true := by
        cases h : pureB o with
        | true => rfl
        | false => have := hnp k o (by omega) ho h; rw [hunf] at this; cases this
      obtain ⟨h1, h2⟩ := hop k o (by omega) ho a w inv.c (inv_env hok inv hk2 (by omega) ho)
      have hapart : ∀ j oj, ops[j]? = some oj → j ≠ k → listed.getD j true = false → (∀ e ∈ oj.after, Region.binds .any e = true → e.on ≠ k) → o.apart ops oj = true := by
        intro j oj hj hjk hjl hno
        have hjs : j < listed.size := by rw [inv.lsize]; exact (Array.getElem?_eq_some_iff.1 hj).1
        have hkj : k < j := by
          rcases Nat.lt_or_ge j k with h | h
          · have := hk3 j h; rw [getD_false_of hjs hjl] at this; cases this
          · omega
        rcases hok.late k o (by omega) ho with ⟨_, h⟩ | ⟨h, _⟩
        · refine h j oj hj hkj ?_
          cases hd : dirB ops j k with
          | false => rfl
          | true =>
            simp only [dirB, hj] at hd
            obtain ⟨e, hem, hb⟩ := Array.any_eq_true'.1 hd
            simp only [Bool.and_eq_true, beq_iff_eq] at hb
            exact absurd hb.2 (hno e hem hb.1)
        · rw [hp] at h; cases h
      have hcnt' : (listed.setIfInBounds k true).toList.count false = f := by
        have hg : listed.toList[k]? = some false := by simp [hks] at hunf; simp [hks, hunf]
        have := count_set listed.toList k hg
        rw [Array.toList_setIfInBounds]; omega
      have hrest : ∀ v, Inv ops C a0 n Ψ (listed.setIfInBounds k true) (a.put o.dst v) w → wpAny P .any ops Q f (listed.setIfInBounds k true) (a.put o.dst v) w := fun v hinv =>
        ih _ _ _ hinv hcnt' (fun i oi hi hoi hpi => getD_set_true (hnp i oi hi hoi hpi)) (fun t ht => by rw [getD_set_ne false (by omega)]; exact htl t ht)
      by_cases hw : Region.wanted o (yielded ops a.tmps) = true
      · obtain ⟨v, hv, hrun⟩ := pure_yields hp (h1 hw)
        refine wpAny_first ho (Region.noSelect_spec hok.nosel) (fun c a w h => hQ c a _ _ w h) f listed a w hapart hk2 (.inl ⟨hw, hrun⟩) (hrest v ?_)
        exact inv_putS hok hm hC hcl inv hk2 (by omega) ho (Rex.refl _ _) hv fun ha => by
          unfold isAlloc at ha; unfold pureB at hp; cases hop : o.op <;> rw [hop] at ha hp <;> simp at ha hp
      · have hw' : Region.wanted o (yielded ops a.tmps) = false := by simpa using hw
        refine wpAny_first ho (Region.noSelect_spec hok.nosel) (fun c a w h => hQ c a _ _ w h) f listed a w hapart hk2 (.inr ⟨hw', rfl⟩) (hrest undef ?_)
        exact inv_putS hok hm hC hcl inv hk2 (by omega) ho (Rex.refl _ _) (h2 hw') fun _ => .inl rfl
theorem nd_anyS {m : Nat} {Ψ : Nat → Spec} (hok : Ok ops n m) (hm : m = a0.tmps.size) (hC : ∀ i, i < n → ∀ u w w', C w → Rex (priv X i) w w' → Ψ i u w' → C w')
    (hcl : ∀ i, i < n → Closed (others X i) (Ψ i)) (hop : ∀ i o, i < n → ops[i]? = some o → okOp P ops C (priv X i) (envOf a0 (accAt ops Ψ i)) o (Ψ i))
    (hQ : ∀ c a d v w, Q (.panic c) (Act.put a d v) w → Q (.panic c) a w)
    (hFin : ∀ a w, (∃ listed, Inv ops C a0 n Ψ listed a w ∧ ∀ i, i < n → listed.getD i false = true) → wpList P ops Q (ops.toList.drop n) a w) :
    ∀ (f : Nat) (listed : Array Bool) (a : Act) (w : World), Inv ops C a0 n Ψ listed a w → listed.toList.count false = f → (∀ t, n ≤ t → listed.getD t false = false) → wpAny P .any ops Q f listed a w := by
  intro f
  induction f with
  | zero => exact fun listed a w inv hcnt htl => nd_tailS hok hm hC hcl hop hQ hFin 0 listed a w inv hcnt (fun i o hi ho _ => by
      have h0 : ¬ false ∈ listed.toList := by rw [← List.count_eq_zero]; exact hcnt
      have hi' : i < listed.size := by rw [inv.lsize]; exact (Array.getElem?_eq_some_iff.1 ho).1
      cases hb : listed[i] with
      | true => simp [hi', hb]
      | false => exact absurd (by rw [← hb]; exact Array.mem_toList_iff.2 (Array.getElem_mem hi')) h0) htl
  | succ f ih =>
    intro listed a w inv hcnt htl
    by_cases hnp : ∀ i o, i < n → ops[i]? = some o → pureB o = false → listed.getD i false = true
    · exact nd_tailS hok hm hC hcl hop hQ hFin (f + 1) listed a w inv hcnt hnp htl
    · have : ∃ i o, i < n ∧ ops[i]? = some o ∧ pureB o = false ∧ listed.getD i false = false := by
        apply Classical.byContradiction
        intro hno
        exact hnp fun i o hi ho hp => by
          cases h : listed.getD i false with
          | true => rfl
          | false => exact absurd ⟨i, o, hi, ho, hp, h⟩ hno
      obtain ⟨i0, o0, hi0, ho0, hp0, hl0⟩ := this
      have hle := hok.le
      obtain ⟨k, hk1, hk2, hk3⟩ := least_ready hok inv.lsize i0 (by omega) hl0
      refine ⟨fun h => (by rw [h] at hk2; cases hk2), fun i hi => ?_⟩
      have hin : i < n := by
        rcases Nat.lt_or_ge i n with h | h
        · exact h
        · obtain ⟨_, o, ho, hall⟩ := mem_ready.1 hi
          rcases hok.late i0 o0 hi0 ho0 with ⟨h', _⟩ | ⟨_, h'⟩
          · rw [hp0] at h'; cases h'
          · have := anc_listed inv 8 i i0 o ho hall (h' i h (Array.getElem?_eq_some_iff.1 ho).1)
            rw [hl0] at this; cases this
      refine wpOp_mono (fun a' w' hinv => ih _ a' w' hinv ?_ fun t ht => by rw [getD_set_ne false (by omega)]; exact htl t ht) (inv_stepS hok hm hC hcl hop inv hi hin)
      obtain ⟨hun, o, ho, _⟩ := mem_ready.1 hi
      have his : i < listed.size := by rw [inv.lsize]; exact (Array.getElem?_eq_some_iff.1 ho).1
      have hunf := getD_false_of his hun
      have hg : listed.toList[i]? = some false := by simp [his] at hunf; simp [his, hunf]
      have := count_set listed.toList i hg
      rw [Array.toList_setIfInBounds]; omega
theorem wp_region_ndS {id : Nat} {l : List Oper} {w0 : World} (n m b : Nat) (C : World → Prop) (hf : P.follows .mixedOrders = true) (hB : okB l.toArray (n + 1) m = true) (hm : m = a0.tmps.size)
    (h0 : C w0.drew) (hC : ∀ w w', C w → Rex [] w w' → C w') (hQ : ∀ c a d v w, Q (.panic c) (Act.put a d v) w → Q (.panic c) a w) (o : Oper) (ho : l.toArray[n]? = some o)
    (h : ndWalk P l.toArray C [(n, b)] a0 (fun acc => ∃ Φ : Spec, Closed [] Φ ∧ okOp P l.toArray C [b] (envOf a0 acc) o Φ ∧ (∀ u w, Φ u w → C w) ∧ ∀ w, C w → ndFinR w a0 ((o.dst, Φ) :: acc) fun a => wpList P l.toArray Q (l.drop (n + 1)) a w) 0 (l.take n) []) :
    (Code.region id l.toArray true).wp P Q a0 w0 := by
  have hok := ok_of_okB hB
  have hle : n + 1 ≤ l.length := by have := hok.le; simpa using this
  obtain ⟨Ψ0, _, h2, h3⟩ := walk_spec (ops := l.toArray) (l.take n) 0 [] (fun _ _ _ => True) (fun j hj => by simp at hj; simp [hj]) rfl h
  have hlen : 0 + (l.take n).length = n := by simp; omega
  rw [hlen] at h3
  obtain ⟨Φ, hc1, ho1, hΦC, hfin0⟩ := h3
  have pn : priv [(n, b)] n = [b] := by simp [priv]
  have on : others [(n, b)] n = [] := by simp [others]
  have pi : ∀ i, i ≠ n → priv [(n, b)] i = [] := fun i hi => by simp [priv]; omega
  obtain ⟨Ψ, hΨ⟩ : ∃ Ψ : Nat → Spec, Ψ = fun i => if i = n then Φ else Ψ0 i := ⟨_, rfl⟩
  have hΨn : Ψ n = Φ := by rw [hΨ]; simp
  have hΨi : ∀ i, i < n → Ψ i = Ψ0 i := fun i hi => by rw [hΨ]; simp; omega
  have hacc : ∀ k, k ≤ n → accAt l.toArray Ψ k = accAt l.toArray Ψ0 k := fun k hk => accAt_congr k fun i hi => hΨi i (by omega)
  have hcl : ∀ i, i < n + 1 → Closed (others [(n, b)] i) (Ψ i) := fun i hi => by
    by_cases hin : i = n
    · subst hin; rw [hΨn, on]; exact hc1
    · rw [hΨi i (by omega)]; exact (h2 i (by omega) (by omega)).1
  have hop : ∀ i o, i < n + 1 → l.toArray[i]? = some o → okOp P l.toArray C (priv [(n, b)] i) (envOf a0 (accAt l.toArray Ψ i)) o (Ψ i) := fun i o1 hi ho' => by
    by_cases hin : i = n
    · subst hin
      rw [ho] at ho'; injection ho' with e; subst e
      rw [hΨn, pn, hacc i (Nat.le_refl _)]; exact ho1
    · obtain ⟨_, o', ho'', h⟩ := h2 i (by omega) (by omega)
      rw [ho''] at ho'; injection ho' with e; subst e
      rw [hΨi i (by omega), hacc i (by omega)]; exact h
  have hCC : ∀ i, i < n + 1 → ∀ u w w', C w → Rex (priv [(n, b)] i) w w' → Ψ i u w' → C w' := fun i hi u w w' hw hR hu => by
    by_cases hin : i = n
    · subst hin; rw [hΨn] at hu; exact hΦC u w' hu
    · rw [pi i hin] at hR; exact hC w w' hw hR
  refine wp_region_any hf ?_
  refine nd_anyS (X := [(n, b)]) hok hm hCC hcl hop hQ ?_ _ _ _ _ ⟨h0, rfl, rfl, by simp, ?_, ?_, ?_, ?_, ?_, ?_⟩ (by simp) (fun t _ => getD_replicate_false _ t)
  · rintro a w ⟨listed, inv, hall⟩
    have hex : ∀ i, ∃ v, i < n + 1 → Ψ i v w ∧ ∀ d, wrOf l.toArray i = some d → v = a.tmps.getD d undef := by
      intro i
      by_cases hi : i < n + 1
      · cases hd : wrOf l.toArray i with
        | none =>
          obtain ⟨u, hu⟩ := inv.eff i hi (hall i hi) hd
          exact ⟨u, fun _ => ⟨hu, fun d h => by cases h⟩⟩
        | some d => exact ⟨a.tmps.getD d undef, fun _ => ⟨inv.val i hi (hall i hi) d hd, fun d' h => by injection h with h; rw [h]⟩⟩
      · exact ⟨undef, fun h => absurd h hi⟩
    let val : Nat → Value := fun i => (hex i).choose
    have hval : ∀ i, i < n + 1 → Ψ i (val i) w ∧ ∀ d, wrOf l.toArray i = some d → val i = a.tmps.getD d undef := fun i hi => (hex i).choose_spec hi
    have ha : a = puts l.toArray val a0 (n + 1) := by
      have ht : a.tmps = (puts l.toArray val a0 (n + 1)).tmps := by
        apply Array.ext
        · rw [puts_size, inv.size]
        · intro s h1 h2
          have hg : a.tmps.getD s undef = (puts l.toArray val a0 (n + 1)).tmps.getD s undef := by
            by_cases hw : ∃ i, i < n + 1 ∧ wrOf l.toArray i = some s
            · obtain ⟨i, hi, hw⟩ := hw
              rw [puts_some hok hm val s (n + 1) (Nat.le_refl _) i hi hw, (hval i hi).2 s hw]
            · rw [puts_none val s (n + 1) fun i hi hwi => hw ⟨i, hi, hwi⟩]
              exact inv.old s fun i hi _ hwi => hw ⟨i, hi, hwi⟩
          simpa [h1, h2] using hg
      have hd : a.defers = (puts l.toArray val a0 (n + 1)).defers := by rw [puts_defers, inv.defers]
      cases a; cases hp : puts l.toArray val a0 (n + 1); rw [hp] at ht hd; simp at ht hd; subst ht; subst hd; rfl
    have hlast : accAt l.toArray Ψ (n + 1) = (o.dst, Φ) :: accAt l.toArray Ψ0 n := by
      show (wrOf l.toArray n, Ψ n) :: accAt l.toArray Ψ n = _
      rw [hΨn, hacc n (Nat.le_refl _)]
      simp [wrOf, ho]
    have hfin1 := hfin0 w inv.c
    rw [← hlast] at hfin1
    have hfin := fin_of (ops := l.toArray) (a0 := a0) (val := val) (n + 1) _ (fun i hi => (hval i hi).1) hfin1
    rw [← ha] at hfin
    simpa using hfin
  · intro i o ho hl; rw [getD_replicate_false] at hl; cases hl
  · intro i hi hl; rw [getD_replicate_false] at hl; cases hl
  · intro i hi hl; rw [getD_replicate_false] at hl; cases hl
  · intro s _; rfl
  · intro i o d hi hl; rw [getD_replicate_false] at hl; cases hl
  · intro i o d j o' d' hi hj hij hl; rw [getD_replicate_false] at hl; cases hl
end
end Go.Proofs.YtpdhdjlhicceoaaGreatDoor
namespace Go.Proofs.YtpdhdjlhicceoaaGreatDoor
open Go.RowKit
/-- A row in a block of its own. -/
def RowS (B : Nat) (e : TypeId) (n k : Nat) (news : List Value) : Spec := fun v w => ∃ g cap cur, v = .slice (some ⟨g, 0, none⟩) n cap ∧ B ≤ g ∧ Blk w g cur e ∧ n ≤ cap ∧ cur.toList.take k = news
theorem RowS.closed (B : Nat) (e : TypeId) (n k : Nat) (news : List Value) : Closed [] (RowS B e n k news) := fun _ _ _ hr ⟨g, c, cur, e1, h1, h, h2, h3⟩ => ⟨g, c, cur, e1, h1, h.rex hr (by simp), h2, h3⟩
/-- Points in a block of their own, or nil. -/
def PtS (B N : Nat) (l : List (Int × Int)) : Spec := fun v w => (v = .slice none 0 0 ∧ l = [] ∧ N = 0) ∨ RowS B 53 N (N * 2) (flatPts l) v w
theorem PtS.closed (B N : Nat) (l : List (Int × Int)) : Closed [] (PtS B N l) := fun _ _ _ hr h => by
  rcases h with h | h
  · exact .inl h
  · exact .inr (RowS.closed _ _ _ _ _ _ _ _ hr h)
def ownK (s : SegT) : SegT := ⟨s.K, s.runs.take 257, s.A, s.R, s.n, s.d, s.raw.take 257, s.E⟩
/-- A segment of one's own. -/
structure OwnSegK (W : World) (g : Nat) (r0 r : SegR) : Prop where
  says : r.s = ownK r0.s
  runs : RunsIn W r.p r.s.runs
  raw : IntsIn W r.q r.s.raw
  capV : r.s.raw.length ≤ r.vc
  farR : ∀ a, r.p = some a → g < a.block
  farV : ∀ a, r.q = some a → g < a.block
theorem OwnSegK.rex {W W' : World} {g : Nat} {r0 r : SegR} {L : List Nat} (h : OwnSegK W g r0 r) (hL : ∀ x, x ∈ L → x ≤ g) (hr : Rex L W W') : OwnSegK W' g r0 r := ⟨h.says, h.runs.rex1 hL h.farR hr, h.raw.rex1 hL h.farV hr, h.capV, h.farR, h.farV⟩
structure OwnToK (W : World) (g : Nat) (rows R : List SegR) (i : Nat) : Prop where
  len : R.length = rows.length
  rest : ∀ k, i ≤ k → R[k]? = rows[k]?
  own : ∀ k, k < i → ∀ r, R[k]? = some r → ∃ r0, rows[k]? = some r0 ∧ OwnSegK W g r0 r
theorem OwnToK.start (W : World) (g : Nat) (rows : List SegR) : OwnToK W g rows rows 0 := ⟨rfl, fun _ _ => rfl, fun k h => by omega⟩
theorem OwnToK.rex {W W' : World} {g i : Nat} {rows R : List SegR} {L : List Nat} (h : OwnToK W g rows R i) (hL : ∀ x, x ∈ L → x ≤ g) (hr : Rex L W W') : OwnToK W' g rows R i := ⟨h.len, h.rest, fun k hk r hR => by
  obtain ⟨r0, h1, h2⟩ := h.own k hk r hR
  exact ⟨r0, h1, h2.rex hL hr⟩⟩
theorem OwnToK.step {W : World} {g i : Nat} {rows R : List SegR} {r0 r1 : SegR} (h : OwnToK W g rows R i) (h0 : rows[i]? = some r0) (h1 : OwnSegK W g r0 r1) : OwnToK W g rows (R.set i r1) (i + 1) := ⟨by rw [List.length_set]; exact h.len, fun k hk => by rw [List.getElem?_set_ne (by omega)]; exact h.rest k (by omega), fun k hk r hR => by
  rw [List.getElem?_set] at hR
  split at hR
  · rename_i e
    subst e
    split at hR
    · injection hR with hR
      subst hR
      exact ⟨r0, h0, h1⟩
    · cases hR
  · exact h.own k (by omega) r hR⟩
structure PtRow (w : World) (B : Nat) (p : Option Addr) (l : List (Int × Int)) : Prop where
  at' : (p = none ∧ l = []) ∨ ∃ g cur k, p = some ⟨g, 0, none⟩ ∧ B ≤ g ∧ Blk w g cur 53 ∧ cur.toList.take k = flatPts l
theorem PtRow.pts {w : World} {B : Nat} {p : Option Addr} {l : List (Int × Int)} (h : PtRow w B p l) : PtsIn w p l := by
  rcases h.at' with ⟨rfl, rfl⟩ | ⟨g, cur, k, rfl, _, hb, ht⟩
  · exact ⟨fun i r hr => by simp at hr⟩
  · exact pts_in hb ht
theorem PtRow.keep {w w' : World} {B : Nat} {p : Option Addr} {l : List (Int × Int)} (h : PtRow w B p l) (hk : ∀ g cs, B ≤ g → Blk w g cs 53 → Blk w' g cs 53) : PtRow w' B p l := by
  rcases h.at' with h | ⟨g, cur, k, e, hB, hb, ht⟩
  · exact ⟨.inl h⟩
  · exact ⟨.inr ⟨g, cur, k, e, hB, hk g cur hB hb, ht⟩⟩
theorem PtRow.below {w w' : World} {B : Nat} {p : Option Addr} {l : List (Int × Int)} (h : PtRow w B p l) (hb : Below w.heap.size w w') : PtRow w' B p l := h.keep fun _ _ _ h => h.below hb
theorem PtRow.mono {w : World} {B B' : Nat} {p : Option Addr} {l : List (Int × Int)} (h : PtRow w B p l) (hB : B' ≤ B) : PtRow w B' p l := by
  rcases h.at' with h | ⟨g, cur, k, e, h1, hb, ht⟩
  · exact ⟨.inl h⟩
  · exact ⟨.inr ⟨g, cur, k, e, Nat.le_trans hB h1, hb, ht⟩⟩
theorem PtRow.setO {w : World} {B o : Nat} {p : Option Addr} {l : List (Int × Int)} (h : PtRow w B p l) (ho : o < B) (i : Nat) (v : Value) : PtRow (w.setCell ⟨o, i, none⟩ v) B p l := h.keep fun g _ hg h => h.setO (by omega) i v
theorem PtRow.low {w w' : World} {B : Nat} {p : Option Addr} {l : List (Int × Int)} {L : List Nat} (h : PtRow w B p l) (hL : ∀ x, x ∈ L → x < B) (hr : Rex L w w') : PtRow w' B p l := h.keep fun g c hB hg => hg.rex hr fun hm => by have := hL _ hm; omega
/-- What holds, whatever is written into blocks below B. -/
def Lasts (B : Nat) (w : World) (F : World → Prop) : Prop := ∀ L W, (∀ x, x ∈ L → x < B) → Rex L w W → F W
theorem Lasts.now {B : Nat} {w : World} {F : World → Prop} (h : Lasts B w F) : F w := h [] w (fun x hx => by cases hx) (Rex.refl _ _)
theorem PtRow.rex {w w' : World} {B gS : Nat} {cs : Array Value} {p : Option Addr} {l : List (Int × Int)} (h : PtRow w B p l) (hS : Blk w gS cs 49) (hr : Rex [gS] w w') : PtRow w' B p l := h.keep fun g c _ hg => hg.rex hr (by
  simp
  rintro rfl
  unfold Blk at hg hS
  rw [hS] at hg
  injection hg with hg
  injection hg with _ h2 _
  revert h2
  decide)
theorem PtS.form {B N : Nat} {l : List (Int × Int)} {v : Value} {w : World} (h : PtS B N l v w) : ∃ p cap, v = .slice p N cap ∧ PtRow w B p l ∧ N ≤ cap := by
  rcases h with ⟨rfl, rfl, rfl⟩ | ⟨g, cap, cur, rfl, hg, hb, hc, ht⟩
  · exact ⟨none, 0, rfl, ⟨.inl ⟨rfl, rfl⟩⟩, Nat.le_refl _⟩
  · exact ⟨_, cap, rfl, ⟨.inr ⟨g, cur, _, rfl, hg, hb, ht⟩⟩, hc⟩
/-- A copy of runs, of numbers, in a block of its own. -/
def RunC (B K : Nat) (l : List RunT) : Spec := fun v w => ∃ p c, v = .slice p K c ∧ RunsIn w p l ∧ K ≤ c ∧ ∀ a, p = some a → B ≤ a.block
theorem RunC.closed (B K : Nat) (l : List RunT) : Closed [] (RunC B K l) := fun _ _ _ hr ⟨p, c, e, h, h2⟩ => ⟨p, c, e, h.rex hr rfl, h2⟩
def IntC (B K : Nat) (l : List Int) : Spec := fun v w => ∃ p c, v = .slice p K c ∧ IntsIn w p l ∧ K ≤ c ∧ ∀ a, p = some a → B ≤ a.block
theorem IntC.closed (B K : Nat) (l : List Int) : Closed [] (IntC B K l) := fun _ _ _ hr ⟨p, c, e, h, h2⟩ => ⟨p, c, e, h.below hr.below, h2⟩
theorem RunC.closedL (B K : Nat) (l : List RunT) {L : List Nat} (hL : ∀ x, x ∈ L → x < B) : Closed L (RunC B K l) := fun v w w' hr ⟨p, c, e, h, h2, h3⟩ => ⟨p, c, e, ⟨fun i r hi => by
  obtain ⟨b, o, e1, q0, q1, q2⟩ := h.at' i r hi
  have hb := h3 _ e1
  have key : ∀ z v, w.cell? ⟨b, z, none⟩ = some v → w'.cell? ⟨b, z, none⟩ = some v := fun z v hv => (World.cell?_of_block (hr.block b (cell_lt hv) (fun hx => by have := hL _ hx; simp at hb; omega))).trans hv
  exact ⟨b, o, e1, key _ _ q0, key _ _ q1, key _ _ q2⟩⟩, h2, h3⟩
theorem IntC.closedL (B K : Nat) (l : List Int) {L : List Nat} (hL : ∀ x, x ∈ L → x < B) : Closed L (IntC B K l) := fun v w w' hr ⟨p, c, e, h, h2, h3⟩ => ⟨p, c, e, ⟨fun i r hi => by
  obtain ⟨b, o, e1, q0⟩ := h.at' i r hi
  have hb := h3 _ e1
  exact ⟨b, o, e1, (World.cell?_of_block (hr.block b (cell_lt q0) (fun hx => by have := hL _ hx; simp at hb; omega))).trans q0⟩⟩, h2, h3⟩
def own26Rel (w : World) (nm9 : ByteArray) (ep fl la sc : Int) (pP : Option Addr) (capP N : Nat) (rows : List SegR) (pts : List (Int × Int)) (M gS capS : Nat) (a' : Act) (W : World) : Prop :=
  Below w.heap.size w W ∧ Blk W w.heap.size #[.string nm9, .int .i64 ep, .int .i64 fl, .int .i64 la, .int .i64 sc, .slice (some ⟨gS, 0, none⟩) M capS, .slice pP N capP] 26 ∧ Blk W (w.heap.size + 1) #[.string .empty, .int .i64 0, .int .i64 0, .int .i64 0, .int .i64 0, .slice none 0 0, .slice none 0 0] 26 ∧ PtRow W (w.heap.size + 1 + 1) pP pts ∧ ∃ (i : Nat) (cur : Array Value) (R : List SegR), Blk W gS cur 49 ∧ SegCells cur R ∧ OwnToK W gS rows R i ∧ (∃ u : Nat → Value, a' = { tmps := #[u 0, .pointer (some ⟨w.heap.size, 0, none⟩), .pointer (some ⟨w.heap.size + 1, 0, none⟩), u 3, u 4, u 5, u 6, u 7, u 8, u 9, u 10, u 11, u 12, u 13, u 14, u 15, u 16, u 17, u 18, u 19, u 20, u 21, u 22, u 23, u 24, u 25, u 26, u 27, u 28, u 29, u 30, u 31, .slice (some ⟨gS, 0, none⟩) M capS, .int .i64 (M : Int), .int .i64 (i : Int), u 35, u 36, u 37, u 38, u 39, u 40, u 41, u 42, u 43, u 44, u 45, u 46, u 47, u 48, u 49, u 50, u 51, u 52, u 53, u 54, u 55, u 56, u 57, u 58, u 59, u 60, u 61, u 62, u 63, u 64, u 65, u 66], defers := [] }) ∧ i ≤ M
def ownNRel (w : World) (nm9 : ByteArray) (ep fl la sc : Int) (pP : Option Addr) (capP N : Nat) (pts : List (Int × Int)) (a' : Act) (W : World) : Prop :=
  Below w.heap.size w W ∧ Blk W w.heap.size #[.string nm9, .int .i64 ep, .int .i64 fl, .int .i64 la, .int .i64 sc, .slice none 0 0, .slice pP N capP] 26 ∧ Blk W (w.heap.size + 1) #[.string .empty, .int .i64 0, .int .i64 0, .int .i64 0, .int .i64 0, .slice none 0 0, .slice none 0 0] 26 ∧ PtRow W (w.heap.size + 1 + 1) pP pts ∧ (∃ u : Nat → Value, a' = { tmps := #[u 0, .pointer (some ⟨w.heap.size, 0, none⟩), .pointer (some ⟨w.heap.size + 1, 0, none⟩), u 3, u 4, u 5, u 6, u 7, u 8, u 9, u 10, u 11, u 12, u 13, u 14, u 15, u 16, u 17, u 18, u 19, u 20, u 21, u 22, u 23, u 24, u 25, u 26, u 27, u 28, u 29, u 30, u 31, .slice none 0 0, .int .i64 0, .int .i64 0, u 35, u 36, u 37, u 38, u 39, u 40, u 41, u 42, u 43, u 44, u 45, u 46, u 47, u 48, u 49, u 50, u 51, u 52, u 53, u 54, u 55, u 56, u 57, u 58, u 59, u 60, u 61, u 62, u 63, u 64, u 65, u 66], defers := [] })
end Go.Proofs.YtpdhdjlhicceoaaGreatDoor
namespace Go.Proofs.YtpdhdjlhicceoaaGreatDoor
open Go.RowKit
def CloneR0 (w : World) (p : Option Addr) (l : List RunT) (e : Ending) (w' : World) : Prop := ∃ p' cap', e = .returned (.slice p' l.length cap') ∧ Below w.heap.size w w' ∧ RunsIn w' p' l ∧ l.length ≤ cap' ∧ ∀ a, p' = some a → w.heap.size ≤ a.block ∧ a.off = 0
def CloneI0 (w : World) (p : Option Addr) (l : List Int) (e : Ending) (w' : World) : Prop := ∃ p' cap', e = .returned (.slice p' l.length cap') ∧ Below w.heap.size w w' ∧ IntsIn w' p' l ∧ l.length ≤ cap' ∧ ∀ a, p' = some a → w.heap.size ≤ a.block ∧ a.off = 0
set_option maxRecDepth 100000 in
set_option maxHeartbeats 2000000 in
theorem clone0Run_nil (w : World) : Calls Tryz.prog 45 #[.slice none 0 0] w (CloneR0 w none []) := by
  go_enter Tryz.func45, Tryz.ntmps45
  have hnil : ∀ W, (binOp .eql 44 (.slice none 0 0) (.slice none 0 0)).run Tryz.prog W = .ok (.bool true) W := fun W => by kernel_rfl
  go_wp2
  go_ret
  exact ⟨none, 0, rfl, belowAny, ⟨fun i r hr => by simp at hr⟩, by simp, fun a h => by cases h⟩
set_option maxRecDepth 100000 in
set_option maxHeartbeats 2000000 in
theorem clone0Run_some (a : Addr) (cap : Nat) (l : List RunT) (w : World) (hl : l.length ≤ 300) (h : RunsIn w (some a) l) : Calls Tryz.prog 45 #[.slice (some a) l.length cap] w (CloneR0 w (some a) l) := by
  have hnil : ∀ W, (binOp .eql 44 (.slice (some a) l.length cap) (.slice none 0 0)).run Tryz.prog W = .ok (.bool false) W := fun W => Lib.run_eql_slice_nil W 44 69 _ _ _ _ _ (by kernel_rfl)
  go_enter Tryz.func45, Tryz.ntmps45
  go_upto_region 3 with (fail)
  clear hnil
  have hmk : ∀ W, (Instr.buildSlice 44 0 #[]).run Tryz.prog W = .ok (.slice (some ⟨W.heap.size, 0, none⟩) 0 0) (W.alloc (.cells #[] 69)) := fun W => by kernel_rfl
  obtain ⟨i, hi, hz0, hz1, hz2⟩ := info_parts Tryz.infoRun
  have hW : Below w.heap.size w (w.alloc (.cells #[] 69)) := belowAny
  have hown0 := World.ownsRow_made (e := 69) (size := 3) (base := w.heap.size) w #[] 0 (Nat.le_refl _) (by simp [maxLen]) (by simp)
  go_wp2_with (at_builtin; refine wpList_append_own _ rfl (.tmp 5) (.tmp 6) 44 rfl w.heap.size 69 i _ 3 24 (by kernel_rfl) hi hz0 hz1 hz2 rfl (by omega) _ 0 [] rfl hown0 a l.length cap (flatCells l) rfl (by rw [length_flatCells]) ((h.below hW).flat) (fun v hv => by obtain ⟨x, rfl⟩ := flat_mem l v hv; rfl) (by simp [maxLen]; omega) (by omega) (by simp) ?_)
  intro v' w' hown hgr _
  have hB := Lib.hid (clone_below hgr)
  replace hown := Lib.hid hown
  clear hgr
  go_wp2
  go_ret
  obtain ⟨_, h2 | ⟨g, cap', cur, rfl, hg, hb, hn, _, hc, ht⟩⟩ := hown.out
  · obtain ⟨rfl, h0⟩ := h2
    have h0' : l.length = 0 := by omega
    exact ⟨none, 0, by rw [h0']; rfl, hB.out, ⟨fun i r hr => by rw [List.getElem?_eq_none_iff.2 (by omega)] at hr; cases hr⟩, by omega, fun a h => by cases h⟩
  · exact ⟨some ⟨g, 0, none⟩, cap', by simp, hB.out, cloneRun_in hb (by simpa using ht), by omega, fun a h => by cases h; exact ⟨hg, rfl⟩⟩
set_option maxRecDepth 100000 in
set_option maxHeartbeats 2000000 in
theorem clone0Int_nil (w : World) : Calls Tryz.prog 46 #[.slice none 0 0] w (CloneI0 w none []) := by
  go_enter Tryz.func46, Tryz.ntmps46
  have hnil : ∀ W, (binOp .eql 47 (.slice none 0 0) (.slice none 0 0)).run Tryz.prog W = .ok (.bool true) W := fun W => by kernel_rfl
  go_wp2
  go_ret
  exact ⟨none, 0, rfl, belowAny, ⟨fun i r hr => by simp at hr⟩, by simp, fun a h => by cases h⟩
set_option maxRecDepth 100000 in
set_option maxHeartbeats 2000000 in
theorem clone0Int_some (a : Addr) (cap : Nat) (l : List Int) (w : World) (hl : l.length ≤ 300) (h : IntsIn w (some a) l) : Calls Tryz.prog 46 #[.slice (some a) l.length cap] w (CloneI0 w (some a) l) := by
  have hnil : ∀ W, (binOp .eql 47 (.slice (some a) l.length cap) (.slice none 0 0)).run Tryz.prog W = .ok (.bool false) W := fun W => Lib.run_eql_slice_nil W 47 2 _ _ _ _ _ (by kernel_rfl)
  go_enter Tryz.func46, Tryz.ntmps46
  go_upto_region 3 with (fail)
  clear hnil
  have hmk : ∀ W, (Instr.buildSlice 47 0 #[]).run Tryz.prog W = .ok (.slice (some ⟨W.heap.size, 0, none⟩) 0 0) (W.alloc (.cells #[] 2)) := fun W => by kernel_rfl
  obtain ⟨i, hi, hz0, hz1, hz2⟩ := info_parts Tryz.infoInt
  have hW : Below w.heap.size w (w.alloc (.cells #[] 2)) := belowAny
  have hown0 := World.ownsRow_made (e := 2) (size := 1) (base := w.heap.size) w #[] 0 (Nat.le_refl _) (by simp [maxLen]) (by simp)
  go_wp2_with (at_builtin; refine wpList_append_own _ rfl (.tmp 5) (.tmp 6) 47 rfl w.heap.size 2 i _ 1 8 (by kernel_rfl) hi hz0 hz1 hz2 rfl (by omega) _ 0 [] rfl hown0 a l.length cap (l.map (Value.int .i64)) rfl (by simp) (fun j u hu => ints_flat (h.below hW) j u hu) (fun v hv => by simp only [List.mem_map] at hv; obtain ⟨x, _, rfl⟩ := hv; rfl) (by simp [maxLen]; omega) (by omega) (by simp) ?_)
  intro v' w' hown hgr _
  have hB := Lib.hid (clone_below hgr)
  replace hown := Lib.hid hown
  clear hgr
  go_wp2
  go_ret
  obtain ⟨_, h2 | ⟨g, cap', cur, rfl, hg, hb, hn, _, hc, ht⟩⟩ := hown.out
  · obtain ⟨rfl, h0⟩ := h2
    have h0' : l.length = 0 := by omega
    exact ⟨none, 0, by rw [h0']; rfl, hB.out, ⟨fun i r hr => by rw [List.getElem?_eq_none_iff.2 (by omega)] at hr; cases hr⟩, by omega, fun a h => by cases h⟩
  · exact ⟨some ⟨g, 0, none⟩, cap', by simp, hB.out, cloneInt_in hb (by simpa using ht), by omega, fun a h => by cases h; exact ⟨hg, rfl⟩⟩
theorem c_CloneRun0 (p : Option Addr) (cap : Nat) (l : List RunT) (w : World) (hl : l.length ≤ 300) (h : RunsIn w p l) (hn : p = none → l.length = 0 ∧ cap = 0) :
    Calls Tryz.prog 45 #[.slice p l.length cap] w (CloneR0 w p l) := by
  cases p with
  | none =>
    obtain ⟨h1, rfl⟩ := hn rfl
    have e : l = [] := List.length_eq_zero_iff.1 h1
    subst e
    exact clone0Run_nil w
  | some a => exact clone0Run_some a cap l w hl h
theorem c_CloneInt0 (p : Option Addr) (cap : Nat) (l : List Int) (w : World) (hl : l.length ≤ 300) (h : IntsIn w p l) (hn : p = none → l.length = 0 ∧ cap = 0) :
    Calls Tryz.prog 46 #[.slice p l.length cap] w (CloneI0 w p l) := by
  cases p with
  | none =>
    obtain ⟨h1, rfl⟩ := hn rfl
    have e : l = [] := List.length_eq_zero_iff.1 h1
    subst e
    exact clone0Int_nil w
  | some a => exact clone0Int_some a cap l w hl h
end Go.Proofs.YtpdhdjlhicceoaaGreatDoor
