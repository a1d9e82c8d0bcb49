/- Parts of the proof that follows: A region that draws its order, in which one step writes into a block of the call's own, and what that block holds is told before and behind: the step may stand ahead of some that only read. No condition. | The laws of chapter 26: own. No condition. -/
import Derived.Test.YtidfcoooccblaaaGreatTogether19
set_option maxRecDepth 100000
set_option maxHeartbeats 8000000
set_option linter.unusedSimpArgs false
set_option linter.unusedVariables false
namespace Go.Proofs.YtidfcoooccblaaaGreat
open Go.RowKit
section
variable {P : Program} {ops : Array Oper} {C : World -> Prop} {X : List (Nat × Nat)} {a0 : Act} {n : Nat} {Q : Exit -> Act -> World -> Prop}
theorem inv_putS {m i : Nat} {o : Oper} {Ψ : Nat -> Spec} {listed : Array Bool} {a : Act} {w w' : World} {u : Value} (hok : Ok ops n m) (hm : m = a0.tmps.size) (hC : ∀ i, i < n -> ∀ u w w', C w -> Rex (priv X i) w w' -> Ψ i u w' -> C w')
  (hcl : ∀ i, i < n -> Closed (others X i) (Ψ i)) (inv : Inv ops C a0 n Ψ listed a w) (hr : i ∈ Region.ready .any ops listed) (hi : i < n) (ho : ops[i]? = some o)
  (hR : Rex (priv X i) w w') (hΨ : Ψ i u w') (hnew : isAlloc o = true -> u = undef ∨ NewPtr w w' u) : Inv ops C a0 n Ψ (listed.setIfInBounds i true) (a.put o.dst u) w' := by
 obtain ⟨hun, o', ho', hall⟩ := mem_ready.1 hr
 obtain rfl : o' = o := by rw [ho] at ho'; injection ho' with h; exact h.symm
 have hil : i < listed.size := by rw [inv.lsize]; exact (Array.getElem?_eq_some_iff.1 ho).1
 have hwi : wrOf ops i = o'.dst := by simp [wrOf, ho]
 have hset : ∀ j, (listed.setIfInBounds i true).getD j false = true -> j = i ∨ listed.getD j false = true := by
  intro j hj
  by_cases hji : j = i
  ·exact .inl hji
  ·exact .inr (by rwa [getD_set_ne false (Ne.symm hji)] at hj)
 have hdsz : ∀ d, o'.dst = some d -> d < a.tmps.size := fun d hd => by rw [inv.size, <- hm]; exact hok.dst i d hi (by rw [hwi, hd])
 have hkeep : ∀ s, o'.dst ≠ some s -> (a.put o'.dst u).tmps.getD s undef = a.tmps.getD s undef := by
  intro s hs
  cases hd : o'.dst with
  | none => rfl
  | some d => exact getD_put_ne (fun e => hs (by rw [hd, e]))
 have hput : ∀ d, o'.dst = some d -> (a.put o'.dst u).tmps.getD d undef = u := by
  intro d hd
  rw [hd]
  exact getD_put_eq (hdsz d hd)
 have hclosed : ∀ j, j < n -> j ≠ i -> ∀ v, Ψ j v w -> Ψ j v w' := fun j hj hji v hv => hcl j hj v w w' (hR.more (priv_sub (Ne.symm hji))) hv
 have hother : ∀ j, j < n -> j ≠ i -> ∀ d, wrOf ops j = some d -> o'.dst ≠ some d := fun j hj hji d hd e => hji (hok.uniq j i d hj hi hd (by rw [hwi, e]))
 refine ⟨hC i hi u _ _ inv.c hR hΨ, ?_, ?_, by simp [inv.lsize], ?_, ?_, ?_, ?_, ?_, ?_⟩
 ·cases hd : o'.dst <;> simp [Act.put, inv.size]
 ·cases hd : o'.dst <;> simp [Act.put, inv.defers]
 ·intro j oj hj hl e he hb
  rcases hset j hl with rfl | hl
  ·have : oj = o' := by rw [ho] at hj; injection hj with h; exact h.symm
   subst this
   exact getD_set_true (hall e he hb)
  ·exact getD_set_true (inv.down j oj hj hl e he hb)
 ·intro j hj hl d hd
  by_cases hji : j = i
  ·subst hji
   rw [hput d (by rw [<- hwi, hd])]
   exact hΨ
  ·rw [hkeep d (hother j hj hji d hd)]
   exact hclosed j hj hji _ (inv.val j hj ((hset j hl).resolve_left hji) d hd)
 ·intro j hj hl hd
  by_cases hji : j = i
  ·subst hji; exact ⟨u, hΨ⟩
  ·obtain ⟨u', hu'⟩ := inv.eff j hj ((hset j hl).resolve_left hji) hd
   exact ⟨u', hclosed j hj hji _ hu'⟩
 ·intro s hs
  have h1 : o'.dst ≠ some s := by
   have := hs i hi (by simp [hil])
   rwa [hwi] at this
  rw [hkeep s h1]
  exact inv.old s fun j hj hl => hs j hj (getD_set_true hl)
 ·intro j oj d hj hl hoj hal hd x hx
  by_cases hji : j = i
  ·subst hji
   have : oj = o' := by rw [ho] at hoj; injection hoj with h; exact h.symm
   subst this
   rw [hput d hd] at hx
   rcases hnew hal with h | ⟨b, h, _, hb⟩
   ·rw [h] at hx; simp [undef] at hx
   ·rw [h] at hx; injection hx with hx; injection hx with hx; subst hx; exact hb
  ·have hne := hother j hj hji d (by simp [wrOf, hoj, hd])
   rw [hkeep d hne] at hx
   exact Nat.lt_of_lt_of_le (inv.new j oj d hj ((hset j hl).resolve_left hji) hoj hal hd x hx) hR.size
 ·intro j oj d k ok d' hj hk hjk hlj hlk hoj hok' haj hak hd hd' x hx hx'
  by_cases hji : j = i
  ·subst hji
   have : oj = o' := by rw [ho] at hoj; injection hoj with h; exact h.symm
   subst this
   rw [hput d hd] at hx
   have hne := hother k hk (Ne.symm hjk) d' (by simp [wrOf, hok', hd'])
   rw [hkeep d' hne] at hx'
   have h2 := inv.new k ok d' hk ((hset k hlk).resolve_left (Ne.symm hjk)) hok' hak hd' x hx'
   rcases hnew haj with h | ⟨b, h, hb, _⟩
   ·rw [h] at hx; simp [undef] at hx
   ·rw [h] at hx; injection hx with hx; injection hx with hx; subst hx; simp at h2; omega
  ·by_cases hki : k = i
   ·subst hki
    have : ok = o' := by rw [ho] at hok'; injection hok' with h; exact h.symm
    subst this
    rw [hput d' hd'] at hx'
    have hne := hother j hj hji d (by simp [wrOf, hoj, hd])
    rw [hkeep d hne] at hx
    have h2 := inv.new j oj d hj ((hset j hlj).resolve_left hji) hoj haj hd x hx
    rcases hnew hak with h | ⟨b, h, hb, _⟩
    ·rw [h] at hx'; simp [undef] at hx'
    ·rw [h] at hx'; injection hx' with hx'; injection hx' with hx'; subst hx'; simp at h2; omega
   ·have hne := hother j hj hji d (by simp [wrOf, hoj, hd])
    have hne' := hother k hk hki d' (by simp [wrOf, hok', hd'])
    rw [hkeep d hne] at hx
    rw [hkeep d' hne'] at hx'
    exact inv.apart j oj d k ok d' hj hk hjk ((hset j hlj).resolve_left hji) ((hset k hlk).resolve_left hki) hoj hok' haj hak hd hd' x hx hx'
theorem inv_stepS {m i : Nat} {Ψ : Nat -> Spec} {listed : Array Bool} {a : Act} {w : World} (hok : Ok ops n m) (hm : m = a0.tmps.size) (hC : ∀ i, i < n -> ∀ u w w', C w -> Rex (priv X i) w w' -> Ψ i u w' -> C w')
  (hcl : ∀ i, i < n -> Closed (others X i) (Ψ i)) (hop : ∀ i o, i < n -> ops[i]? = some o -> okOp P ops C (priv X i) (envOf a0 (accAt ops Ψ i)) o (Ψ i))
  (inv : Inv ops C a0 n Ψ listed a w) (hr : i ∈ Region.ready .any ops listed) (hi : i < n) :
  wpOp P ops Q i (Inv ops C a0 n Ψ (listed.setIfInBounds i true)) a w := by
 obtain ⟨_, o, ho, _⟩ := mem_ready.1 hr
 obtain ⟨h1, h2⟩ := hop i o hi ho a w inv.c (inv_env hok inv hr hi ho)
 unfold wpOp
 simp only [ho]
 by_cases hw : Region.wanted o (yielded ops a.tmps) = true
 ·simp only [hw, if_true]
  refine .inl ?_
  have h1 := h1 hw
  unfold Oper.wp
  generalize (execOp a.eval o).run P w = r at h1
  cases r with
  | ok x w' =>
   cases x <;> simp only [runND] at h1 <;> simp only [Oper.upon]
   case value u => exact inv_putS hok hm hC hcl inv hr hi ho h1.1 h1.2.1 fun ha => .inr (h1.2.2 ha)
   case skip => exact inv_putS hok hm hC hcl inv hr hi ho h1.1 h1.2.1 fun ha => by rw [h1.2.2] at ha; cases ha
   case enter f args =>
    obtain ⟨rfl, hna, hc⟩ := h1
    refine hc.mono fun e w'' ⟨u, he, hR, hΦ⟩ => ?_
    subst he
    exact inv_putS hok hm hC hcl inv hr hi ho hR hΦ fun ha => by rw [hna] at ha; cases ha
  | halt x w' => simp only [runND] at h1
 ·have hw' : Region.wanted o (yielded ops a.tmps) = false := by simpa using hw
  simp only [hw', Bool.false_eq_true, if_false]
  exact inv_putS hok hm hC hcl inv hr hi ho (Rex.refl _ _) (h2 hw') fun _ => .inl rfl
theorem nd_tailS {m : Nat} {Ψ : Nat -> Spec} (hok : Ok ops n m) (hm : m = a0.tmps.size) (hC : ∀ i, i < n -> ∀ u w w', C w -> Rex (priv X i) w w' -> Ψ i u w' -> C w')
  (hcl : ∀ i, i < n -> Closed (others X i) (Ψ i)) (hop : ∀ i o, i < n -> ops[i]? = some o -> okOp P ops C (priv X i) (envOf a0 (accAt ops Ψ i)) o (Ψ i))
  (hQ : ∀ c a d v w, Q (.panic c) (Act.put a d v) w -> Q (.panic c) a w)
  (hFin : ∀ a w, (∃ listed, Inv ops C a0 n Ψ listed a w /\ ∀ i, i < n -> listed.getD i false = true) -> wpList P ops Q (ops.toList.drop n) a w) :
  ∀ (f : Nat) (listed : Array Bool) (a : Act) (w : World), Inv ops C a0 n Ψ listed a w -> listed.toList.count false = f ->
   (∀ i o, i < n -> ops[i]? = some o -> pureB o = false -> listed.getD i false = true) -> (∀ t, n <= t -> listed.getD t false = false) -> wpAny P .any ops Q f listed a w := by
 intro f
 induction f with
 | zero =>
  intro listed a w inv hcnt hnp htl
  have hall : ∀ i, i < ops.size -> listed.getD i false = true := by
   intro i hi
   have h0 : ¬ false ∈ listed.toList := by rw [<- List.count_eq_zero]; exact hcnt
   have hi' : i < listed.size := by rw [inv.lsize]; exact hi
   cases hb : listed[i] with
   | true => simp [hi', hb]
   | false => exact absurd (by rw [<- hb]; exact Array.mem_toList_iff.2 (Array.getElem_mem hi')) h0
  have hn : n = ops.size := by
   rcases Nat.lt_or_ge n ops.size with h | h
   ·have := htl n (Nat.le_refl _); rw [hall n h] at this; cases this
   ·exact Nat.le_antisymm hok.le h
  have hready : Region.ready .any ops listed = [] := by
   apply List.eq_nil_iff_forall_not_mem.2
   intro k hk
   obtain ⟨h1, o, ho, _⟩ := mem_ready.1 hk
   have hk' := (Array.getElem?_eq_some_iff.1 ho).1
   have h2 := hall k hk'
   simp [inv.lsize, hk'] at h1 h2
   rw [h1] at h2; cases h2
  have := hFin a w ⟨listed, inv, fun i hi => hall i (by omega)⟩
  rw [hn, List.drop_eq_nil_of_le (by simp)] at this
  exact ⟨hready, this⟩
 | succ f ih =>
  intro listed a w inv hcnt hnp htl
  by_cases hbody : ∀ i, i < n -> listed.getD i false = true
  ·-- only the tail is left
   have hl : listed = (Array.replicate n true) ++ Array.replicate (ops.size - n) false := by
    have hle := hok.le
    apply Array.ext
    ·simp [inv.lsize]; omega
    ·intro i h1 h2
     by_cases hi : i < n
     ·have := hbody i hi
      simp [h1] at this
      simp [hi, this]
     ·have := htl i (by omega)
      simp [h1] at this
      simp [Array.getElem_append, hi, this]
   have hc : listed.toList.count false = ops.size - n := by
    rw [hl]; simp [List.count_replicate]
   have hseq := hok.seq
   unfold seqTailB at hseq
   rw [<- hl] at hseq
   have hlen : (ops.toList.drop n).length = ops.size - n := by simp
   have := wpAny_of_seq (P := P) (md := .any) (Q' := Q) (ops.toList.drop n) n listed a w (fun j => by rw [List.getElem?_drop]; simp) (by rw [hlen]; exact hseq) (hFin a w ⟨listed, inv, hbody⟩)
   rw [hlen] at this
   have he : ops.size - n = f + 1 := by omega
   rwa [he] at this
  ·obtain ⟨i0, hi0⟩ := Classical.not_forall.1 hbody
   obtain ⟨hi0n, hi0l⟩ := Classical.not_imp.1 hi0
   have hle := hok.le
   obtain ⟨k, hk1, hk2, hk3⟩ := least_ready hok inv.lsize i0 (by omega) (by simpa using hi0l)
   obtain ⟨hun, o, ho, _⟩ := mem_ready.1 hk2
   have hks : k < listed.size := by rw [inv.lsize]; exact (Array.getElem?_eq_some_iff.1 ho).1
   have hunf := getD_false_of hks hun
   have hp : pureB o = true := by
    cases h : pureB o with
    | true => rfl
    | false => have := hnp k o (by omega) ho h; rw [hunf] at this; cases this
   obtain ⟨h1, h2⟩ := hop k o (by omega) ho a w inv.c (inv_env hok inv hk2 (by omega) ho)
   have hapart : ∀ j oj, ops[j]? = some oj -> j ≠ k -> listed.getD j true = false -> (∀ e ∈ oj.after, Region.binds .any e = true -> e.on ≠ k) -> o.apart ops oj = true := by
    intro j oj hj hjk hjl hno
    have hjs : j < listed.size := by rw [inv.lsize]; exact (Array.getElem?_eq_some_iff.1 hj).1
    have hkj : k < j := by
     rcases Nat.lt_or_ge j k with h | h
     ·have := hk3 j h; rw [getD_false_of hjs hjl] at this; cases this
     ·omega
    rcases hok.late k o (by omega) ho with ⟨_, h⟩ | ⟨h, _⟩
    ·refine h j oj hj hkj ?_
     cases hd : dirB ops j k with
     | false => rfl
     | true =>
      simp only [dirB, hj] at hd
      obtain ⟨e, hem, hb⟩ := Array.any_eq_true'.1 hd
      simp only [Bool.and_eq_true, beq_iff_eq] at hb
      exact absurd hb.2 (hno e hem hb.1)
    ·rw [hp] at h; cases h
   have hcnt' : (listed.setIfInBounds k true).toList.count false = f := by
    have hg : listed.toList[k]? = some false := by simp [hks] at hunf; simp [hks, hunf]
    have := count_set listed.toList k hg
    rw [Array.toList_setIfInBounds]; omega
   have hrest : ∀ v, Inv ops C a0 n Ψ (listed.setIfInBounds k true) (a.put o.dst v) w -> wpAny P .any ops Q f (listed.setIfInBounds k true) (a.put o.dst v) w := fun v hinv =>
    ih _ _ _ hinv hcnt' (fun i oi hi hoi hpi => getD_set_true (hnp i oi hi hoi hpi)) (fun t ht => by rw [getD_set_ne false (by omega)]; exact htl t ht)
   by_cases hw : Region.wanted o (yielded ops a.tmps) = true
   ·obtain ⟨v, hv, hrun⟩ := pure_yields hp (h1 hw)
    refine wpAny_first ho (Region.noSelect_spec hok.nosel) (fun c a w h => hQ c a _ _ w h) f listed a w hapart hk2 (.inl ⟨hw, hrun⟩) (hrest v ?_)
    exact inv_putS hok hm hC hcl inv hk2 (by omega) ho (Rex.refl _ _) hv fun ha => by
     unfold isAlloc at ha; unfold pureB at hp; cases hop : o.op <;> rw [hop] at ha hp <;> simp at ha hp
   ·have hw' : Region.wanted o (yielded ops a.tmps) = false := by simpa using hw
    refine wpAny_first ho (Region.noSelect_spec hok.nosel) (fun c a w h => hQ c a _ _ w h) f listed a w hapart hk2 (.inr ⟨hw', rfl⟩) (hrest undef ?_)
    exact inv_putS hok hm hC hcl inv hk2 (by omega) ho (Rex.refl _ _) (h2 hw') fun _ => .inl rfl
theorem nd_anyS {m : Nat} {Ψ : Nat -> Spec} (hok : Ok ops n m) (hm : m = a0.tmps.size) (hC : ∀ i, i < n -> ∀ u w w', C w -> Rex (priv X i) w w' -> Ψ i u w' -> C w')
  (hcl : ∀ i, i < n -> Closed (others X i) (Ψ i)) (hop : ∀ i o, i < n -> ops[i]? = some o -> okOp P ops C (priv X i) (envOf a0 (accAt ops Ψ i)) o (Ψ i))
  (hQ : ∀ c a d v w, Q (.panic c) (Act.put a d v) w -> Q (.panic c) a w)
  (hFin : ∀ a w, (∃ listed, Inv ops C a0 n Ψ listed a w /\ ∀ i, i < n -> listed.getD i false = true) -> wpList P ops Q (ops.toList.drop n) a w) :
  ∀ (f : Nat) (listed : Array Bool) (a : Act) (w : World), Inv ops C a0 n Ψ listed a w -> listed.toList.count false = f -> (∀ t, n <= t -> listed.getD t false = false) -> wpAny P .any ops Q f listed a w := by
 intro f
 induction f with
 | zero => exact fun listed a w inv hcnt htl => nd_tailS hok hm hC hcl hop hQ hFin 0 listed a w inv hcnt (fun i o hi ho _ => by
   have h0 : ¬ false ∈ listed.toList := by rw [<- List.count_eq_zero]; exact hcnt
   have hi' : i < listed.size := by rw [inv.lsize]; exact (Array.getElem?_eq_some_iff.1 ho).1
   cases hb : listed[i] with
   | true => simp [hi', hb]
   | false => exact absurd (by rw [<- hb]; exact Array.mem_toList_iff.2 (Array.getElem_mem hi')) h0) htl
 | succ f ih =>
  intro listed a w inv hcnt htl
  by_cases hnp : ∀ i o, i < n -> ops[i]? = some o -> pureB o = false -> listed.getD i false = true
  ·exact nd_tailS hok hm hC hcl hop hQ hFin (f + 1) listed a w inv hcnt hnp htl
  ·have : ∃ i o, i < n /\ ops[i]? = some o /\ pureB o = false /\ listed.getD i false = false := by
    apply Classical.byContradiction
    intro hno
    exact hnp fun i o hi ho hp => by
     cases h : listed.getD i false with
     | true => rfl
     | false => exact absurd ⟨i, o, hi, ho, hp, h⟩ hno
   obtain ⟨i0, o0, hi0, ho0, hp0, hl0⟩ := this
   have hle := hok.le
   obtain ⟨k, hk1, hk2, hk3⟩ := least_ready hok inv.lsize i0 (by omega) hl0
   refine ⟨fun h => (by rw [h] at hk2; cases hk2), fun i hi => ?_⟩
   have hin : i < n := by
    rcases Nat.lt_or_ge i n with h | h
    ·exact h
    ·obtain ⟨_, o, ho, hall⟩ := mem_ready.1 hi
     rcases hok.late i0 o0 hi0 ho0 with ⟨h', _⟩ | ⟨_, h'⟩
     ·rw [hp0] at h'; cases h'
     ·have := anc_listed inv 8 i i0 o ho hall (h' i h (Array.getElem?_eq_some_iff.1 ho).1)
      rw [hl0] at this; cases this
   refine wpOp_mono (fun a' w' hinv => ih _ a' w' hinv ?_ fun t ht => by rw [getD_set_ne false (by omega)]; exact htl t ht) (inv_stepS hok hm hC hcl hop inv hi hin)
   obtain ⟨hun, o, ho, _⟩ := mem_ready.1 hi
   have his : i < listed.size := by rw [inv.lsize]; exact (Array.getElem?_eq_some_iff.1 ho).1
   have hunf := getD_false_of his hun
   have hg : listed.toList[i]? = some false := by simp [his] at hunf; simp [his, hunf]
   have := count_set listed.toList i hg
   rw [Array.toList_setIfInBounds]; omega
theorem wp_region_ndS {id : Nat} {l : List Oper} {w0 : World} (n m b : Nat) (C : World -> Prop) (hf : P.follows .mixedOrders = true) (hB : okB l.toArray (n + 1) m = true) (hm : m = a0.tmps.size)
  (h0 : C w0.drew) (hC : ∀ w w', C w -> Rex [] w w' -> C w') (hQ : ∀ c a d v w, Q (.panic c) (Act.put a d v) w -> Q (.panic c) a w) (o : Oper) (ho : l.toArray[n]? = some o)
  (h : ndWalk P l.toArray C [(n, b)] a0 (fun acc => ∃ Φ : Spec, Closed [] Φ /\ okOp P l.toArray C [b] (envOf a0 acc) o Φ /\ (∀ u w, Φ u w -> C w) /\ ∀ w, C w -> ndFinR w a0 ((o.dst, Φ) :: acc) fun a => wpList P l.toArray Q (l.drop (n + 1)) a w) 0 (l.take n) []) :
  (Code.region id l.toArray true).wp P Q a0 w0 := by
 have hok := ok_of_okB hB
 have hle : n + 1 <= l.length := by have := hok.le; simpa using this
 obtain ⟨Ψ0, _, h2, h3⟩ := walk_spec (ops := l.toArray) (l.take n) 0 [] (fun _ _ _ => True) (fun j hj => by simp at hj; simp [hj]) rfl h
 have hlen : 0 + (l.take n).length = n := by simp; omega
 rw [hlen] at h3
 obtain ⟨Φ, hc1, ho1, hΦC, hfin0⟩ := h3
 have pn : priv [(n, b)] n = [b] := by simp [priv]
 have on : others [(n, b)] n = [] := by simp [others]
 have pi : ∀ i, i ≠ n -> priv [(n, b)] i = [] := fun i hi => by simp [priv]; omega
 obtain ⟨Ψ, hΨ⟩ : ∃ Ψ : Nat -> Spec, Ψ = fun i => if i = n then Φ else Ψ0 i := ⟨_, rfl⟩
 have hΨn : Ψ n = Φ := by rw [hΨ]; simp
 have hΨi : ∀ i, i < n -> Ψ i = Ψ0 i := fun i hi => by rw [hΨ]; simp; omega
 have hacc : ∀ k, k <= n -> accAt l.toArray Ψ k = accAt l.toArray Ψ0 k := fun k hk => accAt_congr k fun i hi => hΨi i (by omega)
 have hcl : ∀ i, i < n + 1 -> Closed (others [(n, b)] i) (Ψ i) := fun i hi => by
  by_cases hin : i = n
  ·subst hin; rw [hΨn, on]; exact hc1
  ·rw [hΨi i (by omega)]; exact (h2 i (by omega) (by omega)).1
 have hop : ∀ i o, i < n + 1 -> l.toArray[i]? = some o -> okOp P l.toArray C (priv [(n, b)] i) (envOf a0 (accAt l.toArray Ψ i)) o (Ψ i) := fun i o1 hi ho' => by
  by_cases hin : i = n
  ·subst hin
   rw [ho] at ho'; injection ho' with e; subst e
   rw [hΨn, pn, hacc i (Nat.le_refl _)]; exact ho1
  ·obtain ⟨_, o', ho'', h⟩ := h2 i (by omega) (by omega)
   rw [ho''] at ho'; injection ho' with e; subst e
   rw [hΨi i (by omega), hacc i (by omega)]; exact h
 have hCC : ∀ i, i < n + 1 -> ∀ u w w', C w -> Rex (priv [(n, b)] i) w w' -> Ψ i u w' -> C w' := fun i hi u w w' hw hR hu => by
  by_cases hin : i = n
  ·subst hin; rw [hΨn] at hu; exact hΦC u w' hu
  ·rw [pi i hin] at hR; exact hC w w' hw hR
 refine wp_region_any hf ?_
 refine nd_anyS (X := [(n, b)]) hok hm hCC hcl hop hQ ?_ _ _ _ _ ⟨h0, rfl, rfl, by simp, ?_, ?_, ?_, ?_, ?_, ?_⟩ (by simp) (fun t _ => getD_replicate_false _ t)
 ·rintro a w ⟨listed, inv, hall⟩
  have hex : ∀ i, ∃ v, i < n + 1 -> Ψ i v w /\ ∀ d, wrOf l.toArray i = some d -> v = a.tmps.getD d undef := by
   intro i
   by_cases hi : i < n + 1
   ·cases hd : wrOf l.toArray i with
    | none =>
     obtain ⟨u, hu⟩ := inv.eff i hi (hall i hi) hd
     exact ⟨u, fun _ => ⟨hu, fun d h => by cases h⟩⟩
    | some d => exact ⟨a.tmps.getD d undef, fun _ => ⟨inv.val i hi (hall i hi) d hd, fun d' h => by injection h with h; rw [h]⟩⟩
   ·exact ⟨undef, fun h => absurd h hi⟩
  let val : Nat -> Value := fun i => (hex i).choose
  have hval : ∀ i, i < n + 1 -> Ψ i (val i) w /\ ∀ d, wrOf l.toArray i = some d -> val i = a.tmps.getD d undef := fun i hi => (hex i).choose_spec hi
  have ha : a = puts l.toArray val a0 (n + 1) := by
   have ht : a.tmps = (puts l.toArray val a0 (n + 1)).tmps := by
    apply Array.ext
    ·rw [puts_size, inv.size]
    ·intro s h1 h2
     have hg : a.tmps.getD s undef = (puts l.toArray val a0 (n + 1)).tmps.getD s undef := by
      by_cases hw : ∃ i, i < n + 1 /\ wrOf l.toArray i = some s
      ·obtain ⟨i, hi, hw⟩ := hw
       rw [puts_some hok hm val s (n + 1) (Nat.le_refl _) i hi hw, (hval i hi).2 s hw]
      ·rw [puts_none val s (n + 1) fun i hi hwi => hw ⟨i, hi, hwi⟩]
       exact inv.old s fun i hi _ hwi => hw ⟨i, hi, hwi⟩
     simpa [h1, h2] using hg
   have hd : a.defers = (puts l.toArray val a0 (n + 1)).defers := by rw [puts_defers, inv.defers]
   cases a; cases hp : puts l.toArray val a0 (n + 1); rw [hp] at ht hd; simp at ht hd; subst ht; subst hd; rfl
  have hlast : accAt l.toArray Ψ (n + 1) = (o.dst, Φ) :: accAt l.toArray Ψ0 n := by
   show (wrOf l.toArray n, Ψ n) :: accAt l.toArray Ψ n = _
   rw [hΨn, hacc n (Nat.le_refl _)]
   simp [wrOf, ho]
  have hfin1 := hfin0 w inv.c
  rw [<- hlast] at hfin1
  have hfin := fin_of (ops := l.toArray) (a0 := a0) (val := val) (n + 1) _ (fun i hi => (hval i hi).1) hfin1
  rw [<- ha] at hfin
  simpa using hfin
 ·intro i o ho hl; rw [getD_replicate_false] at hl; cases hl
 ·intro i hi hl; rw [getD_replicate_false] at hl; cases hl
 ·intro i hi hl; rw [getD_replicate_false] at hl; cases hl
 ·intro s _; rfl
 ·intro i o d hi hl; rw [getD_replicate_false] at hl; cases hl
 ·intro i o d j o' d' hi hj hij hl; rw [getD_replicate_false] at hl; cases hl
end
attribute [local simp] Oper.looksAt Op.operands Call.operands envOf Det GDet
def RowS (B : Nat) (e : TypeId) (n k : Nat) (news : List Value) : Spec := fun v w => ∃ g cap cur, v = .slice (some ⟨g, 0, none⟩) n cap /\ B <= g /\ Blk w g cur e /\ n <= cap /\ cur.toList.take k = news
theorem RowS.closed (B : Nat) (e : TypeId) (n k : Nat) (news : List Value) : Closed [] (RowS B e n k news) := fun _ _ _ hr ⟨g, c, cur, e1, h1, h, h2, h3⟩ => ⟨g, c, cur, e1, h1, h.rex hr (by simp), h2, h3⟩
def PtS (B N : Nat) (l : List (Int × Int)) : Spec := fun v w => (v = .slice none 0 0 /\ l = [] /\ N = 0) ∨ RowS B 91 N (N * 2) (flatPts l) v w
theorem PtS.closed (B N : Nat) (l : List (Int × Int)) : Closed [] (PtS B N l) := fun _ _ _ hr h => by
 rcases h with h | h
 ·exact .inl h
 ·exact .inr (RowS.closed _ _ _ _ _ _ _ _ hr h)
def ownK (s : SegT) : SegT := ⟨s.K, s.runs.take 257, s.A, s.R, s.n, s.d, s.raw.take 257, s.E⟩
structure OwnSegK (W : World) (g : Nat) (r0 r : SegR) : Prop where
 says : r.s = ownK r0.s
 runs : RunsIn W r.p r.s.runs
 raw : IntsIn W r.q r.s.raw
 capV : r.s.raw.length <= r.vc
 farR : ∀ a, r.p = some a -> g < a.block
 farV : ∀ a, r.q = some a -> g < a.block
theorem OwnSegK.rex {W W' : World} {g : Nat} {r0 r : SegR} {L : List Nat} (h : OwnSegK W g r0 r) (hL : ∀ x, x ∈ L -> x <= g) (hr : Rex L W W') : OwnSegK W' g r0 r := ⟨h.says, h.runs.rex1 hL h.farR hr, h.raw.rex1 hL h.farV hr, h.capV, h.farR, h.farV⟩
structure OwnToK (W : World) (g : Nat) (rows R : List SegR) (i : Nat) : Prop where
 len : R.length = rows.length
 rest : ∀ k, i <= k -> R[k]? = rows[k]?
 own : ∀ k, k < i -> ∀ r, R[k]? = some r -> ∃ r0, rows[k]? = some r0 /\ OwnSegK W g r0 r
theorem OwnToK.start (W : World) (g : Nat) (rows : List SegR) : OwnToK W g rows rows 0 := ⟨rfl, fun _ _ => rfl, fun k h => by omega⟩
theorem OwnToK.rex {W W' : World} {g i : Nat} {rows R : List SegR} {L : List Nat} (h : OwnToK W g rows R i) (hL : ∀ x, x ∈ L -> x <= g) (hr : Rex L W W') : OwnToK W' g rows R i := ⟨h.len, h.rest, fun k hk r hR => by
 obtain ⟨r0, h1, h2⟩ := h.own k hk r hR
 exact ⟨r0, h1, h2.rex hL hr⟩⟩
theorem OwnToK.step {W : World} {g i : Nat} {rows R : List SegR} {r0 r1 : SegR} (h : OwnToK W g rows R i) (h0 : rows[i]? = some r0) (h1 : OwnSegK W g r0 r1) : OwnToK W g rows (R.set i r1) (i + 1) := ⟨by rw [List.length_set]; exact h.len, fun k hk => by rw [List.getElem?_set_ne (by omega)]; exact h.rest k (by omega), fun k hk r hR => by
 rw [List.getElem?_set] at hR
 split at hR
 ·rename_i e
  subst e
  split at hR
  ·injection hR with hR
   subst hR
   exact ⟨r0, h0, h1⟩
  ·cases hR
 ·exact h.own k (by omega) r hR⟩
theorem own_segsK {W W' : World} {g i : Nat} {rows R : List SegR} {cur : Array Value} {L : List Nat} (hb : Blk W' g cur 98) (hSC : SegCells cur R) (h : OwnToK W g rows R i) (hi : rows.length <= i) (hL : ∀ x, x ∈ L -> x <= g) (hr : Rex L W W') : SegsIn W' (some ⟨g, 0, none⟩) (rows.map fun r => ownK r.s) := ⟨fun k s hs => by
 obtain ⟨r0, h0, rfl⟩ : ∃ r0, rows[k]? = some r0 /\ ownK r0.s = s := by simpa using hs
 have hk : k < rows.length := (List.getElem?_eq_some_iff.1 h0).1
 obtain ⟨r, hR⟩ : ∃ r, R[k]? = some r := ⟨_, List.getElem?_eq_getElem (by rw [h.len]; exact hk)⟩
 obtain ⟨r0', h0', ow⟩ := h.own k (by omega) r hR
 rw [h0] at h0'
 injection h0' with h0'
 subst h0'
 have ow' := ow.rex hL hr
 refine ⟨g, 0, r.p, r.q, r.cap, r.vc, rfl, fun j v hv => ?_, ?_, ?_⟩
 ·rw [show 0 + k * 8 + j = k * 8 + j by omega]
  rw [<- ow'.says] at hv
  exact (hb.cell _).trans (hSC k r hR j v hv)
 ·rw [<- ow'.says]
  exact ⟨ow'.runs, ow'.raw, by rw [ow'.says]; show (r0.s.runs.take 257).length <= 300; rw [List.length_take]; omega, by rw [ow'.says]; show (r0.s.raw.take 257).length <= 300; rw [List.length_take]; omega⟩
 ·rw [<- ow'.says]
  exact ow'.capV⟩
structure PtRow (w : World) (B : Nat) (p : Option Addr) (l : List (Int × Int)) : Prop where
 at' : (p = none /\ l = []) ∨ ∃ g cur k, p = some ⟨g, 0, none⟩ /\ B <= g /\ Blk w g cur 91 /\ cur.toList.take k = flatPts l
theorem PtRow.pts {w : World} {B : Nat} {p : Option Addr} {l : List (Int × Int)} (h : PtRow w B p l) : PtsIn w p l := by
 rcases h.at' with ⟨rfl, rfl⟩ | ⟨g, cur, k, rfl, _, hb, ht⟩
 ·exact ⟨fun i r hr => by simp at hr⟩
 ·exact pts_in hb ht
theorem PtRow.keep {w w' : World} {B : Nat} {p : Option Addr} {l : List (Int × Int)} (h : PtRow w B p l) (hk : ∀ g cs, B <= g -> Blk w g cs 91 -> Blk w' g cs 91) : PtRow w' B p l := by
 rcases h.at' with h | ⟨g, cur, k, e, hB, hb, ht⟩
 ·exact ⟨.inl h⟩
 ·exact ⟨.inr ⟨g, cur, k, e, hB, hk g cur hB hb, ht⟩⟩
theorem PtRow.below {w w' : World} {B : Nat} {p : Option Addr} {l : List (Int × Int)} (h : PtRow w B p l) (hb : Below w.heap.size w w') : PtRow w' B p l := h.keep fun _ _ _ h => h.below hb
theorem PtRow.mono {w : World} {B B' : Nat} {p : Option Addr} {l : List (Int × Int)} (h : PtRow w B p l) (hB : B' <= B) : PtRow w B' p l := by
 rcases h.at' with h | ⟨g, cur, k, e, h1, hb, ht⟩
 ·exact ⟨.inl h⟩
 ·exact ⟨.inr ⟨g, cur, k, e, Nat.le_trans hB h1, hb, ht⟩⟩
theorem PtRow.setO {w : World} {B o : Nat} {p : Option Addr} {l : List (Int × Int)} (h : PtRow w B p l) (ho : o < B) (i : Nat) (v : Value) : PtRow (w.setCell ⟨o, i, none⟩ v) B p l := h.keep fun g _ hg h => h.setO (by omega) i v
theorem PtRow.low {w w' : World} {B : Nat} {p : Option Addr} {l : List (Int × Int)} {L : List Nat} (h : PtRow w B p l) (hL : ∀ x, x ∈ L -> x < B) (hr : Rex L w w') : PtRow w' B p l := h.keep fun g c hB hg => hg.rex hr fun hm => by have := hL _ hm; omega
def Lasts (B : Nat) (w : World) (F : World -> Prop) : Prop := ∀ L W, (∀ x, x ∈ L -> x < B) -> Rex L w W -> F W
theorem PtRow.rex {w w' : World} {B gS : Nat} {cs : Array Value} {p : Option Addr} {l : List (Int × Int)} (h : PtRow w B p l) (hS : Blk w gS cs 98) (hr : Rex [gS] w w') : PtRow w' B p l := h.keep fun g c _ hg => hg.rex hr (by
 simp
 rintro rfl
 unfold Blk at hg hS
 rw [hS] at hg
 injection hg with hg
 injection hg with _ h2 _
 revert h2
 decide)
theorem PtS.form {B N : Nat} {l : List (Int × Int)} {v : Value} {w : World} (h : PtS B N l v w) : ∃ p cap, v = .slice p N cap /\ PtRow w B p l /\ N <= cap := by
 rcases h with ⟨rfl, rfl, rfl⟩ | ⟨g, cap, cur, rfl, hg, hb, hc, ht⟩
 ·exact ⟨none, 0, rfl, ⟨.inl ⟨rfl, rfl⟩⟩, Nat.le_refl _⟩
 ·exact ⟨_, cap, rfl, ⟨.inr ⟨g, cur, _, rfl, hg, hb, ht⟩⟩, hc⟩
def RunC (B K : Nat) (l : List RunT) : Spec := fun v w => ∃ p c, v = .slice p K c /\ RunsIn w p l /\ K <= c /\ ∀ a, p = some a -> B <= a.block
theorem RunC.closed (B K : Nat) (l : List RunT) : Closed [] (RunC B K l) := fun _ _ _ hr ⟨p, c, e, h, h2⟩ => ⟨p, c, e, h.rex hr rfl, h2⟩
def IntC (B K : Nat) (l : List Int) : Spec := fun v w => ∃ p c, v = .slice p K c /\ IntsIn w p l /\ K <= c /\ ∀ a, p = some a -> B <= a.block
theorem IntC.closed (B K : Nat) (l : List Int) : Closed [] (IntC B K l) := fun _ _ _ hr ⟨p, c, e, h, h2⟩ => ⟨p, c, e, h.below hr.below, h2⟩
theorem RunC.closedL (B K : Nat) (l : List RunT) {L : List Nat} (hL : ∀ x, x ∈ L -> x < B) : Closed L (RunC B K l) := fun v w w' hr ⟨p, c, e, h, h2, h3⟩ => ⟨p, c, e, ⟨fun i r hi => by
 obtain ⟨b, o, e1, q0, q1, q2⟩ := h.at' i r hi
 have hb := h3 _ e1
 have key : ∀ z v, w.cell? ⟨b, z, none⟩ = some v -> w'.cell? ⟨b, z, none⟩ = some v := fun z v hv => (World.cell?_of_block (hr.block b (cell_lt hv) (fun hx => by have := hL _ hx; simp at hb; omega))).trans hv
 exact ⟨b, o, e1, key _ _ q0, key _ _ q1, key _ _ q2⟩⟩, h2, h3⟩
theorem IntC.closedL (B K : Nat) (l : List Int) {L : List Nat} (hL : ∀ x, x ∈ L -> x < B) : Closed L (IntC B K l) := fun v w w' hr ⟨p, c, e, h, h2, h3⟩ => ⟨p, c, e, ⟨fun i r hi => by
 obtain ⟨b, o, e1, q0⟩ := h.at' i r hi
 have hb := h3 _ e1
 exact ⟨b, o, e1, (World.cell?_of_block (hr.block b (cell_lt q0) (fun hx => by have := hL _ hx; simp at hb; omega))).trans q0⟩⟩, h2, h3⟩
def own26Rel (w : World) (nm9 : ByteArray) (ep fl la sc : Int) (pP : Option Addr) (capP N : Nat) (rows : List SegR) (pts : List (Int × Int)) (M gS capS : Nat) (a' : Act) (W : World) : Prop :=
 Below w.heap.size w W /\ Blk W w.heap.size #[.string nm9, .int .i64 ep, .int .i64 fl, .int .i64 la, .int .i64 sc, .slice (some ⟨gS, 0, none⟩) M capS, .slice pP N capP] 25 /\ Blk W (w.heap.size + 1) #[.string .empty, .int .i64 0, .int .i64 0, .int .i64 0, .int .i64 0, .slice none 0 0, .slice none 0 0] 25 /\ PtRow W (w.heap.size + 1 + 1) pP pts /\ ∃ (i : Nat) (cur : Array Value) (R : List SegR), Blk W gS cur 98 /\ SegCells cur R /\ OwnToK W gS rows R i /\ (∃ u : Nat -> Value, a' = { tmps := #[u 0, .pointer (some ⟨w.heap.size, 0, none⟩), .pointer (some ⟨w.heap.size + 1, 0, none⟩), u 3, u 4, u 5, u 6, u 7, u 8, u 9, u 10, u 11, u 12, u 13, u 14, u 15, u 16, u 17, u 18, u 19, u 20, u 21, u 22, u 23, u 24, u 25, u 26, u 27, u 28, u 29, u 30, u 31, .slice (some ⟨gS, 0, none⟩) M capS, .int .i64 (M : Int), .int .i64 (i : Int), u 35, u 36, u 37, u 38, u 39, u 40, u 41, u 42, u 43, u 44, u 45, u 46, u 47, u 48, u 49, u 50, u 51, u 52, u 53, u 54, u 55, u 56, u 57, u 58, u 59, u 60, u 61, u 62, u 63, u 64, u 65, u 66], defers := [] }) /\ i <= M
theorem own26_w (nm : ByteArray) (ep fl la sc : Int) (ad : Addr) (po : Option Addr) (cs co : Nat) (rows : List SegR) (pts : List (Int × Int)) (w : World) (M N : Nat)
  (hsegs : SegsCame w (some ad) rows) (hpts : PtsIn w po pts) (hnilP : po = none -> pts.length = 0 /\ co = 0) (hcap : rows.length <= cs) (hcapP : pts.length <= co)
  (hM : M <= 12) (hMr : M <= rows.length) (EM : Hid ((if (12 : Int) < (rows.length : Int) then (12 : Int) else rows.length) = (M : Int))) (hMc : (M : Int) <= cs) (hM0 : 0 <= (M : Int))
  (hN : N <= 40) (hNr : N <= pts.length) (EN : Hid ((if (40 : Int) < (pts.length : Int) then (40 : Int) else pts.length) = (N : Int))) (hNc : (N : Int) <= co) (hN0 : 0 <= (N : Int)) (nm9 : ByteArray) (hnm : Hid ((nm.extract 0 (mn (nm.size : Int) 20).toNat) = nm9)) :
  Calls Tryz.prog 29 #[.agg #[.string nm, .int .i64 ep, .int .i64 fl, .int .i64 la, .int .i64 sc, .slice (some ad) rows.length cs, .slice po pts.length co]] w fun e w' => ∃ gS capS pP capP, e = .returned (.agg #[.string nm9, .int .i64 ep, .int .i64 fl, .int .i64 la, .int .i64 sc, .slice (some ⟨gS, 0, none⟩) M capS, .slice pP N capP]) /\ Below w.heap.size w w' /\ Lasts w.heap.size w' fun W => SegsIn W (some ⟨gS, 0, none⟩) ((rows.take M).map fun r => ownK r.s) /\ PtsIn W pP (pts.take N) := by
 have cS := Lib.hid (fun W B (hW : Below w.heap.size w W) (hBW : B <= W.heap.size) => (show Calls Tryz.prog 73 #[.slice (some ad) M cs] W fun e w' => ∃ v, e = .returned v /\ Below W.heap.size W w' /\ RowS B 98 M (M * 8) (flatSegs (rows.take M)) v w' from by
  have hl : (rows.take M).length = M := by rw [List.length_take]; omega
  have t := cloneSeg_some ad cs (rows.take M) W (by omega) ((hsegs.take M).below hW)
  rw [hl] at t
  refine t.mono ?_
  rintro e w' ⟨v, rfl, hB, g, c, cur, rfl, hg, h⟩
  exact ⟨_, rfl, hB, g, c, cur, rfl, Nat.le_trans hBW hg, h⟩))
 have cQ := Lib.hid (fun W B (hW : Below w.heap.size w W) (hBW : B <= W.heap.size) => (show Calls Tryz.prog 74 #[.slice po N co] W fun e w' => ∃ v, e = .returned v /\ Below W.heap.size W w' /\ PtS B N (pts.take N) v w' from by
  have hl : (pts.take N).length = N := by rw [List.length_take]; omega
  cases hpo : po with
  | none =>
   obtain ⟨h1, h2⟩ := hnilP hpo
   obtain rfl : N = 0 := by omega
   subst h2
   refine (clonePt_nil W).mono ?_
   rintro e w' ⟨rfl, hB⟩
   exact ⟨_, rfl, hB, .inl ⟨rfl, rfl, rfl⟩⟩
  | some a9 =>
   have t := clonePt_some a9 co (pts.take N) W (by omega) (hpo ▸ (hpts.take9 N).below hW)
   rw [hl] at t
   refine t.mono ?_
   rintro e w' ⟨v, rfl, hB, g, c, cur, rfl, hg, h⟩
   exact ⟨_, rfl, hB, .inr ⟨g, c, cur, rfl, Nat.le_trans hBW hg, h⟩⟩))
 go_enter Tryz.func29, Tryz.ntmps29
 have hmin : ∀ ts t x y w, (Builtin.min_ ts t #[.int .i64 x, .int .i64 y]).run Tryz.prog w = .ok (.int .i64 (mn x y)) w := fun ts t x y w => by simp [Builtin.min_, Builtin.min2, mn]
 have hm0 := mn_spec (nm.size : Int) 20
 have hm1 : 0 <= mn (nm.size : Int) 20 := by omega
 have hm2 : mn (nm.size : Int) 20 <= (nm.size : Int) := hm0.1
 clear hm0
 go_upto_region 2 with (fail)
 refine wp_facts (fun W' => Below w.heap.size w W' /\ Blk W' w.heap.size #[.string (nm.extract 0 (mn (nm.size : Int) 20).toNat), .int .i64 ep, .int .i64 fl, .int .i64 la, .int .i64 sc, .slice (some ad) rows.length cs, .slice po pts.length co] 25 /\ Blk W' (w.heap.size + 1) #[.string .empty, .int .i64 0, .int .i64 0, .int .i64 0, .int .i64 0, .slice none 0 0, .slice none 0 0] 25) ⟨by exact belowAny, by exact blkAny2, by exact blkAny2⟩ ?_
 rintro W1 ⟨hW, b1, b2⟩
 have z2 := hW.size
 have z3 := b1.lt
 have z4 := b2.lt
 clear hmin hm1 hm2
 rw [hnm.out] at b1
 have k1 := b1.cell
 have f1 := b1.frozen
 have k2 := b2.cell
 have f2 := b2.frozen
 go_upto_region 2 with (fail)
 clear k1 f1 k2 f2
 refine wp_facts (fun W' => Below w.heap.size w W' /\ Blk W' w.heap.size #[.string nm9, .int .i64 ep, .int .i64 fl, .int .i64 la, .int .i64 sc, .slice (some ad) rows.length cs, .slice po pts.length co] 25 /\ Blk W' (w.heap.size + 1) #[.string .empty, .int .i64 0, .int .i64 0, .int .i64 0, .int .i64 0, .slice none 0 0, .slice none 0 0] 25) ⟨by exact belowAny, by exact blkAny2, by exact blkAny2⟩ ?_
 clear b1 b2 hW
 rintro W5 ⟨hW, b1, b2⟩
 have z6 := hW.size
 have z7 := b1.lt
 have z8 := b2.lt
 refine wp_region_nd 17 67 [] (fun W' => Rex [] W5 W' /\ Blk W' w.heap.size #[.string nm9, .int .i64 ep, .int .i64 fl, .int .i64 la, .int .i64 sc, .slice (some ad) rows.length cs, .slice po pts.length co] 25 /\ Blk W' (w.heap.size + 1) #[.string .empty, .int .i64 0, .int .i64 0, .int .i64 0, .int .i64 0, .slice none 0 0, .slice none 0 0] 25) mixed (by kernel_rfl) rfl ⟨(Rex.refl _ _).drew, b1, b2⟩ (fun w w' ⟨h0, h1, h2⟩ hr => ⟨h0.trans hr, h1.rex hr (by simp <;> omega), h2.rex hr (by simp <;> omega)⟩) (fun c a d v w h => by cases d <;> exact h) ?_
 iterate 5
  apply nd_det (hg := rfl) (hal := rfl)
  ·intro a W' hC hE
   obtain ⟨_, k1, k2⟩ := hC
   have k1 := k1.cell
   first
    | (simp at hE; simp [go_sem, Act.eval, IntWalk.i64_left, hE, k1, k2]; try rfl)
    | (clear hE; simp [go_sem, Act.eval, IntWalk.i64_left, k1, k2]; try rfl)
 apply nd_det (.int .i64 ((M : Nat) : Int)) (hg := rfl) (hal := rfl)
 ·intro a' W' hC hE
  simp at hE
  simp [go_sem, Act.eval, hE, EM.out]
 apply nd_det (.slice (some ad) M cs) (hg := rfl) (hal := rfl)
 ·intro a' W' hC hE
  simp at hE
  simp [go_sem, Act.eval, hE, hMc, hM0, add_zero_map]
 apply nd_call (RowS W5.heap.size 98 M (M * 8) (flatSegs (rows.take M))) (hg := rfl) (hal := rfl)
 ·exact RowS.closed _ _ _ _ _
 ·intro a' W' hC hE
  simp at hE
  refine ⟨_, _, ?_, (cS.out W' W5.heap.size (hW.trans (hC.1.of_priv hW.size)) hC.1.size).mono ?_⟩
  ·simp [go_sem, Act.eval, hE]
   try rfl
  ·rintro e w' ⟨v, rfl, hB, hv⟩
   exact ⟨v, rfl, hB, hv⟩
 iterate 5
  apply nd_det (hg := rfl) (hal := rfl)
  ·intro a W' hC hE
   obtain ⟨_, k1, k2⟩ := hC
   have k1 := k1.cell
   first
    | (simp at hE; simp [go_sem, Act.eval, IntWalk.i64_left, hE, k1, k2]; try rfl)
    | (clear hE; simp [go_sem, Act.eval, IntWalk.i64_left, k1, k2]; try rfl)
 apply nd_det (.int .i64 ((N : Nat) : Int)) (hg := rfl) (hal := rfl)
 ·intro a' W' hC hE
  simp at hE
  simp [go_sem, Act.eval, hE, EN.out]
 apply nd_det (.slice po N co) (hg := rfl) (hal := rfl)
 ·intro a' W' hC hE
  simp at hE
  simp [go_sem, Act.eval, hE, hNc, hN0, add_zero_map]
 apply nd_call (PtS W5.heap.size N (pts.take N)) (hg := rfl) (hal := rfl)
 ·exact PtS.closed _ _ _
 ·intro a' W' hC hE
  simp at hE
  refine ⟨_, _, ?_, (cQ.out W' W5.heap.size (hW.trans (hC.1.of_priv hW.size)) hC.1.size).mono ?_⟩
  ·simp [go_sem, Act.eval, hE]
   try rfl
  ·rintro e w' ⟨v, rfl, hB, hv⟩
   exact ⟨v, rfl, hB, hv⟩
 iterate 1
  apply nd_det (hg := rfl) (hal := rfl)
  ·intro a W' hC hE
   obtain ⟨_, k1, k2⟩ := hC
   have k1 := k1.cell
   first
    | (simp at hE; simp [go_sem, Act.eval, IntWalk.i64_left, hE, k1, k2]; try rfl)
    | (clear hE; simp [go_sem, Act.eval, IntWalk.i64_left, k1, k2]; try rfl)
 rintro W9 ⟨hR, d1, d2⟩
 simp only [ndFinR, Det, forall_eq]
 intros
 repeat (rename GDet _ _ _ _ => hgd; clear hgd)
 simp only [Act.put, List.setIfInBounds_toArray, List.set_cons_zero, List.set_cons_succ, List.drop_succ_cons, List.drop_zero]
 replace hW := hW.trans (hR.of_priv hW.size)
 clear hR
 try clear b1 b2
 have b1 := d1
 clear d1
 have b2 := d2
 clear d2
 have z10 := hW.size
 rename RowS _ _ _ _ _ _ _ => hs
 obtain ⟨gS, capS, curS, rfl, hgS0, b3, hcS, htS⟩ := hs
 rename PtS _ _ _ _ _ => hp
 obtain ⟨pP, capP, rfl, hP, hcP⟩ := hp.form
 clear hp
 have hgS : w.heap.size + 1 < gS := by omega
 have y3 := b3.lt
 replace htS := Lib.hid htS
 have k1 := b1.cell
 have f1 := b1.frozen
 have k2 := b2.cell
 have f2 := b2.frozen
 have k3 := b3.cell
 have f3 := b3.frozen
 go_upto_region 3 with (fail)
 clear k1 f1 k2 f2 k3 f3
 refine wp_facts (fun W' => Below w.heap.size w W' /\ Blk W' w.heap.size #[.string nm9, .int .i64 ep, .int .i64 fl, .int .i64 la, .int .i64 sc, .slice (some ⟨gS, 0, none⟩) M capS, .slice pP N capP] 25 /\ Blk W' (w.heap.size + 1) #[.string .empty, .int .i64 0, .int .i64 0, .int .i64 0, .int .i64 0, .slice none 0 0, .slice none 0 0] 25 /\ Blk W' gS curS 98 /\ PtRow W' (w.heap.size + 1 + 1) pP (pts.take N)) ⟨by exact belowAny, by exact blkAny2, by exact blkAny2, by exact blkAny2, by exact ((hP.mono (by omega)).setO (by omega) _ _).setO (by omega) _ _⟩ ?_
 clear b1 b2 b3 hW
 rintro W11 ⟨hW, b1, b2, b3, b4⟩
 have z12 := hW.size
 have z13 := b1.lt
 have z14 := b2.lt
 have z15 := b3.lt
 have hP := b4
 clear b4
 have k1 := b1.cell
 have f1 := b1.frozen
 have k2 := b2.cell
 have f2 := b2.frozen
 have k3 := b3.cell
 have f3 := b3.frozen
 go_wp2
 refine wp_loop (own26Rel w nm9 ep fl la sc pP capP N (rows.take M) (pts.take N) M gS capS) (fun a' _ => M - (intAt (a'.tmps.getD 34 undef)).toNat) ?_ ?_
 ·have hl9 : (rows.take M).length = M := by rw [List.length_take]; omega
  exact ⟨belowAny, b1, b2, hP, 0, curS, rows.take M, b3, segCells_of htS.out hl9, OwnToK.start _ _ _, frame_ex rfl, Nat.zero_le _⟩
 clear hgS0 hcS htS hP b1 b2 b3 hW cS cQ hcP k1 f1 k2 f2 k3 f3
 rintro a' W ⟨hW0, b1, b2, hP, i, cur, R, b3, hSC, hOT, ⟨u, rfl⟩, hi'⟩
 have hz := hW0.size
 have zb1 := b1.lt
 have zb2 := b2.lt
 have zb3 := b3.lt
 rcases Nat.lt_or_ge i M with hiM | hiM
 ·have hlen9 : (rows.take M).length = M := by rw [List.length_take]; omega
  obtain ⟨r0, hr0⟩ : ∃ r, (rows.take M)[i]? = some r := ⟨_, List.getElem?_eq_getElem (by omega)⟩
  have hR0 : R[i]? = some r0 := (hOT.rest i (Nat.le_refl _)).trans hr0
  obtain ⟨b, o, _, _, hcm⟩ := (hsegs.take M) i r0 hr0
  have hnR := hcm.nilR
  have hnV := hcm.nilV
  obtain ⟨K1, hK1⟩ : ∃ K, (r0.s.runs.take 257).length = K := ⟨_, rfl⟩
  obtain ⟨K2, hK2⟩ : ∃ K, (r0.s.raw.take 257).length = K := ⟨_, rfl⟩
  have lK1 := hK1
  have lK2 := hK2
  rw [List.length_take] at lK1 lK2
  have EK1 := Lib.hid (show (if (257 : Int) < (r0.s.runs.length : Int) then (257 : Int) else r0.s.runs.length) = (K1 : Int) by split <;> omega)
  have EK2 := Lib.hid (show (if (257 : Int) < (r0.s.raw.length : Int) then (257 : Int) else r0.s.raw.length) = (K2 : Int) by split <;> omega)
  have hcR := hcm.capR
  have hcV := hcm.capV
  have hK1c : (K1 : Int) <= r0.cap := by omega
  have hK10 : (0 : Int) <= K1 := by omega
  have hK2c : (K2 : Int) <= r0.vc := by omega
  have hK20 : (0 : Int) <= K2 := by omega
  have cR := Lib.hid (fun W' B (hW' : Below w.heap.size w W') (hB : B <= W'.heap.size) => (show Calls Tryz.prog 75 #[.slice r0.p K1 r0.cap] W' fun e w' => ∃ v, e = .returned v /\ Below W'.heap.size W' w' /\ RunC B K1 (r0.s.runs.take 257) v w' from by
   have t := c_CloneRunO r0.p r0.cap (r0.s.runs.take 257) W' (by omega) ((hcm.runs.below hW').take 257) (fun e => ⟨by rw [(hnR e).1]; rfl, (hnR e).2⟩)
   rw [hK1] at t
   refine t.mono ?_
   rintro e w' ⟨p', c', rfl, hB', h1, h2, h3⟩
   rw [hK1] at h2 ⊢
   exact ⟨_, rfl, hB', p', c', rfl, h1, h2, fun a e => Nat.le_trans hB (h3 a e)⟩))
  have cI := Lib.hid (fun W' B (hW' : Below w.heap.size w W') (hB : B <= W'.heap.size) => (show Calls Tryz.prog 76 #[.slice r0.q K2 r0.vc] W' fun e w' => ∃ v, e = .returned v /\ Below W'.heap.size W' w' /\ IntC B K2 (r0.s.raw.take 257) v w' from by
   have t := c_CloneIntO r0.q r0.vc (r0.s.raw.take 257) W' (by omega) ((hcm.raw.below hW').take 257) (fun e => ⟨by rw [(hnV e).1]; rfl, (hnV e).2⟩)
   rw [hK2] at t
   refine t.mono ?_
   rintro e w' ⟨p', c', rfl, hB', h1, h2, h3⟩
   rw [hK2] at h2 ⊢
   exact ⟨_, rfl, hB', p', c', rfl, h1, h2, fun a e => Nat.le_trans hB (h3 a e)⟩))
  replace hK1 := Lib.hid hK1
  replace hK2 := Lib.hid hK2
  clear hcm hlen9 EM
  have hPX := Lib.hid (fun Wx (hx : Rex [gS] W Wx) => hP.rex b3 hx)
  clear hP
  have k1 := b1.cell
  have f1 := b1.frozen
  have k2 := b2.cell
  have f2 := b2.frozen
  have k3 := b3.cell
  have f3 := b3.frozen
  have q0 : W.cell? ⟨gS, i * 8, none⟩ = some (.int .i64 r0.s.K) := (b3.cell _).trans (hSC i r0 hR0 0 _ rfl)
  have q1 : W.cell? ⟨gS, i * 8 + 1, none⟩ = some (.slice r0.p r0.s.runs.length r0.cap) := (b3.cell _).trans (hSC i r0 hR0 1 _ rfl)
  have q2 : W.cell? ⟨gS, i * 8 + 2, none⟩ = some (.int .i64 r0.s.A) := (b3.cell _).trans (hSC i r0 hR0 2 _ rfl)
  have q3 : W.cell? ⟨gS, i * 8 + 3, none⟩ = some (.int .i64 r0.s.R) := (b3.cell _).trans (hSC i r0 hR0 3 _ rfl)
  have q4 : W.cell? ⟨gS, i * 8 + 4, none⟩ = some (.int .i64 r0.s.n) := (b3.cell _).trans (hSC i r0 hR0 4 _ rfl)
  have q5 : W.cell? ⟨gS, i * 8 + 5, none⟩ = some (.int .i64 r0.s.d) := (b3.cell _).trans (hSC i r0 hR0 5 _ rfl)
  have q6 : W.cell? ⟨gS, i * 8 + 6, none⟩ = some (.slice r0.q r0.s.raw.length r0.vc) := (b3.cell _).trans (hSC i r0 hR0 6 _ rfl)
  have q7 : W.cell? ⟨gS, i * 8 + 7, none⟩ = some (.int .i64 r0.s.E) := (b3.cell _).trans (hSC i r0 hR0 7 _ rfl)
  clear k3 f3
  go_upto_region 6 with (fail)
  clear q0 q1 q2 q3 q4 q5 q6 q7
  clear k1 f1 k2 f2
  refine wp_facts (fun W' => Rex [gS] W W' /\ Blk W' w.heap.size #[.string nm9, .int .i64 ep, .int .i64 fl, .int .i64 la, .int .i64 sc, .slice (some ⟨gS, 0, none⟩) M capS, .slice pP N capP] 25 /\ Blk W' (w.heap.size + 1) #[.string .empty, .int .i64 0, .int .i64 0, .int .i64 0, .int .i64 0, .slice none 0 0, .slice none 0 0] 25 /\ Blk W' gS cur 98 /\ Blk W' W.heap.size #[.int .i64 r0.s.K, .slice r0.p r0.s.runs.length r0.cap, .int .i64 r0.s.A, .int .i64 r0.s.R, .int .i64 r0.s.n, .int .i64 r0.s.d, .slice r0.q r0.s.raw.length r0.vc, .int .i64 r0.s.E] 98) ⟨by exact rexAny, by exact blkAny2, by exact blkAny2, by exact blkAny2, by exact blkAny2⟩ ?_
  clear b1 b2 b3
  rintro W21 ⟨hW, b1, b2, b3, b4⟩
  have z22 := hW.size
  have z23 := b1.lt
  have z24 := b2.lt
  have z25 := b3.lt
  have z26 := b4.lt
  refine wp_region_ndS 24 67 gS (fun W' => Rex [gS] W21 W' /\ Blk W' w.heap.size #[.string nm9, .int .i64 ep, .int .i64 fl, .int .i64 la, .int .i64 sc, .slice (some ⟨gS, 0, none⟩) M capS, .slice pP N capP] 25 /\ Blk W' W.heap.size #[.int .i64 r0.s.K, .slice r0.p r0.s.runs.length r0.cap, .int .i64 r0.s.A, .int .i64 r0.s.R, .int .i64 r0.s.n, .int .i64 r0.s.d, .slice r0.q r0.s.raw.length r0.vc, .int .i64 r0.s.E] 98 /\ Blk W' (w.heap.size + 1) #[.string .empty, .int .i64 0, .int .i64 0, .int .i64 0, .int .i64 0, .slice none 0 0, .slice none 0 0] 25 /\ (Blk W' gS cur 98 ∨ ∃ v, RunC W21.heap.size K1 (r0.s.runs.take 257) v W' /\ Blk W' gS (cur.setIfInBounds (i * 8 + 1) v) 98)) mixed (by kernel_rfl) rfl ⟨(Rex.refl _ _).drew, b1, b4, b2, .inl b3⟩ (fun w w' ⟨h0, h1, h2, h4, h3⟩ hr => ⟨h0.trans (hr.more (by simp)), h1.rex hr (by simp), h2.rex hr (by simp), h4.rex hr (by simp), h3.elim (fun h => .inl (h.rex hr (by simp))) (fun ⟨v, hv, h⟩ => .inr ⟨v, RunC.closed _ _ _ _ _ _ hr hv, h.rex hr (by simp)⟩)⟩) (fun c a d v w h => by cases d <;> exact h) _ rfl ?_
  iterate 11
   apply nd_det (hg := rfl) (hal := rfl)
   ·intro a W' hC hE
    obtain ⟨_, k1, k2, k3, k4⟩ := hC
    have k1 := k1.cell
    have k2 := k2.cell
    first
     | (simp at hE; simp [go_sem, Act.eval, IntWalk.i64_left, hE, k1, k2, k3, k4, hiM]; try rfl)
     | (clear hE; simp [go_sem, Act.eval, IntWalk.i64_left, k1, k2, k3, k4, hiM]; try rfl)
  apply nd_det (.int .i64 ((K1 : Nat) : Int)) (hg := rfl) (hal := rfl)
  ·intro a' W' hC hE
   simp at hE
   simp [go_sem, Act.eval, hE, EK1.out]
  apply nd_det (.slice r0.p K1 r0.cap) (hg := rfl) (hal := rfl)
  ·intro a' W' hC hE
   simp at hE
   simp [go_sem, Act.eval, hE, hK1c, hK10, add_zero_map]
  apply nd_call (RunC W21.heap.size K1 (r0.s.runs.take 257)) (hg := rfl) (hal := rfl)
  ·exact RunC.closedL _ _ _ (by simp [others] <;> omega)
  ·intro a' W' hC hE
   simp at hE
   refine ⟨_, _, ?_, (cR.out W' W21.heap.size ((hW0.trans (hW.of_priv hz)).trans (hC.1.of_priv (Nat.le_trans hz hW.size) (by simp; omega))) hC.1.size).mono ?_⟩
   ·simp [go_sem, Act.eval, hE]
    try rfl
   ·rintro e w' ⟨v, rfl, hB, hv⟩
    exact ⟨v, rfl, hB, hv⟩
  iterate 5
   apply nd_det (hg := rfl) (hal := rfl)
   ·intro a W' hC hE
    obtain ⟨_, k1, k2, k3, k4⟩ := hC
    have k1 := k1.cell
    have k2 := k2.cell
    first
     | (simp at hE; simp [go_sem, Act.eval, IntWalk.i64_left, hE, k1, k2, k3, k4, hiM]; try rfl)
     | (clear hE; simp [go_sem, Act.eval, IntWalk.i64_left, k1, k2, k3, k4, hiM]; try rfl)
  apply nd_det (.int .i64 ((K2 : Nat) : Int)) (hg := rfl) (hal := rfl)
  ·intro a' W' hC hE
   simp at hE
   simp [go_sem, Act.eval, hE, EK2.out]
  apply nd_det (.slice r0.q K2 r0.vc) (hg := rfl) (hal := rfl)
  ·intro a' W' hC hE
   simp at hE
   simp [go_sem, Act.eval, hE, hK2c, hK20, add_zero_map]
  apply nd_call (IntC W21.heap.size K2 (r0.s.raw.take 257)) (hg := rfl) (hal := rfl)
  ·exact IntC.closedL _ _ _ (by simp [others] <;> omega)
  ·intro a' W' hC hE
   simp at hE
   refine ⟨_, _, ?_, (cI.out W' W21.heap.size ((hW0.trans (hW.of_priv hz)).trans (hC.1.of_priv (Nat.le_trans hz hW.size) (by simp; omega))) hC.1.size).mono ?_⟩
   ·simp [go_sem, Act.eval, hE]
    try rfl
   ·rintro e w' ⟨v, rfl, hB, hv⟩
    exact ⟨v, rfl, hB, hv⟩
  iterate 2
   apply nd_det (hg := rfl) (hal := rfl)
   ·intro a W' hC hE
    obtain ⟨_, k1, k2, k3, k4⟩ := hC
    have k1 := k1.cell
    have k2 := k2.cell
    first
     | (simp at hE; simp [go_sem, Act.eval, IntWalk.i64_left, hE, k1, k2, k3, k4, hiM]; try rfl)
     | (clear hE; simp [go_sem, Act.eval, IntWalk.i64_left, k1, k2, k3, k4, hiM]; try rfl)
  refine ⟨fun _ W' => Rex [gS] W21 W' /\ Blk W' w.heap.size #[.string nm9, .int .i64 ep, .int .i64 fl, .int .i64 la, .int .i64 sc, .slice (some ⟨gS, 0, none⟩) M capS, .slice pP N capP] 25 /\ Blk W' W.heap.size #[.int .i64 r0.s.K, .slice r0.p r0.s.runs.length r0.cap, .int .i64 r0.s.A, .int .i64 r0.s.R, .int .i64 r0.s.n, .int .i64 r0.s.d, .slice r0.q r0.s.raw.length r0.vc, .int .i64 r0.s.E] 98 /\ Blk W' (w.heap.size + 1) #[.string .empty, .int .i64 0, .int .i64 0, .int .i64 0, .int .i64 0, .slice none 0 0, .slice none 0 0] 25 /\ ∃ v, RunC W21.heap.size K1 (r0.s.runs.take 257) v W' /\ Blk W' gS (cur.setIfInBounds (i * 8 + 1) v) 98, fun _ w w' hr ⟨h0, h1, h2, h4, v, hv, h⟩ => ⟨h0.trans (hr.more (by simp)), h1.rex hr (by simp), h2.rex hr (by simp), h4.rex hr (by simp), v, RunC.closed _ _ _ _ _ _ hr hv, h.rex hr (by simp)⟩, ?_, fun _ w ⟨h0, h1, h2, h4, h⟩ => ⟨h0, h1, h2, h4, .inr h⟩, ?_⟩
  ·intro a' W' hC hE
   refine ⟨fun _ => ?_, fun e => by rw [wanted_none (by rfl)] at e; cases e⟩
   simp at hE
   obtain ⟨hp, p1, c1, hv, hr1⟩ := hE
   obtain ⟨h0, h1, h2, h4, h3⟩ := hC
   obtain ⟨x9, hx9⟩ : ∃ x, cur[i * 8 + 1]? = some x := ⟨_, hSC i r0 hR0 1 _ rfl⟩
   have hlt9 := (Array.getElem?_eq_some_iff.1 hx9).1
   obtain ⟨cur', hb', hs', x8, hx8⟩ : ∃ cur' : Array Value, Blk W' gS cur' 98 /\ cur'.setIfInBounds (i * 8 + 1) (.slice p1 K1 c1) = cur.setIfInBounds (i * 8 + 1) (.slice p1 K1 c1) /\ ∃ x, cur'[i * 8 + 1]? = some x := by
    rcases h3 with h | ⟨v, hv', h⟩
    ·exact ⟨cur, h, rfl, x9, hx9⟩
    ·exact ⟨_, h, by rw [Array.setIfInBounds_setIfInBounds], v, by rw [Array.getElem?_setIfInBounds, if_pos rfl, if_pos hlt9]⟩
   have hcl := RunC.closedL W21.heap.size K1 (r0.s.runs.take 257) (L := [gS]) (by simp; omega)
   have hRx : Rex [gS] W' (W'.setCell ⟨gS, i * 8 + 1, none⟩ (.slice p1 K1 c1)) := Rex.setOwn (Rex.refl _ _) hb' (by simp) _ _
   have hc8 : W'.cell? ⟨gS, i * 8 + 1, none⟩ = some x8 := (hb'.cell _).trans hx8
   have hf8 := hb'.frozen (i * 8 + 1)
   have hset := hb'.set (i * 8 + 1) (.slice p1 K1 c1)
   rw [hs'] at hset
   suffices hrun : (execOp a'.eval _).run Tryz.prog W' = .ok .skip (W'.setCell ⟨gS, i * 8 + 1, none⟩ (.slice p1 K1 c1)) by
    rw [hrun]
    exact ⟨hRx, ⟨h0.trans hRx, h1.rex hRx (by simp; omega), h2.rex hRx (by simp; omega), h4.rex hRx (by simp; omega), _, hcl _ _ _ hRx ⟨p1, c1, rfl, hr1⟩, hset⟩, rfl⟩
   simp [execOp, go_sem, Act.eval, hp, hv, hc8, hf8]
  ·rintro W2 ⟨hR, d1, d2, d4, -⟩
   simp only [ndFinR, Det, forall_eq]
   intros
   simp only [Act.put, List.setIfInBounds_toArray, List.set_cons_zero, List.set_cons_succ, List.drop_succ_cons, List.drop_zero]
   rename IntC _ _ _ _ _ => hI
   obtain ⟨p6, c6, rfl, hI6, hc6, hg6⟩ := hI
   obtain ⟨-, -, -, -, v5, ⟨p5, c5, rfl, hR5, hc5, hg5⟩, d3⟩ := ‹Rex [gS] W21 W2 /\ _ /\ _ /\ _ /\ _›
   replace hW := hW.trans hR
   clear hR b1 b2 b3 b4
   have b1 := d1
   have b2 := d4
   have b3 := d3
   clear d1 d2 d3 d4
   replace hc5 := Lib.hid hc5
   replace hc6 := Lib.hid hc6
   have z61 := hW.size
   have z62 := b1.lt
   have z63 := b2.lt
   have z64 := b3.lt
   have k1 := b1.cell
   have f1 := b1.frozen
   have k2 := b2.cell
   have f2 := b2.frozen
   have k3 := b3.cell
   have f3 := b3.frozen
   have x1 : (cur.setIfInBounds (i * 8 + 1) (.slice p5 K1 c5))[i * 8 + 6]? = some (.slice r0.q r0.s.raw.length r0.vc) := by rw [Array.getElem?_setIfInBounds, if_neg (by omega)]; exact hSC i r0 hR0 6 _ rfl
   have hRx9 : Rex [gS] W2 (W2.setCell ⟨gS, i * 8 + 6, none⟩ (.slice p6 K2 c6)) := Rex.setOwn (Rex.refl _ _) b3 (by simp) _ _
   go_upto_region 7 with (fail)
   clear x1
   clear k1 f1 k2 f2 k3 f3
   refine wp_facts (fun W' => Rex [gS] W W' /\ Blk W' w.heap.size #[.string nm9, .int .i64 ep, .int .i64 fl, .int .i64 la, .int .i64 sc, .slice (some ⟨gS, 0, none⟩) M capS, .slice pP N capP] 25 /\ Blk W' (w.heap.size + 1) #[.string .empty, .int .i64 0, .int .i64 0, .int .i64 0, .int .i64 0, .slice none 0 0, .slice none 0 0] 25 /\ Blk W' gS ((cur.setIfInBounds (i * 8 + 1) (.slice p5 K1 c5)).setIfInBounds (i * 8 + 6) (.slice p6 K2 c6)) 98 /\ RunsIn W' p5 (r0.s.runs.take 257) /\ IntsIn W' p6 (r0.s.raw.take 257)) ⟨by exact rexAny, by exact blkAny2, by exact blkAny2, by exact blkAny2, by exact hR5.rex1 (L := [gS]) (g := gS) (by simp) (fun a e => by have := hg5 a e; omega) hRx9, by exact hI6.rex1 (L := [gS]) (g := gS) (by simp) (fun a e => by have := hg6 a e; omega) hRx9⟩ ?_
   clear b1 b2 b3 hW
   rintro W65 ⟨hW, b1, b2, b3, b4, b5⟩
   have z66 := hW.size
   have z67 := b1.lt
   have z68 := b2.lt
   have z69 := b3.lt
   clear hRx9 hR5 hI6
   go_wp2
   refine ⟨?_, by simp [intAt]; omega⟩
   have e1 := segRA_runs r0 (r0.s.runs.take 257) p5 c5
   rw [hK1.out] at e1
   have s1 := hSC.set hR0 (by omega : 1 < 8) e1
   have e2 := segRA_raw ⟨⟨r0.s.K, r0.s.runs.take 257, r0.s.A, r0.s.R, r0.s.n, r0.s.d, r0.s.raw, r0.s.E⟩, p5, r0.q, c5, r0.vc⟩ (r0.s.raw.take 257) p6 c6
   rw [hK2.out] at e2
   have hR1 := List.getElem?_set_self (l := R) (i := i) (a := (⟨⟨r0.s.K, r0.s.runs.take 257, r0.s.A, r0.s.R, r0.s.n, r0.s.d, r0.s.raw, r0.s.E⟩, p5, r0.q, c5, r0.vc⟩ : SegR)) (List.getElem?_eq_some_iff.1 hR0).1
   have s2 := s1.set hR1 (by omega : 6 < 8) e2
   rw [List.set_set] at s2
   have ow : OwnSegK W65 gS r0 ⟨⟨r0.s.K, r0.s.runs.take 257, r0.s.A, r0.s.R, r0.s.n, r0.s.d, r0.s.raw.take 257, r0.s.E⟩, p5, p6, c5, c6⟩ := ⟨rfl, b4, b5, by show (r0.s.raw.take 257).length <= c6; rw [hK2.out]; exact hc6.out, fun a e => by have := hg5 a e; omega, fun a e => by have := hg6 a e; omega⟩
   exact ⟨hW0.trans (hW.of_priv hz), b1, b2, hPX.out _ hW, i + 1, _, _, b3, s2, (hOT.rex (by simp) hW).step hr0 ow, frame_ex rfl, by omega⟩
 ·have hlen9 : (rows.take M).length = M := by rw [List.length_take]; omega
  have k1 := b1.cell
  have f1 := b1.frozen
  have k2 := b2.cell
  have f2 := b2.frozen
  have k3 := b3.cell
  have f3 := b3.frozen
  go_wp2
  have d2 : Blk (((((((W.setCell ⟨w.heap.size + 1, 0, none⟩ (.string nm9)).setCell ⟨w.heap.size + 1, 1, none⟩ (.int .i64 ep)).setCell ⟨w.heap.size + 1, 2, none⟩ (.int .i64 fl)).setCell ⟨w.heap.size + 1, 3, none⟩ (.int .i64 la)).setCell ⟨w.heap.size + 1, 4, none⟩ (.int .i64 sc)).setCell ⟨w.heap.size + 1, 5, none⟩ (.slice (some ⟨gS, 0, none⟩) M capS)).setCell ⟨w.heap.size + 1, 6, none⟩ (.slice pP N capP)) (w.heap.size + 1) #[.string nm9, .int .i64 ep, .int .i64 fl, .int .i64 la, .int .i64 sc, .slice (some ⟨gS, 0, none⟩) M capS, .slice pP N capP] 25 := blkAny2
  have d3 : Blk (((((((W.setCell ⟨w.heap.size + 1, 0, none⟩ (.string nm9)).setCell ⟨w.heap.size + 1, 1, none⟩ (.int .i64 ep)).setCell ⟨w.heap.size + 1, 2, none⟩ (.int .i64 fl)).setCell ⟨w.heap.size + 1, 3, none⟩ (.int .i64 la)).setCell ⟨w.heap.size + 1, 4, none⟩ (.int .i64 sc)).setCell ⟨w.heap.size + 1, 5, none⟩ (.slice (some ⟨gS, 0, none⟩) M capS)).setCell ⟨w.heap.size + 1, 6, none⟩ (.slice pP N capP)) gS cur 98 := blkAny2
  have hR9 : Rex [w.heap.size + 1] W (((((((W.setCell ⟨w.heap.size + 1, 0, none⟩ (.string nm9)).setCell ⟨w.heap.size + 1, 1, none⟩ (.int .i64 ep)).setCell ⟨w.heap.size + 1, 2, none⟩ (.int .i64 fl)).setCell ⟨w.heap.size + 1, 3, none⟩ (.int .i64 la)).setCell ⟨w.heap.size + 1, 4, none⟩ (.int .i64 sc)).setCell ⟨w.heap.size + 1, 5, none⟩ (.slice (some ⟨gS, 0, none⟩) M capS)).setCell ⟨w.heap.size + 1, 6, none⟩ (.slice pP N capP)) := ((((((((Rex.refl [w.heap.size + 1] W).setOwn b2 (by simp) 0 _).setOwn (b2.set 0 _) (by simp) 1 _).setOwn ((b2.set 0 _).set 1 _) (by simp) 2 _).setOwn (((b2.set 0 _).set 1 _).set 2 _) (by simp) 3 _).setOwn ((((b2.set 0 _).set 1 _).set 2 _).set 3 _) (by simp) 4 _).setOwn (((((b2.set 0 _).set 1 _).set 2 _).set 3 _).set 4 _) (by simp) 5 _).setOwn ((((((b2.set 0 _).set 1 _).set 2 _).set 3 _).set 4 _).set 5 _) (by simp) 6 _)
  have hP9 : PtRow (((((((W.setCell ⟨w.heap.size + 1, 0, none⟩ (.string nm9)).setCell ⟨w.heap.size + 1, 1, none⟩ (.int .i64 ep)).setCell ⟨w.heap.size + 1, 2, none⟩ (.int .i64 fl)).setCell ⟨w.heap.size + 1, 3, none⟩ (.int .i64 la)).setCell ⟨w.heap.size + 1, 4, none⟩ (.int .i64 sc)).setCell ⟨w.heap.size + 1, 5, none⟩ (.slice (some ⟨gS, 0, none⟩) M capS)).setCell ⟨w.heap.size + 1, 6, none⟩ (.slice pP N capP)) (w.heap.size + 1 + 1) pP (pts.take N) := (((((((hP.setO (by omega) 0 _).setO (by omega) 1 _).setO (by omega) 2 _).setO (by omega) 3 _).setO (by omega) 4 _).setO (by omega) 5 _).setO (by omega) 6 _)
  obtain ⟨W9, hW9⟩ : ∃ W9, W9 = (((((((W.setCell ⟨w.heap.size + 1, 0, none⟩ (.string nm9)).setCell ⟨w.heap.size + 1, 1, none⟩ (.int .i64 ep)).setCell ⟨w.heap.size + 1, 2, none⟩ (.int .i64 fl)).setCell ⟨w.heap.size + 1, 3, none⟩ (.int .i64 la)).setCell ⟨w.heap.size + 1, 4, none⟩ (.int .i64 sc)).setCell ⟨w.heap.size + 1, 5, none⟩ (.slice (some ⟨gS, 0, none⟩) M capS)).setCell ⟨w.heap.size + 1, 6, none⟩ (.slice pP N capP)) := ⟨_, rfl⟩
  rw [<- hW9] at d2 d3 hR9 hP9 ⊢
  clear hW9 b1 b2 b3 hP k1 f1 k2 f2 k3 f3
  have k2 := d2.cell
  have f2 := d2.frozen
  have y_2 := d2.lt
  refine bodyPost_ret (v := .agg #[.string nm9, .int .i64 ep, .int .i64 fl, .int .i64 la, .int .i64 sc, .slice (some ⟨gS, 0, none⟩) M capS, .slice pP N capP]) (by simp [results, Tryz.results29, go_sem, k2, f2, y_2]) rfl ⟨gS, capS, pP, capP, rfl, hW0.trans (hR9.of_priv hz), fun L Wx hL hr => ⟨own_segsK (d3.rex hr (fun hm => by have := hL _ hm; omega)) hSC hOT (by omega) (L := (w.heap.size + 1) :: L) (by intro x hx; rcases List.mem_cons.1 hx with rfl | hx; omega; have := hL x hx; omega) ((hR9.more (by simp)).trans (hr.more fun x hx => List.mem_cons_of_mem _ hx)), (hP9.low (fun x hx => by have := hL x hx; omega) hr).pts⟩⟩
def ownNRel (w : World) (nm9 : ByteArray) (ep fl la sc : Int) (pP : Option Addr) (capP N : Nat) (pts : List (Int × Int)) (a' : Act) (W : World) : Prop :=
 Below w.heap.size w W /\ Blk W w.heap.size #[.string nm9, .int .i64 ep, .int .i64 fl, .int .i64 la, .int .i64 sc, .slice none 0 0, .slice pP N capP] 25 /\ Blk W (w.heap.size + 1) #[.string .empty, .int .i64 0, .int .i64 0, .int .i64 0, .int .i64 0, .slice none 0 0, .slice none 0 0] 25 /\ PtRow W (w.heap.size + 1 + 1) pP pts /\ (∃ u : Nat -> Value, a' = { tmps := #[u 0, .pointer (some ⟨w.heap.size, 0, none⟩), .pointer (some ⟨w.heap.size + 1, 0, none⟩), u 3, u 4, u 5, u 6, u 7, u 8, u 9, u 10, u 11, u 12, u 13, u 14, u 15, u 16, u 17, u 18, u 19, u 20, u 21, u 22, u 23, u 24, u 25, u 26, u 27, u 28, u 29, u 30, u 31, .slice none 0 0, .int .i64 0, .int .i64 0, u 35, u 36, u 37, u 38, u 39, u 40, u 41, u 42, u 43, u 44, u 45, u 46, u 47, u 48, u 49, u 50, u 51, u 52, u 53, u 54, u 55, u 56, u 57, u 58, u 59, u 60, u 61, u 62, u 63, u 64, u 65, u 66], defers := [] })
theorem own26n_w (nm : ByteArray) (ep fl la sc : Int) (po : Option Addr) (co : Nat) (pts : List (Int × Int)) (w : World) (N : Nat)
  (hpts : PtsIn w po pts) (hnilP : po = none -> pts.length = 0 /\ co = 0) (hcapP : pts.length <= co)
  (hN : N <= 40) (hNr : N <= pts.length) (EN : Hid ((if (40 : Int) < (pts.length : Int) then (40 : Int) else pts.length) = (N : Int))) (hNc : (N : Int) <= co) (hN0 : 0 <= (N : Int)) (nm9 : ByteArray) (hnm : Hid ((nm.extract 0 (mn (nm.size : Int) 20).toNat) = nm9)) :
  Calls Tryz.prog 29 #[.agg #[.string nm, .int .i64 ep, .int .i64 fl, .int .i64 la, .int .i64 sc, .slice none 0 0, .slice po pts.length co]] w fun e w' => ∃ pP capP, e = .returned (.agg #[.string nm9, .int .i64 ep, .int .i64 fl, .int .i64 la, .int .i64 sc, .slice none 0 0, .slice pP N capP]) /\ Below w.heap.size w w' /\ Lasts w.heap.size w' fun W => PtsIn W pP (pts.take N) := by
 have cQ := Lib.hid (fun W B (hW : Below w.heap.size w W) (hBW : B <= W.heap.size) => (show Calls Tryz.prog 74 #[.slice po N co] W fun e w' => ∃ v, e = .returned v /\ Below W.heap.size W w' /\ PtS B N (pts.take N) v w' from by
  have hl : (pts.take N).length = N := by rw [List.length_take]; omega
  cases hpo : po with
  | none =>
   obtain ⟨h1, h2⟩ := hnilP hpo
   obtain rfl : N = 0 := by omega
   subst h2
   refine (clonePt_nil W).mono ?_
   rintro e w' ⟨rfl, hB⟩
   exact ⟨_, rfl, hB, .inl ⟨rfl, rfl, rfl⟩⟩
  | some a9 =>
   have t := clonePt_some a9 co (pts.take N) W (by omega) (hpo ▸ (hpts.take9 N).below hW)
   rw [hl] at t
   refine t.mono ?_
   rintro e w' ⟨v, rfl, hB, g, c, cur, rfl, hg, h⟩
   exact ⟨_, rfl, hB, .inr ⟨g, c, cur, rfl, Nat.le_trans hBW hg, h⟩⟩))
 go_enter Tryz.func29, Tryz.ntmps29
 have hmin : ∀ ts t x y w, (Builtin.min_ ts t #[.int .i64 x, .int .i64 y]).run Tryz.prog w = .ok (.int .i64 (mn x y)) w := fun ts t x y w => by simp [Builtin.min_, Builtin.min2, mn]
 have hm0 := mn_spec (nm.size : Int) 20
 have hm1 : 0 <= mn (nm.size : Int) 20 := by omega
 have hm2 : mn (nm.size : Int) 20 <= (nm.size : Int) := hm0.1
 clear hm0
 go_upto_region 2 with (fail)
 refine wp_facts (fun W' => Below w.heap.size w W' /\ Blk W' w.heap.size #[.string (nm.extract 0 (mn (nm.size : Int) 20).toNat), .int .i64 ep, .int .i64 fl, .int .i64 la, .int .i64 sc, .slice none 0 0, .slice po pts.length co] 25 /\ Blk W' (w.heap.size + 1) #[.string .empty, .int .i64 0, .int .i64 0, .int .i64 0, .int .i64 0, .slice none 0 0, .slice none 0 0] 25) ⟨by exact belowAny, by exact blkAny2, by exact blkAny2⟩ ?_
 rintro W1 ⟨hW, b1, b2⟩
 have z2 := hW.size
 have z3 := b1.lt
 have z4 := b2.lt
 clear hmin hm1 hm2
 rw [hnm.out] at b1
 have k1 := b1.cell
 have f1 := b1.frozen
 have k2 := b2.cell
 have f2 := b2.frozen
 go_upto_region 2 with (fail)
 clear k1 f1 k2 f2
 refine wp_facts (fun W' => Below w.heap.size w W' /\ Blk W' w.heap.size #[.string nm9, .int .i64 ep, .int .i64 fl, .int .i64 la, .int .i64 sc, .slice none 0 0, .slice po pts.length co] 25 /\ Blk W' (w.heap.size + 1) #[.string .empty, .int .i64 0, .int .i64 0, .int .i64 0, .int .i64 0, .slice none 0 0, .slice none 0 0] 25) ⟨by exact belowAny, by exact blkAny2, by exact blkAny2⟩ ?_
 clear b1 b2 hW
 rintro W5 ⟨hW, b1, b2⟩
 have z6 := hW.size
 have z7 := b1.lt
 have z8 := b2.lt
 refine wp_region_nd 17 67 [] (fun W' => Rex [] W5 W' /\ Blk W' w.heap.size #[.string nm9, .int .i64 ep, .int .i64 fl, .int .i64 la, .int .i64 sc, .slice none 0 0, .slice po pts.length co] 25 /\ Blk W' (w.heap.size + 1) #[.string .empty, .int .i64 0, .int .i64 0, .int .i64 0, .int .i64 0, .slice none 0 0, .slice none 0 0] 25) mixed (by kernel_rfl) rfl ⟨(Rex.refl _ _).drew, b1, b2⟩ (fun w w' ⟨h0, h1, h2⟩ hr => ⟨h0.trans hr, h1.rex hr (by simp <;> omega), h2.rex hr (by simp <;> omega)⟩) (fun c a d v w h => by cases d <;> exact h) ?_
 iterate 6
  apply nd_det (hg := rfl) (hal := rfl)
  ·intro a W' hC hE
   obtain ⟨_, k1, k2⟩ := hC
   have k1 := k1.cell
   first
    | (simp at hE; simp [go_sem, Act.eval, IntWalk.i64_left, hE, k1, k2]; try rfl)
    | (clear hE; simp [go_sem, Act.eval, IntWalk.i64_left, k1, k2]; try rfl)
 apply nd_det (.slice none 0 0) (hg := rfl) (hal := rfl)
 ·intro a' W' hC hE
  simp at hE
  simp [go_sem, Act.eval, hE]
  try rfl
 refine nd_callv2 rfl rfl (fun W' hC => cloneSeg_nil W') (fun a W' hC hE => ?_) ?_
 ·obtain ⟨_, k1, k2⟩ := hC
  have k1 := k1.cell
  first
   | (simp at hE; simp [go_sem, Act.eval, IntWalk.i64_left, hE, k1, k2]; try rfl)
   | (clear hE; simp [go_sem, Act.eval, IntWalk.i64_left, k1, k2]; try rfl)
 iterate 5
  apply nd_det (hg := rfl) (hal := rfl)
  ·intro a W' hC hE
   obtain ⟨_, k1, k2⟩ := hC
   have k1 := k1.cell
   first
    | (simp at hE; simp [go_sem, Act.eval, IntWalk.i64_left, hE, k1, k2]; try rfl)
    | (clear hE; simp [go_sem, Act.eval, IntWalk.i64_left, k1, k2]; try rfl)
 apply nd_det (.int .i64 ((N : Nat) : Int)) (hg := rfl) (hal := rfl)
 ·intro a' W' hC hE
  simp at hE
  simp [go_sem, Act.eval, hE, EN.out]
 apply nd_det (.slice po N co) (hg := rfl) (hal := rfl)
 ·intro a' W' hC hE
  simp at hE
  simp [go_sem, Act.eval, hE, hNc, hN0, add_zero_map]
 apply nd_call (PtS W5.heap.size N (pts.take N)) (hg := rfl) (hal := rfl)
 ·exact PtS.closed _ _ _
 ·intro a' W' hC hE
  simp at hE
  refine ⟨_, _, ?_, (cQ.out W' W5.heap.size (hW.trans (hC.1.of_priv hW.size)) hC.1.size).mono ?_⟩
  ·simp [go_sem, Act.eval, hE]
   try rfl
  ·rintro e w' ⟨v, rfl, hB, hv⟩
   exact ⟨v, rfl, hB, hv⟩
 iterate 1
  apply nd_det (hg := rfl) (hal := rfl)
  ·intro a W' hC hE
   obtain ⟨_, k1, k2⟩ := hC
   have k1 := k1.cell
   first
    | (simp at hE; simp [go_sem, Act.eval, IntWalk.i64_left, hE, k1, k2]; try rfl)
    | (clear hE; simp [go_sem, Act.eval, IntWalk.i64_left, k1, k2]; try rfl)
 rintro W9 ⟨hR, d1, d2⟩
 simp only [ndFinR, Det, forall_eq]
 intros
 repeat (rename GDet _ _ _ _ => hgd; clear hgd)
 simp only [Act.put, List.setIfInBounds_toArray, List.set_cons_zero, List.set_cons_succ, List.drop_succ_cons, List.drop_zero]
 replace hW := hW.trans (hR.of_priv hW.size)
 clear hR
 try clear b1 b2
 have b1 := d1
 clear d1
 have b2 := d2
 clear d2
 have z10 := hW.size
 rename PtS _ _ _ _ _ => hp
 obtain ⟨pP, capP, rfl, hP, hcP⟩ := hp.form
 clear hp
 have k1 := b1.cell
 have f1 := b1.frozen
 have k2 := b2.cell
 have f2 := b2.frozen
 go_upto_region 3 with (fail)
 clear k1 f1 k2 f2
 refine wp_facts (fun W' => Below w.heap.size w W' /\ Blk W' w.heap.size #[.string nm9, .int .i64 ep, .int .i64 fl, .int .i64 la, .int .i64 sc, .slice none 0 0, .slice pP N capP] 25 /\ Blk W' (w.heap.size + 1) #[.string .empty, .int .i64 0, .int .i64 0, .int .i64 0, .int .i64 0, .slice none 0 0, .slice none 0 0] 25 /\ PtRow W' (w.heap.size + 1 + 1) pP (pts.take N)) ⟨by exact belowAny, by exact blkAny2, by exact blkAny2, by exact ((hP.mono (by omega)).setO (by omega) _ _).setO (by omega) _ _⟩ ?_
 clear b1 b2 hW
 rintro W11 ⟨hW, b1, b2, b3⟩
 have z12 := hW.size
 have z13 := b1.lt
 have z14 := b2.lt
 have hP := b3
 clear b3
 have k1 := b1.cell
 have f1 := b1.frozen
 have k2 := b2.cell
 have f2 := b2.frozen
 go_wp2
 refine wp_loop (ownNRel w nm9 ep fl la sc pP capP N (pts.take N)) (fun a' _ => 0) ?_ ?_
 ·exact ⟨hW, b1, b2, hP, frame_ex rfl⟩
 clear b1 b2 hP hW k1 f1 k2 f2
 rintro a' W ⟨hW0, b1, b2, hP, ⟨u, rfl⟩⟩
 have hz := hW0.size
 have zb1 := b1.lt
 have zb2 := b2.lt
 have k1 := b1.cell
 have f1 := b1.frozen
 have k2 := b2.cell
 have f2 := b2.frozen
 go_wp2
 have d2 : Blk (((((((W.setCell ⟨w.heap.size + 1, 0, none⟩ (.string nm9)).setCell ⟨w.heap.size + 1, 1, none⟩ (.int .i64 ep)).setCell ⟨w.heap.size + 1, 2, none⟩ (.int .i64 fl)).setCell ⟨w.heap.size + 1, 3, none⟩ (.int .i64 la)).setCell ⟨w.heap.size + 1, 4, none⟩ (.int .i64 sc)).setCell ⟨w.heap.size + 1, 5, none⟩ (.slice none 0 0)).setCell ⟨w.heap.size + 1, 6, none⟩ (.slice pP N capP)) (w.heap.size + 1) #[.string nm9, .int .i64 ep, .int .i64 fl, .int .i64 la, .int .i64 sc, .slice none 0 0, .slice pP N capP] 25 := blkAny2
 have hR9 : Rex [w.heap.size + 1] W (((((((W.setCell ⟨w.heap.size + 1, 0, none⟩ (.string nm9)).setCell ⟨w.heap.size + 1, 1, none⟩ (.int .i64 ep)).setCell ⟨w.heap.size + 1, 2, none⟩ (.int .i64 fl)).setCell ⟨w.heap.size + 1, 3, none⟩ (.int .i64 la)).setCell ⟨w.heap.size + 1, 4, none⟩ (.int .i64 sc)).setCell ⟨w.heap.size + 1, 5, none⟩ (.slice none 0 0)).setCell ⟨w.heap.size + 1, 6, none⟩ (.slice pP N capP)) := ((((((((Rex.refl [w.heap.size + 1] W).setOwn b2 (by simp) 0 _).setOwn (b2.set 0 _) (by simp) 1 _).setOwn ((b2.set 0 _).set 1 _) (by simp) 2 _).setOwn (((b2.set 0 _).set 1 _).set 2 _) (by simp) 3 _).setOwn ((((b2.set 0 _).set 1 _).set 2 _).set 3 _) (by simp) 4 _).setOwn (((((b2.set 0 _).set 1 _).set 2 _).set 3 _).set 4 _) (by simp) 5 _).setOwn ((((((b2.set 0 _).set 1 _).set 2 _).set 3 _).set 4 _).set 5 _) (by simp) 6 _)
 have hP9 : PtRow (((((((W.setCell ⟨w.heap.size + 1, 0, none⟩ (.string nm9)).setCell ⟨w.heap.size + 1, 1, none⟩ (.int .i64 ep)).setCell ⟨w.heap.size + 1, 2, none⟩ (.int .i64 fl)).setCell ⟨w.heap.size + 1, 3, none⟩ (.int .i64 la)).setCell ⟨w.heap.size + 1, 4, none⟩ (.int .i64 sc)).setCell ⟨w.heap.size + 1, 5, none⟩ (.slice none 0 0)).setCell ⟨w.heap.size + 1, 6, none⟩ (.slice pP N capP)) (w.heap.size + 1 + 1) pP (pts.take N) := (((((((hP.setO (by omega) 0 _).setO (by omega) 1 _).setO (by omega) 2 _).setO (by omega) 3 _).setO (by omega) 4 _).setO (by omega) 5 _).setO (by omega) 6 _)
 obtain ⟨W9, hW9⟩ : ∃ W9, W9 = (((((((W.setCell ⟨w.heap.size + 1, 0, none⟩ (.string nm9)).setCell ⟨w.heap.size + 1, 1, none⟩ (.int .i64 ep)).setCell ⟨w.heap.size + 1, 2, none⟩ (.int .i64 fl)).setCell ⟨w.heap.size + 1, 3, none⟩ (.int .i64 la)).setCell ⟨w.heap.size + 1, 4, none⟩ (.int .i64 sc)).setCell ⟨w.heap.size + 1, 5, none⟩ (.slice none 0 0)).setCell ⟨w.heap.size + 1, 6, none⟩ (.slice pP N capP)) := ⟨_, rfl⟩
 rw [<- hW9] at d2 hR9 hP9 ⊢
 clear hW9 b1 b2 hP k1 f1 k2 f2
 have k2 := d2.cell
 have f2 := d2.frozen
 have y_2 := d2.lt
 refine bodyPost_ret (v := .agg #[.string nm9, .int .i64 ep, .int .i64 fl, .int .i64 la, .int .i64 sc, .slice none 0 0, .slice pP N capP]) (by simp [results, Tryz.results29, go_sem, k2, f2, y_2]) rfl ⟨pP, capP, rfl, hW0.trans (hR9.of_priv hz), fun L Wx hL hr => (hP9.low (fun x hx => by have := hL x hx; omega) hr).pts⟩
end Go.Proofs.YtidfcoooccblaaaGreat
