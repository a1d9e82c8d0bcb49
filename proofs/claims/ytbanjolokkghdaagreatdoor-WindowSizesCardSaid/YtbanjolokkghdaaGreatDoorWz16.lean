/- Parts of the proof that follows: The document's bytes of a segment that may be: how many they are. No condition else. | Layer vary: numbers without a sign; part of a row overwritten by a copy. No condition. -/
import Derived.Deep.RegionLaw
import Derived.Deep.AppendLies
import Derived.Laws.BitsLemmas
import Derived.Laws.CopyOwn
import Derived.Test.YtbanjolokkghdaaGreatDoorWz15
set_option linter.unusedSimpArgs false
set_option linter.unusedVariables false
namespace Go.Proofs.YtbanjolokkghdaaGreatDoor
open Go.RowKit
section
variable {P : Program} {ops : Array Oper} {C : World → Prop} {X : List (Nat × Nat)} {a0 : Act} {Fin : List (Option Tmp × Spec) → Prop} {i : Nat} {o : Oper} {rest : List Oper} {acc : List (Option Tmp × Spec)}
/-- An operation that makes memory. -/
theorem nd_mem8 (Φ : Spec) (hcl : Closed (others X i) Φ) (hg : o.guard = none) (hal : isAlloc o = false)
    (h : ∀ (a : Act) (w : World), C w → (∀ s ∈ o.looksAt ops, envOf a0 acc s (a.tmps.getD s undef) w) → ∃ v w', (execOp a.eval o).run P w = .ok (.value v) w' ∧ Below w.heap.size w w' ∧ Φ v w')
    (hr : ndWalk P ops C X a0 Fin (i + 1) rest ((o.dst, Φ) :: acc)) : ndWalk P ops C X a0 Fin i (o :: rest) acc :=
  ⟨Φ, hcl, fun a w hC hE => ⟨fun _ => by
    obtain ⟨v, w', h1, h2, h3⟩ := h a w hC hE
    rw [h1]; exact ⟨Rex.of_below h2, h3, fun e => by rw [hal] at e; cases e⟩, fun e => by rw [wanted_none hg] at e; cases e⟩, hr⟩
end
theorem blk_grew {W w1 : World} {B g : Nat} {cs : Array Value} {t e : TypeId} {s n : Nat} {v : Value} {xs : List Value} (h : Blk W g cs t) (hown : W.ownsRow B e s v n xs) (ht : t ≠ e) (hgr : W.grownBy w1 v.ownBlock) : Blk w1 g cs t := by
  have hlt := h.lt
  have h' : W.heap[g]? = some (.cells cs t (0, 0)) := h
  refine (hgr.block g (by omega) fun e1 => ?_).trans h'
  rcases hown.2 with ⟨rfl, _⟩ | ⟨g', cap, cur, rfl, _, hb, _⟩
  · simp [Value.ownBlock] at e1
  · have : g = g' := by simpa [Value.ownBlock] using e1
    subst this
    unfold Blk at h
    rw [h] at hb
    injection hb with hb
    injection hb with _ h2 _
    exact ht h2
def NewV (B : Nat) : Spec := fun v w => BytR w B v 1
def ByV (B k : Nat) : Spec := fun v w => BytR w B v k
theorem BytR.cast {w : World} {B k k' : Nat} {v : Value} (h : BytR w B v k) (e : k = k') : BytR w B v k' := e ▸ h
theorem NewV.closed (B : Nat) : Closed [] (NewV B) := fun _ _ _ hr h => BytR.below h hr.below
theorem ByV.closed (B k : Nat) : Closed [] (ByV B k) := fun _ _ _ hr h => BytR.below h hr.below
theorem byt_new {W : World} {B : Nat} {x : Int} (hB : B ≤ W.heap.size) : BytR (W.alloc (.cells #[.int .u8 x] 5)) B (.slice (some ⟨W.heap.size, 0, none⟩) 1 1) 1 := ⟨[x], rfl, ⟨own_new1 (Blk.new' rfl) hB⟩⟩
theorem wpList_append_byt {w : World} {ops : Array Oper} {rest : List Oper} {o : Oper} {a : Act} {Q : Exit → Act → World → Prop} (hgd : o.guard = none) (s x : Operand)
    (ho : o.op = .call { callee := .builtin .append, args := #[s, x], argTypes := #[69, 69] }) (B B2 : Nat) (v v2 : Value) (n m : Nat) (hs : a.eval s = v) (hx : a.eval x = v2) (h1 : BytR w B v n) (h2 : BytR w B2 v2 m) (hm : 1 ≤ m) (hn : n + m ≤ 1000000) (hB : B ≤ w.heap.size)
    (h : ∀ v' w', BytR w' B v' (n + m) → Below B w w' → (∀ g cs t, t ≠ 5 → Blk w g cs t → Blk w' g cs t) → wpList Tryz.prog ops Q rest (a.put o.dst v') w') : wpList Tryz.prog ops Q (o :: rest) a w := by
  obtain ⟨i0, hi, hz0, hz1, hz2⟩ := info_parts Tryz.infoU8
  obtain ⟨l1, hl1, hO1⟩ := h1
  obtain ⟨l2, hl2, hO2⟩ := h2
  obtain ⟨g, cp, rfl, hg, hxl, hat⟩ := hO2.src (by omega)
  refine wpList_append_own _ hgd s x 69 ho B 5 i0 (.int .u8 0) 1 1 (by kernel_rfl) hi hz0 hz1 hz2 rfl (by decide) v n _ hs hO1.own ⟨g, 0, none⟩ m cp (l2.map (Value.int .u8)) hx hxl hat (byt_one l2) (by simp [maxLen]; omega) (by omega) hB ?_
  intro v' w' hown hgr _
  refine h v' w' ⟨l1 ++ l2, by simp [hl1, hl2], ⟨by rw [List.map_append]; exact hown⟩⟩ (below_grew (Below.refl _ _ |>.mono hB) hB hO1.own hgr) fun g cs t ht hb => blk_grew hb hO1.own ht hgr
theorem step_append_byt {w : World} {ops : Array Oper} {o : Oper} {a : Act} {K : Act → World → Prop} {Q : Exit → Act → World → Prop} {E : Prop} (hgd : o.guard = none) (s x : Operand)
    (ho : o.op = .call { callee := .builtin .append, args := #[s, x], argTypes := #[69, 69] }) (B B2 : Nat) (v v2 : Value) (n m : Nat) (hs : a.eval s = v) (hx : a.eval x = v2) (h1 : BytR w B v n) (h2 : BytR w B2 v2 m) (hm : 1 ≤ m) (hn : n + m ≤ 1000000) (hB : B ≤ w.heap.size)
    (h : ∀ v' w', BytR w' B v' (n + m) → Below B w w' → (∀ g cs t, t ≠ 5 → Blk w g cs t → Blk w' g cs t) → K (a.put o.dst v') w') : if Region.wanted o (yielded ops a.tmps) = true then Oper.wp Tryz.prog o a w K Q else E := by
  have hw : Region.wanted o (yielded ops a.tmps) = true := by simp [Region.wanted, hgd]
  rw [if_pos hw]
  obtain ⟨i0, hi, hz0, hz1, hz2⟩ := info_parts Tryz.infoU8
  obtain ⟨l1, hl1, hO1⟩ := h1
  obtain ⟨l2, hl2, hO2⟩ := h2
  obtain ⟨g, cp, rfl, hg, hxl, hat⟩ := hO2.src (by omega)
  refine wp_append_own _ s x 69 ho B 5 i0 (.int .u8 0) 1 1 (by kernel_rfl) hi hz0 hz1 hz2 rfl (by decide) v n _ hs hO1.own ⟨g, 0, none⟩ m cp (l2.map (Value.int .u8)) hx hxl hat (byt_one l2) (by simp [maxLen]; omega) (by omega) hB ?_
  intro v' w' hown hgr _
  exact h v' w' ⟨l1 ++ l2, by simp [hl1, hl2], ⟨by rw [List.map_append]; exact hown⟩⟩ (below_grew (Below.refl _ _ |>.mono hB) hB hO1.own hgr) fun g cs t ht hb => blk_grew hb hO1.own ht hgr
theorem c_r02B (z : Int) (w : World) (h0 : 0 ≤ z) (h1 : z < 18446744073709551616) : Calls Tryz.prog 62 #[.int .u64 z] w fun e w' => ∃ v, e = .returned v ∧ Below w.heap.size w w' ∧ BytR w' w.heap.size v (vlen z.toNat) := by
  have t := c_r02Bytes z.toNat (by omega) w
  rwa [show ((z.toNat : Nat) : Int) = z by omega] at t
set_option maxRecDepth 100000 in
set_option maxHeartbeats 2000000 in
theorem c_r12Last (r : RunT) (hr : RunOk r) (w : World) : Calls Tryz.prog 63 #[.agg #[.int .i64 r.f, .int .i64 r.s, .int .i64 r.c]] w fun e w' => e = .returned (.int .i64 (lastI r)) ∧ Below w.heap.size w w' := by
  have e0 := hr.f0; have e1 := hr.f1; have e2 := hr.s0; have e3 := hr.s1; have e4 := hr.c0; have e5 := hr.c1; have e6 := hr.last; have e7 := lastI_le hr
  unfold lastI at e6 e7
  have hA : Below w.heap.size w (w.alloc (.cells #[.int .i64 r.f, .int .i64 r.s, .int .i64 r.c] 94)) := belowAny
  have hm : r.s * (r.c - 1) = (r.c - 1) * r.s := Int.mul_comm _ _
  have hl : lastI r = r.f + (r.c - 1) * r.s := by unfold lastI; rw [hm]
  rw [hm] at e6 e7
  rw [hl]
  clear hm hl
  go_enter Tryz.func63, Tryz.ntmps63
  go_wp2
  go_ret
  exact ⟨rfl, hA⟩
def b12a (w : World) (s : SegT) (p q : Option Addr) (cap vc : Nat) (a' : Act) (W : World) : Prop :=
  Below w.heap.size w W ∧ Blk W w.heap.size #[.int .i64 s.K, .slice p s.runs.length cap, .int .i64 s.A, .int .i64 s.R, .int .i64 s.n, .int .i64 s.d, .slice q s.raw.length vc, .int .i64 s.E] 29 ∧ ∃ (i : Nat) (v : Value), (∃ u : Nat → Value, a' = { tmps := #[u 0, .pointer (some ⟨w.heap.size, 0, none⟩), .slice none 0 0, v, u 4, u 5, u 6, u 7, u 8, u 9, u 10, u 11, u 12, u 13, u 14, u 15, u 16, u 17, u 18, u 19, u 20, u 21, u 22, u 23, u 24, u 25, .slice p s.runs.length cap, .int .i64 (s.runs.length : Int), .int .i64 (i : Int), u 29, u 30, u 31, u 32, u 33, u 34, u 35, u 36, u 37, u 38, u 39, u 40, u 41, u 42, u 43, u 44, u 45, u 46, u 47, u 48, u 49, u 50, u 51, u 52, u 53, u 54, u 55, u 56, u 57, u 58, u 59, u 60, u 61, u 62, u 63, u 64, u 65, u 66, u 67, u 68, u 69, u 70, u 71, u 72, u 73, u 74, u 75, u 76, u 77, u 78, u 79, u 80, u 81, u 82, u 83, u 84, u 85, u 86, u 87, u 88, u 89, u 90, u 91, u 92, u 93, u 94, u 95, u 96, u 97, u 98, u 99, u 100, u 101, u 102, u 103, u 104, u 105, u 106, u 107, u 108, u 109, u 110, u 111, u 112, u 113, u 114, u 115, u 116, u 117, u 118, u 119, u 120, u 121, u 122, u 123, u 124, u 125, u 126, u 127, u 128], defers := [] }) ∧ BytR W w.heap.size v (1 + vlen s.E.toNat + vlen s.runs.length + szTo s.runs i) ∧ szTo s.runs i ≤ 30 * i ∧ i ≤ s.runs.length
def b12b (w : World) (s : SegT) (q : Option Addr) (vc : Nat) (K9 : Int) (p : Option Addr) (cap C : Nat) (a' : Act) (W : World) : Prop :=
  Below w.heap.size w W ∧ Blk W w.heap.size #[.int .i64 K9, .slice p s.runs.length cap, .int .i64 s.A, .int .i64 s.R, .int .i64 s.n, .int .i64 s.d, .slice q s.raw.length vc, .int .i64 s.E] 29 ∧ ∃ (i : Nat) (v : Value), (∃ u : Nat → Value, a' = { tmps := #[u 0, .pointer (some ⟨w.heap.size, 0, none⟩), .slice none 0 0, v, u 4, u 5, u 6, u 7, u 8, u 9, u 10, u 11, u 12, u 13, u 14, u 15, u 16, u 17, u 18, u 19, u 20, u 21, u 22, u 23, u 24, u 25, u 26, u 27, u 28, u 29, u 30, u 31, u 32, u 33, u 34, u 35, u 36, u 37, u 38, u 39, u 40, u 41, u 42, u 43, u 44, u 45, u 46, u 47, u 48, u 49, u 50, u 51, u 52, u 53, u 54, u 55, u 56, u 57, u 58, u 59, u 60, u 61, u 62, u 63, u 64, u 65, u 66, u 67, u 68, u 69, u 70, u 71, u 72, u 73, u 74, u 75, u 76, u 77, u 78, u 79, u 80, u 81, u 82, u 83, u 84, u 85, u 86, u 87, u 88, u 89, u 90, u 91, u 92, u 93, u 94, u 95, u 96, u 97, u 98, u 99, u 100, u 101, u 102, u 103, u 104, u 105, .slice q s.raw.length vc, .int .i64 (s.raw.length : Int), .int .i64 (i : Int), u 109, u 110, u 111, u 112, u 113, u 114, u 115, u 116, u 117, u 118, u 119, u 120, u 121, u 122, u 123, u 124, u 125, u 126, u 127, u 128], defers := [] }) ∧ BytR W w.heap.size v (C + rawTo s.raw i) ∧ rawTo s.raw i ≤ 10 * i ∧ i ≤ s.raw.length
set_option maxRecDepth 100000 in
set_option maxHeartbeats 40000000 in
theorem c_r12Bytes (s : SegT) (p q : Option Addr) (cap vc : Nat) (w : World) (h : SegIn w s p q) (hz : SzOk s) :
    Calls Tryz.prog 35 #[.agg #[.int .i64 s.K, .slice p s.runs.length cap, .int .i64 s.A, .int .i64 s.R, .int .i64 s.n, .int .i64 s.d, .slice q s.raw.length vc, .int .i64 s.E]] w fun e w' => ∃ v, e = .returned v ∧ Below w.heap.size w w' ∧ BytR w' w.heap.size v (segSz s) := by
  have c1 := Lib.hid c_r02B
  have c2 := Lib.hid c_r02Signed
  have c3 := Lib.hid c_r02Bytes
  have c4 := Lib.hid c_r12Last
  have e0 := hz.e0
  have e1 := hz.e1
  have hK1 := hz.k0
  have hK2 := hz.k1
  have hfr := hz.runs.few
  have EE := Lib.hid (show IntKind.u64.wrap s.E = s.E by simp [IntKind.wrap, IntKind.bits, IntKind.signed]; omega)
  have hv0 := vlen_ten (n := s.E.toNat) (by omega)
  have hv1 := vlen_ten (n := s.runs.length) (by omega)
  go_enter Tryz.func35, Tryz.ntmps35
  go_upto_region 1 with (fail)
  refine wp_cutB w (Bc w.heap.size #[.int .i64 s.K, .slice p s.runs.length cap, .int .i64 s.A, .int .i64 s.R, .int .i64 s.n, .int .i64 s.d, .slice q s.raw.length vc, .int .i64 s.E] 29 <| Bz) ?_
  rintro W1 hW z2 hL
  obtain ⟨⟨b1, yb1, k1, f1⟩, -⟩ := id hL
  clear k1 f1
  refine wp_regD 8 129 hW hL ?_
  iterate 3 refine dE (fun W' hC => aI hK1 (aI hK2 (aI e0 e1))) ?_
  apply nd_mem8 (NewV W1.heap.size) (hg := rfl) (hal := rfl)
  · exact NewV.closed _
  · intro a' W' hC hE
    simp [Oper.looksAt, Op.operands, Call.operands, envOf, Det] at hE
    exact ⟨.slice (some ⟨W'.heap.size, 0, none⟩) 1 1, W'.alloc (.cells #[.int .u8 (IntKind.u8.wrap s.K)] 5), by simp [execOp, go_sem, Act.eval, hE], (Below.refl _ _).alloc (Nat.le_refl _) _, byt_new hC.1.size⟩
  iterate 3 refine dE (fun W' hC => aI hK1 (aI hK2 (aI e0 e1))) ?_
  apply nd_call (ByV W1.heap.size (vlen s.E.toNat)) (hg := rfl) (hal := rfl)
  · exact ByV.closed _ _
  · intro a' W' hC hE
    simp [Oper.looksAt, Op.operands, Call.operands, envOf, Det] at hE
    refine ⟨_, _, ?_, (c1.out s.E W' e0 (by omega)).mono ?_⟩
    · simp [go_sem, Act.eval, hE, EE.out]
      try rfl
    · rintro e w' ⟨v, rfl, hB, hv⟩
      exact ⟨v, rfl, hB, hv.mono hC.1.size⟩
  clear hW hL b1
  rintro W3 hW z4 hL
  simp only [ndR]
  intros
  simp only [ndS]
  obtain ⟨⟨b1, yb1, k1, f1⟩, -⟩ := hL
  rename NewV _ _ _ => hV
  rename ByV _ _ _ _ => hx
  replace hV := BytR.mono (B' := w.heap.size) hV (by omega)
  change BytR _ _ _ _ at hx
  go_wp2_with (at_builtin; refine wpList_append_byt rfl (.tmp 12) (.tmp 16) rfl w.heap.size _ _ _ _ _ rfl rfl hV hx (vlen_pos _) (by omega) hW.size ?_)
  intro v101 w101 hV101 hB101 hK101
  replace b1 := hK101 _ _ _ (by decide) b1
  replace hW := hW.trans hB101
  clear hV hB101 hK101 hx
  have hV := hV101
  clear hV101
  have hv101' := vlen_ten (n := s.runs.length) (by omega)
  have k1 := b1.cell
  have f1 := b1.frozen
  have y1 := b1.lt
  have zW := hW.size
  go_wp2_with fail
  refine (c3.out s.runs.length (by omega) _).mono ?_
  rintro e w102 ⟨v102, rfl, hB102, hx102⟩
  clear k1 f1 y1
  replace b1 := b1.below hB102
  replace hV := hV.below hB102
  replace hW := hW.trans (hB102.mono zW)
  clear hB102 zW
  go_wp2_with (at_builtin; refine wpList_append_byt rfl (.tmp 18) (.tmp 23) rfl w.heap.size _ _ _ _ _ rfl rfl hV hx102 (vlen_pos _) (by omega) hW.size ?_)
  intro v103 w103 hV103 hB103 hK103
  replace b1 := hK103 _ _ _ (by decide) b1
  replace hW := hW.trans hB103
  clear hV hB103 hK103 hx102
  have hV := hV103
  clear hV103
  have k1 := b1.cell
  have f1 := b1.frozen
  have y1 := b1.lt
  go_wp2
  clear k1 f1 y1
  refine wp_loop (b12a w s p q cap vc) (fun a' _ => s.runs.length - (intAt (a'.tmps.getD 28 undef)).toNat) ?_ ?_
  · unfold b12a
    exact ⟨hW, b1, 0, _, frame_ex rfl, hV, Nat.le_refl _, Nat.zero_le _⟩
  clear b1 hV hW
  rintro a' W ⟨hW, b1, i, v, ⟨u, rfl⟩, hV, hk, hi'⟩
  have hz9 := hW.size
  rcases Nat.lt_or_ge i s.runs.length with hlt | hge
  · obtain ⟨r, tr⟩ : ∃ r, s.runs[i]? = some r := ⟨s.runs[i]'(by omega), List.getElem?_eq_getElem (by omega)⟩
    obtain ⟨b, o, rfl, q0, q1, q2⟩ := (h.runs.below hW).at' i r tr
    have zq := cell_lt q0
    try simp only at zq
    obtain ⟨Z, hZ⟩ : ∃ Z, szTo s.runs i = Z := ⟨_, rfl⟩
    rw [hZ] at hV hk
    replace hZ := Lib.hid hZ
    have hr := hz.runs.each r (List.mem_of_getElem? tr)
    have r1 := hr.f0; have r2 := hr.f1; have r3 := hr.s0; have r4 := hr.s1; have r5 := hr.c0; have r6 := hr.c1
    have hle := fromI_le hz.runs tr
    clear hr
    cases i with
    | zero =>
      have hfr := Lib.hid (show fromI s.runs 0 = 0 from rfl)
      clear hle
      simp only [Nat.zero_mul, Nat.add_zero] at q0 q1 q2
      by_cases hc : 1 < r.c
      · replace tr := Lib.hid tr
        have k1 := b1.cell
        have f1 := b1.frozen
        have y1 := b1.lt
        go_wp2_with fail
        have hA : Below W.heap.size W (W.alloc (.cells #[.int .i64 r.f, .int .i64 r.s, .int .i64 r.c] 94)) := belowAny
        have b5 : Blk (W.alloc (.cells #[.int .i64 r.f, .int .i64 r.s, .int .i64 r.c] 94)) W.heap.size #[.int .i64 r.f, .int .i64 r.s, .int .i64 r.c] 94 := Blk.new' rfl
        clear k1 f1 y1 q0 q1 q2
        replace b1 := b1.below hA
        replace hV := hV.below hA
        replace hW := hW.trans (hA.mono hz9)
        clear hA
        have hv200' := vlen_ten (n := r.f.toNat) (by omega)
        have zW := hW.size
        refine (c1.out r.f _ (by omega) (by omega)).mono ?_
        rintro e w201 ⟨v201, rfl, hB201, hx201⟩
        replace b1 := b1.below hB201
        replace hV := hV.below hB201
        replace hW := hW.trans (hB201.mono zW)
        replace b5 := b5.below hB201
        clear hB201 zW
        go_wp2_with (at_builtin; refine wpList_append_byt rfl (.tmp 42) (.tmp 48) rfl w.heap.size _ _ _ _ _ rfl rfl hV hx201 (vlen_pos _) (by omega) hW.size ?_)
        intro v202 w202 hV202 hB202 hK202
        replace b1 := hK202 _ _ _ (by decide) b1
        replace hW := hW.trans hB202
        replace b5 := hK202 _ _ _ (by decide) b5
        clear hV hB202 hK202 hx201
        have hV := hV202
        clear hV202
        have hv202' := vlen_ten (n := r.c.toNat) (by omega)
        have k1 := b1.cell
        have f1 := b1.frozen
        have y1 := b1.lt
        have k_b5 := b5.cell
        have f_b5 := b5.frozen
        have y_b5 := b5.lt
        have zW := hW.size
        go_wp2_with fail
        refine (c1.out r.c _ (by omega) (by omega)).mono ?_
        rintro e w203 ⟨v203, rfl, hB203, hx203⟩
        clear k1 f1 y1 k_b5 f_b5 y_b5
        replace b1 := b1.below hB203
        replace hV := hV.below hB203
        replace hW := hW.trans (hB203.mono zW)
        replace b5 := b5.below hB203
        clear hB203 zW
        go_wp2_with (at_builtin; refine wpList_append_byt rfl (.tmp 50) (.tmp 54) rfl w.heap.size _ _ _ _ _ rfl rfl hV hx203 (vlen_pos _) (by omega) hW.size ?_)
        intro v204 w204 hV204 hB204 hK204
        replace b1 := hK204 _ _ _ (by decide) b1
        replace hW := hW.trans hB204
        replace b5 := hK204 _ _ _ (by decide) b5
        clear hV hB204 hK204 hx203
        have hV := hV204
        clear hV204
        have hv204' := vlen_ten (n := r.s.toNat) (by omega)
        have k1 := b1.cell
        have f1 := b1.frozen
        have y1 := b1.lt
        have k_b5 := b5.cell
        have f_b5 := b5.frozen
        have y_b5 := b5.lt
        have zW := hW.size
        go_wp2_with fail
        refine (c1.out r.s _ (by omega) (by omega)).mono ?_
        rintro e w205 ⟨v205, rfl, hB205, hx205⟩
        clear k1 f1 y1 k_b5 f_b5 y_b5
        replace b1 := b1.below hB205
        replace hV := hV.below hB205
        replace hW := hW.trans (hB205.mono zW)
        replace b5 := b5.below hB205
        clear hB205 zW
        go_wp2_with (at_builtin; refine wpList_append_byt rfl (.tmp 59) (.tmp 63) rfl w.heap.size _ _ _ _ _ rfl rfl hV hx205 (vlen_pos _) (by omega) hW.size ?_)
        intro v206 w206 hV206 hB206 hK206
        replace b1 := hK206 _ _ _ (by decide) b1
        replace hW := hW.trans hB206
        replace b5 := hK206 _ _ _ (by decide) b5
        clear hV hB206 hK206 hx205
        have hV := hV206
        clear hV206
        have k1 := b1.cell
        have f1 := b1.frozen
        have y1 := b1.lt
        have k_b5 := b5.cell
        have f_b5 := b5.frozen
        have y_b5 := b5.lt
        go_wp2
        have hs := szTo_succ tr.out
        unfold runSz at hs
        rw [if_pos hc, hfr.out, hZ.out, Int.sub_zero] at hs
        rw [show (1 : Int) = ((0 + 1 : Nat) : Int) by omega]
        refine ⟨?_, by simp [intAt]; omega⟩
        unfold b12a
        refine ⟨hW, b1, 0 + 1, _, frame_ex rfl, ?_, by omega, by omega⟩
        rw [hs]
        exact hV.cast (by omega)
      · replace tr := Lib.hid tr
        have k1 := b1.cell
        have f1 := b1.frozen
        have y1 := b1.lt
        go_wp2_with fail
        have hA : Below W.heap.size W (W.alloc (.cells #[.int .i64 r.f, .int .i64 r.s, .int .i64 r.c] 94)) := belowAny
        have b5 : Blk (W.alloc (.cells #[.int .i64 r.f, .int .i64 r.s, .int .i64 r.c] 94)) W.heap.size #[.int .i64 r.f, .int .i64 r.s, .int .i64 r.c] 94 := Blk.new' rfl
        clear k1 f1 y1 q0 q1 q2
        replace b1 := b1.below hA
        replace hV := hV.below hA
        replace hW := hW.trans (hA.mono hz9)
        clear hA
        have hv200' := vlen_ten (n := r.f.toNat) (by omega)
        have zW := hW.size
        refine (c1.out r.f _ (by omega) (by omega)).mono ?_
        rintro e w201 ⟨v201, rfl, hB201, hx201⟩
        replace b1 := b1.below hB201
        replace hV := hV.below hB201
        replace hW := hW.trans (hB201.mono zW)
        replace b5 := b5.below hB201
        clear hB201 zW
        go_wp2_with (at_builtin; refine wpList_append_byt rfl (.tmp 42) (.tmp 48) rfl w.heap.size _ _ _ _ _ rfl rfl hV hx201 (vlen_pos _) (by omega) hW.size ?_)
        intro v202 w202 hV202 hB202 hK202
        replace b1 := hK202 _ _ _ (by decide) b1
        replace hW := hW.trans hB202
        replace b5 := hK202 _ _ _ (by decide) b5
        clear hV hB202 hK202 hx201
        have hV := hV202
        clear hV202
        have hv202' := vlen_ten (n := r.c.toNat) (by omega)
        have k1 := b1.cell
        have f1 := b1.frozen
        have y1 := b1.lt
        have k_b5 := b5.cell
        have f_b5 := b5.frozen
        have y_b5 := b5.lt
        have zW := hW.size
        go_wp2_with fail
        refine (c1.out r.c _ (by omega) (by omega)).mono ?_
        rintro e w203 ⟨v203, rfl, hB203, hx203⟩
        clear k1 f1 y1 k_b5 f_b5 y_b5
        replace b1 := b1.below hB203
        replace hV := hV.below hB203
        replace hW := hW.trans (hB203.mono zW)
        replace b5 := b5.below hB203
        clear hB203 zW
        go_wp2_with (at_builtin; refine wpList_append_byt rfl (.tmp 50) (.tmp 54) rfl w.heap.size _ _ _ _ _ rfl rfl hV hx203 (vlen_pos _) (by omega) hW.size ?_)
        intro v204 w204 hV204 hB204 hK204
        replace b1 := hK204 _ _ _ (by decide) b1
        replace hW := hW.trans hB204
        replace b5 := hK204 _ _ _ (by decide) b5
        clear hV hB204 hK204 hx203
        have hV := hV204
        clear hV204
        have k1 := b1.cell
        have f1 := b1.frozen
        have y1 := b1.lt
        have k_b5 := b5.cell
        have f_b5 := b5.frozen
        have y_b5 := b5.lt
        go_wp2
        have hs := szTo_succ tr.out
        unfold runSz at hs
        rw [if_neg (by omega), hfr.out, hZ.out, Int.sub_zero] at hs
        rw [show (1 : Int) = ((0 + 1 : Nat) : Int) by omega]
        refine ⟨?_, by simp [intAt]; omega⟩
        unfold b12a
        refine ⟨hW, b1, 0 + 1, _, frame_ex rfl, ?_, by omega, by omega⟩
        rw [hs]
        exact hV.cast (by omega)
    | succ j =>
      obtain ⟨rq, tq⟩ : ∃ rq, s.runs[j]? = some rq := ⟨s.runs[j]'(by omega), List.getElem?_eq_getElem (by omega)⟩
      obtain ⟨b', o', e', t0, t1, t2⟩ := (h.runs.below hW).at' j rq tq
      obtain ⟨rfl, rfl⟩ : b = b' ∧ o = o' := by simpa using e'
      have hfr := Lib.hid (fromI_succ tq)
      rw [fromI_succ tq] at hle
      obtain ⟨g1, g2⟩ := hle
      have hrq := hz.runs.each rq (List.mem_of_getElem? tq)
      clear tq e'
      by_cases hc : 1 < r.c
      · replace tr := Lib.hid tr
        have k1 := b1.cell
        have f1 := b1.frozen
        have y1 := b1.lt
        go_wp2_with fail
        have hA : Below W.heap.size W (W.alloc (.cells #[.int .i64 r.f, .int .i64 r.s, .int .i64 r.c] 94)) := belowAny
        have b5 : Blk (W.alloc (.cells #[.int .i64 r.f, .int .i64 r.s, .int .i64 r.c] 94)) W.heap.size #[.int .i64 r.f, .int .i64 r.s, .int .i64 r.c] 94 := Blk.new' rfl
        clear k1 f1 y1 q0 q1 q2 t0 t1 t2
        replace b1 := b1.below hA
        replace hV := hV.below hA
        replace hW := hW.trans (hA.mono hz9)
        clear hA
        have zW := hW.size
        refine (c4.out rq hrq _).mono ?_
        rintro e w201 ⟨rfl, hB201⟩
        replace b1 := b1.below hB201
        replace hV := hV.below hB201
        replace hW := hW.trans (hB201.mono zW)
        replace b5 := b5.below hB201
        clear hB201 zW
        have hv201' := vlen_ten (n := (r.f - lastI rq).toNat) (by omega)
        have k1 := b1.cell
        have f1 := b1.frozen
        have y1 := b1.lt
        have k_b5 := b5.cell
        have f_b5 := b5.frozen
        have y_b5 := b5.lt
        have zW := hW.size
        go_wp2_with fail
        refine (c1.out (r.f - lastI rq) _ (by omega) (by omega)).mono ?_
        rintro e w202 ⟨v202, rfl, hB202, hx202⟩
        clear k1 f1 y1 k_b5 f_b5 y_b5
        replace b1 := b1.below hB202
        replace hV := hV.below hB202
        replace hW := hW.trans (hB202.mono zW)
        replace b5 := b5.below hB202
        clear hB202 zW
        go_wp2_with (at_builtin; refine wpList_append_byt rfl (.tmp 42) (.tmp 48) rfl w.heap.size _ _ _ _ _ rfl rfl hV hx202 (vlen_pos _) (by omega) hW.size ?_)
        intro v203 w203 hV203 hB203 hK203
        replace b1 := hK203 _ _ _ (by decide) b1
        replace hW := hW.trans hB203
        replace b5 := hK203 _ _ _ (by decide) b5
        clear hV hB203 hK203 hx202
        have hV := hV203
        clear hV203
        have hv203' := vlen_ten (n := r.c.toNat) (by omega)
        have k1 := b1.cell
        have f1 := b1.frozen
        have y1 := b1.lt
        have k_b5 := b5.cell
        have f_b5 := b5.frozen
        have y_b5 := b5.lt
        have zW := hW.size
        go_wp2_with fail
        refine (c1.out r.c _ (by omega) (by omega)).mono ?_
        rintro e w204 ⟨v204, rfl, hB204, hx204⟩
        clear k1 f1 y1 k_b5 f_b5 y_b5
        replace b1 := b1.below hB204
        replace hV := hV.below hB204
        replace hW := hW.trans (hB204.mono zW)
        replace b5 := b5.below hB204
        clear hB204 zW
        go_wp2_with (at_builtin; refine wpList_append_byt rfl (.tmp 50) (.tmp 54) rfl w.heap.size _ _ _ _ _ rfl rfl hV hx204 (vlen_pos _) (by omega) hW.size ?_)
        intro v205 w205 hV205 hB205 hK205
        replace b1 := hK205 _ _ _ (by decide) b1
        replace hW := hW.trans hB205
        replace b5 := hK205 _ _ _ (by decide) b5
        clear hV hB205 hK205 hx204
        have hV := hV205
        clear hV205
        have hv205' := vlen_ten (n := r.s.toNat) (by omega)
        have k1 := b1.cell
        have f1 := b1.frozen
        have y1 := b1.lt
        have k_b5 := b5.cell
        have f_b5 := b5.frozen
        have y_b5 := b5.lt
        have zW := hW.size
        go_wp2_with fail
        refine (c1.out r.s _ (by omega) (by omega)).mono ?_
        rintro e w206 ⟨v206, rfl, hB206, hx206⟩
        clear k1 f1 y1 k_b5 f_b5 y_b5
        replace b1 := b1.below hB206
        replace hV := hV.below hB206
        replace hW := hW.trans (hB206.mono zW)
        replace b5 := b5.below hB206
        clear hB206 zW
        go_wp2_with (at_builtin; refine wpList_append_byt rfl (.tmp 59) (.tmp 63) rfl w.heap.size _ _ _ _ _ rfl rfl hV hx206 (vlen_pos _) (by omega) hW.size ?_)
        intro v207 w207 hV207 hB207 hK207
        replace b1 := hK207 _ _ _ (by decide) b1
        replace hW := hW.trans hB207
        replace b5 := hK207 _ _ _ (by decide) b5
        clear hV hB207 hK207 hx206
        have hV := hV207
        clear hV207
        have k1 := b1.cell
        have f1 := b1.frozen
        have y1 := b1.lt
        have k_b5 := b5.cell
        have f_b5 := b5.frozen
        have y_b5 := b5.lt
        go_wp2
        have hs := szTo_succ tr.out
        unfold runSz at hs
        rw [if_pos hc, hfr.out, hZ.out] at hs
        rw [show (j : Int) + 1 + 1 = ((j + 1 + 1 : Nat) : Int) by omega]
        refine ⟨?_, by simp [intAt]; omega⟩
        unfold b12a
        refine ⟨hW, b1, (j + 1) + 1, _, frame_ex rfl, ?_, by omega, by omega⟩
        rw [hs]
        exact hV.cast (by omega)
      · replace tr := Lib.hid tr
        have k1 := b1.cell
        have f1 := b1.frozen
        have y1 := b1.lt
        go_wp2_with fail
        have hA : Below W.heap.size W (W.alloc (.cells #[.int .i64 r.f, .int .i64 r.s, .int .i64 r.c] 94)) := belowAny
        have b5 : Blk (W.alloc (.cells #[.int .i64 r.f, .int .i64 r.s, .int .i64 r.c] 94)) W.heap.size #[.int .i64 r.f, .int .i64 r.s, .int .i64 r.c] 94 := Blk.new' rfl
        clear k1 f1 y1 q0 q1 q2 t0 t1 t2
        replace b1 := b1.below hA
        replace hV := hV.below hA
        replace hW := hW.trans (hA.mono hz9)
        clear hA
        have zW := hW.size
        refine (c4.out rq hrq _).mono ?_
        rintro e w201 ⟨rfl, hB201⟩
        replace b1 := b1.below hB201
        replace hV := hV.below hB201
        replace hW := hW.trans (hB201.mono zW)
        replace b5 := b5.below hB201
        clear hB201 zW
        have hv201' := vlen_ten (n := (r.f - lastI rq).toNat) (by omega)
        have k1 := b1.cell
        have f1 := b1.frozen
        have y1 := b1.lt
        have k_b5 := b5.cell
        have f_b5 := b5.frozen
        have y_b5 := b5.lt
        have zW := hW.size
        go_wp2_with fail
        refine (c1.out (r.f - lastI rq) _ (by omega) (by omega)).mono ?_
        rintro e w202 ⟨v202, rfl, hB202, hx202⟩
        clear k1 f1 y1 k_b5 f_b5 y_b5
        replace b1 := b1.below hB202
        replace hV := hV.below hB202
        replace hW := hW.trans (hB202.mono zW)
        replace b5 := b5.below hB202
        clear hB202 zW
        go_wp2_with (at_builtin; refine wpList_append_byt rfl (.tmp 42) (.tmp 48) rfl w.heap.size _ _ _ _ _ rfl rfl hV hx202 (vlen_pos _) (by omega) hW.size ?_)
        intro v203 w203 hV203 hB203 hK203
        replace b1 := hK203 _ _ _ (by decide) b1
        replace hW := hW.trans hB203
        replace b5 := hK203 _ _ _ (by decide) b5
        clear hV hB203 hK203 hx202
        have hV := hV203
        clear hV203
        have hv203' := vlen_ten (n := r.c.toNat) (by omega)
        have k1 := b1.cell
        have f1 := b1.frozen
        have y1 := b1.lt
        have k_b5 := b5.cell
        have f_b5 := b5.frozen
        have y_b5 := b5.lt
        have zW := hW.size
        go_wp2_with fail
        refine (c1.out r.c _ (by omega) (by omega)).mono ?_
        rintro e w204 ⟨v204, rfl, hB204, hx204⟩
        clear k1 f1 y1 k_b5 f_b5 y_b5
        replace b1 := b1.below hB204
        replace hV := hV.below hB204
        replace hW := hW.trans (hB204.mono zW)
        replace b5 := b5.below hB204
        clear hB204 zW
        go_wp2_with (at_builtin; refine wpList_append_byt rfl (.tmp 50) (.tmp 54) rfl w.heap.size _ _ _ _ _ rfl rfl hV hx204 (vlen_pos _) (by omega) hW.size ?_)
        intro v205 w205 hV205 hB205 hK205
        replace b1 := hK205 _ _ _ (by decide) b1
        replace hW := hW.trans hB205
        replace b5 := hK205 _ _ _ (by decide) b5
        clear hV hB205 hK205 hx204
        have hV := hV205
        clear hV205
        have k1 := b1.cell
        have f1 := b1.frozen
        have y1 := b1.lt
        have k_b5 := b5.cell
        have f_b5 := b5.frozen
        have y_b5 := b5.lt
        go_wp2
        have hs := szTo_succ tr.out
        unfold runSz at hs
        rw [if_neg (by omega), hfr.out, hZ.out] at hs
        rw [show (j : Int) + 1 + 1 = ((j + 1 + 1 : Nat) : Int) by omega]
        refine ⟨?_, by simp [intAt]; omega⟩
        unfold b12a
        refine ⟨hW, b1, (j + 1) + 1, _, frame_ex rfl, ?_, by omega, by omega⟩
        rw [hs]
        exact hV.cast (by omega)
  · obtain rfl : i = s.runs.length := by omega
    obtain ⟨C0, hC0⟩ : ∃ C0, 1 + vlen s.E.toNat + vlen s.runs.length + szTo s.runs s.runs.length = C0 := ⟨_, rfl⟩
    have hC9 : C0 ≤ 8000 := by omega
    rw [hC0] at hV
    replace hC0 := Lib.hid hC0
    clear hk hv0 hv1 hge hi' e0 e1 hK1 hK2 hfr
    have hr0 := hz.r0
    have hr1 := hz.r1
    have hd0 := hz.d0
    have hd1 := hz.d1
    by_cases kk1 : s.K = 1
    · rw [kk1] at b1
      have hv320' := vlen_ten (n := foldZ s.A) (fold_lt hz.a0)
      have k1 := b1.cell
      have f1 := b1.frozen
      have y1 := b1.lt
      have zW := hW.size
      go_wp2_with fail
      refine (c2.out s.A hz.a0 _).mono ?_
      rintro e w321 ⟨v321, rfl, hB321, hx321⟩
      clear k1 f1 y1
      replace b1 := b1.below hB321
      replace hV := hV.below hB321
      replace hW := hW.trans (hB321.mono zW)
      clear hB321 zW
      go_wp2_with (at_builtin; refine wpList_append_byt rfl (.tmp 99) (.tmp 103) rfl w.heap.size _ _ _ _ _ rfl rfl hV hx321 (vlen_pos _) (by omega) hW.size ?_)
      intro v322 w322 hV322 hB322 hK322
      replace b1 := hK322 _ _ _ (by decide) b1
      replace hW := hW.trans hB322
      clear hV hB322 hK322 hx321
      have hV := hV322
      clear hV322
      have k1 := b1.cell
      have f1 := b1.frozen
      have y1 := b1.lt
      go_wp2
      clear k1 f1 y1
      refine wp_loop (b12b w s q vc 1 p cap (C0 + vlen (foldZ s.A))) (fun a' _ => s.raw.length - (intAt (a'.tmps.getD 108 undef)).toNat) ?_ ?_
      · unfold b12b
        exact ⟨hW, b1, 0, _, frame_ex rfl, hV, Nat.le_refl _, Nat.zero_le _⟩
      clear b1 hV hW
      rintro a' W9 ⟨hW, b1, i, v, ⟨u9, rfl⟩, hV, hk9, hi9⟩
      have hz8 := hW.size
      rcases Nat.lt_or_ge i s.raw.length with hlt | hge
      · rw [hz.none (by omega)] at hlt
        cases hlt
      · obtain rfl : i = s.raw.length := by omega
        have hs : segSz s = C0 + lineSz s.K s.A s.R s.n s.d + rawTo s.raw s.raw.length := by unfold segSz; rw [hC0.out]
        have hl : lineSz s.K s.A s.R s.n s.d = vlen (foldZ s.A) := by rw [kk1]; simp [lineSz]
        replace hV := hV.cast (show _ = segSz s by rw [hs, hl] <;> omega)
        clear hs hl hk9
        go_wp2
        go_ret
        exact ⟨_, rfl, hW, hV⟩
    by_cases kk2 : s.K = 2
    · rw [kk2] at b1
      have k1 := b1.cell
      have f1 := b1.frozen
      have y1 := b1.lt
      go_upto_region 17 with (fail)
      have hl1 := vlen_ten (n := foldZ s.n) (fold_lt hz.n0)
      have hl2 := vlen_ten (n := s.d.toNat) (by omega)
      have ED := Lib.hid (show IntKind.u64.wrap s.d = s.d by simp [IntKind.wrap, IntKind.bits, IntKind.signed]; omega)
      have c1d := Lib.hid (show ∀ W, Calls Tryz.prog 62 #[.int .u64 (IntKind.u64.wrap s.d)] W fun e w' => ∃ v, e = .returned v ∧ Below W.heap.size W w' ∧ BytR w' W.heap.size v (vlen s.d.toNat) from fun W => by rw [ED.out]; exact c1.out s.d W hd0 (by omega))
      have hdr : Below W.heap.size W W.drew := Below.drew (Below.refl _ W)
      have hVd := hV.below hdr
      have b1d := b1.below hdr
      have hWd := hW.trans (hdr.mono hW.size)
      clear hdr
      go_region_law
        (first
          | (refine step_append_byt (by rfl) _ _ (by rfl) w.heap.size _ _ _ _ _ (by rfl) (by rfl) hV2 hx2 (vlen_pos _) (by omega) hW2.size ?_; intro v3 w3 hV3 hB3 hK3; have b3 := hK3 _ _ _ (by decide) b2; have hW3 := hW2.trans hB3; have k3 := b3.cell; have f3 := b3.frozen; have y3 := b3.lt)
          | (refine step_append_byt (by rfl) _ _ (by rfl) w.heap.size _ _ _ _ _ (by rfl) (by rfl) hV4 hx4 (vlen_pos _) (by omega) hW4.size ?_; intro v5 w5 hV5 hB5 hK5; have b5 := hK5 _ _ _ (by decide) b4; have hW5 := hW4.trans hB5)
          | (go_simp; go_wp2_with (go_at_call 62; refine (c1d.out _).mono ?_; rintro e w4 ⟨v4, rfl, hB4, hx4⟩); have hV4 := hV3.below hB4; have b4 := b3.below hB4; have hW4 := hW3.trans (hB4.mono hW3.size))
          | (go_simp; go_wp2_with (go_at_call 64; refine (c2.out s.n hz.n0 _).mono ?_; rintro e w2 ⟨v2, rfl, hB2, hx2⟩); have hV2 := hVd.below hB2; have b2 := b1d.below hB2; have hW2 := hWd.trans (hB2.mono hWd.size); have k2 := b2.cell; have f2 := b2.frozen; have y2 := b2.lt))
      all_goals (
        clear hV hV2 hV3 hV4 hVd b1 b1d b2 b3 b4 hW hW2 hW3 hW4 hWd hx2 hx4 hB2 hB3 hB4 hB5 hK3 hK5 k1 f1 y1 k2 f2 y2 k3 f3 y3 ED c1d
        have b1 := b5
        have hV := hV5
        have hW := hW5
        clear b5 hV5 hW5
        have hv340' := vlen_ten (n := foldZ s.A) (fold_lt hz.a0)
        have k1 := b1.cell
        have f1 := b1.frozen
        have y1 := b1.lt
        have zW := hW.size
        go_wp2_with fail
        refine (c2.out s.A hz.a0 _).mono ?_
        rintro e w341 ⟨v341, rfl, hB341, hx341⟩
        clear k1 f1 y1
        replace b1 := b1.below hB341
        replace hV := hV.below hB341
        replace hW := hW.trans (hB341.mono zW)
        clear hB341 zW
        go_wp2_with (at_builtin; refine wpList_append_byt rfl (.tmp 99) (.tmp 103) rfl w.heap.size _ _ _ _ _ rfl rfl hV hx341 (vlen_pos _) (by omega) hW.size ?_)
        intro v342 w342 hV342 hB342 hK342
        replace b1 := hK342 _ _ _ (by decide) b1
        replace hW := hW.trans hB342
        clear hV hB342 hK342 hx341
        have hV := hV342
        clear hV342
        have k1 := b1.cell
        have f1 := b1.frozen
        have y1 := b1.lt
        go_wp2
        clear k1 f1 y1
        refine wp_loop (b12b w s q vc 2 p cap ((C0 + vlen (foldZ s.n) + vlen s.d.toNat) + vlen (foldZ s.A))) (fun a' _ => s.raw.length - (intAt (a'.tmps.getD 108 undef)).toNat) ?_ ?_
        · unfold b12b
          exact ⟨hW, b1, 0, _, frame_ex rfl, hV, Nat.le_refl _, Nat.zero_le _⟩
        clear b1 hV hW
        rintro a' W9 ⟨hW, b1, i, v, ⟨u9, rfl⟩, hV, hk9, hi9⟩
        have hz8 := hW.size
        rcases Nat.lt_or_ge i s.raw.length with hlt | hge
        · rw [hz.none (by omega)] at hlt
          cases hlt
        · obtain rfl : i = s.raw.length := by omega
          have hs : segSz s = C0 + lineSz s.K s.A s.R s.n s.d + rawTo s.raw s.raw.length := by unfold segSz; rw [hC0.out]
          have hl : lineSz s.K s.A s.R s.n s.d = vlen (foldZ s.n) + vlen s.d.toNat + vlen (foldZ s.A) := by rw [kk2]; simp [lineSz]
          replace hV := hV.cast (show _ = segSz s by rw [hs, hl] <;> omega)
          clear hs hl hk9
          go_wp2
          go_ret
          exact ⟨_, rfl, hW, hV⟩)
    by_cases kk3 : s.K = 3
    · rw [kk3] at b1
      have hv360' := vlen_ten (n := s.R.toNat) (by omega)
      have k1 := b1.cell
      have f1 := b1.frozen
      have y1 := b1.lt
      have zW := hW.size
      go_wp2_with fail
      refine (c1.out s.R _ hr0 (by omega)).mono ?_
      rintro e w361 ⟨v361, rfl, hB361, hx361⟩
      clear k1 f1 y1
      replace b1 := b1.below hB361
      replace hV := hV.below hB361
      replace hW := hW.trans (hB361.mono zW)
      clear hB361 zW
      go_wp2_with (at_builtin; refine wpList_append_byt rfl (.tmp 69) (.tmp 74) rfl w.heap.size _ _ _ _ _ rfl rfl hV hx361 (vlen_pos _) (by omega) hW.size ?_)
      intro v362 w362 hV362 hB362 hK362
      replace b1 := hK362 _ _ _ (by decide) b1
      replace hW := hW.trans hB362
      clear hV hB362 hK362 hx361
      have hV := hV362
      clear hV362
      have k1 := b1.cell
      have f1 := b1.frozen
      have y1 := b1.lt
      go_upto_region 17 with (fail)
      have hl1 := vlen_ten (n := foldZ s.n) (fold_lt hz.n0)
      have hl2 := vlen_ten (n := s.d.toNat) (by omega)
      have ED := Lib.hid (show IntKind.u64.wrap s.d = s.d by simp [IntKind.wrap, IntKind.bits, IntKind.signed]; omega)
      have c1d := Lib.hid (show ∀ W, Calls Tryz.prog 62 #[.int .u64 (IntKind.u64.wrap s.d)] W fun e w' => ∃ v, e = .returned v ∧ Below W.heap.size W w' ∧ BytR w' W.heap.size v (vlen s.d.toNat) from fun W => by rw [ED.out]; exact c1.out s.d W hd0 (by omega))
      have hdr : Below w362.heap.size w362 w362.drew := Below.drew (Below.refl _ w362)
      have hVd := hV.below hdr
      have b1d := b1.below hdr
      have hWd := hW.trans (hdr.mono hW.size)
      clear hdr
      go_region_law
        (first
          | (refine step_append_byt (by rfl) _ _ (by rfl) w.heap.size _ _ _ _ _ (by rfl) (by rfl) hV2 hx2 (vlen_pos _) (by omega) hW2.size ?_; intro v3 w3 hV3 hB3 hK3; have b3 := hK3 _ _ _ (by decide) b2; have hW3 := hW2.trans hB3; have k3 := b3.cell; have f3 := b3.frozen; have y3 := b3.lt)
          | (refine step_append_byt (by rfl) _ _ (by rfl) w.heap.size _ _ _ _ _ (by rfl) (by rfl) hV4 hx4 (vlen_pos _) (by omega) hW4.size ?_; intro v5 w5 hV5 hB5 hK5; have b5 := hK5 _ _ _ (by decide) b4; have hW5 := hW4.trans hB5)
          | (go_simp; go_wp2_with (go_at_call 62; refine (c1d.out _).mono ?_; rintro e w4 ⟨v4, rfl, hB4, hx4⟩); have hV4 := hV3.below hB4; have b4 := b3.below hB4; have hW4 := hW3.trans (hB4.mono hW3.size))
          | (go_simp; go_wp2_with (go_at_call 64; refine (c2.out s.n hz.n0 _).mono ?_; rintro e w2 ⟨v2, rfl, hB2, hx2⟩); have hV2 := hVd.below hB2; have b2 := b1d.below hB2; have hW2 := hWd.trans (hB2.mono hWd.size); have k2 := b2.cell; have f2 := b2.frozen; have y2 := b2.lt))
      all_goals (
        clear hV hV2 hV3 hV4 hVd b1 b1d b2 b3 b4 hW hW2 hW3 hW4 hWd hx2 hx4 hB2 hB3 hB4 hB5 hK3 hK5 k1 f1 y1 k2 f2 y2 k3 f3 y3 ED c1d
        have b1 := b5
        have hV := hV5
        have hW := hW5
        clear b5 hV5 hW5
        have hv362' := vlen_ten (n := foldZ s.A) (fold_lt hz.a0)
        have k1 := b1.cell
        have f1 := b1.frozen
        have y1 := b1.lt
        have zW := hW.size
        go_wp2_with fail
        refine (c2.out s.A hz.a0 _).mono ?_
        rintro e w363 ⟨v363, rfl, hB363, hx363⟩
        clear k1 f1 y1
        replace b1 := b1.below hB363
        replace hV := hV.below hB363
        replace hW := hW.trans (hB363.mono zW)
        clear hB363 zW
        go_wp2_with (at_builtin; refine wpList_append_byt rfl (.tmp 99) (.tmp 103) rfl w.heap.size _ _ _ _ _ rfl rfl hV hx363 (vlen_pos _) (by omega) hW.size ?_)
        intro v364 w364 hV364 hB364 hK364
        replace b1 := hK364 _ _ _ (by decide) b1
        replace hW := hW.trans hB364
        clear hV hB364 hK364 hx363
        have hV := hV364
        clear hV364
        have k1 := b1.cell
        have f1 := b1.frozen
        have y1 := b1.lt
        go_wp2
        clear k1 f1 y1
        refine wp_loop (b12b w s q vc 3 p cap (((C0 + vlen s.R.toNat) + vlen (foldZ s.n) + vlen s.d.toNat) + vlen (foldZ s.A))) (fun a' _ => s.raw.length - (intAt (a'.tmps.getD 108 undef)).toNat) ?_ ?_
        · unfold b12b
          exact ⟨hW, b1, 0, _, frame_ex rfl, hV, Nat.le_refl _, Nat.zero_le _⟩
        clear b1 hV hW
        rintro a' W9 ⟨hW, b1, i, v, ⟨u9, rfl⟩, hV, hk9, hi9⟩
        have hz8 := hW.size
        rcases Nat.lt_or_ge i s.raw.length with hlt | hge
        · rw [hz.none (by omega)] at hlt
          cases hlt
        · obtain rfl : i = s.raw.length := by omega
          have hs : segSz s = C0 + lineSz s.K s.A s.R s.n s.d + rawTo s.raw s.raw.length := by unfold segSz; rw [hC0.out]
          have hl : lineSz s.K s.A s.R s.n s.d = vlen s.R.toNat + (vlen (foldZ s.n) + vlen s.d.toNat + vlen (foldZ s.A)) := by rw [kk3]; simp [lineSz]
          replace hV := hV.cast (show _ = segSz s by rw [hs, hl] <;> omega)
          clear hs hl hk9
          go_wp2
          go_ret
          exact ⟨_, rfl, hW, hV⟩)
    · have kk4 : s.K = 4 := by have h1 := hz.k0; have h2 := hz.k1; omega
      rw [kk4] at b1
      have k1 := b1.cell
      have f1 := b1.frozen
      have y1 := b1.lt
      go_wp2
      clear k1 f1 y1
      refine wp_loop (b12b w s q vc 4 p cap C0) (fun a' _ => s.raw.length - (intAt (a'.tmps.getD 108 undef)).toNat) ?_ ?_
      · unfold b12b
        exact ⟨hW, b1, 0, _, frame_ex rfl, hV, Nat.le_refl _, Nat.zero_le _⟩
      clear b1 hV hW
      rintro a' W9 ⟨hW, b1, i, v, ⟨u9, rfl⟩, hV, hk9, hi9⟩
      have hz8 := hW.size
      rcases Nat.lt_or_ge i s.raw.length with hlt | hge
      · obtain ⟨x, tr⟩ : ∃ x, s.raw[i]? = some x := ⟨s.raw[i]'(by omega), List.getElem?_eq_getElem (by omega)⟩
        obtain ⟨b, o, rfl, q0⟩ := (h.raw.below hW).at' i x tr
        have zq := cell_lt q0
        try simp only at zq
        obtain ⟨Z, hZ⟩ : ∃ Z, rawTo s.raw i = Z := ⟨_, rfl⟩
        rw [hZ] at hV hk9
        replace hZ := Lib.hid hZ
        have hx := List.all_eq_true.1 hz.raw x (List.mem_of_getElem? tr)
        unfold isBack at hx
        simp at hx
        have hfv := hz.fewV
        have hpv := prev_bd hz.raw i
        cases i with
        | zero =>
          have hpr := Lib.hid (show prevV s.raw 0 = 0 from rfl)
          have hI : I64 x := by unfold I64; omega
          replace tr := Lib.hid tr
          simp only [Nat.add_zero] at q0
          clear hpv
          have hv550' := vlen_ten (n := foldZ x) (fold_lt hI)
          have k1 := b1.cell
          have f1 := b1.frozen
          have y1 := b1.lt
          have zW := hW.size
          go_wp2_with fail
          refine (c2.out x hI _).mono ?_
          rintro e w551 ⟨v551, rfl, hB551, hx551⟩
          clear k1 f1 y1
          replace b1 := b1.below hB551
          replace hV := hV.below hB551
          replace hW := hW.trans (hB551.mono zW)
          clear hB551 zW
          go_wp2_with (at_builtin; refine wpList_append_byt rfl (.tmp 123) (.tmp 125) rfl w.heap.size _ _ _ _ _ rfl rfl hV hx551 (vlen_pos _) (by omega) hW.size ?_)
          intro v552 w552 hV552 hB552 hK552
          replace b1 := hK552 _ _ _ (by decide) b1
          replace hW := hW.trans hB552
          clear hV hB552 hK552 hx551
          have hV := hV552
          clear hV552
          have k1 := b1.cell
          have f1 := b1.frozen
          have y1 := b1.lt
          go_wp2
          have hs := rawTo_succ tr.out
          rw [hpr.out, hZ.out, Int.sub_zero] at hs
          rw [show (1 : Int) = ((0 + 1 : Nat) : Int) by omega]
          refine ⟨?_, by simp [intAt]; omega⟩
          unfold b12b
          refine ⟨hW, b1, 0 + 1, _, frame_ex rfl, ?_, by omega, by omega⟩
          rw [hs]
          exact hV.cast (by omega)
        | succ j =>
          obtain ⟨y, ty⟩ : ∃ y, s.raw[j]? = some y := ⟨s.raw[j]'(by omega), List.getElem?_eq_getElem (by omega)⟩
          obtain ⟨b', o', e', t0⟩ := (h.raw.below hW).at' j y ty
          obtain ⟨rfl, rfl⟩ : b = b' ∧ o = o' := by simpa using e'
          have hpr := Lib.hid (prevV_succ ty)
          rw [prevV_succ ty] at hpv
          have hI : I64 (x - y) := by unfold I64; omega
          replace tr := Lib.hid tr
          clear ty e'
          have hv500' := vlen_ten (n := foldZ (x - y)) (fold_lt hI)
          have k1 := b1.cell
          have f1 := b1.frozen
          have y1 := b1.lt
          have zW := hW.size
          go_wp2_with fail
          refine (c2.out (x - y) hI _).mono ?_
          rintro e w501 ⟨v501, rfl, hB501, hx501⟩
          clear k1 f1 y1
          replace b1 := b1.below hB501
          replace hV := hV.below hB501
          replace hW := hW.trans (hB501.mono zW)
          clear hB501 zW
          go_wp2_with (at_builtin; refine wpList_append_byt rfl (.tmp 123) (.tmp 125) rfl w.heap.size _ _ _ _ _ rfl rfl hV hx501 (vlen_pos _) (by omega) hW.size ?_)
          intro v502 w502 hV502 hB502 hK502
          replace b1 := hK502 _ _ _ (by decide) b1
          replace hW := hW.trans hB502
          clear hV hB502 hK502 hx501
          have hV := hV502
          clear hV502
          have k1 := b1.cell
          have f1 := b1.frozen
          have y1 := b1.lt
          go_wp2
          have hs := rawTo_succ tr.out
          rw [hpr.out, hZ.out] at hs
          rw [show (j : Int) + 1 + 1 = ((j + 1 + 1 : Nat) : Int) by omega]
          refine ⟨?_, by simp [intAt]; omega⟩
          unfold b12b
          refine ⟨hW, b1, (j + 1) + 1, _, frame_ex rfl, ?_, by omega, by omega⟩
          rw [hs]
          exact hV.cast (by omega)
      · obtain rfl : i = s.raw.length := by omega
        have hs : segSz s = C0 + lineSz s.K s.A s.R s.n s.d + rawTo s.raw s.raw.length := by unfold segSz; rw [hC0.out]
        have hl : lineSz s.K s.A s.R s.n s.d = 0 := by rw [kk4]; simp [lineSz]
        replace hV := hV.cast (show _ = segSz s by rw [hs, hl] <;> omega)
        clear hs hl hk9
        go_wp2
        go_ret
        exact ⟨_, rfl, hW, hV⟩
end Go.Proofs.YtbanjolokkghdaaGreatDoor
namespace Go.Proofs.YtbanjolokkghdaaGreatDoor
open Go.RowKit
theorem xor_zero {a : Int} (h0 : 0 ≤ a) (h1 : a < 18446744073709551616) : bits .xor .u64 a 0 = a := by
  have key : (BitVec.ofInt 64 a ^^^ BitVec.ofInt 64 0).toNat = (a % ((2 ^ 64 : Nat) : Int)).toNat := by
    rw [show BitVec.ofInt 64 0 = 0#64 by decide, BitVec.xor_zero, BitVec.toNat_ofInt]
  change IntKind.u64.wrap (((BitVec.ofInt 64 a ^^^ BitVec.ofInt 64 0).toNat : Nat) : Int) = _
  rw [key, u64_eq]
  omega
theorem xor_ones {a : Int} (h0 : 0 ≤ a) (h1 : a < 18446744073709551616) : bits .xor .u64 a 18446744073709551615 = 18446744073709551615 - a := by
  have key : (BitVec.ofInt 64 a ^^^ BitVec.ofInt 64 18446744073709551615).toNat = 2 ^ 64 - 1 - (a % ((2 ^ 64 : Nat) : Int)).toNat := by
    rw [show BitVec.ofInt 64 18446744073709551615 = BitVec.allOnes 64 by decide, BitVec.xor_allOnes, BitVec.toNat_not, BitVec.toNat_ofInt]
  change IntKind.u64.wrap (((BitVec.ofInt 64 a ^^^ BitVec.ofInt 64 18446744073709551615).toNat : Nat) : Int) = _
  rw [key, u64_eq]
  omega
set_option maxRecDepth 100000 in
set_option maxHeartbeats 2000000 in
theorem c_vyPlain (z : Int) (w : World) : Calls Tryz.prog 177 #[.int .u64 z] w fun e w' => e = .returned (.int .u64 z) ∧ Below w.heap.size w w' := by
  go_enter Tryz.func177, Tryz.ntmps177
  go_wp2
  go_ret
  exact ⟨rfl, Below.refl _ _⟩
set_option maxRecDepth 100000 in
set_option maxHeartbeats 2000000 in
theorem folded_pos (z : Int) (h : I64 z) (h0 : 0 ≤ z) (w : World) : Calls Tryz.prog 179 #[.int .i64 z] w fun e w' => e = .returned (.int .u64 (2 * z)) ∧ Below w.heap.size w w' := by
  unfold I64 at h
  go_enter Tryz.func179, Tryz.ntmps179
  have e1 : IntKind.u64.wrap (wrap64 (z * 2)) = 2 * z := by rw [u64_eq, wrap64_eq]; omega
  have e2 : z / 9223372036854775808 = 0 := by omega
  have e := Lib.hid (show bits .xor .u64 (IntKind.u64.wrap (wrap64 (z * 2))) (z / 9223372036854775808) = 2 * z by rw [e1, e2]; exact xor_zero (by omega) (by omega))
  clear e1 e2
  go_wp2
  go_ret
  refine ⟨?_, Below.refl _ _⟩
  rw [← e.out]
  rfl
set_option maxRecDepth 100000 in
set_option maxHeartbeats 2000000 in
theorem folded_neg (z : Int) (h : I64 z) (h0 : ¬ 0 ≤ z) (w : World) : Calls Tryz.prog 179 #[.int .i64 z] w fun e w' => e = .returned (.int .u64 (-2 * z - 1)) ∧ Below w.heap.size w w' := by
  unfold I64 at h
  go_enter Tryz.func179, Tryz.ntmps179
  have e1 : IntKind.u64.wrap (wrap64 (z * 2)) = 2 * z + 18446744073709551616 := by rw [u64_eq, wrap64_eq]; omega
  have e2 : IntKind.u64.wrap (z / 9223372036854775808) = 18446744073709551615 := by rw [show z / 9223372036854775808 = -1 by omega, u64_eq]; rfl
  have e := Lib.hid (show bits .xor .u64 (IntKind.u64.wrap (wrap64 (z * 2))) (IntKind.u64.wrap (z / 9223372036854775808)) = -2 * z - 1 by rw [e1, e2, xor_ones (by omega) (by omega)]; omega)
  clear e1 e2
  go_wp2
  go_ret
  refine ⟨?_, Below.refl _ _⟩
  rw [← e.out]
  rfl
theorem c_vyFolded (z : Int) (h : I64 z) (w : World) : Calls Tryz.prog 179 #[.int .i64 z] w fun e w' => e = .returned (.int .u64 (foldZ z : Int)) ∧ Below w.heap.size w w' := by
  unfold foldZ
  by_cases h0 : 0 ≤ z
  · rw [if_pos h0, show (((2 * z).toNat : Nat) : Int) = 2 * z by omega]; exact folded_pos z h h0 w
  · rw [if_neg h0, show (((-2 * z - 1).toNat : Nat) : Int) = -2 * z - 1 by omega]; exact folded_neg z h h0 w
theorem run_copyP {P : Program} (w : World) (dT sT ty elem : TypeId) (k g dLen dCap : Nat) (a : Addr) (sLen sCap : Nat) (cur : Array Value) (t : TypeId) (cs : List Value)
    (hu : P.underlying dT = some (.slice elem)) (hs : (P.info? elem).map (·.size) = some k)
    (hg : w.heap[g]? = some (.cells cur t (0, 0))) (hn : cs.length = Nat.min sLen dLen * k)
    (hsrc : ∀ j v, cs[j]? = some v → w.cell? (a.add j) = some v) (hfit : cs.length ≤ cur.size) (h1 : ∀ v ∈ cs, v.oneCell' = true) :
    (Builtin.copy_ #[dT, sT] ty #[.slice (some ⟨g, 0, none⟩) dLen dCap, .slice (some a) sLen sCap]).run P w =
      .ok (goInt (Nat.min sLen dLen)) (w.setRow g (cs ++ cur.toList.drop cs.length).toArray) := by
  have hl := run_loadCells_list (P := P) w a cs hsrc
  have hst := run_storeCells_at P g 0 t cs 0 cur w hg (by omega) h1
  have e : cur.toList.take (0 + 0) ++ cs ++ cur.toList.drop (0 + 0 + cs.length) = cs ++ cur.toList.drop cs.length := by simp
  rw [e] at hst
  cases hq : P.info? elem with
  | none => simp [hq] at hs
  | some i =>
    have hi : i.size = k := by simpa [hq] using hs
    have hm : k * min sLen dLen = cs.length := by rw [hn, Nat.mul_comm]
    have hm' : min sLen dLen * k = cs.length := hn.symm
    simp [Builtin.copy_, run_underlying hu, Builtin.lenOf, Builtin.firstCells, sizeOf, typeInfo, hq, hi, hm, hm', hl, hst]
set_option maxRecDepth 100000 in
set_option maxHeartbeats 2000000 in
theorem make_u8 (k : Nat) (hk : k ≤ 1000000) : ∃ C : List Int, C.length = k + 9 ∧ ∀ W, (Instr.makeSlice 69 (.int .i64 (k : Int)) (.int .i64 ((k : Int) + 1 + 8))).run Tryz.prog W = .ok (.slice (some ⟨W.heap.size, 0, none⟩) k (k + 9)) (W.alloc (.cells (C.map (Value.int .u8)).toArray 5)) := by
  obtain ⟨i, hi, hz0, hz1, hz2⟩ := info_parts Tryz.infoU8
  refine ⟨List.replicate (k + 9) 0, by simp, fun W => ?_⟩
  have := run_make (P := Tryz.prog) W 69 5 i _ rfl hi hz0 .i64 .i64 (k : Int) ((k : Int) + 1 + 8) (by omega) (by omega) (by rw [hz2]; omega) (by omega)
  rw [this, hz1, show ((k : Int) + 1 + 8).toNat = k + 9 by omega, show ((k : Int)).toNat = k by omega]
  simp [Value.cells, madeCells]
  congr 2
  apply Array.ext
  · simp
  · intro i h1 h2
    simp [Nat.mod_one]
end Go.Proofs.YtbanjolokkghdaaGreatDoor
