/- Parts of the proof that follows: A run of closed code: append, copy, clear, len, cap, min, max. No condition. | A run of closed code: the built-in functions, calls. No condition. | A run of closed code: what the runner leaves as it was. No condition. -/
import Derived.Lib.AppendZerosOnto
import Derived.Test.YtbanjolokkghdaaGreatDoorWz31
set_option linter.unusedSimpArgs false
set_option linter.unusedVariables false
namespace Go.Proofs.YtbanjolokkghdaaGreatDoor
open Go.RowKit
set_option maxRecDepth 100000
theorem arr_app (l : List Value) (a : Array Value) : (l ++ a.toList).toArray = l.toArray ++ a := by apply Array.ext'; simp
section
variable {P : Program} {B : Nat} {r : Rn} {s s' : St} {w : World} {v : Value}
theorem grown_ge (w : World) (need old : Nat) (e : TypeId) : need ≤ grownCap w need old e := by unfold grownCap; exact Nat.le_add_right _ _
theorem growBy_le (n : Nat) : ∀ (k c : Nat), c ≤ n → Builtin.growBy n k c ≤ 2 * n + 768
  | 0, c, h => by simp only [Builtin.growBy]; omega
  | k + 1, c, h => by
    simp only [Builtin.growBy]
    split
    · omega
    · rename_i hc
      rcases Nat.lt_or_ge n (c + (c + 768) / 4) with h1 | h1
      · cases k with
        | zero => simp only [Builtin.growBy]; omega
        | succ k => simp only [Builtin.growBy]; rw [if_pos (by omega)]; omega
      · exact growBy_le n k _ h1
theorem nextslicecap_le {n c : Nat} (h : c < n) : Builtin.nextslicecap n c ≤ 8 * (n + 64) + 256 := by
  unfold Builtin.nextslicecap
  split
  · omega
  · split
    · omega
    · have := growBy_le n 4 c (by omega); omega
theorem fit_of {n c b : Nat} (h : c < n) (hb : 8 * (n + 64) * (b + 1) ≤ 100000000) : Builtin.nextslicecap n c * b ≤ 281474976710656 := by
  have h1 := nextslicecap_le h
  have h2 : Builtin.nextslicecap n c * b ≤ (8 * (n + 64) + 256) * (b + 1) := Nat.mul_le_mul h1 (by omega)
  have h3 : (8 * (n + 64) + 256) * (b + 1) ≤ 2 * (8 * (n + 64)) * (b + 1) := Nat.mul_le_mul_right _ (by omega)
  rw [Nat.mul_assoc] at h3
  omega
theorem zeros_len (z : Array Value) (k : Nat) : (Builtin.zeroCells z k).size = k * z.size := by simp [Builtin.zeroCells]
/-- a grown row: what it holds, and room behind it -/
theorem open_or {cs cs' : List Value} {x : Nat} {t : TypeId} {i : TypeInfo} {r : Rn} {tail : List Value} (hi : P.info? t = some i) (h : LR r cs cs') (h1 : ones cs = true) (ht : tail.length = x * i.size) : OR P r x (.cells cs t true) (.cells (cs' ++ tail).toArray t (0, 0)) :=
  ⟨_, rfl, by simp [h.1, ht, szB, hi], fun j v hv => by
    obtain ⟨v', g1, g2⟩ := h.get hv
    have hj : j < cs'.length := (List.getElem?_eq_some_iff.1 g1).1
    have g1' : (cs' ++ tail)[j]? = some v' := by rw [List.getElem?_append_left hj]; exact g1
    exact ⟨v', by simpa using g1', g2, ones_mem h1 v (List.mem_of_getElem? hv)⟩⟩
theorem LR.len {l l' : List Value} (h : LR r l l') : l'.length = l.length := h.1.symm
theorem rd_ones (h : Rel P B r s w) {k off n : Nat} {l : List Value} (hl : rd s k off n = some l) : ones l = true := by
  have h0 := hl
  unfold rd at h0
  split at h0
  · rename_i cs t op hg
    obtain ⟨b, x, o', e1, e2, a, rfl, e3, e4⟩ := h.obj k _ hg
    obtain ⟨-, l', h2, -, h4⟩ := rd_ok h hl e1
    clear e4 e3 hg h0 hl e2
    induction l generalizing l' with
    | nil => rfl
    | cons u q ih =>
      obtain ⟨v', q', rfl, g1, g2⟩ := h2.uncons
      simp only [ones, Bool.and_eq_true]
      exact ⟨by rw [← g1.one]; exact h4 v' (by simp), ih q' g2 fun v hv => h4 v (by simp [hv])⟩
  · cases h0
theorem ones_app : ∀ {a b : List Value}, ones a = true → ones b = true → ones (a ++ b) = true
  | [], b, _, h => h
  | v :: a, b, h1, h2 => by simp only [List.cons_append, ones, Bool.and_eq_true] at h1 ⊢; exact ⟨h1.1, ones_app h1.2 h2⟩
theorem bif_one {α : Type} {c : Bool} {x : Option α} {y : α} (h : (bif c then x else none) = some y) : c = true ∧ x = some y := by
  cases c with
  | true => exact ⟨rfl, h⟩
  | false => cases h
theorem zeros_reps (z : Array Value) (n : Nat) : Builtin.zeroCells z n = (reps n z.toList).toArray := by
  have := made_reps z n
  unfold madeCells at this
  unfold Builtin.zeroCells
  exact this
theorem appZ_ok (h : Rel P B r s w) (hB : s'.next ≤ B) {t u : TypeId} {x x' : Value} {n : Nat} {k : IntKind} (hb : appZ P s t u x n = some (v, s')) (hx : VR r x x') (ty : TypeId) :
    ∃ v' w', (Builtin.append_ #[t, u] ty #[x', .int k n]).run P w = .ok v' w' ∧ Res P B s s' r w v v' w' := by
  unfold appZ at hb
  split at hb
  case h_2 => cases hb
  rename_i kn hut
  split at hb
  · cases hb
  rename_i e hE
  have hu := elemB_some hE
  split at hb
  case h_2 => cases hb
  rename_i i z hi hz
  obtain ⟨i2, hi2, hzz, hpz⟩ := zeroB_some hz
  rw [hi] at hi2; injection hi2 with hi2; subst hi2
  obtain ⟨hc, hb⟩ := bif_one hb
  simp only [Bool.and_eq_true] at hc
  have hzs := Nat.eq_of_beq_eq_true hc.1
  have hn0 := blt_lt hc.2.1
  have hs0 := blt_lt hc.2.2.1
  have hone := hc.2.2.2
  have tl : ∀ g : Nat, ((Builtin.zeroCells z.cells g).toList).length = g * i.size := fun g => by simp [zeros_len, hzs]
  have hpls : pls (reps n z.cells.toList) = true := reps_pls (pl_cells hpz) n
  have hro : ones (reps n z.cells.toList) = true := reps_ones hone n
  split at hb
  · obtain ⟨hbig, hb⟩ := bif_one hb
    have hbig1 : 8 * (0 + n + 64) * (i.bytes + 1) ≤ 100000000 := by
      have : 8 * (n + 64) * (i.bytes + 1) ≤ 100000000 := by simpa using hbig
      rw [Nat.zero_add]; exact this
    have hnn : n ≤ 100000000 := by
      have : 8 * (0 + n + 64) * 1 ≤ 8 * (0 + n + 64) * (i.bytes + 1) := Nat.mul_le_mul_left _ (by omega)
      omega
    obtain ⟨kk, s1, hn, e2⟩ := nb (s := s) hb
    simp only [Prod.mk.injEq] at e2
    obtain ⟨rfl, rfl⟩ := e2
    rw [hx.same rfl]
    have hb1 : n * i.bytes ≤ 281474976710656 := by
      have : n * i.bytes ≤ 8 * (0 + n + 64) * (i.bytes + 1) := Nat.mul_le_mul (by omega) (by omega)
      omega
    refine ⟨_, _, Lib.run_append_nil_zeros w t u ty e i z k kn hu hut hi hzz n hn0 hs0 (by omega) hb1, upd r kk (w.heap.size, grownCap w n 0 e - n), ?_, new_ok h hB hn (Push1.drew w _) ?_⟩
    · have hge := grown_ge w n 0 e
      have := VR.so (r := upd r kk (w.heap.size, grownCap w n 0 e - n)) (off := 0) (n := n) (c := n) (upd_self r kk _)
      rwa [show n + (grownCap w n 0 e - n) = grownCap w n 0 e by omega] at this
    · have := open_or (P := P) (x := grownCap w n 0 e - n) (r := upd r kk (w.heap.size, grownCap w n 0 e - n)) hi (LR.plain hpls) hro (tl _)
      rw [arr_app, ← zeros_reps] at this
      exact this
  · rename_i k0 off len cap _
    obtain ⟨hg, hb3⟩ := bif_one hb
    clear hb
    simp only [Bool.and_eq_true] at hg
    have hroom : cap < len + n := blt_lt hg.1
    have hbig1 : 8 * (len + n + 64) * (i.bytes + 1) ≤ 100000000 := by simpa using hg.2
    have hnn : len + n ≤ 100000000 := by
      have : 8 * (len + n + 64) * 1 ≤ 8 * (len + n + 64) * (i.bytes + 1) := Nat.mul_le_mul_left _ (by omega)
      omega
    split at hb3
    · cases hb3
    rename_i old hold
    obtain ⟨k', off', b, x, hr, hx⟩ := hx.slc
    have hk : k' = k0 ∧ off' = off := by rcases hx with ⟨e1, _⟩ | ⟨e1, _⟩ <;> injection e1 with e1 e3 e4 <;> exact ⟨e1.symm, e3.symm⟩
    obtain ⟨rfl, rfl⟩ := hk
    obtain ⟨ho1, old', ho2, ho3, ho4⟩ := rd_ok h hold hr
    have hol : old'.length = len * i.size := by rw [ho2.len]; exact ho1
    have hoo := rd_ones h hold
    obtain ⟨k2, s1, hn, e2⟩ := nb (s := s) hb3
    simp only [Prod.mk.injEq] at e2
    obtain ⟨rfl, rfl⟩ := e2
    have hxx : x' = .slice (some ⟨b, off', none⟩) len cap := by
      rcases hx with ⟨_, e2⟩ | ⟨e1, _⟩
      · exact e2
      · injection e1 with _ _ e1; cases e1
    subst hxx
    have hf := run_firstCells_some (P := P) w.drew i.size len ⟨b, off', none⟩ len cap old' hol (by simpa using ho3)
    have hb1 : n * i.bytes ≤ 281474976710656 := by
      have : n * i.bytes ≤ 8 * (len + n + 64) * (i.bytes + 1) := Nat.mul_le_mul (by omega) (by omega)
      omega
    refine ⟨_, _, Lib.run_append_grow_zeros w t u ty e i z k kn hu hut hi hzz (some ⟨b, off', none⟩) len cap old' hf n hn0 hs0 hroom (by omega) hb1 (fit_of hroom hbig1), upd r k2 (w.heap.size, grownCap w (len + n) cap e - (len + n)), ?_, new_ok h hB hn (Push1.drew w _) ?_⟩
    · have hge := grown_ge w (len + n) cap e
      have := VR.so (r := upd r k2 (w.heap.size, grownCap w (len + n) cap e - (len + n))) (off := 0) (n := len + n) (c := len + n) (upd_self r k2 _)
      rwa [show len + n + (grownCap w (len + n) cap e - (len + n)) = grownCap w (len + n) cap e by omega] at this
    · have hup : ∀ j p, r j = some p → upd r k2 (w.heap.size, grownCap w (len + n) cap e - (len + n)) j = some p := fun j p hj => by rw [upd_ne (by rintro rfl; rw [h.fresh hn hB] at hj; cases hj)]; exact hj
      have := open_or (P := P) (x := grownCap w (len + n) cap e - (len + n)) hi ((ho2.app (LR.plain hpls)).mono hup) (ones_app hoo hro) (tl _)
      rw [arr_app, ← List.append_toArray, ← zeros_reps] at this
      exact this
  · cases hb
theorem appB_ok (h : Rel P B r s w) (hB : s'.next ≤ B) {t : TypeId} {x y x' y' : Value} (hb : appB P s t x y = some (v, s')) (hx : VR r x x') (hy : VR r y y') (ty : TypeId) :
    ∃ v' w', (Builtin.append_ #[t, t] ty #[x', y']).run P w = .ok v' w' ∧ Res P B s s' r w v v' w' := by
  unfold appB at hb
  split at hb
  · cases hb
  rename_i e hE
  have hu := elemB_some hE
  split at hb
  case h_2 => cases hb
  rename_i i z hi hz
  obtain ⟨i2, hi2, hzz, hpz⟩ := zeroB_some hz
  rw [hi] at hi2; injection hi2 with hi2; subst hi2
  cases hzs : Nat.beq z.cells.size i.size with
  | false => rw [hzs] at hb; cases hb
  | true =>
    rw [hzs] at hb
    have hzs := Nat.eq_of_beq_eq_true hzs
    simp only [cond_true] at hb
    split at hb
    · rename_i a len cap kb ob sb n cb
      obtain ⟨kb', ob', bb, xb, hrb, hy⟩ := hy.slc
      have hyy : ∃ c', y' = .slice (some ⟨bb, ob, none⟩) n c' ∧ kb' = kb := by
        rcases hy with ⟨e1, e2⟩ | ⟨e1, e2⟩ <;> injection e1 with e1 e3 e4 <;> subst e1 <;> subst e3 <;> exact ⟨_, e2, rfl⟩
      obtain ⟨cb', rfl, rfl⟩ := hyy
      clear hy
      split at hb
      · cases hb
      rename_i src hsrc
      obtain ⟨hl1, src', hl2, hl3, hl4⟩ := rd_ok h hsrc hrb
      have hsl : src'.length = n * i.size := by rw [hl2.len]; exact hl1
      have hso := rd_ones h hsrc
      cases hroom : Nat.ble (Nat.add len n) cap with
      | true =>
        rw [hroom] at hb
        simp only [cond_true] at hb
        have hroom : len + n ≤ cap := by simpa using hroom
        split at hb
        · rename_i k sp
          split at hb
          · rename_i cs0 t' op hg
            cases ht : Nat.beq t' e with
            | false => rw [ht] at hb; cases hb
            | true =>
              rw [ht] at hb
              have ht := Nat.eq_of_beq_eq_true ht
              subst ht
              simp only [cond_true, Option.map_eq_some_iff, Prod.mk.injEq] at hb
              obtain ⟨s1, hw, rfl, rfl⟩ := hb
              obtain ⟨k', off', b, x, hr, hx⟩ := hx.slc
              have hk : k' = k := by rcases hx with ⟨e1, _⟩ | ⟨e1, _⟩ <;> injection e1 with e1 e3 e4 <;> exact e1.symm
              subst hk
              obtain ⟨cur, t2, g1, g2, g3, ⟨cs1, op1, g5, _⟩, g4⟩ := wr_ok h hw hr hl2
              rw [hg] at g5; injection g5 with g5; injection g5 with _ g5 _; subst g5
              rcases hx with ⟨e1, e2⟩ | ⟨e1, e2⟩ <;> injection e1 with e1 e3 e4 <;> subst e3 <;> subst e4 <;> subst e2
              · exact ⟨_, _, run_append_room w t ty _ i hu hi b len cap cur g1 ⟨bb, ob, none⟩ n cb' src' hsl hl3 hl4 hroom g2, r, .sl hr, g4⟩
              · exact ⟨_, _, run_append_room w t ty _ i hu hi b len (cap + x) cur g1 ⟨bb, ob, none⟩ n cb' src' hsl hl3 hl4 (by omega) g2, r, .so hr, g4⟩
          · cases hb
        · cases hb
      | false =>
        rw [hroom] at hb
        simp only [cond_false] at hb
        have hroom : cap < len + n := by
          rcases Nat.lt_or_ge cap (len + n) with hh | hh
          · exact hh
          · have : Nat.ble (Nat.add len n) cap = true := by simpa using hh
            rw [this] at hroom; cases hroom
        cases hbig : (Nat.ble (Nat.mul (Nat.mul 8 (Nat.add (Nat.add len n) 64)) (Nat.add i.bytes 1)) 100000000 && ones src) with
        | false => rw [hbig] at hb; cases hb
        | true =>
          rw [hbig] at hb
          simp only [cond_true] at hb
          simp only [Bool.and_eq_true, Nat.ble_eq] at hbig
          have hbig1 : 8 * (len + n + 64) * (i.bytes + 1) ≤ 100000000 := hbig.1
          have hnn : len + n ≤ 100000000 := by
            have : 8 * (len + n + 64) * 1 ≤ 8 * (len + n + 64) * (i.bytes + 1) := Nat.mul_le_mul_left _ (by omega)
            omega
          have tl : ∀ g : Nat, ((Builtin.zeroCells z.cells g).toList).length = g * i.size := fun g => by simp [zeros_len, hzs]
          split at hb
          · -- nothing before
            cases h0 : (Nat.beq len 0 && Nat.beq cap 0) with
            | false => rw [h0] at hb; cases hb
            | true =>
              rw [h0] at hb
              simp only [cond_true] at hb
              simp only [Bool.and_eq_true] at h0
              obtain ⟨rfl, rfl⟩ : len = 0 ∧ cap = 0 := ⟨Nat.eq_of_beq_eq_true h0.1, Nat.eq_of_beq_eq_true h0.2⟩
              cases hn0 : Nat.blt 0 n with
              | false => rw [hn0] at hb; cases hb
              | true =>
                rw [hn0] at hb
                obtain ⟨k, s1, hn, e2⟩ := nb (s := s) hb
                simp only [Prod.mk.injEq] at e2
                obtain ⟨rfl, rfl⟩ := e2
                have hn0 := blt_lt hn0
                rw [hx.same rfl]
                have hb1 : n * i.bytes ≤ 281474976710656 := by
                  have : n * i.bytes ≤ 8 * (0 + n + 64) * (i.bytes + 1) := Nat.mul_le_mul (by omega) (by omega)
                  omega
                refine ⟨_, _, run_append_nil w t ty e i z hu hi hzz ⟨bb, ob, none⟩ n cb' src' hsl hl3 hn0 (by omega) hb1, upd r k (w.heap.size, grownCap w n 0 e - n), ?_, new_ok h hB hn (Push1.drew w _) ?_⟩
                · have hge := grown_ge w n 0 e
                  have := VR.so (r := upd r k (w.heap.size, grownCap w n 0 e - n)) (off := 0) (n := n) (c := n) (upd_self r k _)
                  rwa [show n + (grownCap w n 0 e - n) = grownCap w n 0 e by omega] at this
                · obtain ⟨_, hk, _⟩ := new_some hn
                  have hup : ∀ j p, r j = some p → upd r k (w.heap.size, grownCap w n 0 e - n) j = some p := fun j p hj => by rw [upd_ne (by rintro rfl; rw [h.fresh hn hB] at hj; cases hj)]; exact hj
                  have := open_or (P := P) (x := grownCap w n 0 e - n) hi (hl2.mono hup) hso (tl _)
                  rw [arr_app] at this
                  exact this
          · rename_i k off sp
            split at hb
            · cases hb
            rename_i old hold
            obtain ⟨k', off', b, x, hr, hx⟩ := hx.slc
            have hk : k' = k ∧ off' = off := by rcases hx with ⟨e1, _⟩ | ⟨e1, _⟩ <;> injection e1 with e1 e3 e4 <;> exact ⟨e1.symm, e3.symm⟩
            obtain ⟨rfl, rfl⟩ := hk
            obtain ⟨ho1, old', ho2, ho3, ho4⟩ := rd_ok h hold hr
            have hol : old'.length = len * i.size := by rw [ho2.len]; exact ho1
            have hoo := rd_ones h hold
            have hall := ones_app hoo hso
            -- it grows, the memory being s0's
            have grow : ∀ (s0 : St) (cap' : Nat), Rel P B r s0 w → cap' < len + n → s0.next = s.next → ∀ k2 s2, s2.next ≤ B → s0.new (.cells (old ++ src) e true) = some (k2, s2) →
                ∃ v' w', (Builtin.append_ #[t, t] ty #[.slice (some ⟨b, off', none⟩) len cap', .slice (some ⟨bb, ob, none⟩) n cb']).run P w = .ok v' w' ∧ Res P B s0 s2 r w (.slice (some ⟨k2, 0, some 0⟩) (len + n) (len + n)) v' w' := by
              intro s0 cap' h0 hc hnx k2 s2 hB2 hn
              obtain ⟨_, hk, _⟩ := new_some hn
              refine ⟨_, _, run_append_grow w t ty e i z hu hi hzz ⟨b, off', none⟩ len cap' old' hol ho3 ⟨bb, ob, none⟩ n cb' src' hsl hl3 hc (by omega) (fit_of hc hbig1), upd r k2 (w.heap.size, grownCap w (len + n) cap' e - (len + n)), ?_, new_ok h0 hB2 hn (Push1.drew w _) ?_⟩
              · have hge := grown_ge w (len + n) cap' e
                have := VR.so (r := upd r k2 (w.heap.size, grownCap w (len + n) cap' e - (len + n))) (off := 0) (n := len + n) (c := len + n) (upd_self r k2 _)
                rwa [show len + n + (grownCap w (len + n) cap' e - (len + n)) = grownCap w (len + n) cap' e by omega] at this
              · have hup : ∀ j p, r j = some p → upd r k2 (w.heap.size, grownCap w (len + n) cap' e - (len + n)) j = some p := fun j p hj => by rw [upd_ne (by rintro rfl; rw [h0.fresh hn hB2] at hj; cases hj)]; exact hj
                have := open_or (P := P) (x := grownCap w (len + n) cap' e - (len + n)) hi ((ho2.app hl2).mono hup) hall (tl _)
                rw [arr_app, ← List.append_toArray] at this
                exact this
            split at hb
            · -- a bounded part: it grows
              obtain ⟨k2, s1, hn, e2⟩ := nb (s := s) hb
              simp only [Prod.mk.injEq] at e2
              obtain ⟨rfl, rfl⟩ := e2
              rcases hx with ⟨e1, e2⟩ | ⟨e1, e2⟩
              · subst e2
                exact grow s cap h hroom rfl k2 _ hB hn
              · injection e1 with _ _ e1; cases e1
            · rename_i q
              split at hb
              · rename_i cs t' hg
                cases hc : (Nat.beq t' e && Nat.beq cs.length (Nat.mul cap i.size)) with
                | false => rw [hc] at hb; cases hb
                | true =>
                  rw [hc] at hb
                  simp only [cond_true] at hb
                  simp only [Bool.and_eq_true] at hc
                  have ht := Nat.eq_of_beq_eq_true hc.1
                  have hcl : cs.length = cap * i.size := Nat.eq_of_beq_eq_true hc.2
                  subst ht
                  split at hb
                  · cases hb
                  rename_i s1 hd
                  obtain ⟨k2, s2, hn, e2⟩ := nb (s := s) hb
                  simp only [Prod.mk.injEq] at e2
                  obtain ⟨rfl, rfl⟩ := e2
                  rcases hx with ⟨e1, e2⟩ | ⟨e1, e2⟩
                  · injection e1 with _ _ e1; cases e1
                  · subst e2
                    rcases Nat.lt_or_ge (cap + x) (len + n) with hlt | hge
                    · have g0 := drop_ok (x := x) (b := b) h hd hg
                      obtain ⟨v', w', a1, r', a2, a3⟩ := grow s1 (cap + x) g0.rel hlt (by obtain ⟨_, _, rfl⟩ := put_some hd; rfl) k2 _ hB hn
                      exact ⟨v', w', a1, r', a2, g0.trans a3⟩
                    · obtain ⟨b', x', o', q1, q2, cur, rfl, q3, q4⟩ := h.obj _ _ hg
                      rw [hr] at q1; injection q1 with q1; injection q1 with q1 q1'; subst q1; subst q1'
                      have hsz : (szB P t').getD 0 = i.size := by simp [szB, hi]
                      rw [if_pos rfl, hsz, hcl] at q3
                      have hmul : (cap + x) * i.size = cap * i.size + x * i.size := Nat.add_mul _ _ _
                      have hle : (len + n) * i.size ≤ (cap + x) * i.size := Nat.mul_le_mul_right _ hge
                      have hmul2 : (len + n) * i.size = len * i.size + n * i.size := Nat.add_mul _ _ _
                      have hmul3 : (cap + x) * i.size = (len + n) * i.size + (cap + x - (len + n)) * i.size := by rw [← Nat.add_mul]; congr 1; omega
                      have hrun := run_append_room w t ty t' i hu hi b len (cap + x) cur q2 ⟨bb, ob, none⟩ n cb' src' hsl hl3 hl4 hge (by omega)
                      have holdeq : old' = cur.toList.take (len * i.size) := by
                        apply List.ext_getElem?
                        intro j
                        by_cases hj : j < len * i.size
                        · have e1 : old'[j]? = some (old'[j]'(by omega)) := by simp [hol, hj]
                          have e2 := ho3 j _ e1
                          rw [addr_add, cell_of_row w b (0 + j) cur t' (0, 0) q2] at e2
                          rw [e1, List.getElem?_take, if_pos hj, ← e2]
                          simp
                        · rw [List.getElem?_eq_none (by omega), List.getElem?_take, if_neg hj]
                      obtain ⟨_, hk, _⟩ := new_some hn
                      have hk : k2 = s.next := by rw [hk]; obtain ⟨_, _, rfl⟩ := put_some hd; rfl
                      have hfr : r k2 = none := (drop_ok (x := x) (b := b) h hd hg).rel.fresh hn hB
                      have hup : ∀ j p, r j = some p → upd r k2 (b, cap + x - (len + n)) j = some p := fun j p hj => by rw [upd_ne (by rintro rfl; rw [hfr] at hj; cases hj)]; exact hj
                      refine ⟨_, _, hrun, upd r k2 (b, cap + x - (len + n)), ?_, move_ok h hB hd hn hg hr (Set1.row q2) ?_⟩
                      · have := VR.so (r := upd r k2 (b, cap + x - (len + n))) (off := 0) (n := len + n) (c := len + n) (upd_self r k2 _)
                        rwa [show len + n + (cap + x - (len + n)) = cap + x by omega] at this
                      · have := open_or (P := P) (x := cap + x - (len + n)) (tail := cur.toList.drop (len * i.size + src'.length)) hi ((ho2.app hl2).mono hup) hall (by simp; omega)
                        rw [holdeq] at this
                        exact this
              · cases hb
    · rename_i a len cap n cb
      cases h0 : (Nat.beq n 0 && Nat.ble len cap) with
      | false => rw [h0] at hb; cases hb
      | true =>
        rw [h0] at hb
        injection hb with hb
        injection hb with e1 e2
        subst e1; subst e2
        simp only [Bool.and_eq_true, Nat.ble_eq] at h0
        have hn := Nat.eq_of_beq_eq_true h0.1
        subst hn
        rw [hy.same rfl]
        cases a with
        | none =>
          rw [hx.same rfl]
          exact ⟨_, _, by simp [Builtin.append_, run_underlying hu, szB_run (show szB P e = some i.size by simp [szB, hi]), Builtin.lenOf, Builtin.firstCells, h0.2], r, .pln rfl, Good.refl h⟩
        | some a =>
          have hx0 := hx
          obtain ⟨k, off, b, x, hr, hx⟩ := hx.slc
          rcases hx with ⟨e1, e2⟩ | ⟨e1, e2⟩ <;> subst e2
          · exact ⟨_, _, by simp [Builtin.append_, run_underlying hu, szB_run (show szB P e = some i.size by simp [szB, hi]), Builtin.lenOf, Builtin.firstCells, h0.2, storeCells], r, hx0, Good.refl h⟩
          · exact ⟨_, _, by simp [Builtin.append_, run_underlying hu, szB_run (show szB P e = some i.size by simp [szB, hi]), Builtin.lenOf, Builtin.firstCells, show len ≤ cap + x by omega, storeCells], r, hx0, Good.refl h⟩
    · cases hb
end
end Go.Proofs.YtbanjolokkghdaaGreatDoor
namespace Go.Proofs.YtbanjolokkghdaaGreatDoor
open Go.RowKit
set_option maxRecDepth 100000
section
variable {P : Program} {B : Nat} {r : Rn} {s s' : St} {w : World} {v : Value}
theorem LR.un1 {a : Value} {l' : List Value} (h : LR r [a] l') : ∃ a', l' = [a'] ∧ VR r a a' := by
  obtain ⟨a', q, rfl, h1, h2⟩ := h.uncons
  rw [h2.nil']; exact ⟨a', rfl, h1⟩
theorem LR.un2 {a b : Value} {l' : List Value} (h : LR r [a, b] l') : ∃ a' b', l' = [a', b'] ∧ VR r a a' ∧ VR r b b' := by
  obtain ⟨a', q, rfl, h1, h2⟩ := h.uncons
  obtain ⟨b', rfl, h3⟩ := h2.un1
  exact ⟨a', b', rfl, h1, h3⟩
theorem VR.slen {a : Option Addr} {n c : Nat} {v' : Value} (h : VR r (.slice a n c) v') : ∃ a' c', v' = .slice a' n c' := by
  cases a with
  | none => exact ⟨none, c, h.same rfl⟩
  | some a =>
    obtain ⟨k, off, b, x, hr, h⟩ := h.slc
    rcases h with ⟨_, rfl⟩ | ⟨_, rfl⟩ <;> exact ⟨_, _, rfl⟩
theorem VR.spt {a : Addr} {n c : Nat} {v' : Value} (h : VR r (.slice (some a) n c) v') : ∃ b x c', r a.block = some (b, x) ∧ v' = .slice (some ⟨b, a.off, none⟩) n c' := by
  obtain ⟨k, off, b, x, hr, h⟩ := h.slc
  rcases h with ⟨rfl, rfl⟩ | ⟨rfl, rfl⟩ <;> exact ⟨_, _, _, hr, rfl⟩
theorem elemsz {t : TypeId} {sz : Nat} (h : (elemB P t).bind (szB P) = some sz) : ∃ e, P.underlying t = some (.slice e) ∧ szB P e = some sz := by
  cases e : elemB P t with
  | none => rw [e] at h; cases h
  | some t' => rw [e] at h; exact ⟨t', elemB_some e, h⟩
theorem pvp_some {x : Sem Value} {v : Value} (h : pvp P x = some v) : pv P x = some v ∧ pl v = true := by
  unfold pvp at h
  split at h
  · rename_i u hu
    cases hp : pl u with
    | false => rw [hp] at h; cases h
    | true => rw [hp] at h; injection h with h; subst h; exact ⟨hu, hp⟩
  · cases h
theorem bi_ok {b : Builtin} {tys : List TypeId} {type : TypeId} {args args' : List Value} {consts : Array Bool} (h : Rel P B r s w) (hB : s'.next ≤ B) (hb : bi P b tys type args s = some (v, s')) (ha : LR r args args') :
    Upon P (Res P B s s' r w v) ((builtin b tys.toArray type consts args'.toArray).run P w) := by
  unfold bi at hb
  split at hb
  · -- len of a slice
    rename_i t q a n c
    cases he : elemB P t with
    | none => rw [he] at hb; cases hb
    | some e =>
      rw [he] at hb
      injection hb with hb; injection hb with e1 e2; subst e1; subst e2
      obtain ⟨a', rfl, hv⟩ := ha.un1
      obtain ⟨p, c', rfl⟩ := hv.slen
      have e1 : (builtin .len (t :: q).toArray type consts [Value.slice p n c'].toArray).run P w = .ok (.value (.int .i64 n)) w := by simp [builtin, Builtin.len_, run_underlying (elemB_some he), goInt]
      rw [e1]
      exact ⟨r, .pln rfl, Good.refl h⟩
  · rename_i sx
    simp only [Option.map_eq_some_iff, Prod.mk.injEq] at hb
    obtain ⟨u, hp, rfl, rfl⟩ := hb
    obtain ⟨hp, hu⟩ := pvp_some hp
    obtain ⟨a', rfl, hv⟩ := ha.un1
    rw [hv.str]
    have e1 : (builtin .len tys.toArray type consts [Value.string sx].toArray).run P w = .ok (.value u) w := by simp [builtin, pv_run hp w]
    rw [e1]
    exact ⟨r, .pln hu, Good.refl h⟩
  · rename_i t q n c
    cases he : elemB P t with
    | none => rw [he] at hb; cases hb
    | some e =>
      rw [he] at hb
      injection hb with hb; injection hb with e1 e2; subst e1; subst e2
      obtain ⟨a', rfl, hv⟩ := ha.un1
      rw [hv.same rfl]
      have e1 : (builtin .cap (t :: q).toArray type consts [Value.slice none n c].toArray).run P w = .ok (.value (.int .i64 c)) w := by simp [builtin, Builtin.cap_, run_underlying (elemB_some he), goInt]
      rw [e1]
      exact ⟨r, .pln rfl, Good.refl h⟩
  · rename_i t q k off n c
    cases he : elemB P t with
    | none => rw [he] at hb; cases hb
    | some e =>
      rw [he] at hb
      injection hb with hb; injection hb with e1 e2; subst e1; subst e2
      obtain ⟨a', rfl, hv⟩ := ha.un1
      obtain ⟨k', off', b, x, hr, hv⟩ := hv.slc
      rcases hv with ⟨_, rfl⟩ | ⟨e1, rfl⟩
      · have e1 : (builtin .cap (t :: q).toArray type consts [Value.slice (some ⟨b, off', none⟩) n c].toArray).run P w = .ok (.value (.int .i64 c)) w := by simp [builtin, Builtin.cap_, run_underlying (elemB_some he), goInt]
        rw [e1]
        exact ⟨r, .pln rfl, Good.refl h⟩
      · injection e1 with _ _ e1; cases e1
  · rename_i t u x y
    cases ht : Nat.beq t u with
    | false =>
      rw [ht] at hb
      simp only [cond_false] at hb
      split at hb
      · rename_i kd n
        obtain ⟨x', y', rfl, hx, hy⟩ := ha.un2
        rw [hy.int]
        obtain ⟨v', w', h1, h2⟩ := appZ_ok (k := kd) h hB hb hx type
        have e1 : (builtin .append [t, u].toArray type consts [x', Value.int kd (n : Int)].toArray).run P w = .ok (.value v') w' := by simp [builtin, h1]
        rw [show ((Int.ofNat n : Int)) = (n : Int) from rfl, e1]
        exact h2
      · cases hb
    | true =>
      rw [ht] at hb
      have ht := Nat.eq_of_beq_eq_true ht
      subst ht
      obtain ⟨x', y', rfl, hx, hy⟩ := ha.un2
      obtain ⟨v', w', h1, h2⟩ := appB_ok h hB hb hx hy type
      have e1 : (builtin .append [t, t].toArray type consts [x', y'].toArray).run P w = .ok (.value v') w' := by simp [builtin, h1]
      rw [e1]
      exact h2
  · rename_i t u a n c b m d
    cases ht : Nat.beq t u with
    | false => rw [ht] at hb; cases hb
    | true =>
      rw [ht] at hb
      have ht := Nat.eq_of_beq_eq_true ht
      subst ht
      simp only [cond_true] at hb
      obtain ⟨x', y', rfl, hx, hy⟩ := ha.un2
      split at hb
      · cases hb
      rename_i sz hsz
      obtain ⟨e, hu, hse⟩ := elemsz hsz
      cases hm : Nat.beq (Nat.min m n) 0 with
      | true =>
        rw [hm] at hb
        injection hb with hb; injection hb with e1 e2; subst e1; subst e2
        have hm : Nat.min m n = 0 := Nat.eq_of_beq_eq_true hm
        obtain ⟨a', c', rfl⟩ := hx.slen
        obtain ⟨b', d', rfl⟩ := hy.slen
        have hf : (Builtin.firstCells sz 0 (.slice b' m d')).run P w = .ok #[] w := by cases b' <;> simp [Builtin.firstCells, loadCells, loadCellsFrom]
        have e1 : (builtin .copy [t, t].toArray type consts [Value.slice a' n c', Value.slice b' m d'].toArray).run P w = .ok (.value (.int .i64 0)) w := by
          cases a' <;> simp [builtin, Builtin.copy_, run_underlying hu, Builtin.lenOf, hm, szB_run hse, hf, storeCells, goInt]
        rw [e1]
        exact ⟨r, .pln rfl, Good.refl h⟩
      | false =>
        rw [hm] at hb
        simp only [cond_false] at hb
        split at hb
        · rename_i ka oa sa kb ob sb
          split at hb
          · cases hb
          rename_i src hsrc
          simp only [Option.map_eq_some_iff, Prod.mk.injEq] at hb
          obtain ⟨s1, hw, rfl, rfl⟩ := hb
          obtain ⟨ba, xa, c', hra, rfl⟩ := hx.spt
          obtain ⟨bb, xb, d', hrb, rfl⟩ := hy.spt
          obtain ⟨hl1, src', hl2, hl3, hl4⟩ := rd_ok h hsrc hrb
          obtain ⟨cur, t2, g1, g2, g3, _, g4⟩ := wr_ok h hw hra hl2
          have hl := run_loadCells_list (P := P) w ⟨bb, ob, none⟩ src' hl3
          rw [hl2.len, hl1] at hl
          have hst := run_storeCells_at P ba oa t2 src' 0 cur w g1 (by simpa using g2) g3
          simp only [Nat.add_zero] at hst
          have e1 : (builtin .copy [t, t].toArray type consts [Value.slice (some ⟨ba, oa, none⟩) n c', Value.slice (some ⟨bb, ob, none⟩) m d'].toArray).run P w = .ok (.value (.int .i64 (Nat.min m n : Nat))) (w.setRow ba (cur.toList.take oa ++ src' ++ cur.toList.drop (oa + src'.length)).toArray) := by
            have hl' : (loadCells { block := bb, off := ob } ((m.min n) * sz)).run P w = .ok src'.toArray w := hl
            simp only [builtin, Builtin.copy_, List.getElem?_toArray, List.getElem?_cons_zero, List.getElem?_cons_succ, Builtin.lenOf, Builtin.firstCells, Sem.run_bind, run_underlying hu, Sem.run_pure, Result.andThen_ok, szB_run hse, hl', hst, goInt]
          rw [e1]
          exact ⟨r, .pln rfl, g4⟩
        · cases hb
  · rename_i t q a n c
    obtain ⟨x', rfl, hx⟩ := ha.un1
    cases hn : Nat.beq n 0 with
    | true =>
      rw [hn] at hb
      have hn := Nat.eq_of_beq_eq_true hn
      subst hn
      cases he : elemB P t with
      | none => rw [he] at hb; cases hb
      | some e =>
        rw [he] at hb
        injection hb with hb; injection hb with e1 e2; subst e1; subst e2
        obtain ⟨a', c', rfl⟩ := hx.slen
        have e1 : (builtin .clear (t :: q).toArray type consts [Value.slice a' 0 c'].toArray).run P w = .ok (.value (.tuple #[])) w := by
          cases a' <;> simp [builtin, Builtin.clear_, run_underlying (elemB_some he)]
        rw [e1]
        exact ⟨r, .pln rfl, Good.refl h⟩
    | false =>
      rw [hn] at hb
      simp only [cond_false] at hb
      split at hb
      · rename_i z k off sp hz
        simp only [Option.map_eq_some_iff, Prod.mk.injEq] at hb
        obtain ⟨s1, hw, rfl, rfl⟩ := hb
        cases he : elemB P t with
        | none => rw [he] at hz; cases hz
        | some e =>
          rw [he] at hz
          obtain ⟨i, hi, hzz, hpz⟩ := zeroB_some hz
          obtain ⟨b, x, c', hr, rfl⟩ := hx.spt
          obtain ⟨cur, t2, g1, g2, g3, _, g4⟩ := wr_ok h hw hr (LR.plain (reps_pls (pl_cells hpz) n))
          have hst := run_storeCells_at P b off t2 (reps n z.cells.toList) 0 cur w g1 (by simpa using g2) g3
          simp only [Nat.add_zero] at hst
          have hzc : (Builtin.zeroCells z.cells n).toList = reps n z.cells.toList := by
            have := made_reps z.cells n
            unfold madeCells at this
            unfold Builtin.zeroCells
            rw [this]
          have hn0 : n ≠ 0 := by rintro rfl; cases hn
          obtain ⟨m, rfl⟩ := Nat.exists_eq_succ_of_ne_zero hn0
          have e1 : (builtin .clear (t :: q).toArray type consts [Value.slice (some ⟨b, off, none⟩) (m + 1) c'].toArray).run P w = .ok (.value (.tuple #[])) (w.setRow b (cur.toList.take off ++ reps (m + 1) z.cells.toList ++ cur.toList.drop (off + (reps (m + 1) z.cells.toList).length)).toArray) := by
            simp only [builtin, Builtin.clear_, List.getElem?_toArray, List.getElem?_cons_zero, Sem.run_bind, run_underlying (elemB_some he), Sem.run_pure, Result.andThen_ok, zeroValue, typeInfo, run_program, hi, hzz, hzc, hst]
          rw [e1]
          exact ⟨r, .pln rfl, g4⟩
      · cases hb
  · cases hp : pls args with
    | false => rw [hp] at hb; cases hb
    | true =>
      rw [hp] at hb
      simp only [cond_true, Option.map_eq_some_iff, Prod.mk.injEq] at hb
      obtain ⟨u, hpv, rfl, rfl⟩ := hb
      rw [ha.same hp]
      obtain ⟨hpv, hu⟩ := pvp_some hpv
      have e1 : (builtin .max tys.toArray type consts args.toArray).run P w = .ok (.value u) w := by simp [builtin, pv_run hpv w]
      rw [e1]
      exact ⟨r, .pln hu, Good.refl h⟩
  · cases hp : pls args with
    | false => rw [hp] at hb; cases hb
    | true =>
      rw [hp] at hb
      simp only [cond_true, Option.map_eq_some_iff, Prod.mk.injEq] at hb
      obtain ⟨u, hpv, rfl, rfl⟩ := hb
      rw [ha.same hp]
      obtain ⟨hpv, hu⟩ := pvp_some hpv
      have e1 : (builtin .min tys.toArray type consts args.toArray).run P w = .ok (.value u) w := by simp [builtin, pv_run hpv w]
      rw [e1]
      exact ⟨r, .pln hu, Good.refl h⟩
  · cases hb
/-- What is asked of what runs calls, rounds and code. -/
structure SoundC (P : Program) (R : Rec) : Prop where
  call : ∀ f args s v s', R.call f args s = some (v, s') → ∀ B r w args', Rel P B r s w → s'.next ≤ B → LR r args args' → Upon P (Res P B s s' r w v) ((callFunc f args'.toArray).run P w)
  yield : ∀ l args s v s', R.yield l args s = some (v, s') → ∀ B r w args', Rel P B r s w → s'.next ≤ B → LR r args args' → ∀ b x, r l = some (b, x) → Upon P (Res P B s s' r w v) ((Instr.yield b args'.toArray).run P w)
theorem callV_ok {R : Rec} (hR : SoundC P R) {f f' : Value} {args args' : List Value} (h : Rel P B r s w) (hB : s'.next ≤ B) (hc : callV R f args s = some (v, s')) (hf : VR r f f') (ha : LR r args args') :
    Upon P (Res P B s s' r w v) ((do let d ← Deferred.ofValue f' args'.toArray; invoke d.target d.args).run P w) := by
  unfold callV at hc
  split at hc
  · rename_i g first cap
    have hff : ∃ first' cap', f' = .func (.func g) first' cap' ∧ AR r first first' ∧ AR r cap cap' := by
      cases hf with
      | pln h =>
        refine ⟨first, cap, rfl, ?_⟩
        obtain ⟨first⟩ := first; obtain ⟨cap⟩ := cap
        cases first <;> cases cap <;> simp [pl] at h
        exact ⟨LR.nil.arr, LR.nil.arr⟩
      | fn h1 h2 h3 h4 => exact ⟨_, _, rfl, ⟨h1, h2⟩, ⟨h3, h4⟩⟩
    obtain ⟨first', cap', rfl, h1, h2⟩ := hff
    have := hR.call _ _ _ _ _ hc B r w _ h hB (h1.list.app (ha.app h2.list))
    have e : (first'.toList ++ (args' ++ cap'.toList)).toArray = first' ++ args'.toArray ++ cap' := by apply Array.ext'; simp
    rw [e] at this
    simpa [Deferred.ofValue, invoke] using this
  · rename_i l
    have hff : ∃ b x, f' = .func (.yield b) #[] #[] ∧ r l = some (b, x) := by
      cases hf with
      | pln h => simp [pl] at h
      | yl h => exact ⟨_, _, rfl, h⟩
    obtain ⟨b, x, rfl, hr⟩ := hff
    have := hR.yield _ _ _ _ _ hc B r w _ h hB ha b x hr
    simpa [Deferred.ofValue, invoke] using this
  · cases hc
theorem execH_ok' {R : Rec} (hR : SoundC P R) {ρ ρ' : Operand → Value} {o : Oper} (h : Rel P B r s w) (hB : s'.next ≤ B) (he : execH P R ρ o s = some (v, s')) (hρ : ∀ x ∈ o.op.operands, VR r (ρ x) (ρ' x)) : Upon P (Res P B s s' r w v) ((execOp ρ' o).run P w) := by
  by_cases hc : ∃ c, o.op = .call c
  · obtain ⟨c, hop⟩ := hc
    have he2 := he
    unfold execH at he
    rw [hop] at he
    simp only at he
    have hargs : LR r (c.args.toList.map ρ) (c.args.toList.map ρ') := mapR _ fun x hx => hρ x (by simp only [hop, Op.operands, Call.operands, Array.mem_append]; exact .inr (by simpa using hx))
    have earr : ∀ f : Operand → Value, (c.args.toList.map f).toArray = c.args.map f := fun f => by apply Array.ext'; simp
    split at he
    · rename_i b hb
      simp [execOp, hop, resolve, hb, invoke]
      rw [← earr]
      exact bi_ok (tys := c.argTypes.toList) h hB he hargs
    · rename_i f hb
      have := callV_ok hR h hB he (hρ f (by simp [hop, Op.operands, Call.operands, hb])) hargs
      rw [earr] at this
      simpa [execOp, hop, resolve, hb] using this
    · cases he
  · exact execH_ok h hB he hρ fun c hop => hc ⟨c, hop⟩
theorem exec_ok {R : Rec} (hR : SoundC P R) {ρ ρ' : Operand → Value} {o : Oper} (h : Rel P B r s w) (hB : s'.next ≤ B) (he : exec P R ρ o s = some (v, s')) (hρ : ∀ x ∈ o.op.operands, VR r (ρ x) (ρ' x)) : Upon P (Res P B s s' r w v) ((execOp ρ' o).run P w) := by
  unfold exec at he
  cases hp : pureK o with
  | true =>
    rw [hp] at he
    simp only [cond_true, Option.map_eq_some_iff, Prod.mk.injEq] at he
    obtain ⟨u, he, rfl, rfl⟩ := he
    obtain ⟨v', h1, h2⟩ := execP_ok he hρ
    rw [h2 w]
    exact ⟨r, h1, Good.refl h⟩
  | false =>
    rw [hp] at he
    exact execH_ok' hR h hB he hρ
end
end Go.Proofs.YtbanjolokkghdaaGreatDoor
namespace Go.Proofs.YtbanjolokkghdaaGreatDoor
open Go.RowKit
set_option maxRecDepth 100000
/-- The runner goes on from s to s'. -/
def MB (s s' : St) : Prop := s.next ≤ big → Mono s s' ∧ s'.next ≤ big
theorem MB.refl (s : St) : MB s s := fun h => ⟨Mono.refl s, h⟩
theorem MB.trans {a b c : St} (h : MB a b) (k : MB b c) : MB a c := fun hb => ⟨(h hb).1.trans (k (h hb).2).1, (k (h hb).2).2⟩
theorem new_mb {s s' : St} {o : AO} {k : Nat} (h : s.new o = some (k, s')) : MB s s' := fun _ => by
  obtain ⟨h1, rfl, rfl⟩ := new_some h
  have hk : s.next + 2 ≤ 2 ^ 24 := by unfold big at h1; omega
  have hT : ∀ i, (s.T.set 24 s.next (some o)).get i = if i = s.next then some o else s.T.get i := fun i => Tr.get_set 24 s.T s.next (some o) i hk
  refine ⟨⟨Nat.le_succ _, rfl, rfl, rfl, fun i hi _ => ?_, fun i hi hd => ?_, fun hu i hi => ?_, rfl⟩, h1⟩
  · show (s.T.set 24 s.next (some o)).get i = _
    rw [hT, if_neg (by omega)]
  · show (s.T.set 24 s.next (some o)).get i = _
    rw [hT, if_neg (by omega)]; exact hd
  · have hi : s.next + 1 ≤ i := hi
    show (s.T.set 24 s.next (some o)).get i = none
    rw [hT, if_neg (by omega)]; exact hu i (by omega)
theorem put_mb {s s' : St} {k : Nat} {o1 : AO} {o : Option AO} (hv : s.get k = some o1) (h : s.put k o = some s') : MB s s' := fun hb9 => by
  obtain ⟨h1, h2, rfl⟩ := put_some h
  have hk : k + 2 ≤ 2 ^ 24 := by unfold big at hb9; omega
  have hT : ∀ i, (s.T.set 24 k o).get i = if i = k then o else s.T.get i := fun i => Tr.get_set 24 s.T k o i hk
  have hnh : hidden s.hid k = false := by
    cases e : hidden s.hid k with
    | false => rfl
    | true => rw [getT, e] at hv; cases hv
  refine ⟨⟨Nat.le_refl _, rfl, rfl, rfl, fun i hi hw => ?_, fun i hi hd => ?_, fun hu i hi => ?_, rfl⟩, hb9⟩
  · show (s.T.set 24 k o).get i = _
    rw [hT, if_neg ?_]
    rintro rfl
    rcases hw with hw | hw
    · exact hw h1
    · rw [hnh] at hw; cases hw
  · show (s.T.set 24 k o).get i = _
    rw [hT]
    split
    · rename_i e
      subst e
      rw [getT, hnh, if_neg (by simp)] at hv
      rw [hd] at hv; cases hv
    · exact hd
  · have hi' : s.next ≤ i := hi
    show (s.T.set 24 k o).get i = none
    rw [hT, if_neg (by omega)]; exact hu i hi'
theorem wr_mb {s s' : St} {k off : Nat} {vs : List Value} (h : wr s k off vs = some s') : MB s s' := by
  unfold wr at h
  split at h
  · rename_i cs t op hg
    cases hb : (Nat.ble (Nat.add off vs.length) cs.length && ones vs) with
    | false => rw [hb] at h; cases h
    | true => rw [hb] at h; exact put_mb hg h
  · cases h
theorem bif_some {α : Type} {b : Bool} {x : Option α} {y : α} (h : (bif b then x else none) = some y) : b = true ∧ x = some y := by
  cases b with
  | true => exact ⟨rfl, h⟩
  | false => cases h
theorem map_new {α : Type} {s : St} {o : AO} {f : Nat × St → α} {y : α} (h : (s.new o).map f = some y) : ∃ k s1, s.new o = some (k, s1) ∧ y = f (k, s1) := by
  simp only [Option.map_eq_some_iff] at h
  obtain ⟨⟨k, s1⟩, h1, h2⟩ := h
  exact ⟨k, s1, h1, h2.symm⟩
section
variable {P : Program} {s s' : St} {v : Value}
theorem newC_mb {cs : List Value} {t : TypeId} (h : newC s cs t = some (v, s')) : MB s s' := by
  obtain ⟨_, h⟩ := bif_some h
  obtain ⟨k, s1, h1, e⟩ := map_new h
  have : s' = s1 := congrArg Prod.snd e
  rw [this]; exact new_mb h1
theorem bif_or {α : Type} {b : Bool} {x y : Option α} {z : α} (h : (bif b then x else y) = some z) : (b = true ∧ x = some z) ∨ (b = false ∧ y = some z) := by
  cases b with
  | true => exact .inl ⟨rfl, h⟩
  | false => exact .inr ⟨rfl, h⟩
theorem map_st {q : Option St} {f : St → Value × St} (hf : ∀ t, (f t).2 = t) (h : q.map f = some (v, s')) : q = some s' := by
  simp only [Option.map_eq_some_iff] at h
  obtain ⟨t, h1, h2⟩ := h
  have := hf t
  rw [h2] at this
  have this : s' = t := this
  rw [h1, this]
theorem new_mb' {o : AO} {f : Nat × St → Value × St} (hf : ∀ t, (f t).2 = t.2) (h : (s.new o).map f = some (v, s')) : MB s s' := by
  obtain ⟨k, s1, h1, e⟩ := map_new h
  have : s' = s1 := by have := hf (k, s1); rw [← e] at this; exact this
  rw [this]; exact new_mb h1
theorem appB_mb {t : TypeId} {x y : Value} (hb : appB P s t x y = some (v, s')) : MB s s' := by
  unfold appB at hb
  split at hb
  · cases hb
  split at hb
  case h_2 => cases hb
  obtain ⟨_, hb⟩ := bif_some hb
  split at hb
  · split at hb
    · cases hb
    rcases bif_or hb with ⟨_, hb⟩ | ⟨_, hb⟩
    · split at hb
      · split at hb
        · obtain ⟨_, hb⟩ := bif_some hb
          exact wr_mb (map_st (fun _ => rfl) hb)
        · cases hb
      · cases hb
    · obtain ⟨_, hb⟩ := bif_some hb
      split at hb
      · obtain ⟨_, hb⟩ := bif_some hb
        obtain ⟨_, hb⟩ := bif_some hb
        exact new_mb' (fun _ => rfl) hb
      · split at hb
        · cases hb
        split at hb
        · exact new_mb' (fun _ => rfl) hb
        · split at hb
          · obtain ⟨_, hb⟩ := bif_some hb
            split at hb
            · cases hb
            rename_i s1 hd
            exact (put_mb (by assumption) hd).trans (new_mb' (fun _ => rfl) hb)
          · cases hb
  · obtain ⟨_, hb⟩ := bif_some hb
    injection hb with hb; injection hb with _ hb; subst hb; exact MB.refl _
  · cases hb
theorem same_mb' {α : Type} {q : Option α} {f : α → Value × St} (hf : ∀ a, (f a).2 = s) (h : q.map f = some (v, s')) : MB s s' := by
  simp only [Option.map_eq_some_iff] at h
  obtain ⟨a, _, h⟩ := h
  have := hf a
  rw [h] at this
  rw [show s' = s from this]; exact MB.refl _
theorem some_mb {x : Value} (h : some (x, s) = some (v, s')) : MB s s' := by injection h with h; injection h with _ h; subst h; exact MB.refl _
theorem appZ_mb {t u : TypeId} {x : Value} {n : Nat} (hb : appZ P s t u x n = some (v, s')) : MB s s' := by
  unfold appZ at hb
  split at hb
  case h_2 => cases hb
  split at hb
  · cases hb
  split at hb
  case h_2 => cases hb
  obtain ⟨_, hb⟩ := bif_some hb
  split at hb
  · obtain ⟨_, hb⟩ := bif_some hb
    exact new_mb' (fun _ => rfl) hb
  · obtain ⟨_, hb⟩ := bif_some hb
    split at hb
    · cases hb
    · exact new_mb' (fun _ => rfl) hb
  · cases hb
theorem bi_mb {b : Builtin} {tys : List TypeId} {type : TypeId} {args : List Value} (hb : bi P b tys type args s = some (v, s')) : MB s s' := by
  unfold bi at hb
  split at hb
  · exact same_mb' (fun _ => rfl) hb
  · exact same_mb' (fun _ => rfl) hb
  · exact same_mb' (fun _ => rfl) hb
  · exact same_mb' (fun _ => rfl) hb
  · rcases bif_or hb with ⟨_, hb⟩ | ⟨_, hb⟩
    · exact appB_mb hb
    · split at hb
      · exact appZ_mb hb
      · cases hb
  · obtain ⟨_, hb⟩ := bif_some hb
    split at hb
    · cases hb
    rcases bif_or hb with ⟨_, hb⟩ | ⟨_, hb⟩
    · exact some_mb hb
    · split at hb
      · split at hb
        · cases hb
        · exact wr_mb (map_st (fun _ => rfl) hb)
      · cases hb
  · rcases bif_or hb with ⟨_, hb⟩ | ⟨_, hb⟩
    · exact same_mb' (fun _ => rfl) hb
    · split at hb
      · exact wr_mb (map_st (fun _ => rfl) hb)
      · cases hb
  · exact same_mb' (fun _ => rfl) (bif_some hb).2
  · exact same_mb' (fun _ => rfl) (bif_some hb).2
  · cases hb
structure RM (R : Rec) : Prop where
  code : ∀ c fr s e fr' s', R.code c fr s = some (e, fr', s') → MB s s' ∧ fr'.round = fr.round ∧ fr'.m = fr.m
  call : ∀ f args s v s', R.call f args s = some (v, s') → MB s s'
  yield : ∀ l args s v s', R.yield l args s = some (v, s') → MB s s'
  back : ∀ b c fr s e fr' s', R.back b c fr s = some (e, fr', s') → MB s s' ∧ fr'.round = fr.round ∧ fr'.m = fr.m
theorem callV_mb {R : Rec} (hR : RM R) {f : Value} {args : List Value} (h : callV R f args s = some (v, s')) : MB s s' := by
  unfold callV at h
  split at h
  · exact hR.call _ _ _ _ _ h
  · exact hR.yield _ _ _ _ _ h
  · cases h
theorem execH_mb {R : Rec} (hR : RM R) {ρ : Operand → Value} {o : Oper} (h : execH P R ρ o s = some (v, s')) : MB s s' := by
  unfold execH at h
  split at h
  · split at h
    · exact newC_mb h
    · cases h
  · exact newC_mb h
  · split at h
    · cases h
    split at h
    · rcases bif_or h with ⟨_, h⟩ | ⟨_, h⟩
      · cases h
      split at h
      · cases h
      · exact new_mb' (fun _ => rfl) (bif_some h).2
    · cases h
  · split at h
    · exact same_mb' (fun _ => rfl) h
    · cases h
  · split at h
    · exact wr_mb (map_st (fun _ => rfl) (bif_some h).2)
    · cases h
  · split at h
    · cases h
    split at h
    · exact new_mb' (fun _ => rfl) (bif_some h).2
    · cases h
  · exact new_mb' (fun _ => rfl) h
  · split at h
    · split at h
      · rename_i hg
        split at h
        · exact put_mb hg (map_st (fun _ => rfl) h)
        · cases h
      · cases h
    · cases h
  · split at h
    · split at h
      · split at h
        · exact some_mb h
        · exact some_mb h
        · cases h
      · cases h
    · cases h
  · split at h
    · exact new_mb' (fun _ => rfl) h
    · cases h
  · split at h
    · split at h
      · rename_i hg
        rcases bif_or h with ⟨_, h⟩ | ⟨_, h⟩
        · exact put_mb hg (map_st (fun _ => rfl) h)
        · exact some_mb h
      · cases h
    · cases h
  · split at h
    · exact bi_mb h
    · exact callV_mb hR h
    · cases h
  · cases h
theorem exec_mb {R : Rec} (hR : RM R) {ρ : Operand → Value} {o : Oper} (h : exec P R ρ o s = some (v, s')) : MB s s' := by
  unfold exec at h
  rcases bif_or h with ⟨_, h⟩ | ⟨_, h⟩
  · exact same_mb' (fun _ => rfl) h
  · exact execH_mb hR h
theorem put_fr {fr fr' : Fr} {d : Option Tmp} {v : Value} (h : fr.put d v = some fr') : fr'.m = fr.m ∧ fr'.marks = fr.marks ∧ fr'.round = fr.round ∧ ((d = none ∧ fr' = fr) ∨ ∃ k, d = some k ∧ k < fr.m ∧ fr' = { fr with t := fr.t.set 24 k (some v) }) := by
  unfold Fr.put at h
  split at h
  · injection h with h; subst h; exact ⟨rfl, rfl, rfl, .inl ⟨rfl, rfl⟩⟩
  · rename_i k
    obtain ⟨hb, h⟩ := bif_some h
    injection h with h; subst h
    exact ⟨rfl, rfl, rfl, .inr ⟨k, rfl, blt_lt hb, rfl⟩⟩
def FK (fr fr' : Fr) : Prop := fr'.round = fr.round ∧ fr'.m = fr.m ∧ fr'.marks = fr.marks
theorem FK.put {fr fr' : Fr} {d : Option Tmp} {v : Value} (h : fr.put d v = some fr') : FK fr fr' := ⟨(put_fr h).2.2.1, (put_fr h).1, (put_fr h).2.1⟩
theorem FK.trans {a b c : Fr} (h : FK a b) (k : FK b c) : FK a c := ⟨k.1.trans h.1, k.2.1.trans h.2.1, k.2.2.trans h.2.2⟩
theorem seqB_mb {R : Rec} (hR : RM R) {ops : Array Oper} : ∀ (l : List Oper) (fr fr' : Fr) (s s' : St), seqB P R ops l fr s = some (fr', s') → MB s s' ∧ FK fr fr'
  | [], fr, fr', s, s', h => by injection h with h; injection h with h1 h2; subst h1; subst h2; exact ⟨MB.refl _, rfl, rfl, rfl⟩
  | o :: l, fr, fr', s, s', h => by
    simp only [seqB] at h
    rcases bif_or h with ⟨_, h⟩ | ⟨_, h⟩
    · split at h
      · rename_i q hq
        split at h
        · rename_i fr1 hp
          obtain ⟨h1, h2⟩ := seqB_mb hR l fr1 fr' q.2 s' h
          exact ⟨(exec_mb hR hq).trans h1, (FK.put hp).trans h2⟩
        · cases h
      · cases h
    · split at h
      · rename_i fr1 hp
        obtain ⟨h1, h2⟩ := seqB_mb hR l fr1 fr' s s' h
        exact ⟨h1, (FK.put hp).trans h2⟩
      · cases h
theorem hidden_app (a b : List (Nat × Nat)) (k : Nat) : hidden (a ++ b) k = (hidden a k || hidden b k) := by
  induction a with
  | nil => simp [hidden]
  | cons p a ih => obtain ⟨x, y⟩ := p; simp only [List.cons_append, hidden, ih, Bool.or_assoc]
/-- what operation i is run on -/
def inEv (A : List Nat) (W : List Bool) (ps : List (Nat × Nat)) (i : Nat) (rs : List (Nat × Nat × Nat)) (s : St) : St := bif W.getD i false then s else { s with lim := s.next, one := oneOf i ps, hid := hidOf A i rs ps ++ s.hid }
def back (s q : St) : St := { q with lim := s.lim, one := s.one, hid := s.hid }
theorem inEv_T (A : List Nat) (W : List Bool) (ps : List (Nat × Nat)) (i : Nat) (rs : List (Nat × Nat × Nat)) (s : St) : (inEv A W ps i rs s).T = s.T ∧ (inEv A W ps i rs s).next = s.next ∧ (inEv A W ps i rs s).ng = s.ng := by unfold inEv; cases W.getD i false <;> exact ⟨rfl, rfl, rfl⟩
theorem apartB_mem {lim one next : Nat} : ∀ {ps : List (Nat × Nat)}, apartB lim one next ps = true → ∀ p ∈ ps, (lim ≤ p.2 ∨ p.2 = one) ∧ p.2 < next
  | [], _, p, hp => by cases hp
  | (i, b) :: l, h, p, hp => by
    simp only [apartB, Bool.and_eq_true, Bool.or_eq_true, Nat.ble_eq] at h
    rcases List.mem_cons.1 hp with rfl | hp
    · exact ⟨h.1.1.1.imp id Nat.eq_of_beq_eq_true, blt_lt h.1.1.2⟩
    · exact apartB_mem h.2 p hp
theorem oneOf_mem {i : Nat} : ∀ {ps : List (Nat × Nat)}, oneOf i ps = big ∨ (i, oneOf i ps) ∈ ps
  | [] => .inl rfl
  | (k, b) :: l => by
    simp only [oneOf]
    rw [bq]
    split
    · rename_i h; subst h; exact .inr (by simp)
    · rcases oneOf_mem (i := i) (ps := l) with h | h
      · exact .inl h
      · exact .inr (by simp [h])
theorem wrt_inI {A : List Nat} {W : List Bool} {ps : List (Nat × Nat)} {i : Nat} {rs : List (Nat × Nat × Nat)} {s : St} {nx : Nat} (hap : apartB s.lim s.one nx ps = true) (hb : s.next ≤ big) {k : Nat} (hk : k < s.next) (h : wrt (inEv A W ps i rs s) k) : wrt s k := by
  unfold inEv at h
  cases hw : W.getD i false with
  | true => rw [hw] at h; exact h
  | false =>
    rw [hw] at h
    rcases h with h | h
    · have h : s.next ≤ k := h; omega
    · have h : k = oneOf i ps := h
      rcases oneOf_mem (i := i) (ps := ps) with e | e
      · omega
      · have := (apartB_mem hap _ e).1
        rw [← h] at this
        exact this
theorem hid_inI {A : List Nat} {W : List Bool} {ps : List (Nat × Nat)} {i : Nat} {rs : List (Nat × Nat × Nat)} {s : St} {k : Nat} (h : hidden s.hid k = true) : hidden (inEv A W ps i rs s).hid k = true := by
  unfold inEv
  cases W.getD i false with
  | true => exact h
  | false => show hidden (hidOf A i rs ps ++ s.hid) k = true; rw [hidden_app, h, Bool.or_true]
theorem back_mb {A : List Nat} {W : List Bool} {ps : List (Nat × Nat)} {i : Nat} {rs : List (Nat × Nat × Nat)} {s q : St} {nx : Nat} (hap : apartB s.lim s.one nx ps = true) (h : MB (inEv A W ps i rs s) q) : MB s (back s q) := fun hb => by
  obtain ⟨eT, en, eg⟩ := inEv_T A W ps i rs s
  obtain ⟨m, hq⟩ := h (by rw [en]; exact hb)
  refine ⟨⟨by have := m.next; rw [en] at this; exact this, rfl, rfl, rfl, fun k hk hw => ?_, fun k hk hd => ?_, fun hu k hk => ?_, m.ng.trans eg⟩, hq⟩
  · show q.T.get k = s.T.get k
    rw [← eT]
    refine m.same k (by rw [en]; exact hk) ?_
    rcases hw with hw | hw
    · exact .inl fun h => hw (wrt_inI hap hb hk h)
    · exact .inr (hid_inI hw)
  · exact m.dead k (by rw [en]; exact hk) (by rw [eT]; exact hd)
  · exact m.up (fun i hi => by rw [eT]; exact hu i (by rw [en] at hi; exact hi)) k hk
theorem anyB_mb {R : Rec} (hR : RM R) {ops : Array Oper} {A : List Nat} {W : List Bool} {ps : List (Nat × Nat)} : ∀ (l : List Oper) (i : Nat) (rs : List (Nat × Nat × Nat)) (fr fr' : Fr) (s s' : St), (∃ nx, apartB s.lim s.one nx ps = true) → anyB P R ops A W ps l i rs fr s = some (fr', s') → MB s s' ∧ FK fr fr'
  | [], i, rs, fr, fr', s, s', _, h => by injection h with h; injection h with h1 h2; subst h1; subst h2; exact ⟨MB.refl _, rfl, rfl, rfl⟩
  | o :: l, i, rs, fr, fr', s, s', hap, h => by
    simp only [anyB] at h
    rcases bif_or h with ⟨_, h⟩ | ⟨_, h⟩
    · rcases bif_or h with ⟨_, h⟩ | ⟨_, h⟩
      · split at h
        · split at h
          · rename_i fr1 hp
            obtain ⟨h1, h2⟩ := anyB_mb hR l _ _ fr1 fr' s s' hap h
            exact ⟨h1, (FK.put hp).trans h2⟩
          · cases h
        · cases h
      · split at h
        · rename_i q hq
          split at h
          · rename_i fr1 hp
            have := back_mb (s := s) hap.choose_spec (execH_mb hR (s := inEv A W ps i rs s) hq)
            obtain ⟨h1, h2⟩ := anyB_mb hR l _ _ fr1 fr' (back s q.2) s' hap h
            exact ⟨this.trans h1, (FK.put hp).trans h2⟩
          · cases h
        · cases h
    · split at h
      · rename_i fr1 hp
        obtain ⟨h1, h2⟩ := anyB_mb hR l _ _ fr1 fr' s s' hap h
        exact ⟨h1, (FK.put hp).trans h2⟩
      · cases h
theorem regB_mb {R : Rec} (hR : RM R) {ops : Array Oper} {draw : Bool} {fr fr' : Fr} (h : regB P R ops draw fr s = some (fr', s')) : MB s s' ∧ FK fr fr' := by
  unfold regB at h
  rcases bif_or h with ⟨_, h⟩ | ⟨_, h⟩
  · obtain ⟨_, h⟩ := bif_some h
    obtain ⟨hap, h⟩ := bif_some h
    exact anyB_mb hR _ _ _ _ _ _ _ ⟨_, hap⟩ h
  · exact seqB_mb hR _ _ _ _ _ (bif_some h).2
theorem takeMarks_mb : ∀ (l : List Nat) (s s' : St), takeMarks l s = some s' → MB s s'
  | [], s, s', h => by injection h with h; subst h; exact MB.refl _
  | d :: l, s, s', h => by
    simp only [takeMarks] at h
    split at h
    · rename_i hg
      split at h
      · rename_i s1 hp
        exact (put_mb hg hp).trans (takeMarks_mb l s1 s' h)
      · cases h
    · cases h
end
end Go.Proofs.YtbanjolokkghdaaGreatDoor
