/- Parts of the proof that follows: The laws of chapter 11: own. | The laws of chapter 11: own, told. | The laws of chapter 11, plainly: which places some times have. No condition. -/
import Derived.Laws.AppendOwnNone
import Derived.Test.YtgblmlefmohgnaaParted8
set_option linter.unusedSimpArgs false
set_option linter.unusedVariables false
namespace Go.Proofs.Ytgblmlefmohgnaa
open Go.RowKit
theorem RunsIn.take {w : World} {p : Option Addr} {l : List RunT} (h : RunsIn w p l) (k : Nat) : RunsIn w p (l.take k) := ⟨fun i r hr => h.at' i r (by
  rw [List.getElem?_take] at hr
  split at hr
  · exact hr
  · cases hr)⟩
theorem IntsIn.take {w : World} {p : Option Addr} {l : List Int} (h : IntsIn w p l) (k : Nat) : IntsIn w p (l.take k) := ⟨fun i r hr => h.at' i r (by
  rw [List.getElem?_take] at hr
  split at hr
  · exact hr
  · cases hr)⟩
theorem own_runs {w : World} {base n : Nat} {e : TypeId} {v : Value} {l : List RunT} (h : w.ownsRow base e 3 v n (flatCells l)) (hn : n = l.length) : ∃ p' cap', v = .slice p' l.length cap' ∧ RunsIn w p' l ∧ l.length ≤ cap' ∧ ∀ a, p' = some a → base ≤ a.block := by
  subst hn
  obtain ⟨_, h2 | ⟨g, cap', cur, rfl, hg, hb, hn, _, hc, ht⟩⟩ := h
  · obtain ⟨rfl, h0⟩ := h2
    exact ⟨none, 0, by rw [h0], ⟨fun i r hr => by rw [List.getElem?_eq_none_iff.2 (by omega)] at hr; cases hr⟩, by omega, fun a h => by cases h⟩
  · exact ⟨some ⟨g, 0, none⟩, cap', rfl, cloneRun_in hb ht, hn, fun a h => by cases h; exact hg⟩
theorem own_ints {w : World} {base n : Nat} {e : TypeId} {v : Value} {l : List Int} (h : w.ownsRow base e 1 v n (l.map (Value.int .i64))) (hn : n = l.length) : ∃ p' cap', v = .slice p' l.length cap' ∧ IntsIn w p' l ∧ l.length ≤ cap' ∧ ∀ a, p' = some a → base ≤ a.block := by
  subst hn
  obtain ⟨_, h2 | ⟨g, cap', cur, rfl, hg, hb, hn, _, hc, ht⟩⟩ := h
  · obtain ⟨rfl, h0⟩ := h2
    exact ⟨none, 0, by rw [h0], ⟨fun i r hr => by rw [List.getElem?_eq_none_iff.2 (by omega)] at hr; cases hr⟩, by omega, fun a h => by cases h⟩
  · exact ⟨some ⟨g, 0, none⟩, cap', rfl, cloneInt_in hb ht, hn, fun a h => by cases h; exact hg⟩
set_option maxRecDepth 100000 in
set_option maxHeartbeats 2000000 in
theorem own_nil_nil (K A R n d E : Int) (pa qa : Addr) (cap vc : Nat) (l : List RunT) (v : List Int) (w : World)  :
    Calls Try.prog 5 #[.agg #[.int .i64 K, .slice none 0 0, .int .i64 A, .int .i64 R, .int .i64 n, .int .i64 d, .slice none 0 0, .int .i64 E]] w fun e w' => ∃ p' cap' q' vc', e = .returned (.agg #[.int .i64 K, .slice p' ([] : List RunT).length cap', .int .i64 A, .int .i64 R, .int .i64 n, .int .i64 d, .slice q' ([] : List Int).length vc', .int .i64 E]) ∧ Below w.heap.size w w' ∧ RunsIn w' p' ([] : List RunT) ∧ IntsIn w' q' ([] : List Int) ∧ ([] : List Int).length ≤ vc' := by
  go_enter Try.func5, Try.ntmps5
  go_upto_region 1 with (fail)
  refine wp_facts (fun W' => Below w.heap.size w W' ∧ Blk W' w.heap.size #[.int .i64 K, .slice none 0 0, .int .i64 A, .int .i64 R, .int .i64 n, .int .i64 d, .slice none 0 0, .int .i64 E] 27 ∧ Blk W' (w.heap.size + 1) #[.int .i64 0, .slice none 0 0, .int .i64 0, .int .i64 0, .int .i64 0, .int .i64 0, .slice none 0 0, .int .i64 0] 27) ⟨by exact belowAny, by exact blkAny, by exact blkAny⟩ ?_
  rintro W1 ⟨hW, b1, b2⟩
  have z2 := hW.size
  have z3 := b1.lt
  have z4 := b2.lt
  have k1 := b1.cell
  have f1 := b1.frozen
  have k2 := b2.cell
  have f2 := b2.frozen
  have hmk : ∀ W, (Instr.buildSlice 22 0 #[]).run Try.prog W = .ok (.slice (some ⟨W.heap.size, 0, none⟩) 0 0) (W.alloc (.cells #[] 44)) := fun W => by kernel_rfl
  obtain ⟨i, hi, hz0, hz1, hz2⟩ := info_parts Try.infoRun
  have hown0 := World.ownsRow_made (e := 44) (size := 3) (base := W1.heap.size) W1 #[] 0 (Nat.le_refl _) (by simp [maxLen]) (by simp)
  go_upto_region 2 with (at_builtin; refine wpList_append_own_none rfl (.tmp 3) (.tmp 10) 22 rfl W1.heap.size 44 i 3 (by kernel_rfl) hi _ 0 [] rfl hown0 rfl ?_)
  try clear k1 f1 k2 f2
  refine wp_facts (fun W' => Below w.heap.size w W' ∧ ∃ p' cap', Blk W' w.heap.size #[.int .i64 K, .slice p' ([] : List RunT).length cap', .int .i64 A, .int .i64 R, .int .i64 n, .int .i64 d, .slice none 0 0, .int .i64 E] 27 ∧ Blk W' (w.heap.size + 1) #[.int .i64 0, .slice none 0 0, .int .i64 0, .int .i64 0, .int .i64 0, .int .i64 0, .slice none 0 0, .int .i64 0] 27 ∧ RunsIn W' p' ([] : List RunT) ∧ ∀ a, p' = some a → w.heap.size + 1 < a.block) ⟨belowAny, (some ⟨W1.heap.size, 0, none⟩), 0, blkAny, blkAny, ⟨fun i r hr => by simp at hr⟩, fun a h => by cases h; simp only []; omega⟩ ?_
  clear hW b1 b2
  rintro W5 ⟨hW, p', cap', b1, b2, hRp, hfp⟩
  replace hRp := Lib.hid hRp
  replace hfp := Lib.hid hfp
  have z50 := hW.size
  have z51 := b1.lt
  have z52 := b2.lt
  have k1 := b1.cell
  have f1 := b1.frozen
  have k2 := b2.cell
  have f2 := b2.frozen
  try clear i hi hz0 hz1 hz2
  have hmk : ∀ W, (Instr.buildSlice 25 0 #[]).run Try.prog W = .ok (.slice (some ⟨W.heap.size, 0, none⟩) 0 0) (W.alloc (.cells #[] 2)) := fun W => by kernel_rfl
  obtain ⟨i, hi, hz0, hz1, hz2⟩ := info_parts Try.infoInt
  have hown0 := World.ownsRow_made (e := 2) (size := 1) (base := W5.heap.size) W5 #[] 0 (Nat.le_refl _) (by simp [maxLen]) (by simp)
  go_upto_region 3 with (at_builtin; refine wpList_append_own_none rfl (.tmp 13) (.tmp 20) 25 rfl W5.heap.size 2 i 1 (by kernel_rfl) hi _ 0 [] rfl hown0 rfl ?_)
  try clear k1 f1 k2 f2
  refine wp_facts (fun W' => Below w.heap.size w W' ∧ ∃ q' vc', Blk W' w.heap.size #[.int .i64 K, .slice p' ([] : List RunT).length cap', .int .i64 A, .int .i64 R, .int .i64 n, .int .i64 d, .slice q' ([] : List Int).length vc', .int .i64 E] 27 ∧ Blk W' (w.heap.size + 1) #[.int .i64 0, .slice none 0 0, .int .i64 0, .int .i64 0, .int .i64 0, .int .i64 0, .slice none 0 0, .int .i64 0] 27 ∧ RunsIn W' p' ([] : List RunT) ∧ ([] : List Int).length ≤ vc' ∧ IntsIn W' q' ([] : List Int) ∧ ∀ a, q' = some a → w.heap.size + 1 < a.block) ⟨belowAny, (some ⟨W5.heap.size, 0, none⟩), 0, blkAny, blkAny, (by (repeat (first | with_reducible (refine RunsIn.alloc ?_ _) | with_reducible (refine RunsIn.set' ?_ (fun a h => by have := hfp.out a h; omega)))); exact hRp.out), Nat.le_refl _, ⟨fun i r hr => by simp at hr⟩, fun a h => by cases h; simp only []; omega⟩ ?_
  clear hW b1 b2
  rintro W6 ⟨hW, q', vc', b1, b2, hRp', hvc', hRq, hfq⟩
  replace hRp' := Lib.hid hRp'
  replace hRq := Lib.hid hRq
  replace hfq := Lib.hid hfq
  have y_1 := b1.lt
  have y_2 := b2.lt
  have k1 := b1.cell
  have f1 := b1.frozen
  have k2 := b2.cell
  have f2 := b2.frozen
  go_wp2
  refine bodyPost_ret (v := .agg #[.int .i64 K, .slice p' ([] : List RunT).length cap', .int .i64 A, .int .i64 R, .int .i64 n, .int .i64 d, .slice q' ([] : List Int).length vc', .int .i64 E]) (by simp [results, Try.results5, go_sem, k1, f1, k2, f2, y_1, y_2]) rfl ⟨p', cap', q', vc', rfl, belowAny, ?_, ?_, hvc'⟩
  · repeat (refine RunsIn.set' ?_ (fun a h => by have := hfp.out a h; omega))
    exact hRp'.out
  · repeat (refine IntsIn.set' ?_ (fun a h => by have := hfq.out a h; omega))
    exact hRq.out

set_option maxRecDepth 100000 in
set_option maxHeartbeats 2000000 in
theorem own_nil_short (K A R n d E : Int) (pa qa : Addr) (cap vc : Nat) (l : List RunT) (v : List Int) (w : World)  (hv0 : v.length ≤ 300) (hv1 : v.length ≤ vc) (hv : IntsIn w (some qa) v) :
    Calls Try.prog 5 #[.agg #[.int .i64 K, .slice none 0 0, .int .i64 A, .int .i64 R, .int .i64 n, .int .i64 d, .slice (some qa) v.length vc, .int .i64 E]] w fun e w' => ∃ p' cap' q' vc', e = .returned (.agg #[.int .i64 K, .slice p' ([] : List RunT).length cap', .int .i64 A, .int .i64 R, .int .i64 n, .int .i64 d, .slice q' v.length vc', .int .i64 E]) ∧ Below w.heap.size w w' ∧ RunsIn w' p' ([] : List RunT) ∧ IntsIn w' q' v ∧ v.length ≤ vc' := by
  go_enter Try.func5, Try.ntmps5
  go_upto_region 1 with (fail)
  refine wp_facts (fun W' => Below w.heap.size w W' ∧ Blk W' w.heap.size #[.int .i64 K, .slice none 0 0, .int .i64 A, .int .i64 R, .int .i64 n, .int .i64 d, .slice (some qa) v.length vc, .int .i64 E] 27 ∧ Blk W' (w.heap.size + 1) #[.int .i64 0, .slice none 0 0, .int .i64 0, .int .i64 0, .int .i64 0, .int .i64 0, .slice none 0 0, .int .i64 0] 27) ⟨by exact belowAny, by exact blkAny, by exact blkAny⟩ ?_
  rintro W1 ⟨hW, b1, b2⟩
  have z2 := hW.size
  have z3 := b1.lt
  have z4 := b2.lt
  have k1 := b1.cell
  have f1 := b1.frozen
  have k2 := b2.cell
  have f2 := b2.frozen
  have hmk : ∀ W, (Instr.buildSlice 22 0 #[]).run Try.prog W = .ok (.slice (some ⟨W.heap.size, 0, none⟩) 0 0) (W.alloc (.cells #[] 44)) := fun W => by kernel_rfl
  obtain ⟨i, hi, hz0, hz1, hz2⟩ := info_parts Try.infoRun
  have hown0 := World.ownsRow_made (e := 44) (size := 3) (base := W1.heap.size) W1 #[] 0 (Nat.le_refl _) (by simp [maxLen]) (by simp)
  go_upto_region 2 with (at_builtin; refine wpList_append_own_none rfl (.tmp 3) (.tmp 10) 22 rfl W1.heap.size 44 i 3 (by kernel_rfl) hi _ 0 [] rfl hown0 rfl ?_)
  try clear k1 f1 k2 f2
  refine wp_facts (fun W' => Below w.heap.size w W' ∧ ∃ p' cap', Blk W' w.heap.size #[.int .i64 K, .slice p' ([] : List RunT).length cap', .int .i64 A, .int .i64 R, .int .i64 n, .int .i64 d, .slice (some qa) v.length vc, .int .i64 E] 27 ∧ Blk W' (w.heap.size + 1) #[.int .i64 0, .slice none 0 0, .int .i64 0, .int .i64 0, .int .i64 0, .int .i64 0, .slice none 0 0, .int .i64 0] 27 ∧ RunsIn W' p' ([] : List RunT) ∧ ∀ a, p' = some a → w.heap.size + 1 < a.block) ⟨belowAny, (some ⟨W1.heap.size, 0, none⟩), 0, blkAny, blkAny, ⟨fun i r hr => by simp at hr⟩, fun a h => by cases h; simp only []; omega⟩ ?_
  clear hW b1 b2
  rintro W5 ⟨hW, p', cap', b1, b2, hRp, hfp⟩
  replace hRp := Lib.hid hRp
  replace hfp := Lib.hid hfp
  have z50 := hW.size
  have z51 := b1.lt
  have z52 := b2.lt
  have k1 := b1.cell
  have f1 := b1.frozen
  have k2 := b2.cell
  have f2 := b2.frozen
  try clear i hi hz0 hz1 hz2
  have hmk : ∀ W, (Instr.buildSlice 25 0 #[]).run Try.prog W = .ok (.slice (some ⟨W.heap.size, 0, none⟩) 0 0) (W.alloc (.cells #[] 2)) := fun W => by kernel_rfl
  obtain ⟨i, hi, hz0, hz1, hz2⟩ := info_parts Try.infoInt
  have hown0 := World.ownsRow_made (e := 2) (size := 1) (base := W5.heap.size) W5 #[] 0 (Nat.le_refl _) (by simp [maxLen]) (by simp)
  go_upto_region 3 with (at_builtin; refine wpList_append_own _ rfl (.tmp 13) (.tmp 20) 25 rfl W5.heap.size 2 i _ 1 8 (by kernel_rfl) hi hz0 hz1 hz2 rfl (by omega) _ 0 [] rfl hown0 qa v.length vc (v.map (Value.int .i64)) rfl (by rw [List.length_map]; omega) (fun j u hu => ints_flat ((hv.below (hW.trans ((Below.refl _ _).alloc (Nat.le_refl _) _ |>.mono hW.size)))) j u hu) (fun v hv => by simp only [List.mem_map] at hv; obtain ⟨x, _, rfl⟩ := hv; rfl) (by simp [maxLen] <;> omega) (by omega) (by simp) ?_)
  intro v' w' hown hgr _
  have hB := clone_below hgr
  obtain ⟨p9, cap9, rfl, hR9, hc9, hf9⟩ := own_ints (l := v) hown (by simp)
  clear hown hgr hown0 hmk
  have hz9 := hB.size
  have b1 : Blk w' w.heap.size #[.int .i64 K, .slice p' ([] : List RunT).length cap', .int .i64 A, .int .i64 R, .int .i64 n, .int .i64 d, .slice (some qa) v.length vc, .int .i64 E] 27 := blkAny
  have b2 : Blk w' (w.heap.size + 1) #[.int .i64 0, .slice none 0 0, .int .i64 0, .int .i64 0, .int .i64 0, .int .i64 0, .slice none 0 0, .int .i64 0] 27 := blkAny
  have hW : Below w.heap.size w w' := belowAny
  have k1 := b1.cell
  have f1 := b1.frozen
  have k2 := b2.cell
  have f2 := b2.frozen
  replace hR9 := Lib.hid hR9
  replace hf9 := Lib.hid hf9
  go_upto_region 3 with (fail)
  try clear k1 f1 k2 f2
  refine wp_facts (fun W' => Below w.heap.size w W' ∧ ∃ q' vc', Blk W' w.heap.size #[.int .i64 K, .slice p' ([] : List RunT).length cap', .int .i64 A, .int .i64 R, .int .i64 n, .int .i64 d, .slice q' v.length vc', .int .i64 E] 27 ∧ Blk W' (w.heap.size + 1) #[.int .i64 0, .slice none 0 0, .int .i64 0, .int .i64 0, .int .i64 0, .int .i64 0, .slice none 0 0, .int .i64 0] 27 ∧ RunsIn W' p' ([] : List RunT) ∧ v.length ≤ vc' ∧ IntsIn W' q' v ∧ ∀ a, q' = some a → w.heap.size + 1 < a.block) ⟨belowAny, p9, cap9, blkAny, blkAny, (by (repeat (first | with_reducible (refine RunsIn.alloc ?_ _) | with_reducible (refine RunsIn.set' ?_ (fun a h => by have := hfp.out a h; omega)))); exact hRp.out.below hB), hc9, (by (repeat (refine IntsIn.set' ?_ (fun a h => by have := hf9.out a h; omega))); exact hR9.out), fun a h => by have := hf9.out a h; omega⟩ ?_
  clear hW b1 b2
  rintro W6 ⟨hW, q', vc', b1, b2, hRp', hvc', hRq, hfq⟩
  replace hRp' := Lib.hid hRp'
  replace hRq := Lib.hid hRq
  replace hfq := Lib.hid hfq
  have y_1 := b1.lt
  have y_2 := b2.lt
  have k1 := b1.cell
  have f1 := b1.frozen
  have k2 := b2.cell
  have f2 := b2.frozen
  go_wp2
  refine bodyPost_ret (v := .agg #[.int .i64 K, .slice p' ([] : List RunT).length cap', .int .i64 A, .int .i64 R, .int .i64 n, .int .i64 d, .slice q' v.length vc', .int .i64 E]) (by simp [results, Try.results5, go_sem, k1, f1, k2, f2, y_1, y_2]) rfl ⟨p', cap', q', vc', rfl, belowAny, ?_, ?_, hvc'⟩
  · repeat (refine RunsIn.set' ?_ (fun a h => by have := hfp.out a h; omega))
    exact hRp'.out
  · repeat (refine IntsIn.set' ?_ (fun a h => by have := hfq.out a h; omega))
    exact hRq.out

set_option maxRecDepth 100000 in
set_option maxHeartbeats 2000000 in
theorem own_nil_long (K A R n d E : Int) (pa qa : Addr) (cap vc : Nat) (l : List RunT) (v : List Int) (w : World)  (hv0 : 300 < v.length) (hv1 : v.length ≤ vc) (hv2 : v.length ≤ 9223372036854775807) (hv : IntsIn w (some qa) v) (v9 : List Int) (k9 : v9 = v.take 300) :
    Calls Try.prog 5 #[.agg #[.int .i64 K, .slice none 0 0, .int .i64 A, .int .i64 R, .int .i64 n, .int .i64 d, .slice (some qa) v.length vc, .int .i64 E]] w fun e w' => ∃ p' cap' q' vc', e = .returned (.agg #[.int .i64 K, .slice p' ([] : List RunT).length cap', .int .i64 A, .int .i64 R, .int .i64 n, .int .i64 d, .slice q' v9.length vc', .int .i64 E]) ∧ Below w.heap.size w w' ∧ RunsIn w' p' ([] : List RunT) ∧ IntsIn w' q' v9 ∧ v9.length ≤ vc' := by
  have hv8 : IntsIn w (some qa) v9 := k9 ▸ hv.take 300
  have hv9 := Lib.hid (show v9.length = 300 by rw [k9, List.length_take]; omega)
  clear k9
  go_enter Try.func5, Try.ntmps5
  go_upto_region 1 with (fail)
  refine wp_facts (fun W' => Below w.heap.size w W' ∧ Blk W' w.heap.size #[.int .i64 K, .slice none 0 0, .int .i64 A, .int .i64 R, .int .i64 n, .int .i64 d, .slice (some qa) v.length vc, .int .i64 E] 27 ∧ Blk W' (w.heap.size + 1) #[.int .i64 0, .slice none 0 0, .int .i64 0, .int .i64 0, .int .i64 0, .int .i64 0, .slice none 0 0, .int .i64 0] 27) ⟨by exact belowAny, by exact blkAny, by exact blkAny⟩ ?_
  rintro W1 ⟨hW, b1, b2⟩
  have z2 := hW.size
  have z3 := b1.lt
  have z4 := b2.lt
  have k1 := b1.cell
  have f1 := b1.frozen
  have k2 := b2.cell
  have f2 := b2.frozen
  have hmk : ∀ W, (Instr.buildSlice 22 0 #[]).run Try.prog W = .ok (.slice (some ⟨W.heap.size, 0, none⟩) 0 0) (W.alloc (.cells #[] 44)) := fun W => by kernel_rfl
  obtain ⟨i, hi, hz0, hz1, hz2⟩ := info_parts Try.infoRun
  have hown0 := World.ownsRow_made (e := 44) (size := 3) (base := W1.heap.size) W1 #[] 0 (Nat.le_refl _) (by simp [maxLen]) (by simp)
  go_upto_region 2 with (at_builtin; refine wpList_append_own_none rfl (.tmp 3) (.tmp 10) 22 rfl W1.heap.size 44 i 3 (by kernel_rfl) hi _ 0 [] rfl hown0 rfl ?_)
  try clear k1 f1 k2 f2
  refine wp_facts (fun W' => Below w.heap.size w W' ∧ ∃ p' cap', Blk W' w.heap.size #[.int .i64 K, .slice p' ([] : List RunT).length cap', .int .i64 A, .int .i64 R, .int .i64 n, .int .i64 d, .slice (some qa) v.length vc, .int .i64 E] 27 ∧ Blk W' (w.heap.size + 1) #[.int .i64 0, .slice none 0 0, .int .i64 0, .int .i64 0, .int .i64 0, .int .i64 0, .slice none 0 0, .int .i64 0] 27 ∧ RunsIn W' p' ([] : List RunT) ∧ ∀ a, p' = some a → w.heap.size + 1 < a.block) ⟨belowAny, (some ⟨W1.heap.size, 0, none⟩), 0, blkAny, blkAny, ⟨fun i r hr => by simp at hr⟩, fun a h => by cases h; simp only []; omega⟩ ?_
  clear hW b1 b2
  rintro W5 ⟨hW, p', cap', b1, b2, hRp, hfp⟩
  replace hRp := Lib.hid hRp
  replace hfp := Lib.hid hfp
  have z50 := hW.size
  have z51 := b1.lt
  have z52 := b2.lt
  have k1 := b1.cell
  have f1 := b1.frozen
  have k2 := b2.cell
  have f2 := b2.frozen
  try clear i hi hz0 hz1 hz2
  have hmk : ∀ W, (Instr.buildSlice 25 0 #[]).run Try.prog W = .ok (.slice (some ⟨W.heap.size, 0, none⟩) 0 0) (W.alloc (.cells #[] 2)) := fun W => by kernel_rfl
  obtain ⟨i, hi, hz0, hz1, hz2⟩ := info_parts Try.infoInt
  have hown0 := World.ownsRow_made (e := 2) (size := 1) (base := W5.heap.size) W5 #[] 0 (Nat.le_refl _) (by simp [maxLen]) (by simp)
  go_upto_region 3 with (at_builtin; refine wpList_append_own _ rfl (.tmp 13) (.tmp 20) 25 rfl W5.heap.size 2 i _ 1 8 (by kernel_rfl) hi hz0 hz1 hz2 rfl (by omega) _ 0 [] rfl hown0 qa 300 vc (v9.map (Value.int .i64)) rfl (by rw [List.length_map, hv9.out]) (fun j u hu => ints_flat ((hv8.below (hW.trans ((Below.refl _ _).alloc (Nat.le_refl _) _ |>.mono hW.size)))) j u hu) (fun v hv => by simp only [List.mem_map] at hv; obtain ⟨x, _, rfl⟩ := hv; rfl) (by simp [maxLen] <;> omega) (by omega) (by simp) ?_)
  intro v' w' hown hgr _
  have hB := clone_below hgr
  obtain ⟨p9, cap9, rfl, hR9, hc9, hf9⟩ := own_ints (l := v9) hown (by rw [hv9.out])
  clear hown hgr hown0 hmk
  have hz9 := hB.size
  have b1 : Blk w' w.heap.size #[.int .i64 K, .slice p' ([] : List RunT).length cap', .int .i64 A, .int .i64 R, .int .i64 n, .int .i64 d, .slice (some qa) v.length vc, .int .i64 E] 27 := blkAny
  have b2 : Blk w' (w.heap.size + 1) #[.int .i64 0, .slice none 0 0, .int .i64 0, .int .i64 0, .int .i64 0, .int .i64 0, .slice none 0 0, .int .i64 0] 27 := blkAny
  have hW : Below w.heap.size w w' := belowAny
  have k1 := b1.cell
  have f1 := b1.frozen
  have k2 := b2.cell
  have f2 := b2.frozen
  replace hR9 := Lib.hid hR9
  replace hf9 := Lib.hid hf9
  go_upto_region 3 with (fail)
  try clear k1 f1 k2 f2
  refine wp_facts (fun W' => Below w.heap.size w W' ∧ ∃ q' vc', Blk W' w.heap.size #[.int .i64 K, .slice p' ([] : List RunT).length cap', .int .i64 A, .int .i64 R, .int .i64 n, .int .i64 d, .slice q' v9.length vc', .int .i64 E] 27 ∧ Blk W' (w.heap.size + 1) #[.int .i64 0, .slice none 0 0, .int .i64 0, .int .i64 0, .int .i64 0, .int .i64 0, .slice none 0 0, .int .i64 0] 27 ∧ RunsIn W' p' ([] : List RunT) ∧ v9.length ≤ vc' ∧ IntsIn W' q' v9 ∧ ∀ a, q' = some a → w.heap.size + 1 < a.block) ⟨belowAny, p9, cap9, blkAny, blkAny, (by (repeat (first | with_reducible (refine RunsIn.alloc ?_ _) | with_reducible (refine RunsIn.set' ?_ (fun a h => by have := hfp.out a h; omega)))); exact hRp.out.below hB), hc9, (by (repeat (refine IntsIn.set' ?_ (fun a h => by have := hf9.out a h; omega))); exact hR9.out), fun a h => by have := hf9.out a h; omega⟩ ?_
  clear hW b1 b2
  rintro W6 ⟨hW, q', vc', b1, b2, hRp', hvc', hRq, hfq⟩
  replace hRp' := Lib.hid hRp'
  replace hRq := Lib.hid hRq
  replace hfq := Lib.hid hfq
  have y_1 := b1.lt
  have y_2 := b2.lt
  have k1 := b1.cell
  have f1 := b1.frozen
  have k2 := b2.cell
  have f2 := b2.frozen
  go_wp2
  refine bodyPost_ret (v := .agg #[.int .i64 K, .slice p' ([] : List RunT).length cap', .int .i64 A, .int .i64 R, .int .i64 n, .int .i64 d, .slice q' v9.length vc', .int .i64 E]) (by simp [results, Try.results5, go_sem, k1, f1, k2, f2, y_1, y_2]) rfl ⟨p', cap', q', vc', rfl, belowAny, ?_, ?_, hvc'⟩
  · repeat (refine RunsIn.set' ?_ (fun a h => by have := hfp.out a h; omega))
    exact hRp'.out
  · repeat (refine IntsIn.set' ?_ (fun a h => by have := hfq.out a h; omega))
    exact hRq.out

set_option maxRecDepth 100000 in
set_option maxHeartbeats 2000000 in
theorem own_short_nil (K A R n d E : Int) (pa qa : Addr) (cap vc : Nat) (l : List RunT) (v : List Int) (w : World) (hl0 : l.length ≤ 300) (hl1 : l.length ≤ cap) (hl : RunsIn w (some pa) l) :
    Calls Try.prog 5 #[.agg #[.int .i64 K, .slice (some pa) l.length cap, .int .i64 A, .int .i64 R, .int .i64 n, .int .i64 d, .slice none 0 0, .int .i64 E]] w fun e w' => ∃ p' cap' q' vc', e = .returned (.agg #[.int .i64 K, .slice p' l.length cap', .int .i64 A, .int .i64 R, .int .i64 n, .int .i64 d, .slice q' ([] : List Int).length vc', .int .i64 E]) ∧ Below w.heap.size w w' ∧ RunsIn w' p' l ∧ IntsIn w' q' ([] : List Int) ∧ ([] : List Int).length ≤ vc' := by
  go_enter Try.func5, Try.ntmps5
  go_upto_region 1 with (fail)
  refine wp_facts (fun W' => Below w.heap.size w W' ∧ Blk W' w.heap.size #[.int .i64 K, .slice (some pa) l.length cap, .int .i64 A, .int .i64 R, .int .i64 n, .int .i64 d, .slice none 0 0, .int .i64 E] 27 ∧ Blk W' (w.heap.size + 1) #[.int .i64 0, .slice none 0 0, .int .i64 0, .int .i64 0, .int .i64 0, .int .i64 0, .slice none 0 0, .int .i64 0] 27) ⟨by exact belowAny, by exact blkAny, by exact blkAny⟩ ?_
  rintro W1 ⟨hW, b1, b2⟩
  have z2 := hW.size
  have z3 := b1.lt
  have z4 := b2.lt
  have k1 := b1.cell
  have f1 := b1.frozen
  have k2 := b2.cell
  have f2 := b2.frozen
  have hmk : ∀ W, (Instr.buildSlice 22 0 #[]).run Try.prog W = .ok (.slice (some ⟨W.heap.size, 0, none⟩) 0 0) (W.alloc (.cells #[] 44)) := fun W => by kernel_rfl
  obtain ⟨i, hi, hz0, hz1, hz2⟩ := info_parts Try.infoRun
  have hown0 := World.ownsRow_made (e := 44) (size := 3) (base := W1.heap.size) W1 #[] 0 (Nat.le_refl _) (by simp [maxLen]) (by simp)
  go_upto_region 2 with (at_builtin; refine wpList_append_own _ rfl (.tmp 3) (.tmp 10) 22 rfl W1.heap.size 44 i _ 3 24 (by kernel_rfl) hi hz0 hz1 hz2 rfl (by omega) _ 0 [] rfl hown0 pa l.length cap (flatCells l) rfl (by rw [length_flatCells]) ((hl.below (hW.trans ((Below.refl _ _).alloc (Nat.le_refl _) _ |>.mono hW.size)))).flat (fun v hv => by obtain ⟨x, rfl⟩ := flat_mem _ v hv; rfl) (by simp [maxLen] <;> omega) (by omega) (by simp) ?_)
  intro v' w' hown hgr _
  have hB := clone_below hgr
  obtain ⟨p9, cap9, rfl, hR9, hc9, hf9⟩ := own_runs (l := l) hown (by simp)
  clear hown hgr hown0 hmk
  have hz9 := hB.size
  have b1 : Blk w' w.heap.size #[.int .i64 K, .slice (some pa) l.length cap, .int .i64 A, .int .i64 R, .int .i64 n, .int .i64 d, .slice none 0 0, .int .i64 E] 27 := blkAny
  have b2 : Blk w' (w.heap.size + 1) #[.int .i64 0, .slice none 0 0, .int .i64 0, .int .i64 0, .int .i64 0, .int .i64 0, .slice none 0 0, .int .i64 0] 27 := blkAny
  have hW : Below w.heap.size w w' := belowAny
  have k1 := b1.cell
  have f1 := b1.frozen
  have k2 := b2.cell
  have f2 := b2.frozen
  replace hR9 := Lib.hid hR9
  replace hf9 := Lib.hid hf9
  go_upto_region 2 with (fail)
  try clear k1 f1 k2 f2
  refine wp_facts (fun W' => Below w.heap.size w W' ∧ ∃ p' cap', Blk W' w.heap.size #[.int .i64 K, .slice p' l.length cap', .int .i64 A, .int .i64 R, .int .i64 n, .int .i64 d, .slice none 0 0, .int .i64 E] 27 ∧ Blk W' (w.heap.size + 1) #[.int .i64 0, .slice none 0 0, .int .i64 0, .int .i64 0, .int .i64 0, .int .i64 0, .slice none 0 0, .int .i64 0] 27 ∧ RunsIn W' p' l ∧ ∀ a, p' = some a → w.heap.size + 1 < a.block) ⟨belowAny, p9, cap9, blkAny, blkAny, (by (repeat (refine RunsIn.set' ?_ (fun a h => by have := hf9.out a h; omega))); exact hR9.out), fun a h => by have := hf9.out a h; omega⟩ ?_
  clear hW b1 b2
  rintro W5 ⟨hW, p', cap', b1, b2, hRp, hfp⟩
  replace hRp := Lib.hid hRp
  replace hfp := Lib.hid hfp
  have z50 := hW.size
  have z51 := b1.lt
  have z52 := b2.lt
  have k1 := b1.cell
  have f1 := b1.frozen
  have k2 := b2.cell
  have f2 := b2.frozen
  try clear i hi hz0 hz1 hz2
  have hmk : ∀ W, (Instr.buildSlice 25 0 #[]).run Try.prog W = .ok (.slice (some ⟨W.heap.size, 0, none⟩) 0 0) (W.alloc (.cells #[] 2)) := fun W => by kernel_rfl
  obtain ⟨i, hi, hz0, hz1, hz2⟩ := info_parts Try.infoInt
  have hown0 := World.ownsRow_made (e := 2) (size := 1) (base := W5.heap.size) W5 #[] 0 (Nat.le_refl _) (by simp [maxLen]) (by simp)
  go_upto_region 3 with (at_builtin; refine wpList_append_own_none rfl (.tmp 13) (.tmp 20) 25 rfl W5.heap.size 2 i 1 (by kernel_rfl) hi _ 0 [] rfl hown0 rfl ?_)
  try clear k1 f1 k2 f2
  refine wp_facts (fun W' => Below w.heap.size w W' ∧ ∃ q' vc', Blk W' w.heap.size #[.int .i64 K, .slice p' l.length cap', .int .i64 A, .int .i64 R, .int .i64 n, .int .i64 d, .slice q' ([] : List Int).length vc', .int .i64 E] 27 ∧ Blk W' (w.heap.size + 1) #[.int .i64 0, .slice none 0 0, .int .i64 0, .int .i64 0, .int .i64 0, .int .i64 0, .slice none 0 0, .int .i64 0] 27 ∧ RunsIn W' p' l ∧ ([] : List Int).length ≤ vc' ∧ IntsIn W' q' ([] : List Int) ∧ ∀ a, q' = some a → w.heap.size + 1 < a.block) ⟨belowAny, (some ⟨W5.heap.size, 0, none⟩), 0, blkAny, blkAny, (by (repeat (first | with_reducible (refine RunsIn.alloc ?_ _) | with_reducible (refine RunsIn.set' ?_ (fun a h => by have := hfp.out a h; omega)))); exact hRp.out), Nat.le_refl _, ⟨fun i r hr => by simp at hr⟩, fun a h => by cases h; simp only []; omega⟩ ?_
  clear hW b1 b2
  rintro W6 ⟨hW, q', vc', b1, b2, hRp', hvc', hRq, hfq⟩
  replace hRp' := Lib.hid hRp'
  replace hRq := Lib.hid hRq
  replace hfq := Lib.hid hfq
  have y_1 := b1.lt
  have y_2 := b2.lt
  have k1 := b1.cell
  have f1 := b1.frozen
  have k2 := b2.cell
  have f2 := b2.frozen
  go_wp2
  refine bodyPost_ret (v := .agg #[.int .i64 K, .slice p' l.length cap', .int .i64 A, .int .i64 R, .int .i64 n, .int .i64 d, .slice q' ([] : List Int).length vc', .int .i64 E]) (by simp [results, Try.results5, go_sem, k1, f1, k2, f2, y_1, y_2]) rfl ⟨p', cap', q', vc', rfl, belowAny, ?_, ?_, hvc'⟩
  · repeat (refine RunsIn.set' ?_ (fun a h => by have := hfp.out a h; omega))
    exact hRp'.out
  · repeat (refine IntsIn.set' ?_ (fun a h => by have := hfq.out a h; omega))
    exact hRq.out

set_option maxRecDepth 100000 in
set_option maxHeartbeats 2000000 in
theorem own_short_short (K A R n d E : Int) (pa qa : Addr) (cap vc : Nat) (l : List RunT) (v : List Int) (w : World) (hl0 : l.length ≤ 300) (hl1 : l.length ≤ cap) (hv0 : v.length ≤ 300) (hv1 : v.length ≤ vc) (hl : RunsIn w (some pa) l) (hv : IntsIn w (some qa) v) :
    Calls Try.prog 5 #[.agg #[.int .i64 K, .slice (some pa) l.length cap, .int .i64 A, .int .i64 R, .int .i64 n, .int .i64 d, .slice (some qa) v.length vc, .int .i64 E]] w fun e w' => ∃ p' cap' q' vc', e = .returned (.agg #[.int .i64 K, .slice p' l.length cap', .int .i64 A, .int .i64 R, .int .i64 n, .int .i64 d, .slice q' v.length vc', .int .i64 E]) ∧ Below w.heap.size w w' ∧ RunsIn w' p' l ∧ IntsIn w' q' v ∧ v.length ≤ vc' := by
  go_enter Try.func5, Try.ntmps5
  go_upto_region 1 with (fail)
  refine wp_facts (fun W' => Below w.heap.size w W' ∧ Blk W' w.heap.size #[.int .i64 K, .slice (some pa) l.length cap, .int .i64 A, .int .i64 R, .int .i64 n, .int .i64 d, .slice (some qa) v.length vc, .int .i64 E] 27 ∧ Blk W' (w.heap.size + 1) #[.int .i64 0, .slice none 0 0, .int .i64 0, .int .i64 0, .int .i64 0, .int .i64 0, .slice none 0 0, .int .i64 0] 27) ⟨by exact belowAny, by exact blkAny, by exact blkAny⟩ ?_
  rintro W1 ⟨hW, b1, b2⟩
  have z2 := hW.size
  have z3 := b1.lt
  have z4 := b2.lt
  have k1 := b1.cell
  have f1 := b1.frozen
  have k2 := b2.cell
  have f2 := b2.frozen
  have hmk : ∀ W, (Instr.buildSlice 22 0 #[]).run Try.prog W = .ok (.slice (some ⟨W.heap.size, 0, none⟩) 0 0) (W.alloc (.cells #[] 44)) := fun W => by kernel_rfl
  obtain ⟨i, hi, hz0, hz1, hz2⟩ := info_parts Try.infoRun
  have hown0 := World.ownsRow_made (e := 44) (size := 3) (base := W1.heap.size) W1 #[] 0 (Nat.le_refl _) (by simp [maxLen]) (by simp)
  go_upto_region 2 with (at_builtin; refine wpList_append_own _ rfl (.tmp 3) (.tmp 10) 22 rfl W1.heap.size 44 i _ 3 24 (by kernel_rfl) hi hz0 hz1 hz2 rfl (by omega) _ 0 [] rfl hown0 pa l.length cap (flatCells l) rfl (by rw [length_flatCells]) ((hl.below (hW.trans ((Below.refl _ _).alloc (Nat.le_refl _) _ |>.mono hW.size)))).flat (fun v hv => by obtain ⟨x, rfl⟩ := flat_mem _ v hv; rfl) (by simp [maxLen] <;> omega) (by omega) (by simp) ?_)
  intro v' w' hown hgr _
  have hB := clone_below hgr
  obtain ⟨p9, cap9, rfl, hR9, hc9, hf9⟩ := own_runs (l := l) hown (by simp)
  clear hown hgr hown0 hmk
  have hz9 := hB.size
  have b1 : Blk w' w.heap.size #[.int .i64 K, .slice (some pa) l.length cap, .int .i64 A, .int .i64 R, .int .i64 n, .int .i64 d, .slice (some qa) v.length vc, .int .i64 E] 27 := blkAny
  have b2 : Blk w' (w.heap.size + 1) #[.int .i64 0, .slice none 0 0, .int .i64 0, .int .i64 0, .int .i64 0, .int .i64 0, .slice none 0 0, .int .i64 0] 27 := blkAny
  have hW : Below w.heap.size w w' := belowAny
  have k1 := b1.cell
  have f1 := b1.frozen
  have k2 := b2.cell
  have f2 := b2.frozen
  replace hR9 := Lib.hid hR9
  replace hf9 := Lib.hid hf9
  go_upto_region 2 with (fail)
  try clear k1 f1 k2 f2
  refine wp_facts (fun W' => Below w.heap.size w W' ∧ ∃ p' cap', Blk W' w.heap.size #[.int .i64 K, .slice p' l.length cap', .int .i64 A, .int .i64 R, .int .i64 n, .int .i64 d, .slice (some qa) v.length vc, .int .i64 E] 27 ∧ Blk W' (w.heap.size + 1) #[.int .i64 0, .slice none 0 0, .int .i64 0, .int .i64 0, .int .i64 0, .int .i64 0, .slice none 0 0, .int .i64 0] 27 ∧ RunsIn W' p' l ∧ ∀ a, p' = some a → w.heap.size + 1 < a.block) ⟨belowAny, p9, cap9, blkAny, blkAny, (by (repeat (refine RunsIn.set' ?_ (fun a h => by have := hf9.out a h; omega))); exact hR9.out), fun a h => by have := hf9.out a h; omega⟩ ?_
  clear hW b1 b2
  rintro W5 ⟨hW, p', cap', b1, b2, hRp, hfp⟩
  replace hRp := Lib.hid hRp
  replace hfp := Lib.hid hfp
  have z50 := hW.size
  have z51 := b1.lt
  have z52 := b2.lt
  have k1 := b1.cell
  have f1 := b1.frozen
  have k2 := b2.cell
  have f2 := b2.frozen
  try clear i hi hz0 hz1 hz2
  have hmk : ∀ W, (Instr.buildSlice 25 0 #[]).run Try.prog W = .ok (.slice (some ⟨W.heap.size, 0, none⟩) 0 0) (W.alloc (.cells #[] 2)) := fun W => by kernel_rfl
  obtain ⟨i, hi, hz0, hz1, hz2⟩ := info_parts Try.infoInt
  have hown0 := World.ownsRow_made (e := 2) (size := 1) (base := W5.heap.size) W5 #[] 0 (Nat.le_refl _) (by simp [maxLen]) (by simp)
  go_upto_region 3 with (at_builtin; refine wpList_append_own _ rfl (.tmp 13) (.tmp 20) 25 rfl W5.heap.size 2 i _ 1 8 (by kernel_rfl) hi hz0 hz1 hz2 rfl (by omega) _ 0 [] rfl hown0 qa v.length vc (v.map (Value.int .i64)) rfl (by rw [List.length_map]; omega) (fun j u hu => ints_flat ((hv.below (hW.trans ((Below.refl _ _).alloc (Nat.le_refl _) _ |>.mono hW.size)))) j u hu) (fun v hv => by simp only [List.mem_map] at hv; obtain ⟨x, _, rfl⟩ := hv; rfl) (by simp [maxLen] <;> omega) (by omega) (by simp) ?_)
  intro v' w' hown hgr _
  have hB := clone_below hgr
  obtain ⟨p9, cap9, rfl, hR9, hc9, hf9⟩ := own_ints (l := v) hown (by simp)
  clear hown hgr hown0 hmk
  have hz9 := hB.size
  have b1 : Blk w' w.heap.size #[.int .i64 K, .slice p' l.length cap', .int .i64 A, .int .i64 R, .int .i64 n, .int .i64 d, .slice (some qa) v.length vc, .int .i64 E] 27 := blkAny
  have b2 : Blk w' (w.heap.size + 1) #[.int .i64 0, .slice none 0 0, .int .i64 0, .int .i64 0, .int .i64 0, .int .i64 0, .slice none 0 0, .int .i64 0] 27 := blkAny
  have hW : Below w.heap.size w w' := belowAny
  have k1 := b1.cell
  have f1 := b1.frozen
  have k2 := b2.cell
  have f2 := b2.frozen
  replace hR9 := Lib.hid hR9
  replace hf9 := Lib.hid hf9
  go_upto_region 3 with (fail)
  try clear k1 f1 k2 f2
  refine wp_facts (fun W' => Below w.heap.size w W' ∧ ∃ q' vc', Blk W' w.heap.size #[.int .i64 K, .slice p' l.length cap', .int .i64 A, .int .i64 R, .int .i64 n, .int .i64 d, .slice q' v.length vc', .int .i64 E] 27 ∧ Blk W' (w.heap.size + 1) #[.int .i64 0, .slice none 0 0, .int .i64 0, .int .i64 0, .int .i64 0, .int .i64 0, .slice none 0 0, .int .i64 0] 27 ∧ RunsIn W' p' l ∧ v.length ≤ vc' ∧ IntsIn W' q' v ∧ ∀ a, q' = some a → w.heap.size + 1 < a.block) ⟨belowAny, p9, cap9, blkAny, blkAny, (by (repeat (first | with_reducible (refine RunsIn.alloc ?_ _) | with_reducible (refine RunsIn.set' ?_ (fun a h => by have := hfp.out a h; omega)))); exact hRp.out.below hB), hc9, (by (repeat (refine IntsIn.set' ?_ (fun a h => by have := hf9.out a h; omega))); exact hR9.out), fun a h => by have := hf9.out a h; omega⟩ ?_
  clear hW b1 b2
  rintro W6 ⟨hW, q', vc', b1, b2, hRp', hvc', hRq, hfq⟩
  replace hRp' := Lib.hid hRp'
  replace hRq := Lib.hid hRq
  replace hfq := Lib.hid hfq
  have y_1 := b1.lt
  have y_2 := b2.lt
  have k1 := b1.cell
  have f1 := b1.frozen
  have k2 := b2.cell
  have f2 := b2.frozen
  go_wp2
  refine bodyPost_ret (v := .agg #[.int .i64 K, .slice p' l.length cap', .int .i64 A, .int .i64 R, .int .i64 n, .int .i64 d, .slice q' v.length vc', .int .i64 E]) (by simp [results, Try.results5, go_sem, k1, f1, k2, f2, y_1, y_2]) rfl ⟨p', cap', q', vc', rfl, belowAny, ?_, ?_, hvc'⟩
  · repeat (refine RunsIn.set' ?_ (fun a h => by have := hfp.out a h; omega))
    exact hRp'.out
  · repeat (refine IntsIn.set' ?_ (fun a h => by have := hfq.out a h; omega))
    exact hRq.out

set_option maxRecDepth 100000 in
set_option maxHeartbeats 2000000 in
theorem own_short_long (K A R n d E : Int) (pa qa : Addr) (cap vc : Nat) (l : List RunT) (v : List Int) (w : World) (hl0 : l.length ≤ 300) (hl1 : l.length ≤ cap) (hv0 : 300 < v.length) (hv1 : v.length ≤ vc) (hv2 : v.length ≤ 9223372036854775807) (hl : RunsIn w (some pa) l) (hv : IntsIn w (some qa) v) (v9 : List Int) (k9 : v9 = v.take 300) :
    Calls Try.prog 5 #[.agg #[.int .i64 K, .slice (some pa) l.length cap, .int .i64 A, .int .i64 R, .int .i64 n, .int .i64 d, .slice (some qa) v.length vc, .int .i64 E]] w fun e w' => ∃ p' cap' q' vc', e = .returned (.agg #[.int .i64 K, .slice p' l.length cap', .int .i64 A, .int .i64 R, .int .i64 n, .int .i64 d, .slice q' v9.length vc', .int .i64 E]) ∧ Below w.heap.size w w' ∧ RunsIn w' p' l ∧ IntsIn w' q' v9 ∧ v9.length ≤ vc' := by
  have hv8 : IntsIn w (some qa) v9 := k9 ▸ hv.take 300
  have hv9 := Lib.hid (show v9.length = 300 by rw [k9, List.length_take]; omega)
  clear k9
  go_enter Try.func5, Try.ntmps5
  go_upto_region 1 with (fail)
  refine wp_facts (fun W' => Below w.heap.size w W' ∧ Blk W' w.heap.size #[.int .i64 K, .slice (some pa) l.length cap, .int .i64 A, .int .i64 R, .int .i64 n, .int .i64 d, .slice (some qa) v.length vc, .int .i64 E] 27 ∧ Blk W' (w.heap.size + 1) #[.int .i64 0, .slice none 0 0, .int .i64 0, .int .i64 0, .int .i64 0, .int .i64 0, .slice none 0 0, .int .i64 0] 27) ⟨by exact belowAny, by exact blkAny, by exact blkAny⟩ ?_
  rintro W1 ⟨hW, b1, b2⟩
  have z2 := hW.size
  have z3 := b1.lt
  have z4 := b2.lt
  have k1 := b1.cell
  have f1 := b1.frozen
  have k2 := b2.cell
  have f2 := b2.frozen
  have hmk : ∀ W, (Instr.buildSlice 22 0 #[]).run Try.prog W = .ok (.slice (some ⟨W.heap.size, 0, none⟩) 0 0) (W.alloc (.cells #[] 44)) := fun W => by kernel_rfl
  obtain ⟨i, hi, hz0, hz1, hz2⟩ := info_parts Try.infoRun
  have hown0 := World.ownsRow_made (e := 44) (size := 3) (base := W1.heap.size) W1 #[] 0 (Nat.le_refl _) (by simp [maxLen]) (by simp)
  go_upto_region 2 with (at_builtin; refine wpList_append_own _ rfl (.tmp 3) (.tmp 10) 22 rfl W1.heap.size 44 i _ 3 24 (by kernel_rfl) hi hz0 hz1 hz2 rfl (by omega) _ 0 [] rfl hown0 pa l.length cap (flatCells l) rfl (by rw [length_flatCells]) ((hl.below (hW.trans ((Below.refl _ _).alloc (Nat.le_refl _) _ |>.mono hW.size)))).flat (fun v hv => by obtain ⟨x, rfl⟩ := flat_mem _ v hv; rfl) (by simp [maxLen] <;> omega) (by omega) (by simp) ?_)
  intro v' w' hown hgr _
  have hB := clone_below hgr
  obtain ⟨p9, cap9, rfl, hR9, hc9, hf9⟩ := own_runs (l := l) hown (by simp)
  clear hown hgr hown0 hmk
  have hz9 := hB.size
  have b1 : Blk w' w.heap.size #[.int .i64 K, .slice (some pa) l.length cap, .int .i64 A, .int .i64 R, .int .i64 n, .int .i64 d, .slice (some qa) v.length vc, .int .i64 E] 27 := blkAny
  have b2 : Blk w' (w.heap.size + 1) #[.int .i64 0, .slice none 0 0, .int .i64 0, .int .i64 0, .int .i64 0, .int .i64 0, .slice none 0 0, .int .i64 0] 27 := blkAny
  have hW : Below w.heap.size w w' := belowAny
  have k1 := b1.cell
  have f1 := b1.frozen
  have k2 := b2.cell
  have f2 := b2.frozen
  replace hR9 := Lib.hid hR9
  replace hf9 := Lib.hid hf9
  go_upto_region 2 with (fail)
  try clear k1 f1 k2 f2
  refine wp_facts (fun W' => Below w.heap.size w W' ∧ ∃ p' cap', Blk W' w.heap.size #[.int .i64 K, .slice p' l.length cap', .int .i64 A, .int .i64 R, .int .i64 n, .int .i64 d, .slice (some qa) v.length vc, .int .i64 E] 27 ∧ Blk W' (w.heap.size + 1) #[.int .i64 0, .slice none 0 0, .int .i64 0, .int .i64 0, .int .i64 0, .int .i64 0, .slice none 0 0, .int .i64 0] 27 ∧ RunsIn W' p' l ∧ ∀ a, p' = some a → w.heap.size + 1 < a.block) ⟨belowAny, p9, cap9, blkAny, blkAny, (by (repeat (refine RunsIn.set' ?_ (fun a h => by have := hf9.out a h; omega))); exact hR9.out), fun a h => by have := hf9.out a h; omega⟩ ?_
  clear hW b1 b2
  rintro W5 ⟨hW, p', cap', b1, b2, hRp, hfp⟩
  replace hRp := Lib.hid hRp
  replace hfp := Lib.hid hfp
  have z50 := hW.size
  have z51 := b1.lt
  have z52 := b2.lt
  have k1 := b1.cell
  have f1 := b1.frozen
  have k2 := b2.cell
  have f2 := b2.frozen
  try clear i hi hz0 hz1 hz2
  have hmk : ∀ W, (Instr.buildSlice 25 0 #[]).run Try.prog W = .ok (.slice (some ⟨W.heap.size, 0, none⟩) 0 0) (W.alloc (.cells #[] 2)) := fun W => by kernel_rfl
  obtain ⟨i, hi, hz0, hz1, hz2⟩ := info_parts Try.infoInt
  have hown0 := World.ownsRow_made (e := 2) (size := 1) (base := W5.heap.size) W5 #[] 0 (Nat.le_refl _) (by simp [maxLen]) (by simp)
  go_upto_region 3 with (at_builtin; refine wpList_append_own _ rfl (.tmp 13) (.tmp 20) 25 rfl W5.heap.size 2 i _ 1 8 (by kernel_rfl) hi hz0 hz1 hz2 rfl (by omega) _ 0 [] rfl hown0 qa 300 vc (v9.map (Value.int .i64)) rfl (by rw [List.length_map, hv9.out]) (fun j u hu => ints_flat ((hv8.below (hW.trans ((Below.refl _ _).alloc (Nat.le_refl _) _ |>.mono hW.size)))) j u hu) (fun v hv => by simp only [List.mem_map] at hv; obtain ⟨x, _, rfl⟩ := hv; rfl) (by simp [maxLen] <;> omega) (by omega) (by simp) ?_)
  intro v' w' hown hgr _
  have hB := clone_below hgr
  obtain ⟨p9, cap9, rfl, hR9, hc9, hf9⟩ := own_ints (l := v9) hown (by rw [hv9.out])
  clear hown hgr hown0 hmk
  have hz9 := hB.size
  have b1 : Blk w' w.heap.size #[.int .i64 K, .slice p' l.length cap', .int .i64 A, .int .i64 R, .int .i64 n, .int .i64 d, .slice (some qa) v.length vc, .int .i64 E] 27 := blkAny
  have b2 : Blk w' (w.heap.size + 1) #[.int .i64 0, .slice none 0 0, .int .i64 0, .int .i64 0, .int .i64 0, .int .i64 0, .slice none 0 0, .int .i64 0] 27 := blkAny
  have hW : Below w.heap.size w w' := belowAny
  have k1 := b1.cell
  have f1 := b1.frozen
  have k2 := b2.cell
  have f2 := b2.frozen
  replace hR9 := Lib.hid hR9
  replace hf9 := Lib.hid hf9
  go_upto_region 3 with (fail)
  try clear k1 f1 k2 f2
  refine wp_facts (fun W' => Below w.heap.size w W' ∧ ∃ q' vc', Blk W' w.heap.size #[.int .i64 K, .slice p' l.length cap', .int .i64 A, .int .i64 R, .int .i64 n, .int .i64 d, .slice q' v9.length vc', .int .i64 E] 27 ∧ Blk W' (w.heap.size + 1) #[.int .i64 0, .slice none 0 0, .int .i64 0, .int .i64 0, .int .i64 0, .int .i64 0, .slice none 0 0, .int .i64 0] 27 ∧ RunsIn W' p' l ∧ v9.length ≤ vc' ∧ IntsIn W' q' v9 ∧ ∀ a, q' = some a → w.heap.size + 1 < a.block) ⟨belowAny, p9, cap9, blkAny, blkAny, (by (repeat (first | with_reducible (refine RunsIn.alloc ?_ _) | with_reducible (refine RunsIn.set' ?_ (fun a h => by have := hfp.out a h; omega)))); exact hRp.out.below hB), hc9, (by (repeat (refine IntsIn.set' ?_ (fun a h => by have := hf9.out a h; omega))); exact hR9.out), fun a h => by have := hf9.out a h; omega⟩ ?_
  clear hW b1 b2
  rintro W6 ⟨hW, q', vc', b1, b2, hRp', hvc', hRq, hfq⟩
  replace hRp' := Lib.hid hRp'
  replace hRq := Lib.hid hRq
  replace hfq := Lib.hid hfq
  have y_1 := b1.lt
  have y_2 := b2.lt
  have k1 := b1.cell
  have f1 := b1.frozen
  have k2 := b2.cell
  have f2 := b2.frozen
  go_wp2
  refine bodyPost_ret (v := .agg #[.int .i64 K, .slice p' l.length cap', .int .i64 A, .int .i64 R, .int .i64 n, .int .i64 d, .slice q' v9.length vc', .int .i64 E]) (by simp [results, Try.results5, go_sem, k1, f1, k2, f2, y_1, y_2]) rfl ⟨p', cap', q', vc', rfl, belowAny, ?_, ?_, hvc'⟩
  · repeat (refine RunsIn.set' ?_ (fun a h => by have := hfp.out a h; omega))
    exact hRp'.out
  · repeat (refine IntsIn.set' ?_ (fun a h => by have := hfq.out a h; omega))
    exact hRq.out

set_option maxRecDepth 100000 in
set_option maxHeartbeats 2000000 in
theorem own_long_nil (K A R n d E : Int) (pa qa : Addr) (cap vc : Nat) (l : List RunT) (v : List Int) (w : World) (hl0 : 300 < l.length) (hl1 : l.length ≤ cap) (hl2 : l.length ≤ 9223372036854775807) (hl : RunsIn w (some pa) l) (l9 : List RunT) (h9 : l9 = l.take 300) :
    Calls Try.prog 5 #[.agg #[.int .i64 K, .slice (some pa) l.length cap, .int .i64 A, .int .i64 R, .int .i64 n, .int .i64 d, .slice none 0 0, .int .i64 E]] w fun e w' => ∃ p' cap' q' vc', e = .returned (.agg #[.int .i64 K, .slice p' l9.length cap', .int .i64 A, .int .i64 R, .int .i64 n, .int .i64 d, .slice q' ([] : List Int).length vc', .int .i64 E]) ∧ Below w.heap.size w w' ∧ RunsIn w' p' l9 ∧ IntsIn w' q' ([] : List Int) ∧ ([] : List Int).length ≤ vc' := by
  have hl8 : RunsIn w (some pa) l9 := h9 ▸ hl.take 300
  have hl9 := Lib.hid (show l9.length = 300 by rw [h9, List.length_take]; omega)
  clear h9
  go_enter Try.func5, Try.ntmps5
  go_upto_region 1 with (fail)
  refine wp_facts (fun W' => Below w.heap.size w W' ∧ Blk W' w.heap.size #[.int .i64 K, .slice (some pa) l.length cap, .int .i64 A, .int .i64 R, .int .i64 n, .int .i64 d, .slice none 0 0, .int .i64 E] 27 ∧ Blk W' (w.heap.size + 1) #[.int .i64 0, .slice none 0 0, .int .i64 0, .int .i64 0, .int .i64 0, .int .i64 0, .slice none 0 0, .int .i64 0] 27) ⟨by exact belowAny, by exact blkAny, by exact blkAny⟩ ?_
  rintro W1 ⟨hW, b1, b2⟩
  have z2 := hW.size
  have z3 := b1.lt
  have z4 := b2.lt
  have k1 := b1.cell
  have f1 := b1.frozen
  have k2 := b2.cell
  have f2 := b2.frozen
  have hmk : ∀ W, (Instr.buildSlice 22 0 #[]).run Try.prog W = .ok (.slice (some ⟨W.heap.size, 0, none⟩) 0 0) (W.alloc (.cells #[] 44)) := fun W => by kernel_rfl
  obtain ⟨i, hi, hz0, hz1, hz2⟩ := info_parts Try.infoRun
  have hown0 := World.ownsRow_made (e := 44) (size := 3) (base := W1.heap.size) W1 #[] 0 (Nat.le_refl _) (by simp [maxLen]) (by simp)
  go_upto_region 2 with (at_builtin; refine wpList_append_own _ rfl (.tmp 3) (.tmp 10) 22 rfl W1.heap.size 44 i _ 3 24 (by kernel_rfl) hi hz0 hz1 hz2 rfl (by omega) _ 0 [] rfl hown0 pa 300 cap (flatCells l9) rfl (by rw [length_flatCells, hl9.out]) ((hl8.below (hW.trans ((Below.refl _ _).alloc (Nat.le_refl _) _ |>.mono hW.size)))).flat (fun v hv => by obtain ⟨x, rfl⟩ := flat_mem _ v hv; rfl) (by simp [maxLen] <;> omega) (by omega) (by simp) ?_)
  intro v' w' hown hgr _
  have hB := clone_below hgr
  obtain ⟨p9, cap9, rfl, hR9, hc9, hf9⟩ := own_runs (l := l9) hown (by rw [hl9.out])
  clear hown hgr hown0 hmk
  have hz9 := hB.size
  have b1 : Blk w' w.heap.size #[.int .i64 K, .slice (some pa) l.length cap, .int .i64 A, .int .i64 R, .int .i64 n, .int .i64 d, .slice none 0 0, .int .i64 E] 27 := blkAny
  have b2 : Blk w' (w.heap.size + 1) #[.int .i64 0, .slice none 0 0, .int .i64 0, .int .i64 0, .int .i64 0, .int .i64 0, .slice none 0 0, .int .i64 0] 27 := blkAny
  have hW : Below w.heap.size w w' := belowAny
  have k1 := b1.cell
  have f1 := b1.frozen
  have k2 := b2.cell
  have f2 := b2.frozen
  replace hR9 := Lib.hid hR9
  replace hf9 := Lib.hid hf9
  go_upto_region 2 with (fail)
  try clear k1 f1 k2 f2
  refine wp_facts (fun W' => Below w.heap.size w W' ∧ ∃ p' cap', Blk W' w.heap.size #[.int .i64 K, .slice p' l9.length cap', .int .i64 A, .int .i64 R, .int .i64 n, .int .i64 d, .slice none 0 0, .int .i64 E] 27 ∧ Blk W' (w.heap.size + 1) #[.int .i64 0, .slice none 0 0, .int .i64 0, .int .i64 0, .int .i64 0, .int .i64 0, .slice none 0 0, .int .i64 0] 27 ∧ RunsIn W' p' l9 ∧ ∀ a, p' = some a → w.heap.size + 1 < a.block) ⟨belowAny, p9, cap9, blkAny, blkAny, (by (repeat (refine RunsIn.set' ?_ (fun a h => by have := hf9.out a h; omega))); exact hR9.out), fun a h => by have := hf9.out a h; omega⟩ ?_
  clear hW b1 b2
  rintro W5 ⟨hW, p', cap', b1, b2, hRp, hfp⟩
  replace hRp := Lib.hid hRp
  replace hfp := Lib.hid hfp
  have z50 := hW.size
  have z51 := b1.lt
  have z52 := b2.lt
  have k1 := b1.cell
  have f1 := b1.frozen
  have k2 := b2.cell
  have f2 := b2.frozen
  try clear i hi hz0 hz1 hz2
  have hmk : ∀ W, (Instr.buildSlice 25 0 #[]).run Try.prog W = .ok (.slice (some ⟨W.heap.size, 0, none⟩) 0 0) (W.alloc (.cells #[] 2)) := fun W => by kernel_rfl
  obtain ⟨i, hi, hz0, hz1, hz2⟩ := info_parts Try.infoInt
  have hown0 := World.ownsRow_made (e := 2) (size := 1) (base := W5.heap.size) W5 #[] 0 (Nat.le_refl _) (by simp [maxLen]) (by simp)
  go_upto_region 3 with (at_builtin; refine wpList_append_own_none rfl (.tmp 13) (.tmp 20) 25 rfl W5.heap.size 2 i 1 (by kernel_rfl) hi _ 0 [] rfl hown0 rfl ?_)
  try clear k1 f1 k2 f2
  refine wp_facts (fun W' => Below w.heap.size w W' ∧ ∃ q' vc', Blk W' w.heap.size #[.int .i64 K, .slice p' l9.length cap', .int .i64 A, .int .i64 R, .int .i64 n, .int .i64 d, .slice q' ([] : List Int).length vc', .int .i64 E] 27 ∧ Blk W' (w.heap.size + 1) #[.int .i64 0, .slice none 0 0, .int .i64 0, .int .i64 0, .int .i64 0, .int .i64 0, .slice none 0 0, .int .i64 0] 27 ∧ RunsIn W' p' l9 ∧ ([] : List Int).length ≤ vc' ∧ IntsIn W' q' ([] : List Int) ∧ ∀ a, q' = some a → w.heap.size + 1 < a.block) ⟨belowAny, (some ⟨W5.heap.size, 0, none⟩), 0, blkAny, blkAny, (by (repeat (first | with_reducible (refine RunsIn.alloc ?_ _) | with_reducible (refine RunsIn.set' ?_ (fun a h => by have := hfp.out a h; omega)))); exact hRp.out), Nat.le_refl _, ⟨fun i r hr => by simp at hr⟩, fun a h => by cases h; simp only []; omega⟩ ?_
  clear hW b1 b2
  rintro W6 ⟨hW, q', vc', b1, b2, hRp', hvc', hRq, hfq⟩
  replace hRp' := Lib.hid hRp'
  replace hRq := Lib.hid hRq
  replace hfq := Lib.hid hfq
  have y_1 := b1.lt
  have y_2 := b2.lt
  have k1 := b1.cell
  have f1 := b1.frozen
  have k2 := b2.cell
  have f2 := b2.frozen
  go_wp2
  refine bodyPost_ret (v := .agg #[.int .i64 K, .slice p' l9.length cap', .int .i64 A, .int .i64 R, .int .i64 n, .int .i64 d, .slice q' ([] : List Int).length vc', .int .i64 E]) (by simp [results, Try.results5, go_sem, k1, f1, k2, f2, y_1, y_2]) rfl ⟨p', cap', q', vc', rfl, belowAny, ?_, ?_, hvc'⟩
  · repeat (refine RunsIn.set' ?_ (fun a h => by have := hfp.out a h; omega))
    exact hRp'.out
  · repeat (refine IntsIn.set' ?_ (fun a h => by have := hfq.out a h; omega))
    exact hRq.out

set_option maxRecDepth 100000 in
set_option maxHeartbeats 2000000 in
theorem own_long_short (K A R n d E : Int) (pa qa : Addr) (cap vc : Nat) (l : List RunT) (v : List Int) (w : World) (hl0 : 300 < l.length) (hl1 : l.length ≤ cap) (hl2 : l.length ≤ 9223372036854775807) (hv0 : v.length ≤ 300) (hv1 : v.length ≤ vc) (hl : RunsIn w (some pa) l) (hv : IntsIn w (some qa) v) (l9 : List RunT) (h9 : l9 = l.take 300) :
    Calls Try.prog 5 #[.agg #[.int .i64 K, .slice (some pa) l.length cap, .int .i64 A, .int .i64 R, .int .i64 n, .int .i64 d, .slice (some qa) v.length vc, .int .i64 E]] w fun e w' => ∃ p' cap' q' vc', e = .returned (.agg #[.int .i64 K, .slice p' l9.length cap', .int .i64 A, .int .i64 R, .int .i64 n, .int .i64 d, .slice q' v.length vc', .int .i64 E]) ∧ Below w.heap.size w w' ∧ RunsIn w' p' l9 ∧ IntsIn w' q' v ∧ v.length ≤ vc' := by
  have hl8 : RunsIn w (some pa) l9 := h9 ▸ hl.take 300
  have hl9 := Lib.hid (show l9.length = 300 by rw [h9, List.length_take]; omega)
  clear h9
  go_enter Try.func5, Try.ntmps5
  go_upto_region 1 with (fail)
  refine wp_facts (fun W' => Below w.heap.size w W' ∧ Blk W' w.heap.size #[.int .i64 K, .slice (some pa) l.length cap, .int .i64 A, .int .i64 R, .int .i64 n, .int .i64 d, .slice (some qa) v.length vc, .int .i64 E] 27 ∧ Blk W' (w.heap.size + 1) #[.int .i64 0, .slice none 0 0, .int .i64 0, .int .i64 0, .int .i64 0, .int .i64 0, .slice none 0 0, .int .i64 0] 27) ⟨by exact belowAny, by exact blkAny, by exact blkAny⟩ ?_
  rintro W1 ⟨hW, b1, b2⟩
  have z2 := hW.size
  have z3 := b1.lt
  have z4 := b2.lt
  have k1 := b1.cell
  have f1 := b1.frozen
  have k2 := b2.cell
  have f2 := b2.frozen
  have hmk : ∀ W, (Instr.buildSlice 22 0 #[]).run Try.prog W = .ok (.slice (some ⟨W.heap.size, 0, none⟩) 0 0) (W.alloc (.cells #[] 44)) := fun W => by kernel_rfl
  obtain ⟨i, hi, hz0, hz1, hz2⟩ := info_parts Try.infoRun
  have hown0 := World.ownsRow_made (e := 44) (size := 3) (base := W1.heap.size) W1 #[] 0 (Nat.le_refl _) (by simp [maxLen]) (by simp)
  go_upto_region 2 with (at_builtin; refine wpList_append_own _ rfl (.tmp 3) (.tmp 10) 22 rfl W1.heap.size 44 i _ 3 24 (by kernel_rfl) hi hz0 hz1 hz2 rfl (by omega) _ 0 [] rfl hown0 pa 300 cap (flatCells l9) rfl (by rw [length_flatCells, hl9.out]) ((hl8.below (hW.trans ((Below.refl _ _).alloc (Nat.le_refl _) _ |>.mono hW.size)))).flat (fun v hv => by obtain ⟨x, rfl⟩ := flat_mem _ v hv; rfl) (by simp [maxLen] <;> omega) (by omega) (by simp) ?_)
  intro v' w' hown hgr _
  have hB := clone_below hgr
  obtain ⟨p9, cap9, rfl, hR9, hc9, hf9⟩ := own_runs (l := l9) hown (by rw [hl9.out])
  clear hown hgr hown0 hmk
  have hz9 := hB.size
  have b1 : Blk w' w.heap.size #[.int .i64 K, .slice (some pa) l.length cap, .int .i64 A, .int .i64 R, .int .i64 n, .int .i64 d, .slice (some qa) v.length vc, .int .i64 E] 27 := blkAny
  have b2 : Blk w' (w.heap.size + 1) #[.int .i64 0, .slice none 0 0, .int .i64 0, .int .i64 0, .int .i64 0, .int .i64 0, .slice none 0 0, .int .i64 0] 27 := blkAny
  have hW : Below w.heap.size w w' := belowAny
  have k1 := b1.cell
  have f1 := b1.frozen
  have k2 := b2.cell
  have f2 := b2.frozen
  replace hR9 := Lib.hid hR9
  replace hf9 := Lib.hid hf9
  go_upto_region 2 with (fail)
  try clear k1 f1 k2 f2
  refine wp_facts (fun W' => Below w.heap.size w W' ∧ ∃ p' cap', Blk W' w.heap.size #[.int .i64 K, .slice p' l9.length cap', .int .i64 A, .int .i64 R, .int .i64 n, .int .i64 d, .slice (some qa) v.length vc, .int .i64 E] 27 ∧ Blk W' (w.heap.size + 1) #[.int .i64 0, .slice none 0 0, .int .i64 0, .int .i64 0, .int .i64 0, .int .i64 0, .slice none 0 0, .int .i64 0] 27 ∧ RunsIn W' p' l9 ∧ ∀ a, p' = some a → w.heap.size + 1 < a.block) ⟨belowAny, p9, cap9, blkAny, blkAny, (by (repeat (refine RunsIn.set' ?_ (fun a h => by have := hf9.out a h; omega))); exact hR9.out), fun a h => by have := hf9.out a h; omega⟩ ?_
  clear hW b1 b2
  rintro W5 ⟨hW, p', cap', b1, b2, hRp, hfp⟩
  replace hRp := Lib.hid hRp
  replace hfp := Lib.hid hfp
  have z50 := hW.size
  have z51 := b1.lt
  have z52 := b2.lt
  have k1 := b1.cell
  have f1 := b1.frozen
  have k2 := b2.cell
  have f2 := b2.frozen
  try clear i hi hz0 hz1 hz2
  have hmk : ∀ W, (Instr.buildSlice 25 0 #[]).run Try.prog W = .ok (.slice (some ⟨W.heap.size, 0, none⟩) 0 0) (W.alloc (.cells #[] 2)) := fun W => by kernel_rfl
  obtain ⟨i, hi, hz0, hz1, hz2⟩ := info_parts Try.infoInt
  have hown0 := World.ownsRow_made (e := 2) (size := 1) (base := W5.heap.size) W5 #[] 0 (Nat.le_refl _) (by simp [maxLen]) (by simp)
  go_upto_region 3 with (at_builtin; refine wpList_append_own _ rfl (.tmp 13) (.tmp 20) 25 rfl W5.heap.size 2 i _ 1 8 (by kernel_rfl) hi hz0 hz1 hz2 rfl (by omega) _ 0 [] rfl hown0 qa v.length vc (v.map (Value.int .i64)) rfl (by rw [List.length_map]; omega) (fun j u hu => ints_flat ((hv.below (hW.trans ((Below.refl _ _).alloc (Nat.le_refl _) _ |>.mono hW.size)))) j u hu) (fun v hv => by simp only [List.mem_map] at hv; obtain ⟨x, _, rfl⟩ := hv; rfl) (by simp [maxLen] <;> omega) (by omega) (by simp) ?_)
  intro v' w' hown hgr _
  have hB := clone_below hgr
  obtain ⟨p9, cap9, rfl, hR9, hc9, hf9⟩ := own_ints (l := v) hown (by simp)
  clear hown hgr hown0 hmk
  have hz9 := hB.size
  have b1 : Blk w' w.heap.size #[.int .i64 K, .slice p' l9.length cap', .int .i64 A, .int .i64 R, .int .i64 n, .int .i64 d, .slice (some qa) v.length vc, .int .i64 E] 27 := blkAny
  have b2 : Blk w' (w.heap.size + 1) #[.int .i64 0, .slice none 0 0, .int .i64 0, .int .i64 0, .int .i64 0, .int .i64 0, .slice none 0 0, .int .i64 0] 27 := blkAny
  have hW : Below w.heap.size w w' := belowAny
  have k1 := b1.cell
  have f1 := b1.frozen
  have k2 := b2.cell
  have f2 := b2.frozen
  replace hR9 := Lib.hid hR9
  replace hf9 := Lib.hid hf9
  go_upto_region 3 with (fail)
  try clear k1 f1 k2 f2
  refine wp_facts (fun W' => Below w.heap.size w W' ∧ ∃ q' vc', Blk W' w.heap.size #[.int .i64 K, .slice p' l9.length cap', .int .i64 A, .int .i64 R, .int .i64 n, .int .i64 d, .slice q' v.length vc', .int .i64 E] 27 ∧ Blk W' (w.heap.size + 1) #[.int .i64 0, .slice none 0 0, .int .i64 0, .int .i64 0, .int .i64 0, .int .i64 0, .slice none 0 0, .int .i64 0] 27 ∧ RunsIn W' p' l9 ∧ v.length ≤ vc' ∧ IntsIn W' q' v ∧ ∀ a, q' = some a → w.heap.size + 1 < a.block) ⟨belowAny, p9, cap9, blkAny, blkAny, (by (repeat (first | with_reducible (refine RunsIn.alloc ?_ _) | with_reducible (refine RunsIn.set' ?_ (fun a h => by have := hfp.out a h; omega)))); exact hRp.out.below hB), hc9, (by (repeat (refine IntsIn.set' ?_ (fun a h => by have := hf9.out a h; omega))); exact hR9.out), fun a h => by have := hf9.out a h; omega⟩ ?_
  clear hW b1 b2
  rintro W6 ⟨hW, q', vc', b1, b2, hRp', hvc', hRq, hfq⟩
  replace hRp' := Lib.hid hRp'
  replace hRq := Lib.hid hRq
  replace hfq := Lib.hid hfq
  have y_1 := b1.lt
  have y_2 := b2.lt
  have k1 := b1.cell
  have f1 := b1.frozen
  have k2 := b2.cell
  have f2 := b2.frozen
  go_wp2
  refine bodyPost_ret (v := .agg #[.int .i64 K, .slice p' l9.length cap', .int .i64 A, .int .i64 R, .int .i64 n, .int .i64 d, .slice q' v.length vc', .int .i64 E]) (by simp [results, Try.results5, go_sem, k1, f1, k2, f2, y_1, y_2]) rfl ⟨p', cap', q', vc', rfl, belowAny, ?_, ?_, hvc'⟩
  · repeat (refine RunsIn.set' ?_ (fun a h => by have := hfp.out a h; omega))
    exact hRp'.out
  · repeat (refine IntsIn.set' ?_ (fun a h => by have := hfq.out a h; omega))
    exact hRq.out

set_option maxRecDepth 100000 in
set_option maxHeartbeats 2000000 in
theorem own_long_long (K A R n d E : Int) (pa qa : Addr) (cap vc : Nat) (l : List RunT) (v : List Int) (w : World) (hl0 : 300 < l.length) (hl1 : l.length ≤ cap) (hl2 : l.length ≤ 9223372036854775807) (hv0 : 300 < v.length) (hv1 : v.length ≤ vc) (hv2 : v.length ≤ 9223372036854775807) (hl : RunsIn w (some pa) l) (hv : IntsIn w (some qa) v) (l9 : List RunT) (h9 : l9 = l.take 300) (v9 : List Int) (k9 : v9 = v.take 300) :
    Calls Try.prog 5 #[.agg #[.int .i64 K, .slice (some pa) l.length cap, .int .i64 A, .int .i64 R, .int .i64 n, .int .i64 d, .slice (some qa) v.length vc, .int .i64 E]] w fun e w' => ∃ p' cap' q' vc', e = .returned (.agg #[.int .i64 K, .slice p' l9.length cap', .int .i64 A, .int .i64 R, .int .i64 n, .int .i64 d, .slice q' v9.length vc', .int .i64 E]) ∧ Below w.heap.size w w' ∧ RunsIn w' p' l9 ∧ IntsIn w' q' v9 ∧ v9.length ≤ vc' := by
  have hl8 : RunsIn w (some pa) l9 := h9 ▸ hl.take 300
  have hl9 := Lib.hid (show l9.length = 300 by rw [h9, List.length_take]; omega)
  clear h9
  have hv8 : IntsIn w (some qa) v9 := k9 ▸ hv.take 300
  have hv9 := Lib.hid (show v9.length = 300 by rw [k9, List.length_take]; omega)
  clear k9
  go_enter Try.func5, Try.ntmps5
  go_upto_region 1 with (fail)
  refine wp_facts (fun W' => Below w.heap.size w W' ∧ Blk W' w.heap.size #[.int .i64 K, .slice (some pa) l.length cap, .int .i64 A, .int .i64 R, .int .i64 n, .int .i64 d, .slice (some qa) v.length vc, .int .i64 E] 27 ∧ Blk W' (w.heap.size + 1) #[.int .i64 0, .slice none 0 0, .int .i64 0, .int .i64 0, .int .i64 0, .int .i64 0, .slice none 0 0, .int .i64 0] 27) ⟨by exact belowAny, by exact blkAny, by exact blkAny⟩ ?_
  rintro W1 ⟨hW, b1, b2⟩
  have z2 := hW.size
  have z3 := b1.lt
  have z4 := b2.lt
  have k1 := b1.cell
  have f1 := b1.frozen
  have k2 := b2.cell
  have f2 := b2.frozen
  have hmk : ∀ W, (Instr.buildSlice 22 0 #[]).run Try.prog W = .ok (.slice (some ⟨W.heap.size, 0, none⟩) 0 0) (W.alloc (.cells #[] 44)) := fun W => by kernel_rfl
  obtain ⟨i, hi, hz0, hz1, hz2⟩ := info_parts Try.infoRun
  have hown0 := World.ownsRow_made (e := 44) (size := 3) (base := W1.heap.size) W1 #[] 0 (Nat.le_refl _) (by simp [maxLen]) (by simp)
  go_upto_region 2 with (at_builtin; refine wpList_append_own _ rfl (.tmp 3) (.tmp 10) 22 rfl W1.heap.size 44 i _ 3 24 (by kernel_rfl) hi hz0 hz1 hz2 rfl (by omega) _ 0 [] rfl hown0 pa 300 cap (flatCells l9) rfl (by rw [length_flatCells, hl9.out]) ((hl8.below (hW.trans ((Below.refl _ _).alloc (Nat.le_refl _) _ |>.mono hW.size)))).flat (fun v hv => by obtain ⟨x, rfl⟩ := flat_mem _ v hv; rfl) (by simp [maxLen] <;> omega) (by omega) (by simp) ?_)
  intro v' w' hown hgr _
  have hB := clone_below hgr
  obtain ⟨p9, cap9, rfl, hR9, hc9, hf9⟩ := own_runs (l := l9) hown (by rw [hl9.out])
  clear hown hgr hown0 hmk
  have hz9 := hB.size
  have b1 : Blk w' w.heap.size #[.int .i64 K, .slice (some pa) l.length cap, .int .i64 A, .int .i64 R, .int .i64 n, .int .i64 d, .slice (some qa) v.length vc, .int .i64 E] 27 := blkAny
  have b2 : Blk w' (w.heap.size + 1) #[.int .i64 0, .slice none 0 0, .int .i64 0, .int .i64 0, .int .i64 0, .int .i64 0, .slice none 0 0, .int .i64 0] 27 := blkAny
  have hW : Below w.heap.size w w' := belowAny
  have k1 := b1.cell
  have f1 := b1.frozen
  have k2 := b2.cell
  have f2 := b2.frozen
  replace hR9 := Lib.hid hR9
  replace hf9 := Lib.hid hf9
  go_upto_region 2 with (fail)
  try clear k1 f1 k2 f2
  refine wp_facts (fun W' => Below w.heap.size w W' ∧ ∃ p' cap', Blk W' w.heap.size #[.int .i64 K, .slice p' l9.length cap', .int .i64 A, .int .i64 R, .int .i64 n, .int .i64 d, .slice (some qa) v.length vc, .int .i64 E] 27 ∧ Blk W' (w.heap.size + 1) #[.int .i64 0, .slice none 0 0, .int .i64 0, .int .i64 0, .int .i64 0, .int .i64 0, .slice none 0 0, .int .i64 0] 27 ∧ RunsIn W' p' l9 ∧ ∀ a, p' = some a → w.heap.size + 1 < a.block) ⟨belowAny, p9, cap9, blkAny, blkAny, (by (repeat (refine RunsIn.set' ?_ (fun a h => by have := hf9.out a h; omega))); exact hR9.out), fun a h => by have := hf9.out a h; omega⟩ ?_
  clear hW b1 b2
  rintro W5 ⟨hW, p', cap', b1, b2, hRp, hfp⟩
  replace hRp := Lib.hid hRp
  replace hfp := Lib.hid hfp
  have z50 := hW.size
  have z51 := b1.lt
  have z52 := b2.lt
  have k1 := b1.cell
  have f1 := b1.frozen
  have k2 := b2.cell
  have f2 := b2.frozen
  try clear i hi hz0 hz1 hz2
  have hmk : ∀ W, (Instr.buildSlice 25 0 #[]).run Try.prog W = .ok (.slice (some ⟨W.heap.size, 0, none⟩) 0 0) (W.alloc (.cells #[] 2)) := fun W => by kernel_rfl
  obtain ⟨i, hi, hz0, hz1, hz2⟩ := info_parts Try.infoInt
  have hown0 := World.ownsRow_made (e := 2) (size := 1) (base := W5.heap.size) W5 #[] 0 (Nat.le_refl _) (by simp [maxLen]) (by simp)
  go_upto_region 3 with (at_builtin; refine wpList_append_own _ rfl (.tmp 13) (.tmp 20) 25 rfl W5.heap.size 2 i _ 1 8 (by kernel_rfl) hi hz0 hz1 hz2 rfl (by omega) _ 0 [] rfl hown0 qa 300 vc (v9.map (Value.int .i64)) rfl (by rw [List.length_map, hv9.out]) (fun j u hu => ints_flat ((hv8.below (hW.trans ((Below.refl _ _).alloc (Nat.le_refl _) _ |>.mono hW.size)))) j u hu) (fun v hv => by simp only [List.mem_map] at hv; obtain ⟨x, _, rfl⟩ := hv; rfl) (by simp [maxLen] <;> omega) (by omega) (by simp) ?_)
  intro v' w' hown hgr _
  have hB := clone_below hgr
  obtain ⟨p9, cap9, rfl, hR9, hc9, hf9⟩ := own_ints (l := v9) hown (by rw [hv9.out])
  clear hown hgr hown0 hmk
  have hz9 := hB.size
  have b1 : Blk w' w.heap.size #[.int .i64 K, .slice p' l9.length cap', .int .i64 A, .int .i64 R, .int .i64 n, .int .i64 d, .slice (some qa) v.length vc, .int .i64 E] 27 := blkAny
  have b2 : Blk w' (w.heap.size + 1) #[.int .i64 0, .slice none 0 0, .int .i64 0, .int .i64 0, .int .i64 0, .int .i64 0, .slice none 0 0, .int .i64 0] 27 := blkAny
  have hW : Below w.heap.size w w' := belowAny
  have k1 := b1.cell
  have f1 := b1.frozen
  have k2 := b2.cell
  have f2 := b2.frozen
  replace hR9 := Lib.hid hR9
  replace hf9 := Lib.hid hf9
  go_upto_region 3 with (fail)
  try clear k1 f1 k2 f2
  refine wp_facts (fun W' => Below w.heap.size w W' ∧ ∃ q' vc', Blk W' w.heap.size #[.int .i64 K, .slice p' l9.length cap', .int .i64 A, .int .i64 R, .int .i64 n, .int .i64 d, .slice q' v9.length vc', .int .i64 E] 27 ∧ Blk W' (w.heap.size + 1) #[.int .i64 0, .slice none 0 0, .int .i64 0, .int .i64 0, .int .i64 0, .int .i64 0, .slice none 0 0, .int .i64 0] 27 ∧ RunsIn W' p' l9 ∧ v9.length ≤ vc' ∧ IntsIn W' q' v9 ∧ ∀ a, q' = some a → w.heap.size + 1 < a.block) ⟨belowAny, p9, cap9, blkAny, blkAny, (by (repeat (first | with_reducible (refine RunsIn.alloc ?_ _) | with_reducible (refine RunsIn.set' ?_ (fun a h => by have := hfp.out a h; omega)))); exact hRp.out.below hB), hc9, (by (repeat (refine IntsIn.set' ?_ (fun a h => by have := hf9.out a h; omega))); exact hR9.out), fun a h => by have := hf9.out a h; omega⟩ ?_
  clear hW b1 b2
  rintro W6 ⟨hW, q', vc', b1, b2, hRp', hvc', hRq, hfq⟩
  replace hRp' := Lib.hid hRp'
  replace hRq := Lib.hid hRq
  replace hfq := Lib.hid hfq
  have y_1 := b1.lt
  have y_2 := b2.lt
  have k1 := b1.cell
  have f1 := b1.frozen
  have k2 := b2.cell
  have f2 := b2.frozen
  go_wp2
  refine bodyPost_ret (v := .agg #[.int .i64 K, .slice p' l9.length cap', .int .i64 A, .int .i64 R, .int .i64 n, .int .i64 d, .slice q' v9.length vc', .int .i64 E]) (by simp [results, Try.results5, go_sem, k1, f1, k2, f2, y_1, y_2]) rfl ⟨p', cap', q', vc', rfl, belowAny, ?_, ?_, hvc'⟩
  · repeat (refine RunsIn.set' ?_ (fun a h => by have := hfp.out a h; omega))
    exact hRp'.out
  · repeat (refine IntsIn.set' ?_ (fun a h => by have := hfq.out a h; omega))
    exact hRq.out

end Go.Proofs.Ytgblmlefmohgnaa
namespace Go.Proofs.Ytgblmlefmohgnaa
open Go.RowKit
/-- A segment as it came in. -/
structure Came (w : World) (s : SegT) (p q : Option Addr) (cap vc : Nat) : Prop where
  runs : RunsIn w p s.runs
  raw : IntsIn w q s.raw
  nilR : p = none → s.runs = [] ∧ cap = 0
  nilV : q = none → s.raw = [] ∧ vc = 0
  capR : s.runs.length ≤ cap
  capV : s.raw.length ≤ vc
  maxR : s.runs.length ≤ 9223372036854775807
  maxV : s.raw.length ≤ 9223372036854775807
def ownS (s : SegT) : SegT := ⟨s.K, s.runs.take 300, s.A, s.R, s.n, s.d, s.raw.take 300, s.E⟩
def OwnOut (s : SegT) (w : World) (e : Ending) (w' : World) : Prop := ∃ p' cap' q' vc', e = .returned (.agg (segA (ownS s) p' q' cap' vc')) ∧ Below w.heap.size w w' ∧ SegIn w' (ownS s) p' q' ∧ (ownS s).raw.length ≤ vc'
theorem own_out {s : SegT} {w : World} {l : List RunT} {v : List Int} {X : Value} (h1 : s.runs.take 300 = l) (h2 : s.raw.take 300 = v)
    (h : Calls Try.prog 5 #[X] w fun e w' => ∃ p' cap' q' vc', e = .returned (.agg #[.int .i64 s.K, .slice p' l.length cap', .int .i64 s.A, .int .i64 s.R, .int .i64 s.n, .int .i64 s.d, .slice q' v.length vc', .int .i64 s.E]) ∧ Below w.heap.size w w' ∧ RunsIn w' p' l ∧ IntsIn w' q' v ∧ v.length ≤ vc') :
    Calls Try.prog 5 #[X] w (OwnOut s w) := by
  refine h.mono ?_
  rintro e w' ⟨p', cap', q', vc', rfl, hB, hR, hV, hc⟩
  refine ⟨p', cap', q', vc', ?_, hB, ⟨?_, ?_, ?_, ?_⟩, ?_⟩
  · unfold segA ownS; simp only [h1, h2]
  · show RunsIn w' p' (s.runs.take 300); rw [h1]; exact hR
  · show IntsIn w' q' (s.raw.take 300); rw [h2]; exact hV
  · show (s.runs.take 300).length ≤ 300; rw [List.length_take]; omega
  · show (s.raw.take 300).length ≤ 300; rw [List.length_take]; omega
  · show (s.raw.take 300).length ≤ vc'; rw [h2]; exact hc
theorem c_own (s : SegT) (p q : Option Addr) (cap vc : Nat) (w : World) (h : Came w s p q cap vc) :
    Calls Try.prog 5 #[.agg (segA s p q cap vc)] w (OwnOut s w) := by
  have A0 : Addr := ⟨0, 0, none⟩
  unfold segA
  cases p with
  | none =>
    obtain ⟨e1, e2⟩ := h.nilR rfl
    cases q with
    | none =>
      obtain ⟨e3, e4⟩ := h.nilV rfl
      rw [e1, e2, e3, e4]
      exact own_out (by rw [e1]; rfl) (by rw [e3]; rfl) (own_nil_nil s.K s.A s.R s.n s.d s.E A0 A0 0 0 [] [] w)
    | some b =>
      rw [e1, e2]
      rcases Nat.lt_or_ge 300 s.raw.length with hv1 | hv1
      · exact own_out (by rw [e1]; rfl) rfl (own_nil_long s.K s.A s.R s.n s.d s.E A0 b 0 vc [] s.raw w hv1 h.capV h.maxV h.raw _ rfl)
      · exact own_out (by rw [e1]; rfl) (List.take_of_length_le hv1) (own_nil_short s.K s.A s.R s.n s.d s.E A0 b 0 vc [] s.raw w hv1 h.capV h.raw)
  | some a =>
    cases q with
    | none =>
      obtain ⟨e3, e4⟩ := h.nilV rfl
      rw [e3, e4]
      rcases Nat.lt_or_ge 300 s.runs.length with hr1 | hr1
      · exact own_out rfl (by rw [e3]; rfl) (own_long_nil s.K s.A s.R s.n s.d s.E a A0 cap 0 s.runs [] w hr1 h.capR h.maxR h.runs _ rfl)
      · exact own_out (List.take_of_length_le hr1) (by rw [e3]; rfl) (own_short_nil s.K s.A s.R s.n s.d s.E a A0 cap 0 s.runs [] w hr1 h.capR h.runs)
    | some b =>
      rcases Nat.lt_or_ge 300 s.runs.length with hr1 | hr1
      · rcases Nat.lt_or_ge 300 s.raw.length with hv1 | hv1
        · exact own_out rfl rfl (own_long_long s.K s.A s.R s.n s.d s.E a b cap vc s.runs s.raw w hr1 h.capR h.maxR hv1 h.capV h.maxV h.runs h.raw _ rfl _ rfl)
        · exact own_out rfl (List.take_of_length_le hv1) (own_long_short s.K s.A s.R s.n s.d s.E a b cap vc s.runs s.raw w hr1 h.capR h.maxR hv1 h.capV h.runs h.raw _ rfl)
      · rcases Nat.lt_or_ge 300 s.raw.length with hv1 | hv1
        · exact own_out (List.take_of_length_le hr1) rfl (own_short_long s.K s.A s.R s.n s.d s.E a b cap vc s.runs s.raw w hr1 h.capR hv1 h.capV h.maxV h.runs h.raw _ rfl)
        · exact own_out (List.take_of_length_le hr1) (List.take_of_length_le hv1) (own_short_short s.K s.A s.R s.n s.d s.E a b cap vc s.runs s.raw w hr1 h.capR hv1 h.capV h.runs h.raw)
end Go.Proofs.Ytgblmlefmohgnaa
namespace Go.Proofs.Ytgblmlefmohgnaa
open Go.RowKit

theorem below_bd {l : List RunT} (hl : RunsOk l) (t : Int) : 0 ≤ belowL l t ∧ belowL l t ≤ cnt l := by
  obtain ⟨a, b, _⟩ := below_is l t hl.each hl.chain
  exact ⟨a, b⟩
theorem below_mono {l : List RunT} (hl : RunsOk l) {t t' : Int} (h : t ≤ t') : belowL l t ≤ belowL l t' := by
  obtain ⟨a, b, c⟩ := below_is l t hl.each hl.chain
  obtain ⟨a', b', c'⟩ := below_is l t' hl.each hl.chain
  rcases Int.lt_or_le (belowL l t') (belowL l t) with k | k
  · exfalso
    have hk := at_times hl (k := (belowL l t').toNat) (by omega)
    have h1 := (c _ _ hk).2 (by omega)
    have h2 := (c' _ _ hk).1 (by omega)
    omega
  · exact k
theorem below_all {l : List RunT} (hl : RunsOk l) {t : Int} (h : 281474976710656 < t) : belowL l t = cnt l := by
  obtain ⟨a, b, c⟩ := below_is l t hl.each hl.chain
  rcases Int.lt_or_le (belowL l t) (cnt l) with k | k
  · exfalso
    have hk := at_times hl (k := (belowL l t).toNat) (by omega)
    have h0 := at_in hl (show 0 ≤ belowL l t by omega) k
    rw [Int.toNat_of_nonneg a] at hk
    have h2 := (c _ _ hk).1 (by omega)
    omega
  · omega
theorem clipJ_eq {l : List RunT} (hl : RunsOk l) {a b : Int} (h : a ≤ b + 1) : clipJ l a b = belowL l (b + 1) := by
  have hm := below_mono hl h
  unfold clipJ
  split
  · rw [below_all hl (by omega)]
  · split <;> omega
/-- What the numbers of some places come to. -/
def outOf (s : SegT) (i j : Int) : Array Value × Int := if i < j then (partA (slice (vals s) i.toNat j.toNat), 0) else (#[.int .i64 0, .int .i64 0, .int .i64 0, .int .i64 0, .int .u64 0], 9)
theorem partOut_ok {s : SegT} (hs : segB s = true) {a b : Int} (h : a ≤ b + 1) : partOut s a b = outOf s (belowL s.runs a) (belowL s.runs (b + 1)) := by
  unfold partOut outOf
  rw [if_pos hs, clipJ_eq (segB_runs hs) h]
  rfl
theorem slice_ne {l : List Int} {i j : Nat} (h : i < j) (hj : j ≤ l.length) : slice l i j ≠ [] := by
  intro e
  have := length_slice (l := l) (i := i) hj
  rw [e] at this
  simp at this
  omega
/-- Two neighbours come to what both come to. -/
theorem parts_together {s : SegT} (hs : segB s = true) {i k j : Int} (h0 : 0 ≤ i) (h1 : i < k) (h2 : k < j) (h3 : j ≤ cnt s.runs) :
    let p := slice (vals s) i.toNat k.toNat
    let q := slice (vals s) k.toNat j.toNat
    let r := slice (vals s) i.toNat j.toNat
    (r.length : Int) = p.length + q.length ∧ minL r = min (minL p) (minL q) ∧ maxL r = max (maxL p) (maxL q) ∧ lsum r = lsum p + lsum q := by
  intro p q r
  have hl := length_vals hs
  have e : r = p ++ q := slice_split (by omega) (by omega)
  have hp : p ≠ [] := slice_ne (by omega) (by omega)
  have hq : q ≠ [] := slice_ne (by omega) (by omega)
  rw [e]
  exact ⟨by simp, minL_append hp hq, maxL_append hp hq, lsum_append p q⟩
theorem vals_back {s : SegT} (hs : segB s = true) {v : Int} (hv : v ∈ vals s) : -2305844108725321728 ≤ v ∧ v ≤ 2305844108725321728 := by
  unfold vals at hv
  rcases segB_cases hs with ⟨hk, hline⟩ | ⟨hk, _, hback⟩
  · rw [if_neg (by omega)] at hv
    simp only [List.mem_map] at hv
    obtain ⟨t, ht, rfl⟩ := hv
    have := mem_times hline.runs ht
    exact isBack_iff.1 (hline.back this.1 this.2.1)
  · rw [if_pos hk] at hv
    exact raw_back hback hv
theorem slice_sum {s : SegT} (hs : segB s = true) (i j : Nat) : -590296091833682362368 ≤ lsum (slice (vals s) i j) ∧ lsum (slice (vals s) i j) ≤ 590296091833682362368 := by
  have hl := length_vals hs
  have hc := (segB_runs hs).count
  have := lsum_bd (l := slice (vals s) i j) (B := 2305844108725321728) (fun v hv => by
    obtain ⟨k, _, _, hk⟩ := mem_slice hv
    exact vals_back hs (List.mem_of_getElem? hk))
  have : (slice (vals s) i j).length ≤ (vals s).length := by unfold slice; simp; omega
  omega
end Go.Proofs.Ytgblmlefmohgnaa
