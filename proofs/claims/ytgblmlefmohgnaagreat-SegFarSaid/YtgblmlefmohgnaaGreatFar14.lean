/- Parts of the proof that follows: The laws of chapter 11: own. | The laws of chapter 11: own, told. | A segment that lies, kept by steps that make memory. No condition. | The document's segments: Far. -/
import Derived.Laws.AppendOwnNone
import Derived.Test.YtgblmlefmohgnaaGreatFar13
set_option linter.unusedSimpArgs false
set_option linter.unusedVariables false
namespace Go.Proofs.YtgblmlefmohgnaaGreat
open Go.RowKit
/-- The block of a slice is one of a type. -/
def TyP (w : World) (p : Option Addr) (T : TypeId) : Prop := ∀ a, p = some a → ∃ cur fz, w.heap[a.block]? = some (.cells cur T fz)
theorem TyP.below {w w' : World} {p : Option Addr} {T : TypeId} (h : TyP w p T) (hb : Below w.heap.size w w') : TyP w' p T := fun a e => by
  obtain ⟨cur, fz, hh⟩ := h a e
  exact ⟨cur, fz, (hb.block a.block (Array.getElem?_eq_some_iff.1 hh).1).trans hh⟩
theorem TyP.alloc {w : World} {p : Option Addr} {T : TypeId} (h : TyP w p T) (o : Obj) : TyP (w.alloc o) p T := h.below ((Below.refl _ _).alloc (Nat.le_refl _) o)
theorem TyP.setCell {w : World} {p : Option Addr} {T : TypeId} (h : TyP w p T) (a : Addr) (v : Value) : TyP (w.setCell a v) p T := fun b e => by
  obtain ⟨cur, fz, hh⟩ := h b e
  by_cases hb : b.block = a.block
  · refine ⟨if a.spot.isSome then cur else cur.setIfInBounds a.off v, fz, ?_⟩
    simp only [World.setCell, Array.getElem?_modify]
    rw [if_pos hb.symm, hh]; rfl
  · exact ⟨cur, fz, (heap_setCell_other w a b.block v hb).trans hh⟩
theorem TyP.new {w : World} {cs : Array Value} {T : TypeId} {g : Nat} (h : w.heap.size = g) : TyP (w.alloc (.cells cs T)) (some ⟨g, 0, none⟩) T := fun a e => by
  subst h
  cases e
  exact ⟨cs, (0, 0), heap_alloc_new w _⟩
theorem tyNew {w : World} {p : Option Addr} {T : TypeId} (h : TyP w p T := by repeat (first | (exact TyP.new (by first | rfl | (simp; done))) | with_reducible (refine TyP.setCell ?_ _ _) | with_reducible (refine TyP.alloc ?_ _))) : TyP w p T := h
theorem RunsIn.take {w : World} {p : Option Addr} {l : List RunT} (h : RunsIn w p l) (k : Nat) : RunsIn w p (l.take k) := ⟨fun i r hr => h.at' i r (by
  rw [List.getElem?_take] at hr
  split at hr
  · exact hr
  · cases hr)⟩
theorem IntsIn.take {w : World} {p : Option Addr} {l : List Int} (h : IntsIn w p l) (k : Nat) : IntsIn w p (l.take k) := ⟨fun i r hr => h.at' i r (by
  rw [List.getElem?_take] at hr
  split at hr
  · exact hr
  · cases hr)⟩
theorem own_runs {w : World} {base n : Nat} {e : TypeId} {v : Value} {l : List RunT} (h : w.ownsRow base e 3 v n (flatCells l)) (hn : n = l.length) : ∃ p' cap', v = .slice p' l.length cap' ∧ RunsIn w p' l ∧ l.length ≤ cap' ∧ (∀ a, p' = some a → base ≤ a.block) ∧ TyP w p' e := by
  subst hn
  obtain ⟨_, h2 | ⟨g, cap', cur, rfl, hg, hb, hn, _, hc, ht⟩⟩ := h
  · obtain ⟨rfl, h0⟩ := h2
    exact ⟨none, 0, by rw [h0], ⟨fun i r hr => by rw [List.getElem?_eq_none_iff.2 (by omega)] at hr; cases hr⟩, by omega, (fun a h => by cases h), fun a h => by cases h⟩
  · exact ⟨some ⟨g, 0, none⟩, cap', rfl, cloneRun_in hb ht, hn, (fun a h => by cases h; exact hg), fun a h => by cases h; exact ⟨_, _, hb⟩⟩
theorem own_ints {w : World} {base n : Nat} {e : TypeId} {v : Value} {l : List Int} (h : w.ownsRow base e 1 v n (l.map (Value.int .i64))) (hn : n = l.length) : ∃ p' cap', v = .slice p' l.length cap' ∧ IntsIn w p' l ∧ l.length ≤ cap' ∧ (∀ a, p' = some a → base ≤ a.block) ∧ TyP w p' e := by
  subst hn
  obtain ⟨_, h2 | ⟨g, cap', cur, rfl, hg, hb, hn, _, hc, ht⟩⟩ := h
  · obtain ⟨rfl, h0⟩ := h2
    exact ⟨none, 0, by rw [h0], ⟨fun i r hr => by rw [List.getElem?_eq_none_iff.2 (by omega)] at hr; cases hr⟩, by omega, (fun a h => by cases h), fun a h => by cases h⟩
  · exact ⟨some ⟨g, 0, none⟩, cap', rfl, cloneInt_in hb ht, hn, (fun a h => by cases h; exact hg), fun a h => by cases h; exact ⟨_, _, hb⟩⟩
set_option maxRecDepth 100000 in
set_option maxHeartbeats 2000000 in
theorem own_nil_nil (K A R n d E : Int) (pa qa : Addr) (cap vc : Nat) (l : List RunT) (v : List Int) (w : World)  :
    Calls Tryz.prog 11 #[.agg #[.int .i64 K, .slice none 0 0, .int .i64 A, .int .i64 R, .int .i64 n, .int .i64 d, .slice none 0 0, .int .i64 E]] w fun e w' => ∃ p' cap' q' vc', e = .returned (.agg #[.int .i64 K, .slice p' ([] : List RunT).length cap', .int .i64 A, .int .i64 R, .int .i64 n, .int .i64 d, .slice q' ([] : List Int).length vc', .int .i64 E]) ∧ Below w.heap.size w w' ∧ RunsIn w' p' ([] : List RunT) ∧ IntsIn w' q' ([] : List Int) ∧ ([] : List Int).length ≤ vc' ∧ TyP w' p' 51 ∧ TyP w' q' 2 := by
  go_enter Tryz.func11, Tryz.ntmps11
  go_upto_region 1 with (fail)
  refine wp_facts (fun W' => Below w.heap.size w W' ∧ Blk W' w.heap.size #[.int .i64 K, .slice none 0 0, .int .i64 A, .int .i64 R, .int .i64 n, .int .i64 d, .slice none 0 0, .int .i64 E] 27 ∧ Blk W' (w.heap.size + 1) #[.int .i64 0, .slice none 0 0, .int .i64 0, .int .i64 0, .int .i64 0, .int .i64 0, .slice none 0 0, .int .i64 0] 27) ⟨by exact belowAny, by exact blkAny, by exact blkAny⟩ ?_
  rintro W1 ⟨hW, b1, b2⟩
  have z2 := hW.size
  have z3 := b1.lt
  have z4 := b2.lt
  have k1 := b1.cell
  have f1 := b1.frozen
  have k2 := b2.cell
  have f2 := b2.frozen
  have hmk : ∀ W, (Instr.buildSlice 22 0 #[]).run Tryz.prog W = .ok (.slice (some ⟨W.heap.size, 0, none⟩) 0 0) (W.alloc (.cells #[] 51)) := fun W => by kernel_rfl
  obtain ⟨i, hi, hz0, hz1, hz2⟩ := info_parts Tryz.infoRun
  have hown0 := World.ownsRow_made (e := 51) (size := 3) (base := W1.heap.size) W1 #[] 0 (Nat.le_refl _) (by simp [maxLen]) (by simp)
  go_upto_region 2 with (at_builtin; refine wpList_append_own_none rfl (.tmp 3) (.tmp 10) 22 rfl W1.heap.size 51 i 3 (by kernel_rfl) hi _ 0 [] rfl hown0 rfl ?_)
  try clear k1 f1 k2 f2
  refine wp_facts (fun W' => Below w.heap.size w W' ∧ ∃ p' cap', Blk W' w.heap.size #[.int .i64 K, .slice p' ([] : List RunT).length cap', .int .i64 A, .int .i64 R, .int .i64 n, .int .i64 d, .slice none 0 0, .int .i64 E] 27 ∧ Blk W' (w.heap.size + 1) #[.int .i64 0, .slice none 0 0, .int .i64 0, .int .i64 0, .int .i64 0, .int .i64 0, .slice none 0 0, .int .i64 0] 27 ∧ RunsIn W' p' ([] : List RunT) ∧ (∀ a, p' = some a → w.heap.size + 1 < a.block) ∧ TyP W' p' 51) ⟨belowAny, (some ⟨W1.heap.size, 0, none⟩), 0, blkAny, blkAny, ⟨fun i r hr => by simp at hr⟩, (fun a h => by cases h; simp only []; omega), (by exact tyNew)⟩ ?_
  clear hW b1 b2
  rintro W5 ⟨hW, p', cap', b1, b2, hRp, hfp, hTp⟩
  replace hTp := Lib.hid hTp
  replace hRp := Lib.hid hRp
  replace hfp := Lib.hid hfp
  have z50 := hW.size
  have z51 := b1.lt
  have z52 := b2.lt
  have k1 := b1.cell
  have f1 := b1.frozen
  have k2 := b2.cell
  have f2 := b2.frozen
  try clear i hi hz0 hz1 hz2
  have hmk : ∀ W, (Instr.buildSlice 25 0 #[]).run Tryz.prog W = .ok (.slice (some ⟨W.heap.size, 0, none⟩) 0 0) (W.alloc (.cells #[] 2)) := fun W => by kernel_rfl
  obtain ⟨i, hi, hz0, hz1, hz2⟩ := info_parts Tryz.infoInt
  have hown0 := World.ownsRow_made (e := 2) (size := 1) (base := W5.heap.size) W5 #[] 0 (Nat.le_refl _) (by simp [maxLen]) (by simp)
  go_upto_region 3 with (at_builtin; refine wpList_append_own_none rfl (.tmp 13) (.tmp 20) 25 rfl W5.heap.size 2 i 1 (by kernel_rfl) hi _ 0 [] rfl hown0 rfl ?_)
  try clear k1 f1 k2 f2
  refine wp_facts (fun W' => Below w.heap.size w W' ∧ ∃ q' vc', Blk W' w.heap.size #[.int .i64 K, .slice p' ([] : List RunT).length cap', .int .i64 A, .int .i64 R, .int .i64 n, .int .i64 d, .slice q' ([] : List Int).length vc', .int .i64 E] 27 ∧ Blk W' (w.heap.size + 1) #[.int .i64 0, .slice none 0 0, .int .i64 0, .int .i64 0, .int .i64 0, .int .i64 0, .slice none 0 0, .int .i64 0] 27 ∧ RunsIn W' p' ([] : List RunT) ∧ ([] : List Int).length ≤ vc' ∧ IntsIn W' q' ([] : List Int) ∧ (∀ a, q' = some a → w.heap.size + 1 < a.block) ∧ TyP W' q' 2 ∧ TyP W' p' 51) ⟨belowAny, (some ⟨W5.heap.size, 0, none⟩), 0, blkAny, blkAny, (by (repeat (first | with_reducible (refine RunsIn.alloc ?_ _) | with_reducible (refine RunsIn.set' ?_ (fun a h => by have := hfp.out a h; omega)))); exact hRp.out), Nat.le_refl _, ⟨fun i r hr => by simp at hr⟩, (fun a h => by cases h; simp only []; omega), (by exact tyNew), (by (repeat (first | with_reducible (refine TyP.alloc ?_ _) | with_reducible (refine TyP.setCell ?_ _ _))); exact hTp.out)⟩ ?_
  clear hW b1 b2
  rintro W6 ⟨hW, q', vc', b1, b2, hRp', hvc', hRq, hfq, hTq, hTp'⟩
  replace hTq := Lib.hid hTq
  replace hTp' := Lib.hid hTp'
  replace hRp' := Lib.hid hRp'
  replace hRq := Lib.hid hRq
  replace hfq := Lib.hid hfq
  have y_1 := b1.lt
  have y_2 := b2.lt
  have k1 := b1.cell
  have f1 := b1.frozen
  have k2 := b2.cell
  have f2 := b2.frozen
  go_wp2
  refine bodyPost_ret (v := .agg #[.int .i64 K, .slice p' ([] : List RunT).length cap', .int .i64 A, .int .i64 R, .int .i64 n, .int .i64 d, .slice q' ([] : List Int).length vc', .int .i64 E]) (by simp [results, Tryz.results11, go_sem, k1, f1, k2, f2, y_1, y_2]) rfl ⟨p', cap', q', vc', rfl, belowAny, ?_, ?_, hvc', (by (repeat (refine TyP.setCell ?_ _ _)); exact hTp'.out), (by (repeat (refine TyP.setCell ?_ _ _)); exact hTq.out)⟩
  · repeat (refine RunsIn.set' ?_ (fun a h => by have := hfp.out a h; omega))
    exact hRp'.out
  · repeat (refine IntsIn.set' ?_ (fun a h => by have := hfq.out a h; omega))
    exact hRq.out

set_option maxRecDepth 100000 in
set_option maxHeartbeats 2000000 in
theorem own_nil_short (K A R n d E : Int) (pa qa : Addr) (cap vc : Nat) (l : List RunT) (v : List Int) (w : World)  (hv0 : v.length ≤ 300) (hv1 : v.length ≤ vc) (hv : IntsIn w (some qa) v) :
    Calls Tryz.prog 11 #[.agg #[.int .i64 K, .slice none 0 0, .int .i64 A, .int .i64 R, .int .i64 n, .int .i64 d, .slice (some qa) v.length vc, .int .i64 E]] w fun e w' => ∃ p' cap' q' vc', e = .returned (.agg #[.int .i64 K, .slice p' ([] : List RunT).length cap', .int .i64 A, .int .i64 R, .int .i64 n, .int .i64 d, .slice q' v.length vc', .int .i64 E]) ∧ Below w.heap.size w w' ∧ RunsIn w' p' ([] : List RunT) ∧ IntsIn w' q' v ∧ v.length ≤ vc' ∧ TyP w' p' 51 ∧ TyP w' q' 2 := by
  go_enter Tryz.func11, Tryz.ntmps11
  go_upto_region 1 with (fail)
  refine wp_facts (fun W' => Below w.heap.size w W' ∧ Blk W' w.heap.size #[.int .i64 K, .slice none 0 0, .int .i64 A, .int .i64 R, .int .i64 n, .int .i64 d, .slice (some qa) v.length vc, .int .i64 E] 27 ∧ Blk W' (w.heap.size + 1) #[.int .i64 0, .slice none 0 0, .int .i64 0, .int .i64 0, .int .i64 0, .int .i64 0, .slice none 0 0, .int .i64 0] 27) ⟨by exact belowAny, by exact blkAny, by exact blkAny⟩ ?_
  rintro W1 ⟨hW, b1, b2⟩
  have z2 := hW.size
  have z3 := b1.lt
  have z4 := b2.lt
  have k1 := b1.cell
  have f1 := b1.frozen
  have k2 := b2.cell
  have f2 := b2.frozen
  have hmk : ∀ W, (Instr.buildSlice 22 0 #[]).run Tryz.prog W = .ok (.slice (some ⟨W.heap.size, 0, none⟩) 0 0) (W.alloc (.cells #[] 51)) := fun W => by kernel_rfl
  obtain ⟨i, hi, hz0, hz1, hz2⟩ := info_parts Tryz.infoRun
  have hown0 := World.ownsRow_made (e := 51) (size := 3) (base := W1.heap.size) W1 #[] 0 (Nat.le_refl _) (by simp [maxLen]) (by simp)
  go_upto_region 2 with (at_builtin; refine wpList_append_own_none rfl (.tmp 3) (.tmp 10) 22 rfl W1.heap.size 51 i 3 (by kernel_rfl) hi _ 0 [] rfl hown0 rfl ?_)
  try clear k1 f1 k2 f2
  refine wp_facts (fun W' => Below w.heap.size w W' ∧ ∃ p' cap', Blk W' w.heap.size #[.int .i64 K, .slice p' ([] : List RunT).length cap', .int .i64 A, .int .i64 R, .int .i64 n, .int .i64 d, .slice (some qa) v.length vc, .int .i64 E] 27 ∧ Blk W' (w.heap.size + 1) #[.int .i64 0, .slice none 0 0, .int .i64 0, .int .i64 0, .int .i64 0, .int .i64 0, .slice none 0 0, .int .i64 0] 27 ∧ RunsIn W' p' ([] : List RunT) ∧ (∀ a, p' = some a → w.heap.size + 1 < a.block) ∧ TyP W' p' 51) ⟨belowAny, (some ⟨W1.heap.size, 0, none⟩), 0, blkAny, blkAny, ⟨fun i r hr => by simp at hr⟩, (fun a h => by cases h; simp only []; omega), (by exact tyNew)⟩ ?_
  clear hW b1 b2
  rintro W5 ⟨hW, p', cap', b1, b2, hRp, hfp, hTp⟩
  replace hTp := Lib.hid hTp
  replace hRp := Lib.hid hRp
  replace hfp := Lib.hid hfp
  have z50 := hW.size
  have z51 := b1.lt
  have z52 := b2.lt
  have k1 := b1.cell
  have f1 := b1.frozen
  have k2 := b2.cell
  have f2 := b2.frozen
  try clear i hi hz0 hz1 hz2
  have hmk : ∀ W, (Instr.buildSlice 25 0 #[]).run Tryz.prog W = .ok (.slice (some ⟨W.heap.size, 0, none⟩) 0 0) (W.alloc (.cells #[] 2)) := fun W => by kernel_rfl
  obtain ⟨i, hi, hz0, hz1, hz2⟩ := info_parts Tryz.infoInt
  have hown0 := World.ownsRow_made (e := 2) (size := 1) (base := W5.heap.size) W5 #[] 0 (Nat.le_refl _) (by simp [maxLen]) (by simp)
  go_upto_region 3 with (at_builtin; refine wpList_append_own _ rfl (.tmp 13) (.tmp 20) 25 rfl W5.heap.size 2 i _ 1 8 (by kernel_rfl) hi hz0 hz1 hz2 rfl (by omega) _ 0 [] rfl hown0 qa v.length vc (v.map (Value.int .i64)) rfl (by rw [List.length_map]; omega) (fun j u hu => ints_flat ((hv.below (hW.trans ((Below.refl _ _).alloc (Nat.le_refl _) _ |>.mono hW.size)))) j u hu) (fun v hv => by simp only [List.mem_map] at hv; obtain ⟨x, _, rfl⟩ := hv; rfl) (by simp [maxLen] <;> omega) (by omega) (by simp) ?_)
  intro v' w' hown hgr _
  have hB := clone_below hgr
  obtain ⟨p9, cap9, rfl, hR9, hc9, hf9, hT9⟩ := own_ints (l := v) hown (by simp)
  clear hown hgr hown0 hmk
  have hz9 := hB.size
  have b1 : Blk w' w.heap.size #[.int .i64 K, .slice p' ([] : List RunT).length cap', .int .i64 A, .int .i64 R, .int .i64 n, .int .i64 d, .slice (some qa) v.length vc, .int .i64 E] 27 := blkAny
  have b2 : Blk w' (w.heap.size + 1) #[.int .i64 0, .slice none 0 0, .int .i64 0, .int .i64 0, .int .i64 0, .int .i64 0, .slice none 0 0, .int .i64 0] 27 := blkAny
  have hW : Below w.heap.size w w' := belowAny
  have k1 := b1.cell
  have f1 := b1.frozen
  have k2 := b2.cell
  have f2 := b2.frozen
  replace hR9 := Lib.hid hR9
  replace hf9 := Lib.hid hf9
  replace hT9 := Lib.hid hT9
  go_upto_region 3 with (fail)
  try clear k1 f1 k2 f2
  refine wp_facts (fun W' => Below w.heap.size w W' ∧ ∃ q' vc', Blk W' w.heap.size #[.int .i64 K, .slice p' ([] : List RunT).length cap', .int .i64 A, .int .i64 R, .int .i64 n, .int .i64 d, .slice q' v.length vc', .int .i64 E] 27 ∧ Blk W' (w.heap.size + 1) #[.int .i64 0, .slice none 0 0, .int .i64 0, .int .i64 0, .int .i64 0, .int .i64 0, .slice none 0 0, .int .i64 0] 27 ∧ RunsIn W' p' ([] : List RunT) ∧ v.length ≤ vc' ∧ IntsIn W' q' v ∧ (∀ a, q' = some a → w.heap.size + 1 < a.block) ∧ TyP W' q' 2 ∧ TyP W' p' 51) ⟨belowAny, p9, cap9, blkAny, blkAny, (by (repeat (first | with_reducible (refine RunsIn.alloc ?_ _) | with_reducible (refine RunsIn.set' ?_ (fun a h => by have := hfp.out a h; omega)))); exact hRp.out.below hB), hc9, (by (repeat (refine IntsIn.set' ?_ (fun a h => by have := hf9.out a h; omega))); exact hR9.out), (fun a h => by have := hf9.out a h; omega), (by (repeat (refine TyP.setCell ?_ _ _)); exact hT9.out), (by (repeat (first | with_reducible (refine TyP.alloc ?_ _) | with_reducible (refine TyP.setCell ?_ _ _))); exact hTp.out.below hB)⟩ ?_
  clear hW b1 b2
  rintro W6 ⟨hW, q', vc', b1, b2, hRp', hvc', hRq, hfq, hTq, hTp'⟩
  replace hTq := Lib.hid hTq
  replace hTp' := Lib.hid hTp'
  replace hRp' := Lib.hid hRp'
  replace hRq := Lib.hid hRq
  replace hfq := Lib.hid hfq
  have y_1 := b1.lt
  have y_2 := b2.lt
  have k1 := b1.cell
  have f1 := b1.frozen
  have k2 := b2.cell
  have f2 := b2.frozen
  go_wp2
  refine bodyPost_ret (v := .agg #[.int .i64 K, .slice p' ([] : List RunT).length cap', .int .i64 A, .int .i64 R, .int .i64 n, .int .i64 d, .slice q' v.length vc', .int .i64 E]) (by simp [results, Tryz.results11, go_sem, k1, f1, k2, f2, y_1, y_2]) rfl ⟨p', cap', q', vc', rfl, belowAny, ?_, ?_, hvc', (by (repeat (refine TyP.setCell ?_ _ _)); exact hTp'.out), (by (repeat (refine TyP.setCell ?_ _ _)); exact hTq.out)⟩
  · repeat (refine RunsIn.set' ?_ (fun a h => by have := hfp.out a h; omega))
    exact hRp'.out
  · repeat (refine IntsIn.set' ?_ (fun a h => by have := hfq.out a h; omega))
    exact hRq.out

set_option maxRecDepth 100000 in
set_option maxHeartbeats 2000000 in
theorem own_nil_long (K A R n d E : Int) (pa qa : Addr) (cap vc : Nat) (l : List RunT) (v : List Int) (w : World)  (hv0 : 300 < v.length) (hv1 : v.length ≤ vc) (hv2 : v.length ≤ 9223372036854775807) (hv : IntsIn w (some qa) v) (v9 : List Int) (k9 : v9 = v.take 300) :
    Calls Tryz.prog 11 #[.agg #[.int .i64 K, .slice none 0 0, .int .i64 A, .int .i64 R, .int .i64 n, .int .i64 d, .slice (some qa) v.length vc, .int .i64 E]] w fun e w' => ∃ p' cap' q' vc', e = .returned (.agg #[.int .i64 K, .slice p' ([] : List RunT).length cap', .int .i64 A, .int .i64 R, .int .i64 n, .int .i64 d, .slice q' v9.length vc', .int .i64 E]) ∧ Below w.heap.size w w' ∧ RunsIn w' p' ([] : List RunT) ∧ IntsIn w' q' v9 ∧ v9.length ≤ vc' ∧ TyP w' p' 51 ∧ TyP w' q' 2 := by
  have hv8 : IntsIn w (some qa) v9 := k9 ▸ hv.take 300
  have hv9 := Lib.hid (show v9.length = 300 by rw [k9, List.length_take]; omega)
  clear k9
  go_enter Tryz.func11, Tryz.ntmps11
  go_upto_region 1 with (fail)
  refine wp_facts (fun W' => Below w.heap.size w W' ∧ Blk W' w.heap.size #[.int .i64 K, .slice none 0 0, .int .i64 A, .int .i64 R, .int .i64 n, .int .i64 d, .slice (some qa) v.length vc, .int .i64 E] 27 ∧ Blk W' (w.heap.size + 1) #[.int .i64 0, .slice none 0 0, .int .i64 0, .int .i64 0, .int .i64 0, .int .i64 0, .slice none 0 0, .int .i64 0] 27) ⟨by exact belowAny, by exact blkAny, by exact blkAny⟩ ?_
  rintro W1 ⟨hW, b1, b2⟩
  have z2 := hW.size
  have z3 := b1.lt
  have z4 := b2.lt
  have k1 := b1.cell
  have f1 := b1.frozen
  have k2 := b2.cell
  have f2 := b2.frozen
  have hmk : ∀ W, (Instr.buildSlice 22 0 #[]).run Tryz.prog W = .ok (.slice (some ⟨W.heap.size, 0, none⟩) 0 0) (W.alloc (.cells #[] 51)) := fun W => by kernel_rfl
  obtain ⟨i, hi, hz0, hz1, hz2⟩ := info_parts Tryz.infoRun
  have hown0 := World.ownsRow_made (e := 51) (size := 3) (base := W1.heap.size) W1 #[] 0 (Nat.le_refl _) (by simp [maxLen]) (by simp)
  go_upto_region 2 with (at_builtin; refine wpList_append_own_none rfl (.tmp 3) (.tmp 10) 22 rfl W1.heap.size 51 i 3 (by kernel_rfl) hi _ 0 [] rfl hown0 rfl ?_)
  try clear k1 f1 k2 f2
  refine wp_facts (fun W' => Below w.heap.size w W' ∧ ∃ p' cap', Blk W' w.heap.size #[.int .i64 K, .slice p' ([] : List RunT).length cap', .int .i64 A, .int .i64 R, .int .i64 n, .int .i64 d, .slice (some qa) v.length vc, .int .i64 E] 27 ∧ Blk W' (w.heap.size + 1) #[.int .i64 0, .slice none 0 0, .int .i64 0, .int .i64 0, .int .i64 0, .int .i64 0, .slice none 0 0, .int .i64 0] 27 ∧ RunsIn W' p' ([] : List RunT) ∧ (∀ a, p' = some a → w.heap.size + 1 < a.block) ∧ TyP W' p' 51) ⟨belowAny, (some ⟨W1.heap.size, 0, none⟩), 0, blkAny, blkAny, ⟨fun i r hr => by simp at hr⟩, (fun a h => by cases h; simp only []; omega), (by exact tyNew)⟩ ?_
  clear hW b1 b2
  rintro W5 ⟨hW, p', cap', b1, b2, hRp, hfp, hTp⟩
  replace hTp := Lib.hid hTp
  replace hRp := Lib.hid hRp
  replace hfp := Lib.hid hfp
  have z50 := hW.size
  have z51 := b1.lt
  have z52 := b2.lt
  have k1 := b1.cell
  have f1 := b1.frozen
  have k2 := b2.cell
  have f2 := b2.frozen
  try clear i hi hz0 hz1 hz2
  have hmk : ∀ W, (Instr.buildSlice 25 0 #[]).run Tryz.prog W = .ok (.slice (some ⟨W.heap.size, 0, none⟩) 0 0) (W.alloc (.cells #[] 2)) := fun W => by kernel_rfl
  obtain ⟨i, hi, hz0, hz1, hz2⟩ := info_parts Tryz.infoInt
  have hown0 := World.ownsRow_made (e := 2) (size := 1) (base := W5.heap.size) W5 #[] 0 (Nat.le_refl _) (by simp [maxLen]) (by simp)
  go_upto_region 3 with (at_builtin; refine wpList_append_own _ rfl (.tmp 13) (.tmp 20) 25 rfl W5.heap.size 2 i _ 1 8 (by kernel_rfl) hi hz0 hz1 hz2 rfl (by omega) _ 0 [] rfl hown0 qa 300 vc (v9.map (Value.int .i64)) rfl (by rw [List.length_map, hv9.out]) (fun j u hu => ints_flat ((hv8.below (hW.trans ((Below.refl _ _).alloc (Nat.le_refl _) _ |>.mono hW.size)))) j u hu) (fun v hv => by simp only [List.mem_map] at hv; obtain ⟨x, _, rfl⟩ := hv; rfl) (by simp [maxLen] <;> omega) (by omega) (by simp) ?_)
  intro v' w' hown hgr _
  have hB := clone_below hgr
  obtain ⟨p9, cap9, rfl, hR9, hc9, hf9, hT9⟩ := own_ints (l := v9) hown (by rw [hv9.out])
  clear hown hgr hown0 hmk
  have hz9 := hB.size
  have b1 : Blk w' w.heap.size #[.int .i64 K, .slice p' ([] : List RunT).length cap', .int .i64 A, .int .i64 R, .int .i64 n, .int .i64 d, .slice (some qa) v.length vc, .int .i64 E] 27 := blkAny
  have b2 : Blk w' (w.heap.size + 1) #[.int .i64 0, .slice none 0 0, .int .i64 0, .int .i64 0, .int .i64 0, .int .i64 0, .slice none 0 0, .int .i64 0] 27 := blkAny
  have hW : Below w.heap.size w w' := belowAny
  have k1 := b1.cell
  have f1 := b1.frozen
  have k2 := b2.cell
  have f2 := b2.frozen
  replace hR9 := Lib.hid hR9
  replace hf9 := Lib.hid hf9
  replace hT9 := Lib.hid hT9
  go_upto_region 3 with (fail)
  try clear k1 f1 k2 f2
  refine wp_facts (fun W' => Below w.heap.size w W' ∧ ∃ q' vc', Blk W' w.heap.size #[.int .i64 K, .slice p' ([] : List RunT).length cap', .int .i64 A, .int .i64 R, .int .i64 n, .int .i64 d, .slice q' v9.length vc', .int .i64 E] 27 ∧ Blk W' (w.heap.size + 1) #[.int .i64 0, .slice none 0 0, .int .i64 0, .int .i64 0, .int .i64 0, .int .i64 0, .slice none 0 0, .int .i64 0] 27 ∧ RunsIn W' p' ([] : List RunT) ∧ v9.length ≤ vc' ∧ IntsIn W' q' v9 ∧ (∀ a, q' = some a → w.heap.size + 1 < a.block) ∧ TyP W' q' 2 ∧ TyP W' p' 51) ⟨belowAny, p9, cap9, blkAny, blkAny, (by (repeat (first | with_reducible (refine RunsIn.alloc ?_ _) | with_reducible (refine RunsIn.set' ?_ (fun a h => by have := hfp.out a h; omega)))); exact hRp.out.below hB), hc9, (by (repeat (refine IntsIn.set' ?_ (fun a h => by have := hf9.out a h; omega))); exact hR9.out), (fun a h => by have := hf9.out a h; omega), (by (repeat (refine TyP.setCell ?_ _ _)); exact hT9.out), (by (repeat (first | with_reducible (refine TyP.alloc ?_ _) | with_reducible (refine TyP.setCell ?_ _ _))); exact hTp.out.below hB)⟩ ?_
  clear hW b1 b2
  rintro W6 ⟨hW, q', vc', b1, b2, hRp', hvc', hRq, hfq, hTq, hTp'⟩
  replace hTq := Lib.hid hTq
  replace hTp' := Lib.hid hTp'
  replace hRp' := Lib.hid hRp'
  replace hRq := Lib.hid hRq
  replace hfq := Lib.hid hfq
  have y_1 := b1.lt
  have y_2 := b2.lt
  have k1 := b1.cell
  have f1 := b1.frozen
  have k2 := b2.cell
  have f2 := b2.frozen
  go_wp2
  refine bodyPost_ret (v := .agg #[.int .i64 K, .slice p' ([] : List RunT).length cap', .int .i64 A, .int .i64 R, .int .i64 n, .int .i64 d, .slice q' v9.length vc', .int .i64 E]) (by simp [results, Tryz.results11, go_sem, k1, f1, k2, f2, y_1, y_2]) rfl ⟨p', cap', q', vc', rfl, belowAny, ?_, ?_, hvc', (by (repeat (refine TyP.setCell ?_ _ _)); exact hTp'.out), (by (repeat (refine TyP.setCell ?_ _ _)); exact hTq.out)⟩
  · repeat (refine RunsIn.set' ?_ (fun a h => by have := hfp.out a h; omega))
    exact hRp'.out
  · repeat (refine IntsIn.set' ?_ (fun a h => by have := hfq.out a h; omega))
    exact hRq.out

set_option maxRecDepth 100000 in
set_option maxHeartbeats 2000000 in
theorem own_short_nil (K A R n d E : Int) (pa qa : Addr) (cap vc : Nat) (l : List RunT) (v : List Int) (w : World) (hl0 : l.length ≤ 300) (hl1 : l.length ≤ cap) (hl : RunsIn w (some pa) l) :
    Calls Tryz.prog 11 #[.agg #[.int .i64 K, .slice (some pa) l.length cap, .int .i64 A, .int .i64 R, .int .i64 n, .int .i64 d, .slice none 0 0, .int .i64 E]] w fun e w' => ∃ p' cap' q' vc', e = .returned (.agg #[.int .i64 K, .slice p' l.length cap', .int .i64 A, .int .i64 R, .int .i64 n, .int .i64 d, .slice q' ([] : List Int).length vc', .int .i64 E]) ∧ Below w.heap.size w w' ∧ RunsIn w' p' l ∧ IntsIn w' q' ([] : List Int) ∧ ([] : List Int).length ≤ vc' ∧ TyP w' p' 51 ∧ TyP w' q' 2 := by
  go_enter Tryz.func11, Tryz.ntmps11
  go_upto_region 1 with (fail)
  refine wp_facts (fun W' => Below w.heap.size w W' ∧ Blk W' w.heap.size #[.int .i64 K, .slice (some pa) l.length cap, .int .i64 A, .int .i64 R, .int .i64 n, .int .i64 d, .slice none 0 0, .int .i64 E] 27 ∧ Blk W' (w.heap.size + 1) #[.int .i64 0, .slice none 0 0, .int .i64 0, .int .i64 0, .int .i64 0, .int .i64 0, .slice none 0 0, .int .i64 0] 27) ⟨by exact belowAny, by exact blkAny, by exact blkAny⟩ ?_
  rintro W1 ⟨hW, b1, b2⟩
  have z2 := hW.size
  have z3 := b1.lt
  have z4 := b2.lt
  have k1 := b1.cell
  have f1 := b1.frozen
  have k2 := b2.cell
  have f2 := b2.frozen
  have hmk : ∀ W, (Instr.buildSlice 22 0 #[]).run Tryz.prog W = .ok (.slice (some ⟨W.heap.size, 0, none⟩) 0 0) (W.alloc (.cells #[] 51)) := fun W => by kernel_rfl
  obtain ⟨i, hi, hz0, hz1, hz2⟩ := info_parts Tryz.infoRun
  have hown0 := World.ownsRow_made (e := 51) (size := 3) (base := W1.heap.size) W1 #[] 0 (Nat.le_refl _) (by simp [maxLen]) (by simp)
  go_upto_region 2 with (at_builtin; refine wpList_append_own _ rfl (.tmp 3) (.tmp 10) 22 rfl W1.heap.size 51 i _ 3 24 (by kernel_rfl) hi hz0 hz1 hz2 rfl (by omega) _ 0 [] rfl hown0 pa l.length cap (flatCells l) rfl (by rw [length_flatCells]) ((hl.below (hW.trans ((Below.refl _ _).alloc (Nat.le_refl _) _ |>.mono hW.size)))).flat (fun v hv => by obtain ⟨x, rfl⟩ := flat_mem _ v hv; rfl) (by simp [maxLen] <;> omega) (by omega) (by simp) ?_)
  intro v' w' hown hgr _
  have hB := clone_below hgr
  obtain ⟨p9, cap9, rfl, hR9, hc9, hf9, hT9⟩ := own_runs (l := l) hown (by simp)
  clear hown hgr hown0 hmk
  have hz9 := hB.size
  have b1 : Blk w' w.heap.size #[.int .i64 K, .slice (some pa) l.length cap, .int .i64 A, .int .i64 R, .int .i64 n, .int .i64 d, .slice none 0 0, .int .i64 E] 27 := blkAny
  have b2 : Blk w' (w.heap.size + 1) #[.int .i64 0, .slice none 0 0, .int .i64 0, .int .i64 0, .int .i64 0, .int .i64 0, .slice none 0 0, .int .i64 0] 27 := blkAny
  have hW : Below w.heap.size w w' := belowAny
  have k1 := b1.cell
  have f1 := b1.frozen
  have k2 := b2.cell
  have f2 := b2.frozen
  replace hR9 := Lib.hid hR9
  replace hf9 := Lib.hid hf9
  replace hT9 := Lib.hid hT9
  go_upto_region 2 with (fail)
  try clear k1 f1 k2 f2
  refine wp_facts (fun W' => Below w.heap.size w W' ∧ ∃ p' cap', Blk W' w.heap.size #[.int .i64 K, .slice p' l.length cap', .int .i64 A, .int .i64 R, .int .i64 n, .int .i64 d, .slice none 0 0, .int .i64 E] 27 ∧ Blk W' (w.heap.size + 1) #[.int .i64 0, .slice none 0 0, .int .i64 0, .int .i64 0, .int .i64 0, .int .i64 0, .slice none 0 0, .int .i64 0] 27 ∧ RunsIn W' p' l ∧ (∀ a, p' = some a → w.heap.size + 1 < a.block) ∧ TyP W' p' 51) ⟨belowAny, p9, cap9, blkAny, blkAny, (by (repeat (refine RunsIn.set' ?_ (fun a h => by have := hf9.out a h; omega))); exact hR9.out), (fun a h => by have := hf9.out a h; omega), (by (repeat (refine TyP.setCell ?_ _ _)); exact hT9.out)⟩ ?_
  clear hW b1 b2
  rintro W5 ⟨hW, p', cap', b1, b2, hRp, hfp, hTp⟩
  replace hTp := Lib.hid hTp
  replace hRp := Lib.hid hRp
  replace hfp := Lib.hid hfp
  have z50 := hW.size
  have z51 := b1.lt
  have z52 := b2.lt
  have k1 := b1.cell
  have f1 := b1.frozen
  have k2 := b2.cell
  have f2 := b2.frozen
  try clear i hi hz0 hz1 hz2
  have hmk : ∀ W, (Instr.buildSlice 25 0 #[]).run Tryz.prog W = .ok (.slice (some ⟨W.heap.size, 0, none⟩) 0 0) (W.alloc (.cells #[] 2)) := fun W => by kernel_rfl
  obtain ⟨i, hi, hz0, hz1, hz2⟩ := info_parts Tryz.infoInt
  have hown0 := World.ownsRow_made (e := 2) (size := 1) (base := W5.heap.size) W5 #[] 0 (Nat.le_refl _) (by simp [maxLen]) (by simp)
  go_upto_region 3 with (at_builtin; refine wpList_append_own_none rfl (.tmp 13) (.tmp 20) 25 rfl W5.heap.size 2 i 1 (by kernel_rfl) hi _ 0 [] rfl hown0 rfl ?_)
  try clear k1 f1 k2 f2
  refine wp_facts (fun W' => Below w.heap.size w W' ∧ ∃ q' vc', Blk W' w.heap.size #[.int .i64 K, .slice p' l.length cap', .int .i64 A, .int .i64 R, .int .i64 n, .int .i64 d, .slice q' ([] : List Int).length vc', .int .i64 E] 27 ∧ Blk W' (w.heap.size + 1) #[.int .i64 0, .slice none 0 0, .int .i64 0, .int .i64 0, .int .i64 0, .int .i64 0, .slice none 0 0, .int .i64 0] 27 ∧ RunsIn W' p' l ∧ ([] : List Int).length ≤ vc' ∧ IntsIn W' q' ([] : List Int) ∧ (∀ a, q' = some a → w.heap.size + 1 < a.block) ∧ TyP W' q' 2 ∧ TyP W' p' 51) ⟨belowAny, (some ⟨W5.heap.size, 0, none⟩), 0, blkAny, blkAny, (by (repeat (first | with_reducible (refine RunsIn.alloc ?_ _) | with_reducible (refine RunsIn.set' ?_ (fun a h => by have := hfp.out a h; omega)))); exact hRp.out), Nat.le_refl _, ⟨fun i r hr => by simp at hr⟩, (fun a h => by cases h; simp only []; omega), (by exact tyNew), (by (repeat (first | with_reducible (refine TyP.alloc ?_ _) | with_reducible (refine TyP.setCell ?_ _ _))); exact hTp.out)⟩ ?_
  clear hW b1 b2
  rintro W6 ⟨hW, q', vc', b1, b2, hRp', hvc', hRq, hfq, hTq, hTp'⟩
  replace hTq := Lib.hid hTq
  replace hTp' := Lib.hid hTp'
  replace hRp' := Lib.hid hRp'
  replace hRq := Lib.hid hRq
  replace hfq := Lib.hid hfq
  have y_1 := b1.lt
  have y_2 := b2.lt
  have k1 := b1.cell
  have f1 := b1.frozen
  have k2 := b2.cell
  have f2 := b2.frozen
  go_wp2
  refine bodyPost_ret (v := .agg #[.int .i64 K, .slice p' l.length cap', .int .i64 A, .int .i64 R, .int .i64 n, .int .i64 d, .slice q' ([] : List Int).length vc', .int .i64 E]) (by simp [results, Tryz.results11, go_sem, k1, f1, k2, f2, y_1, y_2]) rfl ⟨p', cap', q', vc', rfl, belowAny, ?_, ?_, hvc', (by (repeat (refine TyP.setCell ?_ _ _)); exact hTp'.out), (by (repeat (refine TyP.setCell ?_ _ _)); exact hTq.out)⟩
  · repeat (refine RunsIn.set' ?_ (fun a h => by have := hfp.out a h; omega))
    exact hRp'.out
  · repeat (refine IntsIn.set' ?_ (fun a h => by have := hfq.out a h; omega))
    exact hRq.out

set_option maxRecDepth 100000 in
set_option maxHeartbeats 2000000 in
theorem own_short_short (K A R n d E : Int) (pa qa : Addr) (cap vc : Nat) (l : List RunT) (v : List Int) (w : World) (hl0 : l.length ≤ 300) (hl1 : l.length ≤ cap) (hv0 : v.length ≤ 300) (hv1 : v.length ≤ vc) (hl : RunsIn w (some pa) l) (hv : IntsIn w (some qa) v) :
    Calls Tryz.prog 11 #[.agg #[.int .i64 K, .slice (some pa) l.length cap, .int .i64 A, .int .i64 R, .int .i64 n, .int .i64 d, .slice (some qa) v.length vc, .int .i64 E]] w fun e w' => ∃ p' cap' q' vc', e = .returned (.agg #[.int .i64 K, .slice p' l.length cap', .int .i64 A, .int .i64 R, .int .i64 n, .int .i64 d, .slice q' v.length vc', .int .i64 E]) ∧ Below w.heap.size w w' ∧ RunsIn w' p' l ∧ IntsIn w' q' v ∧ v.length ≤ vc' ∧ TyP w' p' 51 ∧ TyP w' q' 2 := by
  go_enter Tryz.func11, Tryz.ntmps11
  go_upto_region 1 with (fail)
  refine wp_facts (fun W' => Below w.heap.size w W' ∧ Blk W' w.heap.size #[.int .i64 K, .slice (some pa) l.length cap, .int .i64 A, .int .i64 R, .int .i64 n, .int .i64 d, .slice (some qa) v.length vc, .int .i64 E] 27 ∧ Blk W' (w.heap.size + 1) #[.int .i64 0, .slice none 0 0, .int .i64 0, .int .i64 0, .int .i64 0, .int .i64 0, .slice none 0 0, .int .i64 0] 27) ⟨by exact belowAny, by exact blkAny, by exact blkAny⟩ ?_
  rintro W1 ⟨hW, b1, b2⟩
  have z2 := hW.size
  have z3 := b1.lt
  have z4 := b2.lt
  have k1 := b1.cell
  have f1 := b1.frozen
  have k2 := b2.cell
  have f2 := b2.frozen
  have hmk : ∀ W, (Instr.buildSlice 22 0 #[]).run Tryz.prog W = .ok (.slice (some ⟨W.heap.size, 0, none⟩) 0 0) (W.alloc (.cells #[] 51)) := fun W => by kernel_rfl
  obtain ⟨i, hi, hz0, hz1, hz2⟩ := info_parts Tryz.infoRun
  have hown0 := World.ownsRow_made (e := 51) (size := 3) (base := W1.heap.size) W1 #[] 0 (Nat.le_refl _) (by simp [maxLen]) (by simp)
  go_upto_region 2 with (at_builtin; refine wpList_append_own _ rfl (.tmp 3) (.tmp 10) 22 rfl W1.heap.size 51 i _ 3 24 (by kernel_rfl) hi hz0 hz1 hz2 rfl (by omega) _ 0 [] rfl hown0 pa l.length cap (flatCells l) rfl (by rw [length_flatCells]) ((hl.below (hW.trans ((Below.refl _ _).alloc (Nat.le_refl _) _ |>.mono hW.size)))).flat (fun v hv => by obtain ⟨x, rfl⟩ := flat_mem _ v hv; rfl) (by simp [maxLen] <;> omega) (by omega) (by simp) ?_)
  intro v' w' hown hgr _
  have hB := clone_below hgr
  obtain ⟨p9, cap9, rfl, hR9, hc9, hf9, hT9⟩ := own_runs (l := l) hown (by simp)
  clear hown hgr hown0 hmk
  have hz9 := hB.size
  have b1 : Blk w' w.heap.size #[.int .i64 K, .slice (some pa) l.length cap, .int .i64 A, .int .i64 R, .int .i64 n, .int .i64 d, .slice (some qa) v.length vc, .int .i64 E] 27 := blkAny
  have b2 : Blk w' (w.heap.size + 1) #[.int .i64 0, .slice none 0 0, .int .i64 0, .int .i64 0, .int .i64 0, .int .i64 0, .slice none 0 0, .int .i64 0] 27 := blkAny
  have hW : Below w.heap.size w w' := belowAny
  have k1 := b1.cell
  have f1 := b1.frozen
  have k2 := b2.cell
  have f2 := b2.frozen
  replace hR9 := Lib.hid hR9
  replace hf9 := Lib.hid hf9
  replace hT9 := Lib.hid hT9
  go_upto_region 2 with (fail)
  try clear k1 f1 k2 f2
  refine wp_facts (fun W' => Below w.heap.size w W' ∧ ∃ p' cap', Blk W' w.heap.size #[.int .i64 K, .slice p' l.length cap', .int .i64 A, .int .i64 R, .int .i64 n, .int .i64 d, .slice (some qa) v.length vc, .int .i64 E] 27 ∧ Blk W' (w.heap.size + 1) #[.int .i64 0, .slice none 0 0, .int .i64 0, .int .i64 0, .int .i64 0, .int .i64 0, .slice none 0 0, .int .i64 0] 27 ∧ RunsIn W' p' l ∧ (∀ a, p' = some a → w.heap.size + 1 < a.block) ∧ TyP W' p' 51) ⟨belowAny, p9, cap9, blkAny, blkAny, (by (repeat (refine RunsIn.set' ?_ (fun a h => by have := hf9.out a h; omega))); exact hR9.out), (fun a h => by have := hf9.out a h; omega), (by (repeat (refine TyP.setCell ?_ _ _)); exact hT9.out)⟩ ?_
  clear hW b1 b2
  rintro W5 ⟨hW, p', cap', b1, b2, hRp, hfp, hTp⟩
  replace hTp := Lib.hid hTp
  replace hRp := Lib.hid hRp
  replace hfp := Lib.hid hfp
  have z50 := hW.size
  have z51 := b1.lt
  have z52 := b2.lt
  have k1 := b1.cell
  have f1 := b1.frozen
  have k2 := b2.cell
  have f2 := b2.frozen
  try clear i hi hz0 hz1 hz2
  have hmk : ∀ W, (Instr.buildSlice 25 0 #[]).run Tryz.prog W = .ok (.slice (some ⟨W.heap.size, 0, none⟩) 0 0) (W.alloc (.cells #[] 2)) := fun W => by kernel_rfl
  obtain ⟨i, hi, hz0, hz1, hz2⟩ := info_parts Tryz.infoInt
  have hown0 := World.ownsRow_made (e := 2) (size := 1) (base := W5.heap.size) W5 #[] 0 (Nat.le_refl _) (by simp [maxLen]) (by simp)
  go_upto_region 3 with (at_builtin; refine wpList_append_own _ rfl (.tmp 13) (.tmp 20) 25 rfl W5.heap.size 2 i _ 1 8 (by kernel_rfl) hi hz0 hz1 hz2 rfl (by omega) _ 0 [] rfl hown0 qa v.length vc (v.map (Value.int .i64)) rfl (by rw [List.length_map]; omega) (fun j u hu => ints_flat ((hv.below (hW.trans ((Below.refl _ _).alloc (Nat.le_refl _) _ |>.mono hW.size)))) j u hu) (fun v hv => by simp only [List.mem_map] at hv; obtain ⟨x, _, rfl⟩ := hv; rfl) (by simp [maxLen] <;> omega) (by omega) (by simp) ?_)
  intro v' w' hown hgr _
  have hB := clone_below hgr
  obtain ⟨p9, cap9, rfl, hR9, hc9, hf9, hT9⟩ := own_ints (l := v) hown (by simp)
  clear hown hgr hown0 hmk
  have hz9 := hB.size
  have b1 : Blk w' w.heap.size #[.int .i64 K, .slice p' l.length cap', .int .i64 A, .int .i64 R, .int .i64 n, .int .i64 d, .slice (some qa) v.length vc, .int .i64 E] 27 := blkAny
  have b2 : Blk w' (w.heap.size + 1) #[.int .i64 0, .slice none 0 0, .int .i64 0, .int .i64 0, .int .i64 0, .int .i64 0, .slice none 0 0, .int .i64 0] 27 := blkAny
  have hW : Below w.heap.size w w' := belowAny
  have k1 := b1.cell
  have f1 := b1.frozen
  have k2 := b2.cell
  have f2 := b2.frozen
  replace hR9 := Lib.hid hR9
  replace hf9 := Lib.hid hf9
  replace hT9 := Lib.hid hT9
  go_upto_region 3 with (fail)
  try clear k1 f1 k2 f2
  refine wp_facts (fun W' => Below w.heap.size w W' ∧ ∃ q' vc', Blk W' w.heap.size #[.int .i64 K, .slice p' l.length cap', .int .i64 A, .int .i64 R, .int .i64 n, .int .i64 d, .slice q' v.length vc', .int .i64 E] 27 ∧ Blk W' (w.heap.size + 1) #[.int .i64 0, .slice none 0 0, .int .i64 0, .int .i64 0, .int .i64 0, .int .i64 0, .slice none 0 0, .int .i64 0] 27 ∧ RunsIn W' p' l ∧ v.length ≤ vc' ∧ IntsIn W' q' v ∧ (∀ a, q' = some a → w.heap.size + 1 < a.block) ∧ TyP W' q' 2 ∧ TyP W' p' 51) ⟨belowAny, p9, cap9, blkAny, blkAny, (by (repeat (first | with_reducible (refine RunsIn.alloc ?_ _) | with_reducible (refine RunsIn.set' ?_ (fun a h => by have := hfp.out a h; omega)))); exact hRp.out.below hB), hc9, (by (repeat (refine IntsIn.set' ?_ (fun a h => by have := hf9.out a h; omega))); exact hR9.out), (fun a h => by have := hf9.out a h; omega), (by (repeat (refine TyP.setCell ?_ _ _)); exact hT9.out), (by (repeat (first | with_reducible (refine TyP.alloc ?_ _) | with_reducible (refine TyP.setCell ?_ _ _))); exact hTp.out.below hB)⟩ ?_
  clear hW b1 b2
  rintro W6 ⟨hW, q', vc', b1, b2, hRp', hvc', hRq, hfq, hTq, hTp'⟩
  replace hTq := Lib.hid hTq
  replace hTp' := Lib.hid hTp'
  replace hRp' := Lib.hid hRp'
  replace hRq := Lib.hid hRq
  replace hfq := Lib.hid hfq
  have y_1 := b1.lt
  have y_2 := b2.lt
  have k1 := b1.cell
  have f1 := b1.frozen
  have k2 := b2.cell
  have f2 := b2.frozen
  go_wp2
  refine bodyPost_ret (v := .agg #[.int .i64 K, .slice p' l.length cap', .int .i64 A, .int .i64 R, .int .i64 n, .int .i64 d, .slice q' v.length vc', .int .i64 E]) (by simp [results, Tryz.results11, go_sem, k1, f1, k2, f2, y_1, y_2]) rfl ⟨p', cap', q', vc', rfl, belowAny, ?_, ?_, hvc', (by (repeat (refine TyP.setCell ?_ _ _)); exact hTp'.out), (by (repeat (refine TyP.setCell ?_ _ _)); exact hTq.out)⟩
  · repeat (refine RunsIn.set' ?_ (fun a h => by have := hfp.out a h; omega))
    exact hRp'.out
  · repeat (refine IntsIn.set' ?_ (fun a h => by have := hfq.out a h; omega))
    exact hRq.out

set_option maxRecDepth 100000 in
set_option maxHeartbeats 2000000 in
theorem own_short_long (K A R n d E : Int) (pa qa : Addr) (cap vc : Nat) (l : List RunT) (v : List Int) (w : World) (hl0 : l.length ≤ 300) (hl1 : l.length ≤ cap) (hv0 : 300 < v.length) (hv1 : v.length ≤ vc) (hv2 : v.length ≤ 9223372036854775807) (hl : RunsIn w (some pa) l) (hv : IntsIn w (some qa) v) (v9 : List Int) (k9 : v9 = v.take 300) :
    Calls Tryz.prog 11 #[.agg #[.int .i64 K, .slice (some pa) l.length cap, .int .i64 A, .int .i64 R, .int .i64 n, .int .i64 d, .slice (some qa) v.length vc, .int .i64 E]] w fun e w' => ∃ p' cap' q' vc', e = .returned (.agg #[.int .i64 K, .slice p' l.length cap', .int .i64 A, .int .i64 R, .int .i64 n, .int .i64 d, .slice q' v9.length vc', .int .i64 E]) ∧ Below w.heap.size w w' ∧ RunsIn w' p' l ∧ IntsIn w' q' v9 ∧ v9.length ≤ vc' ∧ TyP w' p' 51 ∧ TyP w' q' 2 := by
  have hv8 : IntsIn w (some qa) v9 := k9 ▸ hv.take 300
  have hv9 := Lib.hid (show v9.length = 300 by rw [k9, List.length_take]; omega)
  clear k9
  go_enter Tryz.func11, Tryz.ntmps11
  go_upto_region 1 with (fail)
  refine wp_facts (fun W' => Below w.heap.size w W' ∧ Blk W' w.heap.size #[.int .i64 K, .slice (some pa) l.length cap, .int .i64 A, .int .i64 R, .int .i64 n, .int .i64 d, .slice (some qa) v.length vc, .int .i64 E] 27 ∧ Blk W' (w.heap.size + 1) #[.int .i64 0, .slice none 0 0, .int .i64 0, .int .i64 0, .int .i64 0, .int .i64 0, .slice none 0 0, .int .i64 0] 27) ⟨by exact belowAny, by exact blkAny, by exact blkAny⟩ ?_
  rintro W1 ⟨hW, b1, b2⟩
  have z2 := hW.size
  have z3 := b1.lt
  have z4 := b2.lt
  have k1 := b1.cell
  have f1 := b1.frozen
  have k2 := b2.cell
  have f2 := b2.frozen
  have hmk : ∀ W, (Instr.buildSlice 22 0 #[]).run Tryz.prog W = .ok (.slice (some ⟨W.heap.size, 0, none⟩) 0 0) (W.alloc (.cells #[] 51)) := fun W => by kernel_rfl
  obtain ⟨i, hi, hz0, hz1, hz2⟩ := info_parts Tryz.infoRun
  have hown0 := World.ownsRow_made (e := 51) (size := 3) (base := W1.heap.size) W1 #[] 0 (Nat.le_refl _) (by simp [maxLen]) (by simp)
  go_upto_region 2 with (at_builtin; refine wpList_append_own _ rfl (.tmp 3) (.tmp 10) 22 rfl W1.heap.size 51 i _ 3 24 (by kernel_rfl) hi hz0 hz1 hz2 rfl (by omega) _ 0 [] rfl hown0 pa l.length cap (flatCells l) rfl (by rw [length_flatCells]) ((hl.below (hW.trans ((Below.refl _ _).alloc (Nat.le_refl _) _ |>.mono hW.size)))).flat (fun v hv => by obtain ⟨x, rfl⟩ := flat_mem _ v hv; rfl) (by simp [maxLen] <;> omega) (by omega) (by simp) ?_)
  intro v' w' hown hgr _
  have hB := clone_below hgr
  obtain ⟨p9, cap9, rfl, hR9, hc9, hf9, hT9⟩ := own_runs (l := l) hown (by simp)
  clear hown hgr hown0 hmk
  have hz9 := hB.size
  have b1 : Blk w' w.heap.size #[.int .i64 K, .slice (some pa) l.length cap, .int .i64 A, .int .i64 R, .int .i64 n, .int .i64 d, .slice (some qa) v.length vc, .int .i64 E] 27 := blkAny
  have b2 : Blk w' (w.heap.size + 1) #[.int .i64 0, .slice none 0 0, .int .i64 0, .int .i64 0, .int .i64 0, .int .i64 0, .slice none 0 0, .int .i64 0] 27 := blkAny
  have hW : Below w.heap.size w w' := belowAny
  have k1 := b1.cell
  have f1 := b1.frozen
  have k2 := b2.cell
  have f2 := b2.frozen
  replace hR9 := Lib.hid hR9
  replace hf9 := Lib.hid hf9
  replace hT9 := Lib.hid hT9
  go_upto_region 2 with (fail)
  try clear k1 f1 k2 f2
  refine wp_facts (fun W' => Below w.heap.size w W' ∧ ∃ p' cap', Blk W' w.heap.size #[.int .i64 K, .slice p' l.length cap', .int .i64 A, .int .i64 R, .int .i64 n, .int .i64 d, .slice (some qa) v.length vc, .int .i64 E] 27 ∧ Blk W' (w.heap.size + 1) #[.int .i64 0, .slice none 0 0, .int .i64 0, .int .i64 0, .int .i64 0, .int .i64 0, .slice none 0 0, .int .i64 0] 27 ∧ RunsIn W' p' l ∧ (∀ a, p' = some a → w.heap.size + 1 < a.block) ∧ TyP W' p' 51) ⟨belowAny, p9, cap9, blkAny, blkAny, (by (repeat (refine RunsIn.set' ?_ (fun a h => by have := hf9.out a h; omega))); exact hR9.out), (fun a h => by have := hf9.out a h; omega), (by (repeat (refine TyP.setCell ?_ _ _)); exact hT9.out)⟩ ?_
  clear hW b1 b2
  rintro W5 ⟨hW, p', cap', b1, b2, hRp, hfp, hTp⟩
  replace hTp := Lib.hid hTp
  replace hRp := Lib.hid hRp
  replace hfp := Lib.hid hfp
  have z50 := hW.size
  have z51 := b1.lt
  have z52 := b2.lt
  have k1 := b1.cell
  have f1 := b1.frozen
  have k2 := b2.cell
  have f2 := b2.frozen
  try clear i hi hz0 hz1 hz2
  have hmk : ∀ W, (Instr.buildSlice 25 0 #[]).run Tryz.prog W = .ok (.slice (some ⟨W.heap.size, 0, none⟩) 0 0) (W.alloc (.cells #[] 2)) := fun W => by kernel_rfl
  obtain ⟨i, hi, hz0, hz1, hz2⟩ := info_parts Tryz.infoInt
  have hown0 := World.ownsRow_made (e := 2) (size := 1) (base := W5.heap.size) W5 #[] 0 (Nat.le_refl _) (by simp [maxLen]) (by simp)
  go_upto_region 3 with (at_builtin; refine wpList_append_own _ rfl (.tmp 13) (.tmp 20) 25 rfl W5.heap.size 2 i _ 1 8 (by kernel_rfl) hi hz0 hz1 hz2 rfl (by omega) _ 0 [] rfl hown0 qa 300 vc (v9.map (Value.int .i64)) rfl (by rw [List.length_map, hv9.out]) (fun j u hu => ints_flat ((hv8.below (hW.trans ((Below.refl _ _).alloc (Nat.le_refl _) _ |>.mono hW.size)))) j u hu) (fun v hv => by simp only [List.mem_map] at hv; obtain ⟨x, _, rfl⟩ := hv; rfl) (by simp [maxLen] <;> omega) (by omega) (by simp) ?_)
  intro v' w' hown hgr _
  have hB := clone_below hgr
  obtain ⟨p9, cap9, rfl, hR9, hc9, hf9, hT9⟩ := own_ints (l := v9) hown (by rw [hv9.out])
  clear hown hgr hown0 hmk
  have hz9 := hB.size
  have b1 : Blk w' w.heap.size #[.int .i64 K, .slice p' l.length cap', .int .i64 A, .int .i64 R, .int .i64 n, .int .i64 d, .slice (some qa) v.length vc, .int .i64 E] 27 := blkAny
  have b2 : Blk w' (w.heap.size + 1) #[.int .i64 0, .slice none 0 0, .int .i64 0, .int .i64 0, .int .i64 0, .int .i64 0, .slice none 0 0, .int .i64 0] 27 := blkAny
  have hW : Below w.heap.size w w' := belowAny
  have k1 := b1.cell
  have f1 := b1.frozen
  have k2 := b2.cell
  have f2 := b2.frozen
  replace hR9 := Lib.hid hR9
  replace hf9 := Lib.hid hf9
  replace hT9 := Lib.hid hT9
  go_upto_region 3 with (fail)
  try clear k1 f1 k2 f2
  refine wp_facts (fun W' => Below w.heap.size w W' ∧ ∃ q' vc', Blk W' w.heap.size #[.int .i64 K, .slice p' l.length cap', .int .i64 A, .int .i64 R, .int .i64 n, .int .i64 d, .slice q' v9.length vc', .int .i64 E] 27 ∧ Blk W' (w.heap.size + 1) #[.int .i64 0, .slice none 0 0, .int .i64 0, .int .i64 0, .int .i64 0, .int .i64 0, .slice none 0 0, .int .i64 0] 27 ∧ RunsIn W' p' l ∧ v9.length ≤ vc' ∧ IntsIn W' q' v9 ∧ (∀ a, q' = some a → w.heap.size + 1 < a.block) ∧ TyP W' q' 2 ∧ TyP W' p' 51) ⟨belowAny, p9, cap9, blkAny, blkAny, (by (repeat (first | with_reducible (refine RunsIn.alloc ?_ _) | with_reducible (refine RunsIn.set' ?_ (fun a h => by have := hfp.out a h; omega)))); exact hRp.out.below hB), hc9, (by (repeat (refine IntsIn.set' ?_ (fun a h => by have := hf9.out a h; omega))); exact hR9.out), (fun a h => by have := hf9.out a h; omega), (by (repeat (refine TyP.setCell ?_ _ _)); exact hT9.out), (by (repeat (first | with_reducible (refine TyP.alloc ?_ _) | with_reducible (refine TyP.setCell ?_ _ _))); exact hTp.out.below hB)⟩ ?_
  clear hW b1 b2
  rintro W6 ⟨hW, q', vc', b1, b2, hRp', hvc', hRq, hfq, hTq, hTp'⟩
  replace hTq := Lib.hid hTq
  replace hTp' := Lib.hid hTp'
  replace hRp' := Lib.hid hRp'
  replace hRq := Lib.hid hRq
  replace hfq := Lib.hid hfq
  have y_1 := b1.lt
  have y_2 := b2.lt
  have k1 := b1.cell
  have f1 := b1.frozen
  have k2 := b2.cell
  have f2 := b2.frozen
  go_wp2
  refine bodyPost_ret (v := .agg #[.int .i64 K, .slice p' l.length cap', .int .i64 A, .int .i64 R, .int .i64 n, .int .i64 d, .slice q' v9.length vc', .int .i64 E]) (by simp [results, Tryz.results11, go_sem, k1, f1, k2, f2, y_1, y_2]) rfl ⟨p', cap', q', vc', rfl, belowAny, ?_, ?_, hvc', (by (repeat (refine TyP.setCell ?_ _ _)); exact hTp'.out), (by (repeat (refine TyP.setCell ?_ _ _)); exact hTq.out)⟩
  · repeat (refine RunsIn.set' ?_ (fun a h => by have := hfp.out a h; omega))
    exact hRp'.out
  · repeat (refine IntsIn.set' ?_ (fun a h => by have := hfq.out a h; omega))
    exact hRq.out

set_option maxRecDepth 100000 in
set_option maxHeartbeats 2000000 in
theorem own_long_nil (K A R n d E : Int) (pa qa : Addr) (cap vc : Nat) (l : List RunT) (v : List Int) (w : World) (hl0 : 300 < l.length) (hl1 : l.length ≤ cap) (hl2 : l.length ≤ 9223372036854775807) (hl : RunsIn w (some pa) l) (l9 : List RunT) (h9 : l9 = l.take 300) :
    Calls Tryz.prog 11 #[.agg #[.int .i64 K, .slice (some pa) l.length cap, .int .i64 A, .int .i64 R, .int .i64 n, .int .i64 d, .slice none 0 0, .int .i64 E]] w fun e w' => ∃ p' cap' q' vc', e = .returned (.agg #[.int .i64 K, .slice p' l9.length cap', .int .i64 A, .int .i64 R, .int .i64 n, .int .i64 d, .slice q' ([] : List Int).length vc', .int .i64 E]) ∧ Below w.heap.size w w' ∧ RunsIn w' p' l9 ∧ IntsIn w' q' ([] : List Int) ∧ ([] : List Int).length ≤ vc' ∧ TyP w' p' 51 ∧ TyP w' q' 2 := by
  have hl8 : RunsIn w (some pa) l9 := h9 ▸ hl.take 300
  have hl9 := Lib.hid (show l9.length = 300 by rw [h9, List.length_take]; omega)
  clear h9
  go_enter Tryz.func11, Tryz.ntmps11
  go_upto_region 1 with (fail)
  refine wp_facts (fun W' => Below w.heap.size w W' ∧ Blk W' w.heap.size #[.int .i64 K, .slice (some pa) l.length cap, .int .i64 A, .int .i64 R, .int .i64 n, .int .i64 d, .slice none 0 0, .int .i64 E] 27 ∧ Blk W' (w.heap.size + 1) #[.int .i64 0, .slice none 0 0, .int .i64 0, .int .i64 0, .int .i64 0, .int .i64 0, .slice none 0 0, .int .i64 0] 27) ⟨by exact belowAny, by exact blkAny, by exact blkAny⟩ ?_
  rintro W1 ⟨hW, b1, b2⟩
  have z2 := hW.size
  have z3 := b1.lt
  have z4 := b2.lt
  have k1 := b1.cell
  have f1 := b1.frozen
  have k2 := b2.cell
  have f2 := b2.frozen
  have hmk : ∀ W, (Instr.buildSlice 22 0 #[]).run Tryz.prog W = .ok (.slice (some ⟨W.heap.size, 0, none⟩) 0 0) (W.alloc (.cells #[] 51)) := fun W => by kernel_rfl
  obtain ⟨i, hi, hz0, hz1, hz2⟩ := info_parts Tryz.infoRun
  have hown0 := World.ownsRow_made (e := 51) (size := 3) (base := W1.heap.size) W1 #[] 0 (Nat.le_refl _) (by simp [maxLen]) (by simp)
  go_upto_region 2 with (at_builtin; refine wpList_append_own _ rfl (.tmp 3) (.tmp 10) 22 rfl W1.heap.size 51 i _ 3 24 (by kernel_rfl) hi hz0 hz1 hz2 rfl (by omega) _ 0 [] rfl hown0 pa 300 cap (flatCells l9) rfl (by rw [length_flatCells, hl9.out]) ((hl8.below (hW.trans ((Below.refl _ _).alloc (Nat.le_refl _) _ |>.mono hW.size)))).flat (fun v hv => by obtain ⟨x, rfl⟩ := flat_mem _ v hv; rfl) (by simp [maxLen] <;> omega) (by omega) (by simp) ?_)
  intro v' w' hown hgr _
  have hB := clone_below hgr
  obtain ⟨p9, cap9, rfl, hR9, hc9, hf9, hT9⟩ := own_runs (l := l9) hown (by rw [hl9.out])
  clear hown hgr hown0 hmk
  have hz9 := hB.size
  have b1 : Blk w' w.heap.size #[.int .i64 K, .slice (some pa) l.length cap, .int .i64 A, .int .i64 R, .int .i64 n, .int .i64 d, .slice none 0 0, .int .i64 E] 27 := blkAny
  have b2 : Blk w' (w.heap.size + 1) #[.int .i64 0, .slice none 0 0, .int .i64 0, .int .i64 0, .int .i64 0, .int .i64 0, .slice none 0 0, .int .i64 0] 27 := blkAny
  have hW : Below w.heap.size w w' := belowAny
  have k1 := b1.cell
  have f1 := b1.frozen
  have k2 := b2.cell
  have f2 := b2.frozen
  replace hR9 := Lib.hid hR9
  replace hf9 := Lib.hid hf9
  replace hT9 := Lib.hid hT9
  go_upto_region 2 with (fail)
  try clear k1 f1 k2 f2
  refine wp_facts (fun W' => Below w.heap.size w W' ∧ ∃ p' cap', Blk W' w.heap.size #[.int .i64 K, .slice p' l9.length cap', .int .i64 A, .int .i64 R, .int .i64 n, .int .i64 d, .slice none 0 0, .int .i64 E] 27 ∧ Blk W' (w.heap.size + 1) #[.int .i64 0, .slice none 0 0, .int .i64 0, .int .i64 0, .int .i64 0, .int .i64 0, .slice none 0 0, .int .i64 0] 27 ∧ RunsIn W' p' l9 ∧ (∀ a, p' = some a → w.heap.size + 1 < a.block) ∧ TyP W' p' 51) ⟨belowAny, p9, cap9, blkAny, blkAny, (by (repeat (refine RunsIn.set' ?_ (fun a h => by have := hf9.out a h; omega))); exact hR9.out), (fun a h => by have := hf9.out a h; omega), (by (repeat (refine TyP.setCell ?_ _ _)); exact hT9.out)⟩ ?_
  clear hW b1 b2
  rintro W5 ⟨hW, p', cap', b1, b2, hRp, hfp, hTp⟩
  replace hTp := Lib.hid hTp
  replace hRp := Lib.hid hRp
  replace hfp := Lib.hid hfp
  have z50 := hW.size
  have z51 := b1.lt
  have z52 := b2.lt
  have k1 := b1.cell
  have f1 := b1.frozen
  have k2 := b2.cell
  have f2 := b2.frozen
  try clear i hi hz0 hz1 hz2
  have hmk : ∀ W, (Instr.buildSlice 25 0 #[]).run Tryz.prog W = .ok (.slice (some ⟨W.heap.size, 0, none⟩) 0 0) (W.alloc (.cells #[] 2)) := fun W => by kernel_rfl
  obtain ⟨i, hi, hz0, hz1, hz2⟩ := info_parts Tryz.infoInt
  have hown0 := World.ownsRow_made (e := 2) (size := 1) (base := W5.heap.size) W5 #[] 0 (Nat.le_refl _) (by simp [maxLen]) (by simp)
  go_upto_region 3 with (at_builtin; refine wpList_append_own_none rfl (.tmp 13) (.tmp 20) 25 rfl W5.heap.size 2 i 1 (by kernel_rfl) hi _ 0 [] rfl hown0 rfl ?_)
  try clear k1 f1 k2 f2
  refine wp_facts (fun W' => Below w.heap.size w W' ∧ ∃ q' vc', Blk W' w.heap.size #[.int .i64 K, .slice p' l9.length cap', .int .i64 A, .int .i64 R, .int .i64 n, .int .i64 d, .slice q' ([] : List Int).length vc', .int .i64 E] 27 ∧ Blk W' (w.heap.size + 1) #[.int .i64 0, .slice none 0 0, .int .i64 0, .int .i64 0, .int .i64 0, .int .i64 0, .slice none 0 0, .int .i64 0] 27 ∧ RunsIn W' p' l9 ∧ ([] : List Int).length ≤ vc' ∧ IntsIn W' q' ([] : List Int) ∧ (∀ a, q' = some a → w.heap.size + 1 < a.block) ∧ TyP W' q' 2 ∧ TyP W' p' 51) ⟨belowAny, (some ⟨W5.heap.size, 0, none⟩), 0, blkAny, blkAny, (by (repeat (first | with_reducible (refine RunsIn.alloc ?_ _) | with_reducible (refine RunsIn.set' ?_ (fun a h => by have := hfp.out a h; omega)))); exact hRp.out), Nat.le_refl _, ⟨fun i r hr => by simp at hr⟩, (fun a h => by cases h; simp only []; omega), (by exact tyNew), (by (repeat (first | with_reducible (refine TyP.alloc ?_ _) | with_reducible (refine TyP.setCell ?_ _ _))); exact hTp.out)⟩ ?_
  clear hW b1 b2
  rintro W6 ⟨hW, q', vc', b1, b2, hRp', hvc', hRq, hfq, hTq, hTp'⟩
  replace hTq := Lib.hid hTq
  replace hTp' := Lib.hid hTp'
  replace hRp' := Lib.hid hRp'
  replace hRq := Lib.hid hRq
  replace hfq := Lib.hid hfq
  have y_1 := b1.lt
  have y_2 := b2.lt
  have k1 := b1.cell
  have f1 := b1.frozen
  have k2 := b2.cell
  have f2 := b2.frozen
  go_wp2
  refine bodyPost_ret (v := .agg #[.int .i64 K, .slice p' l9.length cap', .int .i64 A, .int .i64 R, .int .i64 n, .int .i64 d, .slice q' ([] : List Int).length vc', .int .i64 E]) (by simp [results, Tryz.results11, go_sem, k1, f1, k2, f2, y_1, y_2]) rfl ⟨p', cap', q', vc', rfl, belowAny, ?_, ?_, hvc', (by (repeat (refine TyP.setCell ?_ _ _)); exact hTp'.out), (by (repeat (refine TyP.setCell ?_ _ _)); exact hTq.out)⟩
  · repeat (refine RunsIn.set' ?_ (fun a h => by have := hfp.out a h; omega))
    exact hRp'.out
  · repeat (refine IntsIn.set' ?_ (fun a h => by have := hfq.out a h; omega))
    exact hRq.out

set_option maxRecDepth 100000 in
set_option maxHeartbeats 2000000 in
theorem own_long_short (K A R n d E : Int) (pa qa : Addr) (cap vc : Nat) (l : List RunT) (v : List Int) (w : World) (hl0 : 300 < l.length) (hl1 : l.length ≤ cap) (hl2 : l.length ≤ 9223372036854775807) (hv0 : v.length ≤ 300) (hv1 : v.length ≤ vc) (hl : RunsIn w (some pa) l) (hv : IntsIn w (some qa) v) (l9 : List RunT) (h9 : l9 = l.take 300) :
    Calls Tryz.prog 11 #[.agg #[.int .i64 K, .slice (some pa) l.length cap, .int .i64 A, .int .i64 R, .int .i64 n, .int .i64 d, .slice (some qa) v.length vc, .int .i64 E]] w fun e w' => ∃ p' cap' q' vc', e = .returned (.agg #[.int .i64 K, .slice p' l9.length cap', .int .i64 A, .int .i64 R, .int .i64 n, .int .i64 d, .slice q' v.length vc', .int .i64 E]) ∧ Below w.heap.size w w' ∧ RunsIn w' p' l9 ∧ IntsIn w' q' v ∧ v.length ≤ vc' ∧ TyP w' p' 51 ∧ TyP w' q' 2 := by
  have hl8 : RunsIn w (some pa) l9 := h9 ▸ hl.take 300
  have hl9 := Lib.hid (show l9.length = 300 by rw [h9, List.length_take]; omega)
  clear h9
  go_enter Tryz.func11, Tryz.ntmps11
  go_upto_region 1 with (fail)
  refine wp_facts (fun W' => Below w.heap.size w W' ∧ Blk W' w.heap.size #[.int .i64 K, .slice (some pa) l.length cap, .int .i64 A, .int .i64 R, .int .i64 n, .int .i64 d, .slice (some qa) v.length vc, .int .i64 E] 27 ∧ Blk W' (w.heap.size + 1) #[.int .i64 0, .slice none 0 0, .int .i64 0, .int .i64 0, .int .i64 0, .int .i64 0, .slice none 0 0, .int .i64 0] 27) ⟨by exact belowAny, by exact blkAny, by exact blkAny⟩ ?_
  rintro W1 ⟨hW, b1, b2⟩
  have z2 := hW.size
  have z3 := b1.lt
  have z4 := b2.lt
  have k1 := b1.cell
  have f1 := b1.frozen
  have k2 := b2.cell
  have f2 := b2.frozen
  have hmk : ∀ W, (Instr.buildSlice 22 0 #[]).run Tryz.prog W = .ok (.slice (some ⟨W.heap.size, 0, none⟩) 0 0) (W.alloc (.cells #[] 51)) := fun W => by kernel_rfl
  obtain ⟨i, hi, hz0, hz1, hz2⟩ := info_parts Tryz.infoRun
  have hown0 := World.ownsRow_made (e := 51) (size := 3) (base := W1.heap.size) W1 #[] 0 (Nat.le_refl _) (by simp [maxLen]) (by simp)
  go_upto_region 2 with (at_builtin; refine wpList_append_own _ rfl (.tmp 3) (.tmp 10) 22 rfl W1.heap.size 51 i _ 3 24 (by kernel_rfl) hi hz0 hz1 hz2 rfl (by omega) _ 0 [] rfl hown0 pa 300 cap (flatCells l9) rfl (by rw [length_flatCells, hl9.out]) ((hl8.below (hW.trans ((Below.refl _ _).alloc (Nat.le_refl _) _ |>.mono hW.size)))).flat (fun v hv => by obtain ⟨x, rfl⟩ := flat_mem _ v hv; rfl) (by simp [maxLen] <;> omega) (by omega) (by simp) ?_)
  intro v' w' hown hgr _
  have hB := clone_below hgr
  obtain ⟨p9, cap9, rfl, hR9, hc9, hf9, hT9⟩ := own_runs (l := l9) hown (by rw [hl9.out])
  clear hown hgr hown0 hmk
  have hz9 := hB.size
  have b1 : Blk w' w.heap.size #[.int .i64 K, .slice (some pa) l.length cap, .int .i64 A, .int .i64 R, .int .i64 n, .int .i64 d, .slice (some qa) v.length vc, .int .i64 E] 27 := blkAny
  have b2 : Blk w' (w.heap.size + 1) #[.int .i64 0, .slice none 0 0, .int .i64 0, .int .i64 0, .int .i64 0, .int .i64 0, .slice none 0 0, .int .i64 0] 27 := blkAny
  have hW : Below w.heap.size w w' := belowAny
  have k1 := b1.cell
  have f1 := b1.frozen
  have k2 := b2.cell
  have f2 := b2.frozen
  replace hR9 := Lib.hid hR9
  replace hf9 := Lib.hid hf9
  replace hT9 := Lib.hid hT9
  go_upto_region 2 with (fail)
  try clear k1 f1 k2 f2
  refine wp_facts (fun W' => Below w.heap.size w W' ∧ ∃ p' cap', Blk W' w.heap.size #[.int .i64 K, .slice p' l9.length cap', .int .i64 A, .int .i64 R, .int .i64 n, .int .i64 d, .slice (some qa) v.length vc, .int .i64 E] 27 ∧ Blk W' (w.heap.size + 1) #[.int .i64 0, .slice none 0 0, .int .i64 0, .int .i64 0, .int .i64 0, .int .i64 0, .slice none 0 0, .int .i64 0] 27 ∧ RunsIn W' p' l9 ∧ (∀ a, p' = some a → w.heap.size + 1 < a.block) ∧ TyP W' p' 51) ⟨belowAny, p9, cap9, blkAny, blkAny, (by (repeat (refine RunsIn.set' ?_ (fun a h => by have := hf9.out a h; omega))); exact hR9.out), (fun a h => by have := hf9.out a h; omega), (by (repeat (refine TyP.setCell ?_ _ _)); exact hT9.out)⟩ ?_
  clear hW b1 b2
  rintro W5 ⟨hW, p', cap', b1, b2, hRp, hfp, hTp⟩
  replace hTp := Lib.hid hTp
  replace hRp := Lib.hid hRp
  replace hfp := Lib.hid hfp
  have z50 := hW.size
  have z51 := b1.lt
  have z52 := b2.lt
  have k1 := b1.cell
  have f1 := b1.frozen
  have k2 := b2.cell
  have f2 := b2.frozen
  try clear i hi hz0 hz1 hz2
  have hmk : ∀ W, (Instr.buildSlice 25 0 #[]).run Tryz.prog W = .ok (.slice (some ⟨W.heap.size, 0, none⟩) 0 0) (W.alloc (.cells #[] 2)) := fun W => by kernel_rfl
  obtain ⟨i, hi, hz0, hz1, hz2⟩ := info_parts Tryz.infoInt
  have hown0 := World.ownsRow_made (e := 2) (size := 1) (base := W5.heap.size) W5 #[] 0 (Nat.le_refl _) (by simp [maxLen]) (by simp)
  go_upto_region 3 with (at_builtin; refine wpList_append_own _ rfl (.tmp 13) (.tmp 20) 25 rfl W5.heap.size 2 i _ 1 8 (by kernel_rfl) hi hz0 hz1 hz2 rfl (by omega) _ 0 [] rfl hown0 qa v.length vc (v.map (Value.int .i64)) rfl (by rw [List.length_map]; omega) (fun j u hu => ints_flat ((hv.below (hW.trans ((Below.refl _ _).alloc (Nat.le_refl _) _ |>.mono hW.size)))) j u hu) (fun v hv => by simp only [List.mem_map] at hv; obtain ⟨x, _, rfl⟩ := hv; rfl) (by simp [maxLen] <;> omega) (by omega) (by simp) ?_)
  intro v' w' hown hgr _
  have hB := clone_below hgr
  obtain ⟨p9, cap9, rfl, hR9, hc9, hf9, hT9⟩ := own_ints (l := v) hown (by simp)
  clear hown hgr hown0 hmk
  have hz9 := hB.size
  have b1 : Blk w' w.heap.size #[.int .i64 K, .slice p' l9.length cap', .int .i64 A, .int .i64 R, .int .i64 n, .int .i64 d, .slice (some qa) v.length vc, .int .i64 E] 27 := blkAny
  have b2 : Blk w' (w.heap.size + 1) #[.int .i64 0, .slice none 0 0, .int .i64 0, .int .i64 0, .int .i64 0, .int .i64 0, .slice none 0 0, .int .i64 0] 27 := blkAny
  have hW : Below w.heap.size w w' := belowAny
  have k1 := b1.cell
  have f1 := b1.frozen
  have k2 := b2.cell
  have f2 := b2.frozen
  replace hR9 := Lib.hid hR9
  replace hf9 := Lib.hid hf9
  replace hT9 := Lib.hid hT9
  go_upto_region 3 with (fail)
  try clear k1 f1 k2 f2
  refine wp_facts (fun W' => Below w.heap.size w W' ∧ ∃ q' vc', Blk W' w.heap.size #[.int .i64 K, .slice p' l9.length cap', .int .i64 A, .int .i64 R, .int .i64 n, .int .i64 d, .slice q' v.length vc', .int .i64 E] 27 ∧ Blk W' (w.heap.size + 1) #[.int .i64 0, .slice none 0 0, .int .i64 0, .int .i64 0, .int .i64 0, .int .i64 0, .slice none 0 0, .int .i64 0] 27 ∧ RunsIn W' p' l9 ∧ v.length ≤ vc' ∧ IntsIn W' q' v ∧ (∀ a, q' = some a → w.heap.size + 1 < a.block) ∧ TyP W' q' 2 ∧ TyP W' p' 51) ⟨belowAny, p9, cap9, blkAny, blkAny, (by (repeat (first | with_reducible (refine RunsIn.alloc ?_ _) | with_reducible (refine RunsIn.set' ?_ (fun a h => by have := hfp.out a h; omega)))); exact hRp.out.below hB), hc9, (by (repeat (refine IntsIn.set' ?_ (fun a h => by have := hf9.out a h; omega))); exact hR9.out), (fun a h => by have := hf9.out a h; omega), (by (repeat (refine TyP.setCell ?_ _ _)); exact hT9.out), (by (repeat (first | with_reducible (refine TyP.alloc ?_ _) | with_reducible (refine TyP.setCell ?_ _ _))); exact hTp.out.below hB)⟩ ?_
  clear hW b1 b2
  rintro W6 ⟨hW, q', vc', b1, b2, hRp', hvc', hRq, hfq, hTq, hTp'⟩
  replace hTq := Lib.hid hTq
  replace hTp' := Lib.hid hTp'
  replace hRp' := Lib.hid hRp'
  replace hRq := Lib.hid hRq
  replace hfq := Lib.hid hfq
  have y_1 := b1.lt
  have y_2 := b2.lt
  have k1 := b1.cell
  have f1 := b1.frozen
  have k2 := b2.cell
  have f2 := b2.frozen
  go_wp2
  refine bodyPost_ret (v := .agg #[.int .i64 K, .slice p' l9.length cap', .int .i64 A, .int .i64 R, .int .i64 n, .int .i64 d, .slice q' v.length vc', .int .i64 E]) (by simp [results, Tryz.results11, go_sem, k1, f1, k2, f2, y_1, y_2]) rfl ⟨p', cap', q', vc', rfl, belowAny, ?_, ?_, hvc', (by (repeat (refine TyP.setCell ?_ _ _)); exact hTp'.out), (by (repeat (refine TyP.setCell ?_ _ _)); exact hTq.out)⟩
  · repeat (refine RunsIn.set' ?_ (fun a h => by have := hfp.out a h; omega))
    exact hRp'.out
  · repeat (refine IntsIn.set' ?_ (fun a h => by have := hfq.out a h; omega))
    exact hRq.out

set_option maxRecDepth 100000 in
set_option maxHeartbeats 2000000 in
theorem own_long_long (K A R n d E : Int) (pa qa : Addr) (cap vc : Nat) (l : List RunT) (v : List Int) (w : World) (hl0 : 300 < l.length) (hl1 : l.length ≤ cap) (hl2 : l.length ≤ 9223372036854775807) (hv0 : 300 < v.length) (hv1 : v.length ≤ vc) (hv2 : v.length ≤ 9223372036854775807) (hl : RunsIn w (some pa) l) (hv : IntsIn w (some qa) v) (l9 : List RunT) (h9 : l9 = l.take 300) (v9 : List Int) (k9 : v9 = v.take 300) :
    Calls Tryz.prog 11 #[.agg #[.int .i64 K, .slice (some pa) l.length cap, .int .i64 A, .int .i64 R, .int .i64 n, .int .i64 d, .slice (some qa) v.length vc, .int .i64 E]] w fun e w' => ∃ p' cap' q' vc', e = .returned (.agg #[.int .i64 K, .slice p' l9.length cap', .int .i64 A, .int .i64 R, .int .i64 n, .int .i64 d, .slice q' v9.length vc', .int .i64 E]) ∧ Below w.heap.size w w' ∧ RunsIn w' p' l9 ∧ IntsIn w' q' v9 ∧ v9.length ≤ vc' ∧ TyP w' p' 51 ∧ TyP w' q' 2 := by
  have hl8 : RunsIn w (some pa) l9 := h9 ▸ hl.take 300
  have hl9 := Lib.hid (show l9.length = 300 by rw [h9, List.length_take]; omega)
  clear h9
  have hv8 : IntsIn w (some qa) v9 := k9 ▸ hv.take 300
  have hv9 := Lib.hid (show v9.length = 300 by rw [k9, List.length_take]; omega)
  clear k9
  go_enter Tryz.func11, Tryz.ntmps11
  go_upto_region 1 with (fail)
  refine wp_facts (fun W' => Below w.heap.size w W' ∧ Blk W' w.heap.size #[.int .i64 K, .slice (some pa) l.length cap, .int .i64 A, .int .i64 R, .int .i64 n, .int .i64 d, .slice (some qa) v.length vc, .int .i64 E] 27 ∧ Blk W' (w.heap.size + 1) #[.int .i64 0, .slice none 0 0, .int .i64 0, .int .i64 0, .int .i64 0, .int .i64 0, .slice none 0 0, .int .i64 0] 27) ⟨by exact belowAny, by exact blkAny, by exact blkAny⟩ ?_
  rintro W1 ⟨hW, b1, b2⟩
  have z2 := hW.size
  have z3 := b1.lt
  have z4 := b2.lt
  have k1 := b1.cell
  have f1 := b1.frozen
  have k2 := b2.cell
  have f2 := b2.frozen
  have hmk : ∀ W, (Instr.buildSlice 22 0 #[]).run Tryz.prog W = .ok (.slice (some ⟨W.heap.size, 0, none⟩) 0 0) (W.alloc (.cells #[] 51)) := fun W => by kernel_rfl
  obtain ⟨i, hi, hz0, hz1, hz2⟩ := info_parts Tryz.infoRun
  have hown0 := World.ownsRow_made (e := 51) (size := 3) (base := W1.heap.size) W1 #[] 0 (Nat.le_refl _) (by simp [maxLen]) (by simp)
  go_upto_region 2 with (at_builtin; refine wpList_append_own _ rfl (.tmp 3) (.tmp 10) 22 rfl W1.heap.size 51 i _ 3 24 (by kernel_rfl) hi hz0 hz1 hz2 rfl (by omega) _ 0 [] rfl hown0 pa 300 cap (flatCells l9) rfl (by rw [length_flatCells, hl9.out]) ((hl8.below (hW.trans ((Below.refl _ _).alloc (Nat.le_refl _) _ |>.mono hW.size)))).flat (fun v hv => by obtain ⟨x, rfl⟩ := flat_mem _ v hv; rfl) (by simp [maxLen] <;> omega) (by omega) (by simp) ?_)
  intro v' w' hown hgr _
  have hB := clone_below hgr
  obtain ⟨p9, cap9, rfl, hR9, hc9, hf9, hT9⟩ := own_runs (l := l9) hown (by rw [hl9.out])
  clear hown hgr hown0 hmk
  have hz9 := hB.size
  have b1 : Blk w' w.heap.size #[.int .i64 K, .slice (some pa) l.length cap, .int .i64 A, .int .i64 R, .int .i64 n, .int .i64 d, .slice (some qa) v.length vc, .int .i64 E] 27 := blkAny
  have b2 : Blk w' (w.heap.size + 1) #[.int .i64 0, .slice none 0 0, .int .i64 0, .int .i64 0, .int .i64 0, .int .i64 0, .slice none 0 0, .int .i64 0] 27 := blkAny
  have hW : Below w.heap.size w w' := belowAny
  have k1 := b1.cell
  have f1 := b1.frozen
  have k2 := b2.cell
  have f2 := b2.frozen
  replace hR9 := Lib.hid hR9
  replace hf9 := Lib.hid hf9
  replace hT9 := Lib.hid hT9
  go_upto_region 2 with (fail)
  try clear k1 f1 k2 f2
  refine wp_facts (fun W' => Below w.heap.size w W' ∧ ∃ p' cap', Blk W' w.heap.size #[.int .i64 K, .slice p' l9.length cap', .int .i64 A, .int .i64 R, .int .i64 n, .int .i64 d, .slice (some qa) v.length vc, .int .i64 E] 27 ∧ Blk W' (w.heap.size + 1) #[.int .i64 0, .slice none 0 0, .int .i64 0, .int .i64 0, .int .i64 0, .int .i64 0, .slice none 0 0, .int .i64 0] 27 ∧ RunsIn W' p' l9 ∧ (∀ a, p' = some a → w.heap.size + 1 < a.block) ∧ TyP W' p' 51) ⟨belowAny, p9, cap9, blkAny, blkAny, (by (repeat (refine RunsIn.set' ?_ (fun a h => by have := hf9.out a h; omega))); exact hR9.out), (fun a h => by have := hf9.out a h; omega), (by (repeat (refine TyP.setCell ?_ _ _)); exact hT9.out)⟩ ?_
  clear hW b1 b2
  rintro W5 ⟨hW, p', cap', b1, b2, hRp, hfp, hTp⟩
  replace hTp := Lib.hid hTp
  replace hRp := Lib.hid hRp
  replace hfp := Lib.hid hfp
  have z50 := hW.size
  have z51 := b1.lt
  have z52 := b2.lt
  have k1 := b1.cell
  have f1 := b1.frozen
  have k2 := b2.cell
  have f2 := b2.frozen
  try clear i hi hz0 hz1 hz2
  have hmk : ∀ W, (Instr.buildSlice 25 0 #[]).run Tryz.prog W = .ok (.slice (some ⟨W.heap.size, 0, none⟩) 0 0) (W.alloc (.cells #[] 2)) := fun W => by kernel_rfl
  obtain ⟨i, hi, hz0, hz1, hz2⟩ := info_parts Tryz.infoInt
  have hown0 := World.ownsRow_made (e := 2) (size := 1) (base := W5.heap.size) W5 #[] 0 (Nat.le_refl _) (by simp [maxLen]) (by simp)
  go_upto_region 3 with (at_builtin; refine wpList_append_own _ rfl (.tmp 13) (.tmp 20) 25 rfl W5.heap.size 2 i _ 1 8 (by kernel_rfl) hi hz0 hz1 hz2 rfl (by omega) _ 0 [] rfl hown0 qa 300 vc (v9.map (Value.int .i64)) rfl (by rw [List.length_map, hv9.out]) (fun j u hu => ints_flat ((hv8.below (hW.trans ((Below.refl _ _).alloc (Nat.le_refl _) _ |>.mono hW.size)))) j u hu) (fun v hv => by simp only [List.mem_map] at hv; obtain ⟨x, _, rfl⟩ := hv; rfl) (by simp [maxLen] <;> omega) (by omega) (by simp) ?_)
  intro v' w' hown hgr _
  have hB := clone_below hgr
  obtain ⟨p9, cap9, rfl, hR9, hc9, hf9, hT9⟩ := own_ints (l := v9) hown (by rw [hv9.out])
  clear hown hgr hown0 hmk
  have hz9 := hB.size
  have b1 : Blk w' w.heap.size #[.int .i64 K, .slice p' l9.length cap', .int .i64 A, .int .i64 R, .int .i64 n, .int .i64 d, .slice (some qa) v.length vc, .int .i64 E] 27 := blkAny
  have b2 : Blk w' (w.heap.size + 1) #[.int .i64 0, .slice none 0 0, .int .i64 0, .int .i64 0, .int .i64 0, .int .i64 0, .slice none 0 0, .int .i64 0] 27 := blkAny
  have hW : Below w.heap.size w w' := belowAny
  have k1 := b1.cell
  have f1 := b1.frozen
  have k2 := b2.cell
  have f2 := b2.frozen
  replace hR9 := Lib.hid hR9
  replace hf9 := Lib.hid hf9
  replace hT9 := Lib.hid hT9
  go_upto_region 3 with (fail)
  try clear k1 f1 k2 f2
  refine wp_facts (fun W' => Below w.heap.size w W' ∧ ∃ q' vc', Blk W' w.heap.size #[.int .i64 K, .slice p' l9.length cap', .int .i64 A, .int .i64 R, .int .i64 n, .int .i64 d, .slice q' v9.length vc', .int .i64 E] 27 ∧ Blk W' (w.heap.size + 1) #[.int .i64 0, .slice none 0 0, .int .i64 0, .int .i64 0, .int .i64 0, .int .i64 0, .slice none 0 0, .int .i64 0] 27 ∧ RunsIn W' p' l9 ∧ v9.length ≤ vc' ∧ IntsIn W' q' v9 ∧ (∀ a, q' = some a → w.heap.size + 1 < a.block) ∧ TyP W' q' 2 ∧ TyP W' p' 51) ⟨belowAny, p9, cap9, blkAny, blkAny, (by (repeat (first | with_reducible (refine RunsIn.alloc ?_ _) | with_reducible (refine RunsIn.set' ?_ (fun a h => by have := hfp.out a h; omega)))); exact hRp.out.below hB), hc9, (by (repeat (refine IntsIn.set' ?_ (fun a h => by have := hf9.out a h; omega))); exact hR9.out), (fun a h => by have := hf9.out a h; omega), (by (repeat (refine TyP.setCell ?_ _ _)); exact hT9.out), (by (repeat (first | with_reducible (refine TyP.alloc ?_ _) | with_reducible (refine TyP.setCell ?_ _ _))); exact hTp.out.below hB)⟩ ?_
  clear hW b1 b2
  rintro W6 ⟨hW, q', vc', b1, b2, hRp', hvc', hRq, hfq, hTq, hTp'⟩
  replace hTq := Lib.hid hTq
  replace hTp' := Lib.hid hTp'
  replace hRp' := Lib.hid hRp'
  replace hRq := Lib.hid hRq
  replace hfq := Lib.hid hfq
  have y_1 := b1.lt
  have y_2 := b2.lt
  have k1 := b1.cell
  have f1 := b1.frozen
  have k2 := b2.cell
  have f2 := b2.frozen
  go_wp2
  refine bodyPost_ret (v := .agg #[.int .i64 K, .slice p' l9.length cap', .int .i64 A, .int .i64 R, .int .i64 n, .int .i64 d, .slice q' v9.length vc', .int .i64 E]) (by simp [results, Tryz.results11, go_sem, k1, f1, k2, f2, y_1, y_2]) rfl ⟨p', cap', q', vc', rfl, belowAny, ?_, ?_, hvc', (by (repeat (refine TyP.setCell ?_ _ _)); exact hTp'.out), (by (repeat (refine TyP.setCell ?_ _ _)); exact hTq.out)⟩
  · repeat (refine RunsIn.set' ?_ (fun a h => by have := hfp.out a h; omega))
    exact hRp'.out
  · repeat (refine IntsIn.set' ?_ (fun a h => by have := hfq.out a h; omega))
    exact hRq.out

end Go.Proofs.YtgblmlefmohgnaaGreat
namespace Go.Proofs.YtgblmlefmohgnaaGreat
open Go.RowKit
/-- A segment as it came in. -/
structure Came (w : World) (s : SegT) (p q : Option Addr) (cap vc : Nat) : Prop where
  runs : RunsIn w p s.runs
  raw : IntsIn w q s.raw
  nilR : p = none → s.runs = [] ∧ cap = 0
  nilV : q = none → s.raw = [] ∧ vc = 0
  capR : s.runs.length ≤ cap
  capV : s.raw.length ≤ vc
  maxR : s.runs.length ≤ 9223372036854775807
  maxV : s.raw.length ≤ 9223372036854775807
def ownS (s : SegT) : SegT := ⟨s.K, s.runs.take 300, s.A, s.R, s.n, s.d, s.raw.take 300, s.E⟩
def OwnOut (s : SegT) (w : World) (e : Ending) (w' : World) : Prop := ∃ p' cap' q' vc', e = .returned (.agg (segA (ownS s) p' q' cap' vc')) ∧ Below w.heap.size w w' ∧ SegIn w' (ownS s) p' q' ∧ (ownS s).raw.length ≤ vc'
/-- The same, and of which types the rows' blocks are. -/
def OwnOutT (s : SegT) (w : World) (e : Ending) (w' : World) : Prop := ∃ p' cap' q' vc', e = .returned (.agg (segA (ownS s) p' q' cap' vc')) ∧ Below w.heap.size w w' ∧ SegIn w' (ownS s) p' q' ∧ (ownS s).raw.length ≤ vc' ∧ TyP w' p' 51 ∧ TyP w' q' 2
theorem own_out {s : SegT} {w : World} {l : List RunT} {v : List Int} {X : Value} (h1 : s.runs.take 300 = l) (h2 : s.raw.take 300 = v)
    (h : Calls Tryz.prog 11 #[X] w fun e w' => ∃ p' cap' q' vc', e = .returned (.agg #[.int .i64 s.K, .slice p' l.length cap', .int .i64 s.A, .int .i64 s.R, .int .i64 s.n, .int .i64 s.d, .slice q' v.length vc', .int .i64 s.E]) ∧ Below w.heap.size w w' ∧ RunsIn w' p' l ∧ IntsIn w' q' v ∧ v.length ≤ vc' ∧ TyP w' p' 51 ∧ TyP w' q' 2) :
    Calls Tryz.prog 11 #[X] w (OwnOutT s w) := by
  refine h.mono ?_
  rintro e w' ⟨p', cap', q', vc', rfl, hB, hR, hV, hc, hT1, hT2⟩
  refine ⟨p', cap', q', vc', ?_, hB, ⟨?_, ?_, ?_, ?_⟩, ?_, hT1, hT2⟩
  · unfold segA ownS; simp only [h1, h2]
  · show RunsIn w' p' (s.runs.take 300); rw [h1]; exact hR
  · show IntsIn w' q' (s.raw.take 300); rw [h2]; exact hV
  · show (s.runs.take 300).length ≤ 300; rw [List.length_take]; omega
  · show (s.raw.take 300).length ≤ 300; rw [List.length_take]; omega
  · show (s.raw.take 300).length ≤ vc'; rw [h2]; exact hc
theorem c_ownT (s : SegT) (p q : Option Addr) (cap vc : Nat) (w : World) (h : Came w s p q cap vc) :
    Calls Tryz.prog 11 #[.agg (segA s p q cap vc)] w (OwnOutT s w) := by
  have A0 : Addr := ⟨0, 0, none⟩
  unfold segA
  cases p with
  | none =>
    obtain ⟨e1, e2⟩ := h.nilR rfl
    cases q with
    | none =>
      obtain ⟨e3, e4⟩ := h.nilV rfl
      rw [e1, e2, e3, e4]
      exact own_out (by rw [e1]; rfl) (by rw [e3]; rfl) (own_nil_nil s.K s.A s.R s.n s.d s.E A0 A0 0 0 [] [] w)
    | some b =>
      rw [e1, e2]
      rcases Nat.lt_or_ge 300 s.raw.length with hv1 | hv1
      · exact own_out (by rw [e1]; rfl) rfl (own_nil_long s.K s.A s.R s.n s.d s.E A0 b 0 vc [] s.raw w hv1 h.capV h.maxV h.raw _ rfl)
      · exact own_out (by rw [e1]; rfl) (List.take_of_length_le hv1) (own_nil_short s.K s.A s.R s.n s.d s.E A0 b 0 vc [] s.raw w hv1 h.capV h.raw)
  | some a =>
    cases q with
    | none =>
      obtain ⟨e3, e4⟩ := h.nilV rfl
      rw [e3, e4]
      rcases Nat.lt_or_ge 300 s.runs.length with hr1 | hr1
      · exact own_out rfl (by rw [e3]; rfl) (own_long_nil s.K s.A s.R s.n s.d s.E a A0 cap 0 s.runs [] w hr1 h.capR h.maxR h.runs _ rfl)
      · exact own_out (List.take_of_length_le hr1) (by rw [e3]; rfl) (own_short_nil s.K s.A s.R s.n s.d s.E a A0 cap 0 s.runs [] w hr1 h.capR h.runs)
    | some b =>
      rcases Nat.lt_or_ge 300 s.runs.length with hr1 | hr1
      · rcases Nat.lt_or_ge 300 s.raw.length with hv1 | hv1
        · exact own_out rfl rfl (own_long_long s.K s.A s.R s.n s.d s.E a b cap vc s.runs s.raw w hr1 h.capR h.maxR hv1 h.capV h.maxV h.runs h.raw _ rfl _ rfl)
        · exact own_out rfl (List.take_of_length_le hv1) (own_long_short s.K s.A s.R s.n s.d s.E a b cap vc s.runs s.raw w hr1 h.capR h.maxR hv1 h.capV h.runs h.raw _ rfl)
      · rcases Nat.lt_or_ge 300 s.raw.length with hv1 | hv1
        · exact own_out (List.take_of_length_le hr1) rfl (own_short_long s.K s.A s.R s.n s.d s.E a b cap vc s.runs s.raw w hr1 h.capR hv1 h.capV h.maxV h.runs h.raw _ rfl)
        · exact own_out (List.take_of_length_le hr1) (List.take_of_length_le hv1) (own_short_short s.K s.A s.R s.n s.d s.E a b cap vc s.runs s.raw w hr1 h.capR hv1 h.capV h.runs h.raw)
theorem c_own (s : SegT) (p q : Option Addr) (cap vc : Nat) (w : World) (h : Came w s p q cap vc) :
    Calls Tryz.prog 11 #[.agg (segA s p q cap vc)] w (OwnOut s w) :=
  (c_ownT s p q cap vc w h).mono fun e w' ⟨p', c', q', v', e1, hB, hS, hc, _, _⟩ => ⟨p', c', q', v', e1, hB, hS, hc⟩
end Go.Proofs.YtgblmlefmohgnaaGreat
namespace Go.Proofs.YtgblmlefmohgnaaGreat
open Go.RowKit
structure SegP (w : World) (s : SegT) (p q : Option Addr) : Prop where
  seg : SegIn w s p q
theorem SegP.below {w w' : World} {s : SegT} {p q : Option Addr} (h : SegP w s p q) (hb : Below w.heap.size w w') : SegP w' s p q := ⟨h.seg.below hb⟩
theorem SegP.alloc {w : World} {s : SegT} {p q : Option Addr} (h : SegP w s p q) (o : Obj) : SegP (w.alloc o) s p q := h.below ((Below.refl _ _).alloc (Nat.le_refl _) o)
theorem SegP.rex {L : List Nat} {w w' : World} {s : SegT} {p q : Option Addr} (h : SegP w s p q) (hr : Rex L w w') (hL : L = []) : SegP w' s p q := by subst hL; exact h.below hr.below
theorem SegP.drew {w : World} {s : SegT} {p q : Option Addr} (h : SegP w s p q) : SegP w.drew s p q := ⟨⟨⟨h.seg.runs.at'⟩, ⟨h.seg.raw.at'⟩, h.seg.fewR, h.seg.fewV⟩⟩
theorem segPAny {w : World} {s : SegT} {p q : Option Addr} (h : SegP w s p q := by repeat (first | with_reducible assumption | with_reducible (refine SegP.alloc ?_ _) | with_reducible (refine SegP.below ?_ (by assumption)))) : SegP w s p q := h
theorem segNow {w : World} {s : SegT} {p q : Option Addr} (h : SegP w s p q := by repeat (first | with_reducible assumption | with_reducible (refine SegP.alloc ?_ _) | with_reducible (refine SegP.below ?_ (by assumption)))) : SegIn w s p q := h.seg
structure PtsP (w : World) (b o : Nat) (l : List (Int × Int)) : Prop where
  pts : PtsIn w (some ⟨b, o, none⟩) l
theorem PtsP.below {w w' : World} {b o : Nat} {l : List (Int × Int)} (h : PtsP w b o l) (hb : Below w.heap.size w w') : PtsP w' b o l := ⟨h.pts.below hb⟩
theorem PtsP.rex {L : List Nat} {w w' : World} {b o : Nat} {l : List (Int × Int)} (h : PtsP w b o l) (hr : Rex L w w') (hL : L = []) : PtsP w' b o l := by subst hL; exact h.below hr.below
theorem PtsP.drew {w : World} {b o : Nat} {l : List (Int × Int)} (h : PtsP w b o l) : PtsP w.drew b o l := ⟨⟨h.pts.at'⟩⟩
theorem PtsP.cellAt {w : World} {b o : Nat} {l : List (Int × Int)} (h : PtsP w b o l) {i : Nat} {x : Int × Int} (hx : l[i]? = some x) : w.cell? ⟨b, o + i * 2, none⟩ = some (.int .i64 x.1) ∧ w.cell? ⟨b, o + i * 2 + 1, none⟩ = some (.int .i64 x.2) := by
  obtain ⟨b', o', e, h1, h2⟩ := h.pts.at' i x hx
  cases e
  exact ⟨h1, h2⟩
end Go.Proofs.YtgblmlefmohgnaaGreat
namespace Go.Proofs.YtgblmlefmohgnaaGreat
open Go.RowKit
def rfaRel (w1 : World) (b o cl g2 cp2 : Nat) (P L : List (Int × Int)) (a' : Act) (W : World) : Prop :=
  Below w1.heap.size w1 W ∧ ∃ (i : Nat) (far : Int), (∃ u : Nat → Value, a' = { tmps := #[u 0, .slice (some ⟨b, o, none⟩) L.length cl, u 2, u 3, .int .i64 0, .bool false, .slice (some ⟨g2, 0, none⟩) L.length cp2, u 7, .int .i64 far, .int .i64 (i : Int), u 10, u 11, u 12, u 13, u 14, u 15, u 16, u 17, u 18, u 19, u 20, u 21, u 22, u 23, u 24, u 25, u 26, u 27, u 28, u 29, u 30, u 31, u 32, u 33, u 34, u 35, u 36, u 37, u 38, u 39, u 40, u 41, u 42, u 43, u 44, u 45, u 46, u 47, u 48, u 49, u 50, u 51, u 52, u 53, u 54, u 55, u 56, u 57, u 58, u 59, u 60, u 61, u 62, u 63, u 64, u 65, u 66], defers := [] }) ∧ i ≤ L.length ∧ far = farOf ((P.zip L).take i) ∧ (∀ (k : Nat) z, k < i → (P.zip L)[k]? = some z → okZ z = true) ∧ 0 ≤ far
theorem zip2_take {P L : List (Int × Int)} {i : Nat} {x y : Int × Int} (hx : P[i]? = some x) (hy : L[i]? = some y) : (P.zip L)[i]? = some (x, y) ∧ (P.zip L).take (i + 1) = (P.zip L).take i ++ [(x, y)] := by
  have h : (P.zip L)[i]? = some (x, y) := by rw [List.getElem?_zip_eq_some]; exact ⟨hx, hy⟩
  refine ⟨h, ?_⟩
  rw [List.take_add_one, h]; rfl
theorem not_okZ {Z : List ((Int × Int) × (Int × Int))} {i : Nat} {z : (Int × Int) × (Int × Int)} (h : Z[i]? = some z) (hb : okZ z = false) : Z.all okZ = false := by
  cases hh : Z.all okZ with
  | false => rfl
  | true => rw [List.all_eq_true.1 hh z (List.mem_of_getElem? h)] at hb; cases hb
/-- What the document tells of how far: of points of the same times. -/
def refFarV (P L : List (Int × Int)) : Int := if (P.zip L).all okZ then farOf (P.zip L) else 0
set_option maxRecDepth 100000 in
set_option maxHeartbeats 2000000 in
theorem reffar_len (K A R n d E : Int) (p q : Option Addr) (len cap m vc : Nat) (w : World) (P : List (Int × Int)) (lp : Option Addr) (ln cl : Nat) (hne : ¬ P.length = ln)
    (c1 : ∀ W, Below w.heap.size w W → Calls Tryz.prog 14 #[.agg #[.int .i64 K, .slice p len cap, .int .i64 A, .int .i64 R, .int .i64 n, .int .i64 d, .slice q m vc, .int .i64 E]] W fun e w' => ∃ g cp, e = .returned (.tuple #[.slice (some ⟨g, 0, none⟩) P.length cp, .bool true]) ∧ Below W.heap.size W w' ∧ PtsIn w' (some ⟨g, 0, none⟩) P) :
    Calls Tryz.prog 30 #[.agg #[.int .i64 K, .slice p len cap, .int .i64 A, .int .i64 R, .int .i64 n, .int .i64 d, .slice q m vc, .int .i64 E], .slice lp ln cl] w fun e w' => e = .returned (.tuple #[.int .i64 0, .bool false]) ∧ Below w.heap.size w w' := by
  have H_c1 := Lib.hid c1
  clear c1
  go_enter Tryz.func30, Tryz.ntmps30
  have c1 := H_c1.out
  go_wp2_with fail
  refine (c1 _ belowAny).mono ?_
  rintro e w1 ⟨g2, cp2, rfl, hb1, hP⟩
  clear c1
  have z2 := hb1.size
  try simp at z2
  have b1 : Blk w1 w.heap.size #[.int .i64 K, .slice p len cap, .int .i64 A, .int .i64 R, .int .i64 n, .int .i64 d, .slice q m vc, .int .i64 E] 27 := by exact blkAny2
  have hW : Below w.heap.size w w1 := by exact belowAny
  have z3 := b1.lt
  have k1 := b1.cell
  have f1 := b1.frozen
  go_wp2
  have y_1 := b1.lt
  refine bodyPost_ret (v := .tuple #[.int .i64 0, .bool false]) (by simp [results, Tryz.results30, go_sem, k1, f1, y_1]) rfl ⟨rfl, hW⟩
set_option maxRecDepth 100000 in
set_option maxHeartbeats 8000000 in
theorem reffar_w (K A R n d E : Int) (p q : Option Addr) (len cap m vc : Nat) (w : World) (P L : List (Int × Int)) (b o cl : Nat) (hPL : P.length = L.length) (h300 : L.length ≤ 1000) (hbP : ∀ x, x ∈ P → -2305844108725321728 ≤ x.2 ∧ x.2 ≤ 2305844108725321728) (hL0 : PtsIn w (some ⟨b, o, none⟩) L)
    (c1 : ∀ W, Below w.heap.size w W → Calls Tryz.prog 14 #[.agg #[.int .i64 K, .slice p len cap, .int .i64 A, .int .i64 R, .int .i64 n, .int .i64 d, .slice q m vc, .int .i64 E]] W fun e w' => ∃ g cp, e = .returned (.tuple #[.slice (some ⟨g, 0, none⟩) L.length cp, .bool true]) ∧ Below W.heap.size W w' ∧ PtsIn w' (some ⟨g, 0, none⟩) P) :
    Calls Tryz.prog 30 #[.agg #[.int .i64 K, .slice p len cap, .int .i64 A, .int .i64 R, .int .i64 n, .int .i64 d, .slice q m vc, .int .i64 E], .slice (some ⟨b, o, none⟩) L.length cl] w fun e w' => e = .returned (.tuple #[.int .i64 (refFarV P L), .bool ((P.zip L).all okZ)]) ∧ Below w.heap.size w w' := by
  replace hPL := Lib.hid hPL
  replace hbP := Lib.hid hbP
  have H_c1 := Lib.hid c1
  clear c1
  go_enter Tryz.func30, Tryz.ntmps30
  have c1 := H_c1.out
  go_wp2_with fail
  refine (c1 _ belowAny).mono ?_
  rintro e w1 ⟨g2, cp2, rfl, hb1, hP⟩
  clear c1
  have z2 := hb1.size
  try simp at z2
  have b1 : Blk w1 w.heap.size #[.int .i64 K, .slice p len cap, .int .i64 A, .int .i64 R, .int .i64 n, .int .i64 d, .slice q m vc, .int .i64 E] 27 := by exact blkAny2
  have hW : Below w.heap.size w w1 := by exact belowAny
  have z3 := b1.lt
  have k1 := b1.cell
  have f1 := b1.frozen
  have hP1 : PtsP w1 g2 0 P := ⟨hP⟩
  have hL1 : PtsP w1 b o L := ⟨hL0.below hW⟩
  have hWW := hW
  clear hP hL0
  go_wp2
  refine wp_loop (rfaRel w1 b o cl g2 cp2 P L) (fun a' _ => L.length - (intAt (a'.tmps.getD 9 undef)).toNat) ?_ ?_
  · unfold rfaRel
    exact ⟨Below.refl _ _, 0, 0, frame_ex rfl, by omega, by simp [farOf], fun k z hk => by omega, by omega⟩
  · clear b1 k1 f1
    rintro a' W ⟨hW0, i, far, ⟨u, rfl⟩, hi', hfar, hall, hf0⟩
    have hz := hW0.size
    have hP := hP1.below hW0
    have hL := hL1.below hW0
    replace hfar := Lib.hid hfar
    replace hall := Lib.hid hall
    rcases Nat.lt_or_ge i L.length with hlt | hge
    · obtain ⟨y, ty⟩ : ∃ y, L[i]? = some y := ⟨L[i]'(by omega), List.getElem?_eq_getElem (by omega)⟩
      obtain ⟨x, tx⟩ : ∃ x, P[i]? = some x := ⟨P[i]'(by have := hPL.out; omega), List.getElem?_eq_getElem (by have := hPL.out; omega)⟩
      have bx := hbP.out x (List.mem_of_getElem? tx)
      have hzz := zip2_take tx ty
      have hz1 := Lib.hid hzz.1
      have hz2 := Lib.hid hzz.2
      clear hzz
      replace tx := Lib.hid tx
      replace ty := Lib.hid ty
      have l1 := hlt
      have l2 : i < P.length := by have := hPL.out; omega
      go_upto_region 8 with (fail)
      refine wp_facts (fun W' => Below W.heap.size W W' ∧ PtsP W' g2 0 P ∧ PtsP W' b o L) ⟨by exact belowAny, by exact hP.below belowAny, by exact hL.below belowAny⟩ ?_
      rintro W21 ⟨hW, b1, b2⟩
      have z22 := hW.size
      refine wp_region_ndQ 20 67 [] (fun W' => Rex [] W21 W' ∧ PtsP W' g2 0 P ∧ PtsP W' b o L) mixed (by kernel_rfl) rfl ⟨(Rex.refl _ _).drew, b1.drew, b2.drew⟩ (fun w w' ⟨h0, h1, h2⟩ hr => ⟨h0.trans hr, h1.rex hr (by simp <;> omega), h2.rex hr (by simp <;> omega)⟩) rfl ?_
      iterate 12
        apply nd_det (hg := rfl) (hal := rfl)
        · intro a W' hC hE
          obtain ⟨_, k1, k2⟩ := hC
          obtain ⟨q0, q1⟩ := k1.cellAt tx.out; obtain ⟨q2, q3⟩ := k2.cellAt ty.out; simp only [Nat.zero_add] at q0 q1
          first
            | (simp [Oper.looksAt, Op.operands, Call.operands, envOf, Det] at hE; simp [go_sem, Act.eval, IntWalk.i64_left, hE, k1, k2, q0, q1, q2, q3, l1, l2]; try rfl)
            | (clear hE; simp [go_sem, Act.eval, IntWalk.i64_left, k1, k2, q0, q1, q2, q3, l1, l2]; try rfl)
      iterate 5
        apply nd_detg (p := true) (hg := rfl) (hd := rfl) (hal := rfl)
        · intro v W' h
          simp [envOf, Det] at h
          simp
          exact h
        · intro hp hx a W' hC hE
          obtain ⟨_, k1, k2⟩ := hC
          obtain ⟨q0, q1⟩ := k1.cellAt tx.out; obtain ⟨q2, q3⟩ := k2.cellAt ty.out; simp only [Nat.zero_add] at q0 q1
          simp [Oper.looksAt, Op.operands, Call.operands, envOf, Det, GDet, hx] at hE
          simp [go_sem, Act.eval, IntWalk.i64_left, hE, k1, k2, q0, q1, q2, q3, l1, l2]
          try rfl
      apply nd_callvg2 (p := true) (hg := rfl) (hd := rfl) (hal := rfl)
      · intro v W' h
        simp [envOf, Det] at h
        simp
        exact h
      · intro hp hx W' hC
        exact c_rback y.2 W'
      · intro hp hx a W' hC hE
        obtain ⟨_, k1, k2⟩ := hC
        obtain ⟨q0, q1⟩ := k1.cellAt tx.out; obtain ⟨q2, q3⟩ := k2.cellAt ty.out; simp only [Nat.zero_add] at q0 q1
        first
          | (simp [Oper.looksAt, Op.operands, Call.operands, envOf, Det, GDet, hx] at hE; simp [go_sem, Act.eval, IntWalk.i64_left, hE, k1, k2, q0, q1, q2, q3, l1, l2]; try rfl)
          | (clear hE; simp [go_sem, Act.eval, IntWalk.i64_left, k1, k2, q0, q1, q2, q3, l1, l2]; try rfl)
      iterate 1
        apply nd_detg (p := true) (hg := rfl) (hd := rfl) (hal := rfl)
        · intro v W' h
          simp [envOf, Det] at h
          simp
          exact h
        · intro hp hx a W' hC hE
          obtain ⟨_, k1, k2⟩ := hC
          obtain ⟨q0, q1⟩ := k1.cellAt tx.out; obtain ⟨q2, q3⟩ := k2.cellAt ty.out; simp only [Nat.zero_add] at q0 q1
          simp [Oper.looksAt, Op.operands, Call.operands, envOf, Det, GDet, hx] at hE
          simp [go_sem, Act.eval, IntWalk.i64_left, hE, k1, k2, q0, q1, q2, q3, l1, l2]
          try rfl
      apply nd_pick_or (ho := rfl) (hg := rfl)
      · intro v W' h
        simp [envOf, Det] at h
        exact h
      · intro v W' h hx
        simp [envOf, GDet, hx] at h
        exact h
      rintro W23 ⟨hR, d1, d2⟩
      simp only [ndFinR, Det, forall_eq]
      intros
      repeat (rename GDet _ _ _ _ => hgd; clear hgd)
      simp only [Act.put, List.setIfInBounds_toArray, List.set_cons_zero, List.set_cons_succ]
      refine wpList_nil ?_
      replace hW := hW.trans (hR.of_priv hW.size)
      clear hR
      try clear b1 b2
      have b1 := d1
      clear d1
      have b2 := d2
      clear d2
      obtain ⟨F, hF⟩ : ∃ F, (y.1 != x.1 || !isBack y.2) = F := ⟨_, rfl⟩
      rw [hF]
      cases F with
      | true =>
        have hno := Lib.hid (not_okZ hz1.out (show okZ (x, y) = false by
          unfold okZ
          simp only [Bool.or_eq_true, bne_iff_ne, Bool.not_eq_true'] at hF
          rcases hF with h | h
          · simp [h]
          · simp [h]))
        have hv0 := Lib.hid (show refFarV P L = 0 by unfold refFarV; rw [hno.out]; rfl)
        clear hF
        go_wp2
        refine bodyPost_ret (v := .tuple #[.int .i64 0, .bool false]) (by simp [results, Tryz.results30, go_sem]) rfl ⟨by rw [hno.out, hv0.out], hWW.trans ((hW0.trans (hW.mono hz)).mono hWW.size)⟩
      | false =>
        have hok := Lib.hid (show okZ (x, y) = true by
          unfold okZ
          simp only [Bool.or_eq_false_iff, bne_eq_false_iff_eq, Bool.not_eq_false'] at hF
          simp [hF.1, hF.2])
        have bY := isBack_iff.1 (show isBack y.2 = true by have := hok.out; unfold okZ at this; simp only [Bool.and_eq_true] at this; exact this.2)
        clear hF
        have E1 := Lib.hid (show wrap64 (y.2 - x.2) = y.2 - x.2 by rw [wrap64_eq]; omega)
        have hWc := hW0.trans (hW.mono hz)
        have yc := hWc.size
        clear hW
        go_upto_region 10 with (fail)
        refine wp_facts (fun W' => Below W23.heap.size W23 W' ∧ PtsP W' g2 0 P ∧ PtsP W' b o L) ⟨by exact belowAny, by exact b1.below belowAny, by exact b2.below belowAny⟩ ?_
        rintro W41 ⟨hW, b1, b2⟩
        have z42 := hW.size
        refine wp_region_ndQ 12 67 [] (fun W' => Rex [] W41 W' ∧ PtsP W' g2 0 P ∧ PtsP W' b o L) mixed (by kernel_rfl) rfl ⟨(Rex.refl _ _).drew, b1.drew, b2.drew⟩ (fun w w' ⟨h0, h1, h2⟩ hr => ⟨h0.trans hr, h1.rex hr (by simp <;> omega), h2.rex hr (by simp <;> omega)⟩) rfl ?_
        iterate 12
          apply nd_det (hg := rfl) (hal := rfl)
          · intro a W' hC hE
            obtain ⟨_, k1, k2⟩ := hC
            obtain ⟨q0, q1⟩ := k1.cellAt tx.out; obtain ⟨q2, q3⟩ := k2.cellAt ty.out; simp only [Nat.zero_add] at q0 q1
            first
              | (simp [Oper.looksAt, Op.operands, Call.operands, envOf, Det] at hE; simp [go_sem, Act.eval, IntWalk.i64_left, hE, k1, k2, q0, q1, q2, q3, l1, l2, E1.out]; try rfl)
              | (clear hE; simp [go_sem, Act.eval, IntWalk.i64_left, k1, k2, q0, q1, q2, q3, l1, l2, E1.out]; try rfl)
        rintro W43 ⟨hR, d1, d2⟩
        simp only [ndFinR, Det, forall_eq]
        intros
        repeat (rename GDet _ _ _ _ => hgd; clear hgd)
        simp only [Act.put, List.setIfInBounds_toArray, List.set_cons_zero, List.set_cons_succ]
        refine wpList_nil ?_
        replace hW := hW.trans (hR.of_priv hW.size)
        clear hR
        try clear b1 b2
        have b1 := d1
        clear d1
        have b2 := d2
        clear d2
        have hWd := hWc.trans (hW.mono yc)
        clear hW hWc
        obtain ⟨n9, hn⟩ : ∃ n9, y.2 - x.2 = n9 := ⟨_, rfl⟩
        rw [hn]
        have bn : -4611688217450643456 ≤ n9 ∧ n9 ≤ 4611688217450643456 := by omega
        have key : ∀ v, v = mx (mx far n9) (-n9) → v = farOf ((P.zip L).take (i + 1)) := fun v hv => by
          rw [hv, hz2.out, farOf_snoc, ← hfar.out, E1.out, hn, show wrap64 (x.2 - y.2) = -n9 by rw [wrap64_eq]; omega]
        replace key := Lib.hid key
        have hall' := Lib.hid (show ∀ (k : Nat) z, k < i + 1 → (P.zip L)[k]? = some z → okZ z = true from fun k z hk hz => by
          rcases Nat.lt_or_ge k i with h | h
          · exact hall.out k z h hz
          · obtain rfl : k = i := by omega
            rw [hz1.out] at hz
            injection hz with hz
            rw [← hz]; exact hok.out)
        clear hn E1
        have E2 : wrap64 (-n9) = -n9 := by rw [wrap64_eq]; omega
        by_cases h1 : n9 < 0
        · by_cases h2 : far < -n9
          · have hfar' := Lib.hid (key.out (-n9) (by obtain ⟨a1, a2, a3⟩ := mx_spec far n9; obtain ⟨a4, a5, a6⟩ := mx_spec (mx far n9) (-n9); omega))
            go_wp2
            rw [show (i : Int) + 1 = ((i + 1 : Nat) : Int) by omega]
            refine ⟨?_, by simp [intAt]; omega⟩
            unfold rfaRel
            exact ⟨hWd, i + 1, (-n9), frame_ex rfl, by omega, hfar'.out, hall'.out, by omega⟩
          · have hfar' := Lib.hid (key.out far (by obtain ⟨a1, a2, a3⟩ := mx_spec far n9; obtain ⟨a4, a5, a6⟩ := mx_spec (mx far n9) (-n9); omega))
            go_wp2
            rw [show (i : Int) + 1 = ((i + 1 : Nat) : Int) by omega]
            refine ⟨?_, by simp [intAt]; omega⟩
            unfold rfaRel
            exact ⟨hWd, i + 1, far, frame_ex rfl, by omega, hfar'.out, hall'.out, by omega⟩
        · by_cases h2 : far < n9
          · have hfar' := Lib.hid (key.out n9 (by obtain ⟨a1, a2, a3⟩ := mx_spec far n9; obtain ⟨a4, a5, a6⟩ := mx_spec (mx far n9) (-n9); omega))
            go_wp2
            rw [show (i : Int) + 1 = ((i + 1 : Nat) : Int) by omega]
            refine ⟨?_, by simp [intAt]; omega⟩
            unfold rfaRel
            exact ⟨hWd, i + 1, n9, frame_ex rfl, by omega, hfar'.out, hall'.out, by omega⟩
          · have hfar' := Lib.hid (key.out far (by obtain ⟨a1, a2, a3⟩ := mx_spec far n9; obtain ⟨a4, a5, a6⟩ := mx_spec (mx far n9) (-n9); omega))
            go_wp2
            rw [show (i : Int) + 1 = ((i + 1 : Nat) : Int) by omega]
            refine ⟨?_, by simp [intAt]; omega⟩
            unfold rfaRel
            exact ⟨hWd, i + 1, far, frame_ex rfl, by omega, hfar'.out, hall'.out, by omega⟩
    · obtain rfl : i = L.length := by omega
      have hlz := Lib.hid (show (P.zip L).length = L.length by rw [List.length_zip]; have := hPL.out; omega)
      have hal := Lib.hid (show (P.zip L).all okZ = true by
        rw [List.all_eq_true]
        intro z hzm
        obtain ⟨k, hk⟩ := List.getElem?_of_mem hzm
        exact hall.out k z (by have := (List.getElem?_eq_some_iff.1 hk).1; have := hlz.out; omega) hk)
      have hv := Lib.hid (show refFarV P L = far by unfold refFarV; rw [hal.out, if_pos rfl, hfar.out, List.take_of_length_le (by rw [hlz.out]; exact Nat.le_refl _)])
      go_wp2
      refine bodyPost_ret (v := .tuple #[.int .i64 far, .bool true]) (by simp [results, Tryz.results30, go_sem]) rfl ⟨by rw [hal.out, hv.out], hWW.trans (hW0.mono hWW.size)⟩
end Go.Proofs.YtgblmlefmohgnaaGreat
