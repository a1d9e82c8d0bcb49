/- Parts of the proof that follows: The laws of chapter 11: own. | The laws of chapter 11: own, told. | The laws of chapter 11, plainly: which places some times have. No condition. | Ranges over functions: all times of runs, one behind the other. No condition. | Ranges over functions: what comes is collected; the times of runs. No condition. | All times of runs, told. | All points of a segment, one behind the other. No condition. -/
import Derived.Laws.AppendOwnNone
import Derived.RangeFuncNested
import Derived.RangeFuncBound
import Derived.RangeFuncCalls
import Derived.RangeFuncLeaves
import Derived.RangeFuncBox
import Derived.Maps.AppendAt
import Derived.Shelf.Abstract
import Derived.Shelf.RegionOpen
import Derived.WalkKit
import Derived.OwnWalkIn
import Derived.TacticsInMore
import Derived.LoopNIn
import Derived.LoopIn
import Derived.Test.YtgblmlefmohgnaaGreatMakes8
set_option linter.unusedSimpArgs false
set_option linter.unusedVariables false
namespace Go.Proofs.YtgblmlefmohgnaaGreat
open Go.RowKit
/-- The block of a slice is one of a type. -/
def TyP (w : World) (p : Option Addr) (T : TypeId) : Prop := ∀ a, p = some a → ∃ cur fz, w.heap[a.block]? = some (.cells cur T fz)
theorem TyP.below {w w' : World} {p : Option Addr} {T : TypeId} (h : TyP w p T) (hb : Below w.heap.size w w') : TyP w' p T := fun a e => by
  obtain ⟨cur, fz, hh⟩ := h a e
  exact ⟨cur, fz, (hb.block a.block (Array.getElem?_eq_some_iff.1 hh).1).trans hh⟩
theorem TyP.alloc {w : World} {p : Option Addr} {T : TypeId} (h : TyP w p T) (o : Obj) : TyP (w.alloc o) p T := h.below ((Below.refl _ _).alloc (Nat.le_refl _) o)
theorem TyP.setCell {w : World} {p : Option Addr} {T : TypeId} (h : TyP w p T) (a : Addr) (v : Value) : TyP (w.setCell a v) p T := fun b e => by
  obtain ⟨cur, fz, hh⟩ := h b e
  by_cases hb : b.block = a.block
  · refine ⟨if a.spot.isSome then cur else cur.setIfInBounds a.off v, fz, ?_⟩
    simp only [World.setCell, Array.getElem?_modify]
    rw [if_pos hb.symm, hh]; rfl
  · exact ⟨cur, fz, (heap_setCell_other w a b.block v hb).trans hh⟩
theorem TyP.new {w : World} {cs : Array Value} {T : TypeId} {g : Nat} (h : w.heap.size = g) : TyP (w.alloc (.cells cs T)) (some ⟨g, 0, none⟩) T := fun a e => by
  subst h
  cases e
  exact ⟨cs, (0, 0), heap_alloc_new w _⟩
theorem tyNew {w : World} {p : Option Addr} {T : TypeId} (h : TyP w p T := by repeat (first | (exact TyP.new (by first | rfl | (simp; done))) | with_reducible (refine TyP.setCell ?_ _ _) | with_reducible (refine TyP.alloc ?_ _))) : TyP w p T := h
theorem RunsIn.take {w : World} {p : Option Addr} {l : List RunT} (h : RunsIn w p l) (k : Nat) : RunsIn w p (l.take k) := ⟨fun i r hr => h.at' i r (by
  rw [List.getElem?_take] at hr
  split at hr
  · exact hr
  · cases hr)⟩
theorem IntsIn.take {w : World} {p : Option Addr} {l : List Int} (h : IntsIn w p l) (k : Nat) : IntsIn w p (l.take k) := ⟨fun i r hr => h.at' i r (by
  rw [List.getElem?_take] at hr
  split at hr
  · exact hr
  · cases hr)⟩
theorem own_runs {w : World} {base n : Nat} {e : TypeId} {v : Value} {l : List RunT} (h : w.ownsRow base e 3 v n (flatCells l)) (hn : n = l.length) : ∃ p' cap', v = .slice p' l.length cap' ∧ RunsIn w p' l ∧ l.length ≤ cap' ∧ (∀ a, p' = some a → base ≤ a.block) ∧ TyP w p' e := by
  subst hn
  obtain ⟨_, h2 | ⟨g, cap', cur, rfl, hg, hb, hn, _, hc, ht⟩⟩ := h
  · obtain ⟨rfl, h0⟩ := h2
    exact ⟨none, 0, by rw [h0], ⟨fun i r hr => by rw [List.getElem?_eq_none_iff.2 (by omega)] at hr; cases hr⟩, by omega, (fun a h => by cases h), fun a h => by cases h⟩
  · exact ⟨some ⟨g, 0, none⟩, cap', rfl, cloneRun_in hb ht, hn, (fun a h => by cases h; exact hg), fun a h => by cases h; exact ⟨_, _, hb⟩⟩
theorem own_ints {w : World} {base n : Nat} {e : TypeId} {v : Value} {l : List Int} (h : w.ownsRow base e 1 v n (l.map (Value.int .i64))) (hn : n = l.length) : ∃ p' cap', v = .slice p' l.length cap' ∧ IntsIn w p' l ∧ l.length ≤ cap' ∧ (∀ a, p' = some a → base ≤ a.block) ∧ TyP w p' e := by
  subst hn
  obtain ⟨_, h2 | ⟨g, cap', cur, rfl, hg, hb, hn, _, hc, ht⟩⟩ := h
  · obtain ⟨rfl, h0⟩ := h2
    exact ⟨none, 0, by rw [h0], ⟨fun i r hr => by rw [List.getElem?_eq_none_iff.2 (by omega)] at hr; cases hr⟩, by omega, (fun a h => by cases h), fun a h => by cases h⟩
  · exact ⟨some ⟨g, 0, none⟩, cap', rfl, cloneInt_in hb ht, hn, (fun a h => by cases h; exact hg), fun a h => by cases h; exact ⟨_, _, hb⟩⟩
set_option maxRecDepth 100000 in
set_option maxHeartbeats 2000000 in
theorem own_nil_nil (K A R n d E : Int) (pa qa : Addr) (cap vc : Nat) (l : List RunT) (v : List Int) (w : World)  :
    Calls Tryz.prog 11 #[.agg #[.int .i64 K, .slice none 0 0, .int .i64 A, .int .i64 R, .int .i64 n, .int .i64 d, .slice none 0 0, .int .i64 E]] w fun e w' => ∃ p' cap' q' vc', e = .returned (.agg #[.int .i64 K, .slice p' ([] : List RunT).length cap', .int .i64 A, .int .i64 R, .int .i64 n, .int .i64 d, .slice q' ([] : List Int).length vc', .int .i64 E]) ∧ Below w.heap.size w w' ∧ RunsIn w' p' ([] : List RunT) ∧ IntsIn w' q' ([] : List Int) ∧ ([] : List Int).length ≤ vc' ∧ TyP w' p' 51 ∧ TyP w' q' 2 := by
  go_enter Tryz.func11, Tryz.ntmps11
  go_upto_region 1 with (fail)
  refine wp_facts (fun W' => Below w.heap.size w W' ∧ Blk W' w.heap.size #[.int .i64 K, .slice none 0 0, .int .i64 A, .int .i64 R, .int .i64 n, .int .i64 d, .slice none 0 0, .int .i64 E] 27 ∧ Blk W' (w.heap.size + 1) #[.int .i64 0, .slice none 0 0, .int .i64 0, .int .i64 0, .int .i64 0, .int .i64 0, .slice none 0 0, .int .i64 0] 27) ⟨by exact belowAny, by exact blkAny, by exact blkAny⟩ ?_
  rintro W1 ⟨hW, b1, b2⟩
  have z2 := hW.size
  have z3 := b1.lt
  have z4 := b2.lt
  have k1 := b1.cell
  have f1 := b1.frozen
  have k2 := b2.cell
  have f2 := b2.frozen
  have hmk : ∀ W, (Instr.buildSlice 22 0 #[]).run Tryz.prog W = .ok (.slice (some ⟨W.heap.size, 0, none⟩) 0 0) (W.alloc (.cells #[] 51)) := fun W => by kernel_rfl
  obtain ⟨i, hi, hz0, hz1, hz2⟩ := info_parts Tryz.infoRun
  have hown0 := World.ownsRow_made (e := 51) (size := 3) (base := W1.heap.size) W1 #[] 0 (Nat.le_refl _) (by simp [maxLen]) (by simp)
  go_upto_region 2 with (at_builtin; refine wpList_append_own_none rfl (.tmp 3) (.tmp 10) 22 rfl W1.heap.size 51 i 3 (by kernel_rfl) hi _ 0 [] rfl hown0 rfl ?_)
  try clear k1 f1 k2 f2
  refine wp_facts (fun W' => Below w.heap.size w W' ∧ ∃ p' cap', Blk W' w.heap.size #[.int .i64 K, .slice p' ([] : List RunT).length cap', .int .i64 A, .int .i64 R, .int .i64 n, .int .i64 d, .slice none 0 0, .int .i64 E] 27 ∧ Blk W' (w.heap.size + 1) #[.int .i64 0, .slice none 0 0, .int .i64 0, .int .i64 0, .int .i64 0, .int .i64 0, .slice none 0 0, .int .i64 0] 27 ∧ RunsIn W' p' ([] : List RunT) ∧ (∀ a, p' = some a → w.heap.size + 1 < a.block) ∧ TyP W' p' 51) ⟨belowAny, (some ⟨W1.heap.size, 0, none⟩), 0, blkAny, blkAny, ⟨fun i r hr => by simp at hr⟩, (fun a h => by cases h; simp only []; omega), (by exact tyNew)⟩ ?_
  clear hW b1 b2
  rintro W5 ⟨hW, p', cap', b1, b2, hRp, hfp, hTp⟩
  replace hTp := Lib.hid hTp
  replace hRp := Lib.hid hRp
  replace hfp := Lib.hid hfp
  have z50 := hW.size
  have z51 := b1.lt
  have z52 := b2.lt
  have k1 := b1.cell
  have f1 := b1.frozen
  have k2 := b2.cell
  have f2 := b2.frozen
  try clear i hi hz0 hz1 hz2
  have hmk : ∀ W, (Instr.buildSlice 25 0 #[]).run Tryz.prog W = .ok (.slice (some ⟨W.heap.size, 0, none⟩) 0 0) (W.alloc (.cells #[] 2)) := fun W => by kernel_rfl
  obtain ⟨i, hi, hz0, hz1, hz2⟩ := info_parts Tryz.infoInt
  have hown0 := World.ownsRow_made (e := 2) (size := 1) (base := W5.heap.size) W5 #[] 0 (Nat.le_refl _) (by simp [maxLen]) (by simp)
  go_upto_region 3 with (at_builtin; refine wpList_append_own_none rfl (.tmp 13) (.tmp 20) 25 rfl W5.heap.size 2 i 1 (by kernel_rfl) hi _ 0 [] rfl hown0 rfl ?_)
  try clear k1 f1 k2 f2
  refine wp_facts (fun W' => Below w.heap.size w W' ∧ ∃ q' vc', Blk W' w.heap.size #[.int .i64 K, .slice p' ([] : List RunT).length cap', .int .i64 A, .int .i64 R, .int .i64 n, .int .i64 d, .slice q' ([] : List Int).length vc', .int .i64 E] 27 ∧ Blk W' (w.heap.size + 1) #[.int .i64 0, .slice none 0 0, .int .i64 0, .int .i64 0, .int .i64 0, .int .i64 0, .slice none 0 0, .int .i64 0] 27 ∧ RunsIn W' p' ([] : List RunT) ∧ ([] : List Int).length ≤ vc' ∧ IntsIn W' q' ([] : List Int) ∧ (∀ a, q' = some a → w.heap.size + 1 < a.block) ∧ TyP W' q' 2 ∧ TyP W' p' 51) ⟨belowAny, (some ⟨W5.heap.size, 0, none⟩), 0, blkAny, blkAny, (by (repeat (first | with_reducible (refine RunsIn.alloc ?_ _) | with_reducible (refine RunsIn.set' ?_ (fun a h => by have := hfp.out a h; omega)))); exact hRp.out), Nat.le_refl _, ⟨fun i r hr => by simp at hr⟩, (fun a h => by cases h; simp only []; omega), (by exact tyNew), (by (repeat (first | with_reducible (refine TyP.alloc ?_ _) | with_reducible (refine TyP.setCell ?_ _ _))); exact hTp.out)⟩ ?_
  clear hW b1 b2
  rintro W6 ⟨hW, q', vc', b1, b2, hRp', hvc', hRq, hfq, hTq, hTp'⟩
  replace hTq := Lib.hid hTq
  replace hTp' := Lib.hid hTp'
  replace hRp' := Lib.hid hRp'
  replace hRq := Lib.hid hRq
  replace hfq := Lib.hid hfq
  have y_1 := b1.lt
  have y_2 := b2.lt
  have k1 := b1.cell
  have f1 := b1.frozen
  have k2 := b2.cell
  have f2 := b2.frozen
  go_wp2
  refine bodyPost_ret (v := .agg #[.int .i64 K, .slice p' ([] : List RunT).length cap', .int .i64 A, .int .i64 R, .int .i64 n, .int .i64 d, .slice q' ([] : List Int).length vc', .int .i64 E]) (by simp [results, Tryz.results11, go_sem, k1, f1, k2, f2, y_1, y_2]) rfl ⟨p', cap', q', vc', rfl, belowAny, ?_, ?_, hvc', (by (repeat (refine TyP.setCell ?_ _ _)); exact hTp'.out), (by (repeat (refine TyP.setCell ?_ _ _)); exact hTq.out)⟩
  · repeat (refine RunsIn.set' ?_ (fun a h => by have := hfp.out a h; omega))
    exact hRp'.out
  · repeat (refine IntsIn.set' ?_ (fun a h => by have := hfq.out a h; omega))
    exact hRq.out

set_option maxRecDepth 100000 in
set_option maxHeartbeats 2000000 in
theorem own_nil_short (K A R n d E : Int) (pa qa : Addr) (cap vc : Nat) (l : List RunT) (v : List Int) (w : World)  (hv0 : v.length ≤ 300) (hv1 : v.length ≤ vc) (hv : IntsIn w (some qa) v) :
    Calls Tryz.prog 11 #[.agg #[.int .i64 K, .slice none 0 0, .int .i64 A, .int .i64 R, .int .i64 n, .int .i64 d, .slice (some qa) v.length vc, .int .i64 E]] w fun e w' => ∃ p' cap' q' vc', e = .returned (.agg #[.int .i64 K, .slice p' ([] : List RunT).length cap', .int .i64 A, .int .i64 R, .int .i64 n, .int .i64 d, .slice q' v.length vc', .int .i64 E]) ∧ Below w.heap.size w w' ∧ RunsIn w' p' ([] : List RunT) ∧ IntsIn w' q' v ∧ v.length ≤ vc' ∧ TyP w' p' 51 ∧ TyP w' q' 2 := by
  go_enter Tryz.func11, Tryz.ntmps11
  go_upto_region 1 with (fail)
  refine wp_facts (fun W' => Below w.heap.size w W' ∧ Blk W' w.heap.size #[.int .i64 K, .slice none 0 0, .int .i64 A, .int .i64 R, .int .i64 n, .int .i64 d, .slice (some qa) v.length vc, .int .i64 E] 27 ∧ Blk W' (w.heap.size + 1) #[.int .i64 0, .slice none 0 0, .int .i64 0, .int .i64 0, .int .i64 0, .int .i64 0, .slice none 0 0, .int .i64 0] 27) ⟨by exact belowAny, by exact blkAny, by exact blkAny⟩ ?_
  rintro W1 ⟨hW, b1, b2⟩
  have z2 := hW.size
  have z3 := b1.lt
  have z4 := b2.lt
  have k1 := b1.cell
  have f1 := b1.frozen
  have k2 := b2.cell
  have f2 := b2.frozen
  have hmk : ∀ W, (Instr.buildSlice 22 0 #[]).run Tryz.prog W = .ok (.slice (some ⟨W.heap.size, 0, none⟩) 0 0) (W.alloc (.cells #[] 51)) := fun W => by kernel_rfl
  obtain ⟨i, hi, hz0, hz1, hz2⟩ := info_parts Tryz.infoRun
  have hown0 := World.ownsRow_made (e := 51) (size := 3) (base := W1.heap.size) W1 #[] 0 (Nat.le_refl _) (by simp [maxLen]) (by simp)
  go_upto_region 2 with (at_builtin; refine wpList_append_own_none rfl (.tmp 3) (.tmp 10) 22 rfl W1.heap.size 51 i 3 (by kernel_rfl) hi _ 0 [] rfl hown0 rfl ?_)
  try clear k1 f1 k2 f2
  refine wp_facts (fun W' => Below w.heap.size w W' ∧ ∃ p' cap', Blk W' w.heap.size #[.int .i64 K, .slice p' ([] : List RunT).length cap', .int .i64 A, .int .i64 R, .int .i64 n, .int .i64 d, .slice (some qa) v.length vc, .int .i64 E] 27 ∧ Blk W' (w.heap.size + 1) #[.int .i64 0, .slice none 0 0, .int .i64 0, .int .i64 0, .int .i64 0, .int .i64 0, .slice none 0 0, .int .i64 0] 27 ∧ RunsIn W' p' ([] : List RunT) ∧ (∀ a, p' = some a → w.heap.size + 1 < a.block) ∧ TyP W' p' 51) ⟨belowAny, (some ⟨W1.heap.size, 0, none⟩), 0, blkAny, blkAny, ⟨fun i r hr => by simp at hr⟩, (fun a h => by cases h; simp only []; omega), (by exact tyNew)⟩ ?_
  clear hW b1 b2
  rintro W5 ⟨hW, p', cap', b1, b2, hRp, hfp, hTp⟩
  replace hTp := Lib.hid hTp
  replace hRp := Lib.hid hRp
  replace hfp := Lib.hid hfp
  have z50 := hW.size
  have z51 := b1.lt
  have z52 := b2.lt
  have k1 := b1.cell
  have f1 := b1.frozen
  have k2 := b2.cell
  have f2 := b2.frozen
  try clear i hi hz0 hz1 hz2
  have hmk : ∀ W, (Instr.buildSlice 25 0 #[]).run Tryz.prog W = .ok (.slice (some ⟨W.heap.size, 0, none⟩) 0 0) (W.alloc (.cells #[] 2)) := fun W => by kernel_rfl
  obtain ⟨i, hi, hz0, hz1, hz2⟩ := info_parts Tryz.infoInt
  have hown0 := World.ownsRow_made (e := 2) (size := 1) (base := W5.heap.size) W5 #[] 0 (Nat.le_refl _) (by simp [maxLen]) (by simp)
  go_upto_region 3 with (at_builtin; refine wpList_append_own _ rfl (.tmp 13) (.tmp 20) 25 rfl W5.heap.size 2 i _ 1 8 (by kernel_rfl) hi hz0 hz1 hz2 rfl (by omega) _ 0 [] rfl hown0 qa v.length vc (v.map (Value.int .i64)) rfl (by rw [List.length_map]; omega) (fun j u hu => ints_flat ((hv.below (hW.trans ((Below.refl _ _).alloc (Nat.le_refl _) _ |>.mono hW.size)))) j u hu) (fun v hv => by simp only [List.mem_map] at hv; obtain ⟨x, _, rfl⟩ := hv; rfl) (by simp [maxLen] <;> omega) (by omega) (by simp) ?_)
  intro v' w' hown hgr _
  have hB := clone_below hgr
  obtain ⟨p9, cap9, rfl, hR9, hc9, hf9, hT9⟩ := own_ints (l := v) hown (by simp)
  clear hown hgr hown0 hmk
  have hz9 := hB.size
  have b1 : Blk w' w.heap.size #[.int .i64 K, .slice p' ([] : List RunT).length cap', .int .i64 A, .int .i64 R, .int .i64 n, .int .i64 d, .slice (some qa) v.length vc, .int .i64 E] 27 := blkAny
  have b2 : Blk w' (w.heap.size + 1) #[.int .i64 0, .slice none 0 0, .int .i64 0, .int .i64 0, .int .i64 0, .int .i64 0, .slice none 0 0, .int .i64 0] 27 := blkAny
  have hW : Below w.heap.size w w' := belowAny
  have k1 := b1.cell
  have f1 := b1.frozen
  have k2 := b2.cell
  have f2 := b2.frozen
  replace hR9 := Lib.hid hR9
  replace hf9 := Lib.hid hf9
  replace hT9 := Lib.hid hT9
  go_upto_region 3 with (fail)
  try clear k1 f1 k2 f2
  refine wp_facts (fun W' => Below w.heap.size w W' ∧ ∃ q' vc', Blk W' w.heap.size #[.int .i64 K, .slice p' ([] : List RunT).length cap', .int .i64 A, .int .i64 R, .int .i64 n, .int .i64 d, .slice q' v.length vc', .int .i64 E] 27 ∧ Blk W' (w.heap.size + 1) #[.int .i64 0, .slice none 0 0, .int .i64 0, .int .i64 0, .int .i64 0, .int .i64 0, .slice none 0 0, .int .i64 0] 27 ∧ RunsIn W' p' ([] : List RunT) ∧ v.length ≤ vc' ∧ IntsIn W' q' v ∧ (∀ a, q' = some a → w.heap.size + 1 < a.block) ∧ TyP W' q' 2 ∧ TyP W' p' 51) ⟨belowAny, p9, cap9, blkAny, blkAny, (by (repeat (first | with_reducible (refine RunsIn.alloc ?_ _) | with_reducible (refine RunsIn.set' ?_ (fun a h => by have := hfp.out a h; omega)))); exact hRp.out.below hB), hc9, (by (repeat (refine IntsIn.set' ?_ (fun a h => by have := hf9.out a h; omega))); exact hR9.out), (fun a h => by have := hf9.out a h; omega), (by (repeat (refine TyP.setCell ?_ _ _)); exact hT9.out), (by (repeat (first | with_reducible (refine TyP.alloc ?_ _) | with_reducible (refine TyP.setCell ?_ _ _))); exact hTp.out.below hB)⟩ ?_
  clear hW b1 b2
  rintro W6 ⟨hW, q', vc', b1, b2, hRp', hvc', hRq, hfq, hTq, hTp'⟩
  replace hTq := Lib.hid hTq
  replace hTp' := Lib.hid hTp'
  replace hRp' := Lib.hid hRp'
  replace hRq := Lib.hid hRq
  replace hfq := Lib.hid hfq
  have y_1 := b1.lt
  have y_2 := b2.lt
  have k1 := b1.cell
  have f1 := b1.frozen
  have k2 := b2.cell
  have f2 := b2.frozen
  go_wp2
  refine bodyPost_ret (v := .agg #[.int .i64 K, .slice p' ([] : List RunT).length cap', .int .i64 A, .int .i64 R, .int .i64 n, .int .i64 d, .slice q' v.length vc', .int .i64 E]) (by simp [results, Tryz.results11, go_sem, k1, f1, k2, f2, y_1, y_2]) rfl ⟨p', cap', q', vc', rfl, belowAny, ?_, ?_, hvc', (by (repeat (refine TyP.setCell ?_ _ _)); exact hTp'.out), (by (repeat (refine TyP.setCell ?_ _ _)); exact hTq.out)⟩
  · repeat (refine RunsIn.set' ?_ (fun a h => by have := hfp.out a h; omega))
    exact hRp'.out
  · repeat (refine IntsIn.set' ?_ (fun a h => by have := hfq.out a h; omega))
    exact hRq.out

set_option maxRecDepth 100000 in
set_option maxHeartbeats 2000000 in
theorem own_nil_long (K A R n d E : Int) (pa qa : Addr) (cap vc : Nat) (l : List RunT) (v : List Int) (w : World)  (hv0 : 300 < v.length) (hv1 : v.length ≤ vc) (hv2 : v.length ≤ 9223372036854775807) (hv : IntsIn w (some qa) v) (v9 : List Int) (k9 : v9 = v.take 300) :
    Calls Tryz.prog 11 #[.agg #[.int .i64 K, .slice none 0 0, .int .i64 A, .int .i64 R, .int .i64 n, .int .i64 d, .slice (some qa) v.length vc, .int .i64 E]] w fun e w' => ∃ p' cap' q' vc', e = .returned (.agg #[.int .i64 K, .slice p' ([] : List RunT).length cap', .int .i64 A, .int .i64 R, .int .i64 n, .int .i64 d, .slice q' v9.length vc', .int .i64 E]) ∧ Below w.heap.size w w' ∧ RunsIn w' p' ([] : List RunT) ∧ IntsIn w' q' v9 ∧ v9.length ≤ vc' ∧ TyP w' p' 51 ∧ TyP w' q' 2 := by
  have hv8 : IntsIn w (some qa) v9 := k9 ▸ hv.take 300
  have hv9 := Lib.hid (show v9.length = 300 by rw [k9, List.length_take]; omega)
  clear k9
  go_enter Tryz.func11, Tryz.ntmps11
  go_upto_region 1 with (fail)
  refine wp_facts (fun W' => Below w.heap.size w W' ∧ Blk W' w.heap.size #[.int .i64 K, .slice none 0 0, .int .i64 A, .int .i64 R, .int .i64 n, .int .i64 d, .slice (some qa) v.length vc, .int .i64 E] 27 ∧ Blk W' (w.heap.size + 1) #[.int .i64 0, .slice none 0 0, .int .i64 0, .int .i64 0, .int .i64 0, .int .i64 0, .slice none 0 0, .int .i64 0] 27) ⟨by exact belowAny, by exact blkAny, by exact blkAny⟩ ?_
  rintro W1 ⟨hW, b1, b2⟩
  have z2 := hW.size
  have z3 := b1.lt
  have z4 := b2.lt
  have k1 := b1.cell
  have f1 := b1.frozen
  have k2 := b2.cell
  have f2 := b2.frozen
  have hmk : ∀ W, (Instr.buildSlice 22 0 #[]).run Tryz.prog W = .ok (.slice (some ⟨W.heap.size, 0, none⟩) 0 0) (W.alloc (.cells #[] 51)) := fun W => by kernel_rfl
  obtain ⟨i, hi, hz0, hz1, hz2⟩ := info_parts Tryz.infoRun
  have hown0 := World.ownsRow_made (e := 51) (size := 3) (base := W1.heap.size) W1 #[] 0 (Nat.le_refl _) (by simp [maxLen]) (by simp)
  go_upto_region 2 with (at_builtin; refine wpList_append_own_none rfl (.tmp 3) (.tmp 10) 22 rfl W1.heap.size 51 i 3 (by kernel_rfl) hi _ 0 [] rfl hown0 rfl ?_)
  try clear k1 f1 k2 f2
  refine wp_facts (fun W' => Below w.heap.size w W' ∧ ∃ p' cap', Blk W' w.heap.size #[.int .i64 K, .slice p' ([] : List RunT).length cap', .int .i64 A, .int .i64 R, .int .i64 n, .int .i64 d, .slice (some qa) v.length vc, .int .i64 E] 27 ∧ Blk W' (w.heap.size + 1) #[.int .i64 0, .slice none 0 0, .int .i64 0, .int .i64 0, .int .i64 0, .int .i64 0, .slice none 0 0, .int .i64 0] 27 ∧ RunsIn W' p' ([] : List RunT) ∧ (∀ a, p' = some a → w.heap.size + 1 < a.block) ∧ TyP W' p' 51) ⟨belowAny, (some ⟨W1.heap.size, 0, none⟩), 0, blkAny, blkAny, ⟨fun i r hr => by simp at hr⟩, (fun a h => by cases h; simp only []; omega), (by exact tyNew)⟩ ?_
  clear hW b1 b2
  rintro W5 ⟨hW, p', cap', b1, b2, hRp, hfp, hTp⟩
  replace hTp := Lib.hid hTp
  replace hRp := Lib.hid hRp
  replace hfp := Lib.hid hfp
  have z50 := hW.size
  have z51 := b1.lt
  have z52 := b2.lt
  have k1 := b1.cell
  have f1 := b1.frozen
  have k2 := b2.cell
  have f2 := b2.frozen
  try clear i hi hz0 hz1 hz2
  have hmk : ∀ W, (Instr.buildSlice 25 0 #[]).run Tryz.prog W = .ok (.slice (some ⟨W.heap.size, 0, none⟩) 0 0) (W.alloc (.cells #[] 2)) := fun W => by kernel_rfl
  obtain ⟨i, hi, hz0, hz1, hz2⟩ := info_parts Tryz.infoInt
  have hown0 := World.ownsRow_made (e := 2) (size := 1) (base := W5.heap.size) W5 #[] 0 (Nat.le_refl _) (by simp [maxLen]) (by simp)
  go_upto_region 3 with (at_builtin; refine wpList_append_own _ rfl (.tmp 13) (.tmp 20) 25 rfl W5.heap.size 2 i _ 1 8 (by kernel_rfl) hi hz0 hz1 hz2 rfl (by omega) _ 0 [] rfl hown0 qa 300 vc (v9.map (Value.int .i64)) rfl (by rw [List.length_map, hv9.out]) (fun j u hu => ints_flat ((hv8.below (hW.trans ((Below.refl _ _).alloc (Nat.le_refl _) _ |>.mono hW.size)))) j u hu) (fun v hv => by simp only [List.mem_map] at hv; obtain ⟨x, _, rfl⟩ := hv; rfl) (by simp [maxLen] <;> omega) (by omega) (by simp) ?_)
  intro v' w' hown hgr _
  have hB := clone_below hgr
  obtain ⟨p9, cap9, rfl, hR9, hc9, hf9, hT9⟩ := own_ints (l := v9) hown (by rw [hv9.out])
  clear hown hgr hown0 hmk
  have hz9 := hB.size
  have b1 : Blk w' w.heap.size #[.int .i64 K, .slice p' ([] : List RunT).length cap', .int .i64 A, .int .i64 R, .int .i64 n, .int .i64 d, .slice (some qa) v.length vc, .int .i64 E] 27 := blkAny
  have b2 : Blk w' (w.heap.size + 1) #[.int .i64 0, .slice none 0 0, .int .i64 0, .int .i64 0, .int .i64 0, .int .i64 0, .slice none 0 0, .int .i64 0] 27 := blkAny
  have hW : Below w.heap.size w w' := belowAny
  have k1 := b1.cell
  have f1 := b1.frozen
  have k2 := b2.cell
  have f2 := b2.frozen
  replace hR9 := Lib.hid hR9
  replace hf9 := Lib.hid hf9
  replace hT9 := Lib.hid hT9
  go_upto_region 3 with (fail)
  try clear k1 f1 k2 f2
  refine wp_facts (fun W' => Below w.heap.size w W' ∧ ∃ q' vc', Blk W' w.heap.size #[.int .i64 K, .slice p' ([] : List RunT).length cap', .int .i64 A, .int .i64 R, .int .i64 n, .int .i64 d, .slice q' v9.length vc', .int .i64 E] 27 ∧ Blk W' (w.heap.size + 1) #[.int .i64 0, .slice none 0 0, .int .i64 0, .int .i64 0, .int .i64 0, .int .i64 0, .slice none 0 0, .int .i64 0] 27 ∧ RunsIn W' p' ([] : List RunT) ∧ v9.length ≤ vc' ∧ IntsIn W' q' v9 ∧ (∀ a, q' = some a → w.heap.size + 1 < a.block) ∧ TyP W' q' 2 ∧ TyP W' p' 51) ⟨belowAny, p9, cap9, blkAny, blkAny, (by (repeat (first | with_reducible (refine RunsIn.alloc ?_ _) | with_reducible (refine RunsIn.set' ?_ (fun a h => by have := hfp.out a h; omega)))); exact hRp.out.below hB), hc9, (by (repeat (refine IntsIn.set' ?_ (fun a h => by have := hf9.out a h; omega))); exact hR9.out), (fun a h => by have := hf9.out a h; omega), (by (repeat (refine TyP.setCell ?_ _ _)); exact hT9.out), (by (repeat (first | with_reducible (refine TyP.alloc ?_ _) | with_reducible (refine TyP.setCell ?_ _ _))); exact hTp.out.below hB)⟩ ?_
  clear hW b1 b2
  rintro W6 ⟨hW, q', vc', b1, b2, hRp', hvc', hRq, hfq, hTq, hTp'⟩
  replace hTq := Lib.hid hTq
  replace hTp' := Lib.hid hTp'
  replace hRp' := Lib.hid hRp'
  replace hRq := Lib.hid hRq
  replace hfq := Lib.hid hfq
  have y_1 := b1.lt
  have y_2 := b2.lt
  have k1 := b1.cell
  have f1 := b1.frozen
  have k2 := b2.cell
  have f2 := b2.frozen
  go_wp2
  refine bodyPost_ret (v := .agg #[.int .i64 K, .slice p' ([] : List RunT).length cap', .int .i64 A, .int .i64 R, .int .i64 n, .int .i64 d, .slice q' v9.length vc', .int .i64 E]) (by simp [results, Tryz.results11, go_sem, k1, f1, k2, f2, y_1, y_2]) rfl ⟨p', cap', q', vc', rfl, belowAny, ?_, ?_, hvc', (by (repeat (refine TyP.setCell ?_ _ _)); exact hTp'.out), (by (repeat (refine TyP.setCell ?_ _ _)); exact hTq.out)⟩
  · repeat (refine RunsIn.set' ?_ (fun a h => by have := hfp.out a h; omega))
    exact hRp'.out
  · repeat (refine IntsIn.set' ?_ (fun a h => by have := hfq.out a h; omega))
    exact hRq.out

set_option maxRecDepth 100000 in
set_option maxHeartbeats 2000000 in
theorem own_short_nil (K A R n d E : Int) (pa qa : Addr) (cap vc : Nat) (l : List RunT) (v : List Int) (w : World) (hl0 : l.length ≤ 300) (hl1 : l.length ≤ cap) (hl : RunsIn w (some pa) l) :
    Calls Tryz.prog 11 #[.agg #[.int .i64 K, .slice (some pa) l.length cap, .int .i64 A, .int .i64 R, .int .i64 n, .int .i64 d, .slice none 0 0, .int .i64 E]] w fun e w' => ∃ p' cap' q' vc', e = .returned (.agg #[.int .i64 K, .slice p' l.length cap', .int .i64 A, .int .i64 R, .int .i64 n, .int .i64 d, .slice q' ([] : List Int).length vc', .int .i64 E]) ∧ Below w.heap.size w w' ∧ RunsIn w' p' l ∧ IntsIn w' q' ([] : List Int) ∧ ([] : List Int).length ≤ vc' ∧ TyP w' p' 51 ∧ TyP w' q' 2 := by
  go_enter Tryz.func11, Tryz.ntmps11
  go_upto_region 1 with (fail)
  refine wp_facts (fun W' => Below w.heap.size w W' ∧ Blk W' w.heap.size #[.int .i64 K, .slice (some pa) l.length cap, .int .i64 A, .int .i64 R, .int .i64 n, .int .i64 d, .slice none 0 0, .int .i64 E] 27 ∧ Blk W' (w.heap.size + 1) #[.int .i64 0, .slice none 0 0, .int .i64 0, .int .i64 0, .int .i64 0, .int .i64 0, .slice none 0 0, .int .i64 0] 27) ⟨by exact belowAny, by exact blkAny, by exact blkAny⟩ ?_
  rintro W1 ⟨hW, b1, b2⟩
  have z2 := hW.size
  have z3 := b1.lt
  have z4 := b2.lt
  have k1 := b1.cell
  have f1 := b1.frozen
  have k2 := b2.cell
  have f2 := b2.frozen
  have hmk : ∀ W, (Instr.buildSlice 22 0 #[]).run Tryz.prog W = .ok (.slice (some ⟨W.heap.size, 0, none⟩) 0 0) (W.alloc (.cells #[] 51)) := fun W => by kernel_rfl
  obtain ⟨i, hi, hz0, hz1, hz2⟩ := info_parts Tryz.infoRun
  have hown0 := World.ownsRow_made (e := 51) (size := 3) (base := W1.heap.size) W1 #[] 0 (Nat.le_refl _) (by simp [maxLen]) (by simp)
  go_upto_region 2 with (at_builtin; refine wpList_append_own _ rfl (.tmp 3) (.tmp 10) 22 rfl W1.heap.size 51 i _ 3 24 (by kernel_rfl) hi hz0 hz1 hz2 rfl (by omega) _ 0 [] rfl hown0 pa l.length cap (flatCells l) rfl (by rw [length_flatCells]) ((hl.below (hW.trans ((Below.refl _ _).alloc (Nat.le_refl _) _ |>.mono hW.size)))).flat (fun v hv => by obtain ⟨x, rfl⟩ := flat_mem _ v hv; rfl) (by simp [maxLen] <;> omega) (by omega) (by simp) ?_)
  intro v' w' hown hgr _
  have hB := clone_below hgr
  obtain ⟨p9, cap9, rfl, hR9, hc9, hf9, hT9⟩ := own_runs (l := l) hown (by simp)
  clear hown hgr hown0 hmk
  have hz9 := hB.size
  have b1 : Blk w' w.heap.size #[.int .i64 K, .slice (some pa) l.length cap, .int .i64 A, .int .i64 R, .int .i64 n, .int .i64 d, .slice none 0 0, .int .i64 E] 27 := blkAny
  have b2 : Blk w' (w.heap.size + 1) #[.int .i64 0, .slice none 0 0, .int .i64 0, .int .i64 0, .int .i64 0, .int .i64 0, .slice none 0 0, .int .i64 0] 27 := blkAny
  have hW : Below w.heap.size w w' := belowAny
  have k1 := b1.cell
  have f1 := b1.frozen
  have k2 := b2.cell
  have f2 := b2.frozen
  replace hR9 := Lib.hid hR9
  replace hf9 := Lib.hid hf9
  replace hT9 := Lib.hid hT9
  go_upto_region 2 with (fail)
  try clear k1 f1 k2 f2
  refine wp_facts (fun W' => Below w.heap.size w W' ∧ ∃ p' cap', Blk W' w.heap.size #[.int .i64 K, .slice p' l.length cap', .int .i64 A, .int .i64 R, .int .i64 n, .int .i64 d, .slice none 0 0, .int .i64 E] 27 ∧ Blk W' (w.heap.size + 1) #[.int .i64 0, .slice none 0 0, .int .i64 0, .int .i64 0, .int .i64 0, .int .i64 0, .slice none 0 0, .int .i64 0] 27 ∧ RunsIn W' p' l ∧ (∀ a, p' = some a → w.heap.size + 1 < a.block) ∧ TyP W' p' 51) ⟨belowAny, p9, cap9, blkAny, blkAny, (by (repeat (refine RunsIn.set' ?_ (fun a h => by have := hf9.out a h; omega))); exact hR9.out), (fun a h => by have := hf9.out a h; omega), (by (repeat (refine TyP.setCell ?_ _ _)); exact hT9.out)⟩ ?_
  clear hW b1 b2
  rintro W5 ⟨hW, p', cap', b1, b2, hRp, hfp, hTp⟩
  replace hTp := Lib.hid hTp
  replace hRp := Lib.hid hRp
  replace hfp := Lib.hid hfp
  have z50 := hW.size
  have z51 := b1.lt
  have z52 := b2.lt
  have k1 := b1.cell
  have f1 := b1.frozen
  have k2 := b2.cell
  have f2 := b2.frozen
  try clear i hi hz0 hz1 hz2
  have hmk : ∀ W, (Instr.buildSlice 25 0 #[]).run Tryz.prog W = .ok (.slice (some ⟨W.heap.size, 0, none⟩) 0 0) (W.alloc (.cells #[] 2)) := fun W => by kernel_rfl
  obtain ⟨i, hi, hz0, hz1, hz2⟩ := info_parts Tryz.infoInt
  have hown0 := World.ownsRow_made (e := 2) (size := 1) (base := W5.heap.size) W5 #[] 0 (Nat.le_refl _) (by simp [maxLen]) (by simp)
  go_upto_region 3 with (at_builtin; refine wpList_append_own_none rfl (.tmp 13) (.tmp 20) 25 rfl W5.heap.size 2 i 1 (by kernel_rfl) hi _ 0 [] rfl hown0 rfl ?_)
  try clear k1 f1 k2 f2
  refine wp_facts (fun W' => Below w.heap.size w W' ∧ ∃ q' vc', Blk W' w.heap.size #[.int .i64 K, .slice p' l.length cap', .int .i64 A, .int .i64 R, .int .i64 n, .int .i64 d, .slice q' ([] : List Int).length vc', .int .i64 E] 27 ∧ Blk W' (w.heap.size + 1) #[.int .i64 0, .slice none 0 0, .int .i64 0, .int .i64 0, .int .i64 0, .int .i64 0, .slice none 0 0, .int .i64 0] 27 ∧ RunsIn W' p' l ∧ ([] : List Int).length ≤ vc' ∧ IntsIn W' q' ([] : List Int) ∧ (∀ a, q' = some a → w.heap.size + 1 < a.block) ∧ TyP W' q' 2 ∧ TyP W' p' 51) ⟨belowAny, (some ⟨W5.heap.size, 0, none⟩), 0, blkAny, blkAny, (by (repeat (first | with_reducible (refine RunsIn.alloc ?_ _) | with_reducible (refine RunsIn.set' ?_ (fun a h => by have := hfp.out a h; omega)))); exact hRp.out), Nat.le_refl _, ⟨fun i r hr => by simp at hr⟩, (fun a h => by cases h; simp only []; omega), (by exact tyNew), (by (repeat (first | with_reducible (refine TyP.alloc ?_ _) | with_reducible (refine TyP.setCell ?_ _ _))); exact hTp.out)⟩ ?_
  clear hW b1 b2
  rintro W6 ⟨hW, q', vc', b1, b2, hRp', hvc', hRq, hfq, hTq, hTp'⟩
  replace hTq := Lib.hid hTq
  replace hTp' := Lib.hid hTp'
  replace hRp' := Lib.hid hRp'
  replace hRq := Lib.hid hRq
  replace hfq := Lib.hid hfq
  have y_1 := b1.lt
  have y_2 := b2.lt
  have k1 := b1.cell
  have f1 := b1.frozen
  have k2 := b2.cell
  have f2 := b2.frozen
  go_wp2
  refine bodyPost_ret (v := .agg #[.int .i64 K, .slice p' l.length cap', .int .i64 A, .int .i64 R, .int .i64 n, .int .i64 d, .slice q' ([] : List Int).length vc', .int .i64 E]) (by simp [results, Tryz.results11, go_sem, k1, f1, k2, f2, y_1, y_2]) rfl ⟨p', cap', q', vc', rfl, belowAny, ?_, ?_, hvc', (by (repeat (refine TyP.setCell ?_ _ _)); exact hTp'.out), (by (repeat (refine TyP.setCell ?_ _ _)); exact hTq.out)⟩
  · repeat (refine RunsIn.set' ?_ (fun a h => by have := hfp.out a h; omega))
    exact hRp'.out
  · repeat (refine IntsIn.set' ?_ (fun a h => by have := hfq.out a h; omega))
    exact hRq.out

set_option maxRecDepth 100000 in
set_option maxHeartbeats 2000000 in
theorem own_short_short (K A R n d E : Int) (pa qa : Addr) (cap vc : Nat) (l : List RunT) (v : List Int) (w : World) (hl0 : l.length ≤ 300) (hl1 : l.length ≤ cap) (hv0 : v.length ≤ 300) (hv1 : v.length ≤ vc) (hl : RunsIn w (some pa) l) (hv : IntsIn w (some qa) v) :
    Calls Tryz.prog 11 #[.agg #[.int .i64 K, .slice (some pa) l.length cap, .int .i64 A, .int .i64 R, .int .i64 n, .int .i64 d, .slice (some qa) v.length vc, .int .i64 E]] w fun e w' => ∃ p' cap' q' vc', e = .returned (.agg #[.int .i64 K, .slice p' l.length cap', .int .i64 A, .int .i64 R, .int .i64 n, .int .i64 d, .slice q' v.length vc', .int .i64 E]) ∧ Below w.heap.size w w' ∧ RunsIn w' p' l ∧ IntsIn w' q' v ∧ v.length ≤ vc' ∧ TyP w' p' 51 ∧ TyP w' q' 2 := by
  go_enter Tryz.func11, Tryz.ntmps11
  go_upto_region 1 with (fail)
  refine wp_facts (fun W' => Below w.heap.size w W' ∧ Blk W' w.heap.size #[.int .i64 K, .slice (some pa) l.length cap, .int .i64 A, .int .i64 R, .int .i64 n, .int .i64 d, .slice (some qa) v.length vc, .int .i64 E] 27 ∧ Blk W' (w.heap.size + 1) #[.int .i64 0, .slice none 0 0, .int .i64 0, .int .i64 0, .int .i64 0, .int .i64 0, .slice none 0 0, .int .i64 0] 27) ⟨by exact belowAny, by exact blkAny, by exact blkAny⟩ ?_
  rintro W1 ⟨hW, b1, b2⟩
  have z2 := hW.size
  have z3 := b1.lt
  have z4 := b2.lt
  have k1 := b1.cell
  have f1 := b1.frozen
  have k2 := b2.cell
  have f2 := b2.frozen
  have hmk : ∀ W, (Instr.buildSlice 22 0 #[]).run Tryz.prog W = .ok (.slice (some ⟨W.heap.size, 0, none⟩) 0 0) (W.alloc (.cells #[] 51)) := fun W => by kernel_rfl
  obtain ⟨i, hi, hz0, hz1, hz2⟩ := info_parts Tryz.infoRun
  have hown0 := World.ownsRow_made (e := 51) (size := 3) (base := W1.heap.size) W1 #[] 0 (Nat.le_refl _) (by simp [maxLen]) (by simp)
  go_upto_region 2 with (at_builtin; refine wpList_append_own _ rfl (.tmp 3) (.tmp 10) 22 rfl W1.heap.size 51 i _ 3 24 (by kernel_rfl) hi hz0 hz1 hz2 rfl (by omega) _ 0 [] rfl hown0 pa l.length cap (flatCells l) rfl (by rw [length_flatCells]) ((hl.below (hW.trans ((Below.refl _ _).alloc (Nat.le_refl _) _ |>.mono hW.size)))).flat (fun v hv => by obtain ⟨x, rfl⟩ := flat_mem _ v hv; rfl) (by simp [maxLen] <;> omega) (by omega) (by simp) ?_)
  intro v' w' hown hgr _
  have hB := clone_below hgr
  obtain ⟨p9, cap9, rfl, hR9, hc9, hf9, hT9⟩ := own_runs (l := l) hown (by simp)
  clear hown hgr hown0 hmk
  have hz9 := hB.size
  have b1 : Blk w' w.heap.size #[.int .i64 K, .slice (some pa) l.length cap, .int .i64 A, .int .i64 R, .int .i64 n, .int .i64 d, .slice (some qa) v.length vc, .int .i64 E] 27 := blkAny
  have b2 : Blk w' (w.heap.size + 1) #[.int .i64 0, .slice none 0 0, .int .i64 0, .int .i64 0, .int .i64 0, .int .i64 0, .slice none 0 0, .int .i64 0] 27 := blkAny
  have hW : Below w.heap.size w w' := belowAny
  have k1 := b1.cell
  have f1 := b1.frozen
  have k2 := b2.cell
  have f2 := b2.frozen
  replace hR9 := Lib.hid hR9
  replace hf9 := Lib.hid hf9
  replace hT9 := Lib.hid hT9
  go_upto_region 2 with (fail)
  try clear k1 f1 k2 f2
  refine wp_facts (fun W' => Below w.heap.size w W' ∧ ∃ p' cap', Blk W' w.heap.size #[.int .i64 K, .slice p' l.length cap', .int .i64 A, .int .i64 R, .int .i64 n, .int .i64 d, .slice (some qa) v.length vc, .int .i64 E] 27 ∧ Blk W' (w.heap.size + 1) #[.int .i64 0, .slice none 0 0, .int .i64 0, .int .i64 0, .int .i64 0, .int .i64 0, .slice none 0 0, .int .i64 0] 27 ∧ RunsIn W' p' l ∧ (∀ a, p' = some a → w.heap.size + 1 < a.block) ∧ TyP W' p' 51) ⟨belowAny, p9, cap9, blkAny, blkAny, (by (repeat (refine RunsIn.set' ?_ (fun a h => by have := hf9.out a h; omega))); exact hR9.out), (fun a h => by have := hf9.out a h; omega), (by (repeat (refine TyP.setCell ?_ _ _)); exact hT9.out)⟩ ?_
  clear hW b1 b2
  rintro W5 ⟨hW, p', cap', b1, b2, hRp, hfp, hTp⟩
  replace hTp := Lib.hid hTp
  replace hRp := Lib.hid hRp
  replace hfp := Lib.hid hfp
  have z50 := hW.size
  have z51 := b1.lt
  have z52 := b2.lt
  have k1 := b1.cell
  have f1 := b1.frozen
  have k2 := b2.cell
  have f2 := b2.frozen
  try clear i hi hz0 hz1 hz2
  have hmk : ∀ W, (Instr.buildSlice 25 0 #[]).run Tryz.prog W = .ok (.slice (some ⟨W.heap.size, 0, none⟩) 0 0) (W.alloc (.cells #[] 2)) := fun W => by kernel_rfl
  obtain ⟨i, hi, hz0, hz1, hz2⟩ := info_parts Tryz.infoInt
  have hown0 := World.ownsRow_made (e := 2) (size := 1) (base := W5.heap.size) W5 #[] 0 (Nat.le_refl _) (by simp [maxLen]) (by simp)
  go_upto_region 3 with (at_builtin; refine wpList_append_own _ rfl (.tmp 13) (.tmp 20) 25 rfl W5.heap.size 2 i _ 1 8 (by kernel_rfl) hi hz0 hz1 hz2 rfl (by omega) _ 0 [] rfl hown0 qa v.length vc (v.map (Value.int .i64)) rfl (by rw [List.length_map]; omega) (fun j u hu => ints_flat ((hv.below (hW.trans ((Below.refl _ _).alloc (Nat.le_refl _) _ |>.mono hW.size)))) j u hu) (fun v hv => by simp only [List.mem_map] at hv; obtain ⟨x, _, rfl⟩ := hv; rfl) (by simp [maxLen] <;> omega) (by omega) (by simp) ?_)
  intro v' w' hown hgr _
  have hB := clone_below hgr
  obtain ⟨p9, cap9, rfl, hR9, hc9, hf9, hT9⟩ := own_ints (l := v) hown (by simp)
  clear hown hgr hown0 hmk
  have hz9 := hB.size
  have b1 : Blk w' w.heap.size #[.int .i64 K, .slice p' l.length cap', .int .i64 A, .int .i64 R, .int .i64 n, .int .i64 d, .slice (some qa) v.length vc, .int .i64 E] 27 := blkAny
  have b2 : Blk w' (w.heap.size + 1) #[.int .i64 0, .slice none 0 0, .int .i64 0, .int .i64 0, .int .i64 0, .int .i64 0, .slice none 0 0, .int .i64 0] 27 := blkAny
  have hW : Below w.heap.size w w' := belowAny
  have k1 := b1.cell
  have f1 := b1.frozen
  have k2 := b2.cell
  have f2 := b2.frozen
  replace hR9 := Lib.hid hR9
  replace hf9 := Lib.hid hf9
  replace hT9 := Lib.hid hT9
  go_upto_region 3 with (fail)
  try clear k1 f1 k2 f2
  refine wp_facts (fun W' => Below w.heap.size w W' ∧ ∃ q' vc', Blk W' w.heap.size #[.int .i64 K, .slice p' l.length cap', .int .i64 A, .int .i64 R, .int .i64 n, .int .i64 d, .slice q' v.length vc', .int .i64 E] 27 ∧ Blk W' (w.heap.size + 1) #[.int .i64 0, .slice none 0 0, .int .i64 0, .int .i64 0, .int .i64 0, .int .i64 0, .slice none 0 0, .int .i64 0] 27 ∧ RunsIn W' p' l ∧ v.length ≤ vc' ∧ IntsIn W' q' v ∧ (∀ a, q' = some a → w.heap.size + 1 < a.block) ∧ TyP W' q' 2 ∧ TyP W' p' 51) ⟨belowAny, p9, cap9, blkAny, blkAny, (by (repeat (first | with_reducible (refine RunsIn.alloc ?_ _) | with_reducible (refine RunsIn.set' ?_ (fun a h => by have := hfp.out a h; omega)))); exact hRp.out.below hB), hc9, (by (repeat (refine IntsIn.set' ?_ (fun a h => by have := hf9.out a h; omega))); exact hR9.out), (fun a h => by have := hf9.out a h; omega), (by (repeat (refine TyP.setCell ?_ _ _)); exact hT9.out), (by (repeat (first | with_reducible (refine TyP.alloc ?_ _) | with_reducible (refine TyP.setCell ?_ _ _))); exact hTp.out.below hB)⟩ ?_
  clear hW b1 b2
  rintro W6 ⟨hW, q', vc', b1, b2, hRp', hvc', hRq, hfq, hTq, hTp'⟩
  replace hTq := Lib.hid hTq
  replace hTp' := Lib.hid hTp'
  replace hRp' := Lib.hid hRp'
  replace hRq := Lib.hid hRq
  replace hfq := Lib.hid hfq
  have y_1 := b1.lt
  have y_2 := b2.lt
  have k1 := b1.cell
  have f1 := b1.frozen
  have k2 := b2.cell
  have f2 := b2.frozen
  go_wp2
  refine bodyPost_ret (v := .agg #[.int .i64 K, .slice p' l.length cap', .int .i64 A, .int .i64 R, .int .i64 n, .int .i64 d, .slice q' v.length vc', .int .i64 E]) (by simp [results, Tryz.results11, go_sem, k1, f1, k2, f2, y_1, y_2]) rfl ⟨p', cap', q', vc', rfl, belowAny, ?_, ?_, hvc', (by (repeat (refine TyP.setCell ?_ _ _)); exact hTp'.out), (by (repeat (refine TyP.setCell ?_ _ _)); exact hTq.out)⟩
  · repeat (refine RunsIn.set' ?_ (fun a h => by have := hfp.out a h; omega))
    exact hRp'.out
  · repeat (refine IntsIn.set' ?_ (fun a h => by have := hfq.out a h; omega))
    exact hRq.out

set_option maxRecDepth 100000 in
set_option maxHeartbeats 2000000 in
theorem own_short_long (K A R n d E : Int) (pa qa : Addr) (cap vc : Nat) (l : List RunT) (v : List Int) (w : World) (hl0 : l.length ≤ 300) (hl1 : l.length ≤ cap) (hv0 : 300 < v.length) (hv1 : v.length ≤ vc) (hv2 : v.length ≤ 9223372036854775807) (hl : RunsIn w (some pa) l) (hv : IntsIn w (some qa) v) (v9 : List Int) (k9 : v9 = v.take 300) :
    Calls Tryz.prog 11 #[.agg #[.int .i64 K, .slice (some pa) l.length cap, .int .i64 A, .int .i64 R, .int .i64 n, .int .i64 d, .slice (some qa) v.length vc, .int .i64 E]] w fun e w' => ∃ p' cap' q' vc', e = .returned (.agg #[.int .i64 K, .slice p' l.length cap', .int .i64 A, .int .i64 R, .int .i64 n, .int .i64 d, .slice q' v9.length vc', .int .i64 E]) ∧ Below w.heap.size w w' ∧ RunsIn w' p' l ∧ IntsIn w' q' v9 ∧ v9.length ≤ vc' ∧ TyP w' p' 51 ∧ TyP w' q' 2 := by
  have hv8 : IntsIn w (some qa) v9 := k9 ▸ hv.take 300
  have hv9 := Lib.hid (show v9.length = 300 by rw [k9, List.length_take]; omega)
  clear k9
  go_enter Tryz.func11, Tryz.ntmps11
  go_upto_region 1 with (fail)
  refine wp_facts (fun W' => Below w.heap.size w W' ∧ Blk W' w.heap.size #[.int .i64 K, .slice (some pa) l.length cap, .int .i64 A, .int .i64 R, .int .i64 n, .int .i64 d, .slice (some qa) v.length vc, .int .i64 E] 27 ∧ Blk W' (w.heap.size + 1) #[.int .i64 0, .slice none 0 0, .int .i64 0, .int .i64 0, .int .i64 0, .int .i64 0, .slice none 0 0, .int .i64 0] 27) ⟨by exact belowAny, by exact blkAny, by exact blkAny⟩ ?_
  rintro W1 ⟨hW, b1, b2⟩
  have z2 := hW.size
  have z3 := b1.lt
  have z4 := b2.lt
  have k1 := b1.cell
  have f1 := b1.frozen
  have k2 := b2.cell
  have f2 := b2.frozen
  have hmk : ∀ W, (Instr.buildSlice 22 0 #[]).run Tryz.prog W = .ok (.slice (some ⟨W.heap.size, 0, none⟩) 0 0) (W.alloc (.cells #[] 51)) := fun W => by kernel_rfl
  obtain ⟨i, hi, hz0, hz1, hz2⟩ := info_parts Tryz.infoRun
  have hown0 := World.ownsRow_made (e := 51) (size := 3) (base := W1.heap.size) W1 #[] 0 (Nat.le_refl _) (by simp [maxLen]) (by simp)
  go_upto_region 2 with (at_builtin; refine wpList_append_own _ rfl (.tmp 3) (.tmp 10) 22 rfl W1.heap.size 51 i _ 3 24 (by kernel_rfl) hi hz0 hz1 hz2 rfl (by omega) _ 0 [] rfl hown0 pa l.length cap (flatCells l) rfl (by rw [length_flatCells]) ((hl.below (hW.trans ((Below.refl _ _).alloc (Nat.le_refl _) _ |>.mono hW.size)))).flat (fun v hv => by obtain ⟨x, rfl⟩ := flat_mem _ v hv; rfl) (by simp [maxLen] <;> omega) (by omega) (by simp) ?_)
  intro v' w' hown hgr _
  have hB := clone_below hgr
  obtain ⟨p9, cap9, rfl, hR9, hc9, hf9, hT9⟩ := own_runs (l := l) hown (by simp)
  clear hown hgr hown0 hmk
  have hz9 := hB.size
  have b1 : Blk w' w.heap.size #[.int .i64 K, .slice (some pa) l.length cap, .int .i64 A, .int .i64 R, .int .i64 n, .int .i64 d, .slice (some qa) v.length vc, .int .i64 E] 27 := blkAny
  have b2 : Blk w' (w.heap.size + 1) #[.int .i64 0, .slice none 0 0, .int .i64 0, .int .i64 0, .int .i64 0, .int .i64 0, .slice none 0 0, .int .i64 0] 27 := blkAny
  have hW : Below w.heap.size w w' := belowAny
  have k1 := b1.cell
  have f1 := b1.frozen
  have k2 := b2.cell
  have f2 := b2.frozen
  replace hR9 := Lib.hid hR9
  replace hf9 := Lib.hid hf9
  replace hT9 := Lib.hid hT9
  go_upto_region 2 with (fail)
  try clear k1 f1 k2 f2
  refine wp_facts (fun W' => Below w.heap.size w W' ∧ ∃ p' cap', Blk W' w.heap.size #[.int .i64 K, .slice p' l.length cap', .int .i64 A, .int .i64 R, .int .i64 n, .int .i64 d, .slice (some qa) v.length vc, .int .i64 E] 27 ∧ Blk W' (w.heap.size + 1) #[.int .i64 0, .slice none 0 0, .int .i64 0, .int .i64 0, .int .i64 0, .int .i64 0, .slice none 0 0, .int .i64 0] 27 ∧ RunsIn W' p' l ∧ (∀ a, p' = some a → w.heap.size + 1 < a.block) ∧ TyP W' p' 51) ⟨belowAny, p9, cap9, blkAny, blkAny, (by (repeat (refine RunsIn.set' ?_ (fun a h => by have := hf9.out a h; omega))); exact hR9.out), (fun a h => by have := hf9.out a h; omega), (by (repeat (refine TyP.setCell ?_ _ _)); exact hT9.out)⟩ ?_
  clear hW b1 b2
  rintro W5 ⟨hW, p', cap', b1, b2, hRp, hfp, hTp⟩
  replace hTp := Lib.hid hTp
  replace hRp := Lib.hid hRp
  replace hfp := Lib.hid hfp
  have z50 := hW.size
  have z51 := b1.lt
  have z52 := b2.lt
  have k1 := b1.cell
  have f1 := b1.frozen
  have k2 := b2.cell
  have f2 := b2.frozen
  try clear i hi hz0 hz1 hz2
  have hmk : ∀ W, (Instr.buildSlice 25 0 #[]).run Tryz.prog W = .ok (.slice (some ⟨W.heap.size, 0, none⟩) 0 0) (W.alloc (.cells #[] 2)) := fun W => by kernel_rfl
  obtain ⟨i, hi, hz0, hz1, hz2⟩ := info_parts Tryz.infoInt
  have hown0 := World.ownsRow_made (e := 2) (size := 1) (base := W5.heap.size) W5 #[] 0 (Nat.le_refl _) (by simp [maxLen]) (by simp)
  go_upto_region 3 with (at_builtin; refine wpList_append_own _ rfl (.tmp 13) (.tmp 20) 25 rfl W5.heap.size 2 i _ 1 8 (by kernel_rfl) hi hz0 hz1 hz2 rfl (by omega) _ 0 [] rfl hown0 qa 300 vc (v9.map (Value.int .i64)) rfl (by rw [List.length_map, hv9.out]) (fun j u hu => ints_flat ((hv8.below (hW.trans ((Below.refl _ _).alloc (Nat.le_refl _) _ |>.mono hW.size)))) j u hu) (fun v hv => by simp only [List.mem_map] at hv; obtain ⟨x, _, rfl⟩ := hv; rfl) (by simp [maxLen] <;> omega) (by omega) (by simp) ?_)
  intro v' w' hown hgr _
  have hB := clone_below hgr
  obtain ⟨p9, cap9, rfl, hR9, hc9, hf9, hT9⟩ := own_ints (l := v9) hown (by rw [hv9.out])
  clear hown hgr hown0 hmk
  have hz9 := hB.size
  have b1 : Blk w' w.heap.size #[.int .i64 K, .slice p' l.length cap', .int .i64 A, .int .i64 R, .int .i64 n, .int .i64 d, .slice (some qa) v.length vc, .int .i64 E] 27 := blkAny
  have b2 : Blk w' (w.heap.size + 1) #[.int .i64 0, .slice none 0 0, .int .i64 0, .int .i64 0, .int .i64 0, .int .i64 0, .slice none 0 0, .int .i64 0] 27 := blkAny
  have hW : Below w.heap.size w w' := belowAny
  have k1 := b1.cell
  have f1 := b1.frozen
  have k2 := b2.cell
  have f2 := b2.frozen
  replace hR9 := Lib.hid hR9
  replace hf9 := Lib.hid hf9
  replace hT9 := Lib.hid hT9
  go_upto_region 3 with (fail)
  try clear k1 f1 k2 f2
  refine wp_facts (fun W' => Below w.heap.size w W' ∧ ∃ q' vc', Blk W' w.heap.size #[.int .i64 K, .slice p' l.length cap', .int .i64 A, .int .i64 R, .int .i64 n, .int .i64 d, .slice q' v9.length vc', .int .i64 E] 27 ∧ Blk W' (w.heap.size + 1) #[.int .i64 0, .slice none 0 0, .int .i64 0, .int .i64 0, .int .i64 0, .int .i64 0, .slice none 0 0, .int .i64 0] 27 ∧ RunsIn W' p' l ∧ v9.length ≤ vc' ∧ IntsIn W' q' v9 ∧ (∀ a, q' = some a → w.heap.size + 1 < a.block) ∧ TyP W' q' 2 ∧ TyP W' p' 51) ⟨belowAny, p9, cap9, blkAny, blkAny, (by (repeat (first | with_reducible (refine RunsIn.alloc ?_ _) | with_reducible (refine RunsIn.set' ?_ (fun a h => by have := hfp.out a h; omega)))); exact hRp.out.below hB), hc9, (by (repeat (refine IntsIn.set' ?_ (fun a h => by have := hf9.out a h; omega))); exact hR9.out), (fun a h => by have := hf9.out a h; omega), (by (repeat (refine TyP.setCell ?_ _ _)); exact hT9.out), (by (repeat (first | with_reducible (refine TyP.alloc ?_ _) | with_reducible (refine TyP.setCell ?_ _ _))); exact hTp.out.below hB)⟩ ?_
  clear hW b1 b2
  rintro W6 ⟨hW, q', vc', b1, b2, hRp', hvc', hRq, hfq, hTq, hTp'⟩
  replace hTq := Lib.hid hTq
  replace hTp' := Lib.hid hTp'
  replace hRp' := Lib.hid hRp'
  replace hRq := Lib.hid hRq
  replace hfq := Lib.hid hfq
  have y_1 := b1.lt
  have y_2 := b2.lt
  have k1 := b1.cell
  have f1 := b1.frozen
  have k2 := b2.cell
  have f2 := b2.frozen
  go_wp2
  refine bodyPost_ret (v := .agg #[.int .i64 K, .slice p' l.length cap', .int .i64 A, .int .i64 R, .int .i64 n, .int .i64 d, .slice q' v9.length vc', .int .i64 E]) (by simp [results, Tryz.results11, go_sem, k1, f1, k2, f2, y_1, y_2]) rfl ⟨p', cap', q', vc', rfl, belowAny, ?_, ?_, hvc', (by (repeat (refine TyP.setCell ?_ _ _)); exact hTp'.out), (by (repeat (refine TyP.setCell ?_ _ _)); exact hTq.out)⟩
  · repeat (refine RunsIn.set' ?_ (fun a h => by have := hfp.out a h; omega))
    exact hRp'.out
  · repeat (refine IntsIn.set' ?_ (fun a h => by have := hfq.out a h; omega))
    exact hRq.out

set_option maxRecDepth 100000 in
set_option maxHeartbeats 2000000 in
theorem own_long_nil (K A R n d E : Int) (pa qa : Addr) (cap vc : Nat) (l : List RunT) (v : List Int) (w : World) (hl0 : 300 < l.length) (hl1 : l.length ≤ cap) (hl2 : l.length ≤ 9223372036854775807) (hl : RunsIn w (some pa) l) (l9 : List RunT) (h9 : l9 = l.take 300) :
    Calls Tryz.prog 11 #[.agg #[.int .i64 K, .slice (some pa) l.length cap, .int .i64 A, .int .i64 R, .int .i64 n, .int .i64 d, .slice none 0 0, .int .i64 E]] w fun e w' => ∃ p' cap' q' vc', e = .returned (.agg #[.int .i64 K, .slice p' l9.length cap', .int .i64 A, .int .i64 R, .int .i64 n, .int .i64 d, .slice q' ([] : List Int).length vc', .int .i64 E]) ∧ Below w.heap.size w w' ∧ RunsIn w' p' l9 ∧ IntsIn w' q' ([] : List Int) ∧ ([] : List Int).length ≤ vc' ∧ TyP w' p' 51 ∧ TyP w' q' 2 := by
  have hl8 : RunsIn w (some pa) l9 := h9 ▸ hl.take 300
  have hl9 := Lib.hid (show l9.length = 300 by rw [h9, List.length_take]; omega)
  clear h9
  go_enter Tryz.func11, Tryz.ntmps11
  go_upto_region 1 with (fail)
  refine wp_facts (fun W' => Below w.heap.size w W' ∧ Blk W' w.heap.size #[.int .i64 K, .slice (some pa) l.length cap, .int .i64 A, .int .i64 R, .int .i64 n, .int .i64 d, .slice none 0 0, .int .i64 E] 27 ∧ Blk W' (w.heap.size + 1) #[.int .i64 0, .slice none 0 0, .int .i64 0, .int .i64 0, .int .i64 0, .int .i64 0, .slice none 0 0, .int .i64 0] 27) ⟨by exact belowAny, by exact blkAny, by exact blkAny⟩ ?_
  rintro W1 ⟨hW, b1, b2⟩
  have z2 := hW.size
  have z3 := b1.lt
  have z4 := b2.lt
  have k1 := b1.cell
  have f1 := b1.frozen
  have k2 := b2.cell
  have f2 := b2.frozen
  have hmk : ∀ W, (Instr.buildSlice 22 0 #[]).run Tryz.prog W = .ok (.slice (some ⟨W.heap.size, 0, none⟩) 0 0) (W.alloc (.cells #[] 51)) := fun W => by kernel_rfl
  obtain ⟨i, hi, hz0, hz1, hz2⟩ := info_parts Tryz.infoRun
  have hown0 := World.ownsRow_made (e := 51) (size := 3) (base := W1.heap.size) W1 #[] 0 (Nat.le_refl _) (by simp [maxLen]) (by simp)
  go_upto_region 2 with (at_builtin; refine wpList_append_own _ rfl (.tmp 3) (.tmp 10) 22 rfl W1.heap.size 51 i _ 3 24 (by kernel_rfl) hi hz0 hz1 hz2 rfl (by omega) _ 0 [] rfl hown0 pa 300 cap (flatCells l9) rfl (by rw [length_flatCells, hl9.out]) ((hl8.below (hW.trans ((Below.refl _ _).alloc (Nat.le_refl _) _ |>.mono hW.size)))).flat (fun v hv => by obtain ⟨x, rfl⟩ := flat_mem _ v hv; rfl) (by simp [maxLen] <;> omega) (by omega) (by simp) ?_)
  intro v' w' hown hgr _
  have hB := clone_below hgr
  obtain ⟨p9, cap9, rfl, hR9, hc9, hf9, hT9⟩ := own_runs (l := l9) hown (by rw [hl9.out])
  clear hown hgr hown0 hmk
  have hz9 := hB.size
  have b1 : Blk w' w.heap.size #[.int .i64 K, .slice (some pa) l.length cap, .int .i64 A, .int .i64 R, .int .i64 n, .int .i64 d, .slice none 0 0, .int .i64 E] 27 := blkAny
  have b2 : Blk w' (w.heap.size + 1) #[.int .i64 0, .slice none 0 0, .int .i64 0, .int .i64 0, .int .i64 0, .int .i64 0, .slice none 0 0, .int .i64 0] 27 := blkAny
  have hW : Below w.heap.size w w' := belowAny
  have k1 := b1.cell
  have f1 := b1.frozen
  have k2 := b2.cell
  have f2 := b2.frozen
  replace hR9 := Lib.hid hR9
  replace hf9 := Lib.hid hf9
  replace hT9 := Lib.hid hT9
  go_upto_region 2 with (fail)
  try clear k1 f1 k2 f2
  refine wp_facts (fun W' => Below w.heap.size w W' ∧ ∃ p' cap', Blk W' w.heap.size #[.int .i64 K, .slice p' l9.length cap', .int .i64 A, .int .i64 R, .int .i64 n, .int .i64 d, .slice none 0 0, .int .i64 E] 27 ∧ Blk W' (w.heap.size + 1) #[.int .i64 0, .slice none 0 0, .int .i64 0, .int .i64 0, .int .i64 0, .int .i64 0, .slice none 0 0, .int .i64 0] 27 ∧ RunsIn W' p' l9 ∧ (∀ a, p' = some a → w.heap.size + 1 < a.block) ∧ TyP W' p' 51) ⟨belowAny, p9, cap9, blkAny, blkAny, (by (repeat (refine RunsIn.set' ?_ (fun a h => by have := hf9.out a h; omega))); exact hR9.out), (fun a h => by have := hf9.out a h; omega), (by (repeat (refine TyP.setCell ?_ _ _)); exact hT9.out)⟩ ?_
  clear hW b1 b2
  rintro W5 ⟨hW, p', cap', b1, b2, hRp, hfp, hTp⟩
  replace hTp := Lib.hid hTp
  replace hRp := Lib.hid hRp
  replace hfp := Lib.hid hfp
  have z50 := hW.size
  have z51 := b1.lt
  have z52 := b2.lt
  have k1 := b1.cell
  have f1 := b1.frozen
  have k2 := b2.cell
  have f2 := b2.frozen
  try clear i hi hz0 hz1 hz2
  have hmk : ∀ W, (Instr.buildSlice 25 0 #[]).run Tryz.prog W = .ok (.slice (some ⟨W.heap.size, 0, none⟩) 0 0) (W.alloc (.cells #[] 2)) := fun W => by kernel_rfl
  obtain ⟨i, hi, hz0, hz1, hz2⟩ := info_parts Tryz.infoInt
  have hown0 := World.ownsRow_made (e := 2) (size := 1) (base := W5.heap.size) W5 #[] 0 (Nat.le_refl _) (by simp [maxLen]) (by simp)
  go_upto_region 3 with (at_builtin; refine wpList_append_own_none rfl (.tmp 13) (.tmp 20) 25 rfl W5.heap.size 2 i 1 (by kernel_rfl) hi _ 0 [] rfl hown0 rfl ?_)
  try clear k1 f1 k2 f2
  refine wp_facts (fun W' => Below w.heap.size w W' ∧ ∃ q' vc', Blk W' w.heap.size #[.int .i64 K, .slice p' l9.length cap', .int .i64 A, .int .i64 R, .int .i64 n, .int .i64 d, .slice q' ([] : List Int).length vc', .int .i64 E] 27 ∧ Blk W' (w.heap.size + 1) #[.int .i64 0, .slice none 0 0, .int .i64 0, .int .i64 0, .int .i64 0, .int .i64 0, .slice none 0 0, .int .i64 0] 27 ∧ RunsIn W' p' l9 ∧ ([] : List Int).length ≤ vc' ∧ IntsIn W' q' ([] : List Int) ∧ (∀ a, q' = some a → w.heap.size + 1 < a.block) ∧ TyP W' q' 2 ∧ TyP W' p' 51) ⟨belowAny, (some ⟨W5.heap.size, 0, none⟩), 0, blkAny, blkAny, (by (repeat (first | with_reducible (refine RunsIn.alloc ?_ _) | with_reducible (refine RunsIn.set' ?_ (fun a h => by have := hfp.out a h; omega)))); exact hRp.out), Nat.le_refl _, ⟨fun i r hr => by simp at hr⟩, (fun a h => by cases h; simp only []; omega), (by exact tyNew), (by (repeat (first | with_reducible (refine TyP.alloc ?_ _) | with_reducible (refine TyP.setCell ?_ _ _))); exact hTp.out)⟩ ?_
  clear hW b1 b2
  rintro W6 ⟨hW, q', vc', b1, b2, hRp', hvc', hRq, hfq, hTq, hTp'⟩
  replace hTq := Lib.hid hTq
  replace hTp' := Lib.hid hTp'
  replace hRp' := Lib.hid hRp'
  replace hRq := Lib.hid hRq
  replace hfq := Lib.hid hfq
  have y_1 := b1.lt
  have y_2 := b2.lt
  have k1 := b1.cell
  have f1 := b1.frozen
  have k2 := b2.cell
  have f2 := b2.frozen
  go_wp2
  refine bodyPost_ret (v := .agg #[.int .i64 K, .slice p' l9.length cap', .int .i64 A, .int .i64 R, .int .i64 n, .int .i64 d, .slice q' ([] : List Int).length vc', .int .i64 E]) (by simp [results, Tryz.results11, go_sem, k1, f1, k2, f2, y_1, y_2]) rfl ⟨p', cap', q', vc', rfl, belowAny, ?_, ?_, hvc', (by (repeat (refine TyP.setCell ?_ _ _)); exact hTp'.out), (by (repeat (refine TyP.setCell ?_ _ _)); exact hTq.out)⟩
  · repeat (refine RunsIn.set' ?_ (fun a h => by have := hfp.out a h; omega))
    exact hRp'.out
  · repeat (refine IntsIn.set' ?_ (fun a h => by have := hfq.out a h; omega))
    exact hRq.out

set_option maxRecDepth 100000 in
set_option maxHeartbeats 2000000 in
theorem own_long_short (K A R n d E : Int) (pa qa : Addr) (cap vc : Nat) (l : List RunT) (v : List Int) (w : World) (hl0 : 300 < l.length) (hl1 : l.length ≤ cap) (hl2 : l.length ≤ 9223372036854775807) (hv0 : v.length ≤ 300) (hv1 : v.length ≤ vc) (hl : RunsIn w (some pa) l) (hv : IntsIn w (some qa) v) (l9 : List RunT) (h9 : l9 = l.take 300) :
    Calls Tryz.prog 11 #[.agg #[.int .i64 K, .slice (some pa) l.length cap, .int .i64 A, .int .i64 R, .int .i64 n, .int .i64 d, .slice (some qa) v.length vc, .int .i64 E]] w fun e w' => ∃ p' cap' q' vc', e = .returned (.agg #[.int .i64 K, .slice p' l9.length cap', .int .i64 A, .int .i64 R, .int .i64 n, .int .i64 d, .slice q' v.length vc', .int .i64 E]) ∧ Below w.heap.size w w' ∧ RunsIn w' p' l9 ∧ IntsIn w' q' v ∧ v.length ≤ vc' ∧ TyP w' p' 51 ∧ TyP w' q' 2 := by
  have hl8 : RunsIn w (some pa) l9 := h9 ▸ hl.take 300
  have hl9 := Lib.hid (show l9.length = 300 by rw [h9, List.length_take]; omega)
  clear h9
  go_enter Tryz.func11, Tryz.ntmps11
  go_upto_region 1 with (fail)
  refine wp_facts (fun W' => Below w.heap.size w W' ∧ Blk W' w.heap.size #[.int .i64 K, .slice (some pa) l.length cap, .int .i64 A, .int .i64 R, .int .i64 n, .int .i64 d, .slice (some qa) v.length vc, .int .i64 E] 27 ∧ Blk W' (w.heap.size + 1) #[.int .i64 0, .slice none 0 0, .int .i64 0, .int .i64 0, .int .i64 0, .int .i64 0, .slice none 0 0, .int .i64 0] 27) ⟨by exact belowAny, by exact blkAny, by exact blkAny⟩ ?_
  rintro W1 ⟨hW, b1, b2⟩
  have z2 := hW.size
  have z3 := b1.lt
  have z4 := b2.lt
  have k1 := b1.cell
  have f1 := b1.frozen
  have k2 := b2.cell
  have f2 := b2.frozen
  have hmk : ∀ W, (Instr.buildSlice 22 0 #[]).run Tryz.prog W = .ok (.slice (some ⟨W.heap.size, 0, none⟩) 0 0) (W.alloc (.cells #[] 51)) := fun W => by kernel_rfl
  obtain ⟨i, hi, hz0, hz1, hz2⟩ := info_parts Tryz.infoRun
  have hown0 := World.ownsRow_made (e := 51) (size := 3) (base := W1.heap.size) W1 #[] 0 (Nat.le_refl _) (by simp [maxLen]) (by simp)
  go_upto_region 2 with (at_builtin; refine wpList_append_own _ rfl (.tmp 3) (.tmp 10) 22 rfl W1.heap.size 51 i _ 3 24 (by kernel_rfl) hi hz0 hz1 hz2 rfl (by omega) _ 0 [] rfl hown0 pa 300 cap (flatCells l9) rfl (by rw [length_flatCells, hl9.out]) ((hl8.below (hW.trans ((Below.refl _ _).alloc (Nat.le_refl _) _ |>.mono hW.size)))).flat (fun v hv => by obtain ⟨x, rfl⟩ := flat_mem _ v hv; rfl) (by simp [maxLen] <;> omega) (by omega) (by simp) ?_)
  intro v' w' hown hgr _
  have hB := clone_below hgr
  obtain ⟨p9, cap9, rfl, hR9, hc9, hf9, hT9⟩ := own_runs (l := l9) hown (by rw [hl9.out])
  clear hown hgr hown0 hmk
  have hz9 := hB.size
  have b1 : Blk w' w.heap.size #[.int .i64 K, .slice (some pa) l.length cap, .int .i64 A, .int .i64 R, .int .i64 n, .int .i64 d, .slice (some qa) v.length vc, .int .i64 E] 27 := blkAny
  have b2 : Blk w' (w.heap.size + 1) #[.int .i64 0, .slice none 0 0, .int .i64 0, .int .i64 0, .int .i64 0, .int .i64 0, .slice none 0 0, .int .i64 0] 27 := blkAny
  have hW : Below w.heap.size w w' := belowAny
  have k1 := b1.cell
  have f1 := b1.frozen
  have k2 := b2.cell
  have f2 := b2.frozen
  replace hR9 := Lib.hid hR9
  replace hf9 := Lib.hid hf9
  replace hT9 := Lib.hid hT9
  go_upto_region 2 with (fail)
  try clear k1 f1 k2 f2
  refine wp_facts (fun W' => Below w.heap.size w W' ∧ ∃ p' cap', Blk W' w.heap.size #[.int .i64 K, .slice p' l9.length cap', .int .i64 A, .int .i64 R, .int .i64 n, .int .i64 d, .slice (some qa) v.length vc, .int .i64 E] 27 ∧ Blk W' (w.heap.size + 1) #[.int .i64 0, .slice none 0 0, .int .i64 0, .int .i64 0, .int .i64 0, .int .i64 0, .slice none 0 0, .int .i64 0] 27 ∧ RunsIn W' p' l9 ∧ (∀ a, p' = some a → w.heap.size + 1 < a.block) ∧ TyP W' p' 51) ⟨belowAny, p9, cap9, blkAny, blkAny, (by (repeat (refine RunsIn.set' ?_ (fun a h => by have := hf9.out a h; omega))); exact hR9.out), (fun a h => by have := hf9.out a h; omega), (by (repeat (refine TyP.setCell ?_ _ _)); exact hT9.out)⟩ ?_
  clear hW b1 b2
  rintro W5 ⟨hW, p', cap', b1, b2, hRp, hfp, hTp⟩
  replace hTp := Lib.hid hTp
  replace hRp := Lib.hid hRp
  replace hfp := Lib.hid hfp
  have z50 := hW.size
  have z51 := b1.lt
  have z52 := b2.lt
  have k1 := b1.cell
  have f1 := b1.frozen
  have k2 := b2.cell
  have f2 := b2.frozen
  try clear i hi hz0 hz1 hz2
  have hmk : ∀ W, (Instr.buildSlice 25 0 #[]).run Tryz.prog W = .ok (.slice (some ⟨W.heap.size, 0, none⟩) 0 0) (W.alloc (.cells #[] 2)) := fun W => by kernel_rfl
  obtain ⟨i, hi, hz0, hz1, hz2⟩ := info_parts Tryz.infoInt
  have hown0 := World.ownsRow_made (e := 2) (size := 1) (base := W5.heap.size) W5 #[] 0 (Nat.le_refl _) (by simp [maxLen]) (by simp)
  go_upto_region 3 with (at_builtin; refine wpList_append_own _ rfl (.tmp 13) (.tmp 20) 25 rfl W5.heap.size 2 i _ 1 8 (by kernel_rfl) hi hz0 hz1 hz2 rfl (by omega) _ 0 [] rfl hown0 qa v.length vc (v.map (Value.int .i64)) rfl (by rw [List.length_map]; omega) (fun j u hu => ints_flat ((hv.below (hW.trans ((Below.refl _ _).alloc (Nat.le_refl _) _ |>.mono hW.size)))) j u hu) (fun v hv => by simp only [List.mem_map] at hv; obtain ⟨x, _, rfl⟩ := hv; rfl) (by simp [maxLen] <;> omega) (by omega) (by simp) ?_)
  intro v' w' hown hgr _
  have hB := clone_below hgr
  obtain ⟨p9, cap9, rfl, hR9, hc9, hf9, hT9⟩ := own_ints (l := v) hown (by simp)
  clear hown hgr hown0 hmk
  have hz9 := hB.size
  have b1 : Blk w' w.heap.size #[.int .i64 K, .slice p' l9.length cap', .int .i64 A, .int .i64 R, .int .i64 n, .int .i64 d, .slice (some qa) v.length vc, .int .i64 E] 27 := blkAny
  have b2 : Blk w' (w.heap.size + 1) #[.int .i64 0, .slice none 0 0, .int .i64 0, .int .i64 0, .int .i64 0, .int .i64 0, .slice none 0 0, .int .i64 0] 27 := blkAny
  have hW : Below w.heap.size w w' := belowAny
  have k1 := b1.cell
  have f1 := b1.frozen
  have k2 := b2.cell
  have f2 := b2.frozen
  replace hR9 := Lib.hid hR9
  replace hf9 := Lib.hid hf9
  replace hT9 := Lib.hid hT9
  go_upto_region 3 with (fail)
  try clear k1 f1 k2 f2
  refine wp_facts (fun W' => Below w.heap.size w W' ∧ ∃ q' vc', Blk W' w.heap.size #[.int .i64 K, .slice p' l9.length cap', .int .i64 A, .int .i64 R, .int .i64 n, .int .i64 d, .slice q' v.length vc', .int .i64 E] 27 ∧ Blk W' (w.heap.size + 1) #[.int .i64 0, .slice none 0 0, .int .i64 0, .int .i64 0, .int .i64 0, .int .i64 0, .slice none 0 0, .int .i64 0] 27 ∧ RunsIn W' p' l9 ∧ v.length ≤ vc' ∧ IntsIn W' q' v ∧ (∀ a, q' = some a → w.heap.size + 1 < a.block) ∧ TyP W' q' 2 ∧ TyP W' p' 51) ⟨belowAny, p9, cap9, blkAny, blkAny, (by (repeat (first | with_reducible (refine RunsIn.alloc ?_ _) | with_reducible (refine RunsIn.set' ?_ (fun a h => by have := hfp.out a h; omega)))); exact hRp.out.below hB), hc9, (by (repeat (refine IntsIn.set' ?_ (fun a h => by have := hf9.out a h; omega))); exact hR9.out), (fun a h => by have := hf9.out a h; omega), (by (repeat (refine TyP.setCell ?_ _ _)); exact hT9.out), (by (repeat (first | with_reducible (refine TyP.alloc ?_ _) | with_reducible (refine TyP.setCell ?_ _ _))); exact hTp.out.below hB)⟩ ?_
  clear hW b1 b2
  rintro W6 ⟨hW, q', vc', b1, b2, hRp', hvc', hRq, hfq, hTq, hTp'⟩
  replace hTq := Lib.hid hTq
  replace hTp' := Lib.hid hTp'
  replace hRp' := Lib.hid hRp'
  replace hRq := Lib.hid hRq
  replace hfq := Lib.hid hfq
  have y_1 := b1.lt
  have y_2 := b2.lt
  have k1 := b1.cell
  have f1 := b1.frozen
  have k2 := b2.cell
  have f2 := b2.frozen
  go_wp2
  refine bodyPost_ret (v := .agg #[.int .i64 K, .slice p' l9.length cap', .int .i64 A, .int .i64 R, .int .i64 n, .int .i64 d, .slice q' v.length vc', .int .i64 E]) (by simp [results, Tryz.results11, go_sem, k1, f1, k2, f2, y_1, y_2]) rfl ⟨p', cap', q', vc', rfl, belowAny, ?_, ?_, hvc', (by (repeat (refine TyP.setCell ?_ _ _)); exact hTp'.out), (by (repeat (refine TyP.setCell ?_ _ _)); exact hTq.out)⟩
  · repeat (refine RunsIn.set' ?_ (fun a h => by have := hfp.out a h; omega))
    exact hRp'.out
  · repeat (refine IntsIn.set' ?_ (fun a h => by have := hfq.out a h; omega))
    exact hRq.out

set_option maxRecDepth 100000 in
set_option maxHeartbeats 2000000 in
theorem own_long_long (K A R n d E : Int) (pa qa : Addr) (cap vc : Nat) (l : List RunT) (v : List Int) (w : World) (hl0 : 300 < l.length) (hl1 : l.length ≤ cap) (hl2 : l.length ≤ 9223372036854775807) (hv0 : 300 < v.length) (hv1 : v.length ≤ vc) (hv2 : v.length ≤ 9223372036854775807) (hl : RunsIn w (some pa) l) (hv : IntsIn w (some qa) v) (l9 : List RunT) (h9 : l9 = l.take 300) (v9 : List Int) (k9 : v9 = v.take 300) :
    Calls Tryz.prog 11 #[.agg #[.int .i64 K, .slice (some pa) l.length cap, .int .i64 A, .int .i64 R, .int .i64 n, .int .i64 d, .slice (some qa) v.length vc, .int .i64 E]] w fun e w' => ∃ p' cap' q' vc', e = .returned (.agg #[.int .i64 K, .slice p' l9.length cap', .int .i64 A, .int .i64 R, .int .i64 n, .int .i64 d, .slice q' v9.length vc', .int .i64 E]) ∧ Below w.heap.size w w' ∧ RunsIn w' p' l9 ∧ IntsIn w' q' v9 ∧ v9.length ≤ vc' ∧ TyP w' p' 51 ∧ TyP w' q' 2 := by
  have hl8 : RunsIn w (some pa) l9 := h9 ▸ hl.take 300
  have hl9 := Lib.hid (show l9.length = 300 by rw [h9, List.length_take]; omega)
  clear h9
  have hv8 : IntsIn w (some qa) v9 := k9 ▸ hv.take 300
  have hv9 := Lib.hid (show v9.length = 300 by rw [k9, List.length_take]; omega)
  clear k9
  go_enter Tryz.func11, Tryz.ntmps11
  go_upto_region 1 with (fail)
  refine wp_facts (fun W' => Below w.heap.size w W' ∧ Blk W' w.heap.size #[.int .i64 K, .slice (some pa) l.length cap, .int .i64 A, .int .i64 R, .int .i64 n, .int .i64 d, .slice (some qa) v.length vc, .int .i64 E] 27 ∧ Blk W' (w.heap.size + 1) #[.int .i64 0, .slice none 0 0, .int .i64 0, .int .i64 0, .int .i64 0, .int .i64 0, .slice none 0 0, .int .i64 0] 27) ⟨by exact belowAny, by exact blkAny, by exact blkAny⟩ ?_
  rintro W1 ⟨hW, b1, b2⟩
  have z2 := hW.size
  have z3 := b1.lt
  have z4 := b2.lt
  have k1 := b1.cell
  have f1 := b1.frozen
  have k2 := b2.cell
  have f2 := b2.frozen
  have hmk : ∀ W, (Instr.buildSlice 22 0 #[]).run Tryz.prog W = .ok (.slice (some ⟨W.heap.size, 0, none⟩) 0 0) (W.alloc (.cells #[] 51)) := fun W => by kernel_rfl
  obtain ⟨i, hi, hz0, hz1, hz2⟩ := info_parts Tryz.infoRun
  have hown0 := World.ownsRow_made (e := 51) (size := 3) (base := W1.heap.size) W1 #[] 0 (Nat.le_refl _) (by simp [maxLen]) (by simp)
  go_upto_region 2 with (at_builtin; refine wpList_append_own _ rfl (.tmp 3) (.tmp 10) 22 rfl W1.heap.size 51 i _ 3 24 (by kernel_rfl) hi hz0 hz1 hz2 rfl (by omega) _ 0 [] rfl hown0 pa 300 cap (flatCells l9) rfl (by rw [length_flatCells, hl9.out]) ((hl8.below (hW.trans ((Below.refl _ _).alloc (Nat.le_refl _) _ |>.mono hW.size)))).flat (fun v hv => by obtain ⟨x, rfl⟩ := flat_mem _ v hv; rfl) (by simp [maxLen] <;> omega) (by omega) (by simp) ?_)
  intro v' w' hown hgr _
  have hB := clone_below hgr
  obtain ⟨p9, cap9, rfl, hR9, hc9, hf9, hT9⟩ := own_runs (l := l9) hown (by rw [hl9.out])
  clear hown hgr hown0 hmk
  have hz9 := hB.size
  have b1 : Blk w' w.heap.size #[.int .i64 K, .slice (some pa) l.length cap, .int .i64 A, .int .i64 R, .int .i64 n, .int .i64 d, .slice (some qa) v.length vc, .int .i64 E] 27 := blkAny
  have b2 : Blk w' (w.heap.size + 1) #[.int .i64 0, .slice none 0 0, .int .i64 0, .int .i64 0, .int .i64 0, .int .i64 0, .slice none 0 0, .int .i64 0] 27 := blkAny
  have hW : Below w.heap.size w w' := belowAny
  have k1 := b1.cell
  have f1 := b1.frozen
  have k2 := b2.cell
  have f2 := b2.frozen
  replace hR9 := Lib.hid hR9
  replace hf9 := Lib.hid hf9
  replace hT9 := Lib.hid hT9
  go_upto_region 2 with (fail)
  try clear k1 f1 k2 f2
  refine wp_facts (fun W' => Below w.heap.size w W' ∧ ∃ p' cap', Blk W' w.heap.size #[.int .i64 K, .slice p' l9.length cap', .int .i64 A, .int .i64 R, .int .i64 n, .int .i64 d, .slice (some qa) v.length vc, .int .i64 E] 27 ∧ Blk W' (w.heap.size + 1) #[.int .i64 0, .slice none 0 0, .int .i64 0, .int .i64 0, .int .i64 0, .int .i64 0, .slice none 0 0, .int .i64 0] 27 ∧ RunsIn W' p' l9 ∧ (∀ a, p' = some a → w.heap.size + 1 < a.block) ∧ TyP W' p' 51) ⟨belowAny, p9, cap9, blkAny, blkAny, (by (repeat (refine RunsIn.set' ?_ (fun a h => by have := hf9.out a h; omega))); exact hR9.out), (fun a h => by have := hf9.out a h; omega), (by (repeat (refine TyP.setCell ?_ _ _)); exact hT9.out)⟩ ?_
  clear hW b1 b2
  rintro W5 ⟨hW, p', cap', b1, b2, hRp, hfp, hTp⟩
  replace hTp := Lib.hid hTp
  replace hRp := Lib.hid hRp
  replace hfp := Lib.hid hfp
  have z50 := hW.size
  have z51 := b1.lt
  have z52 := b2.lt
  have k1 := b1.cell
  have f1 := b1.frozen
  have k2 := b2.cell
  have f2 := b2.frozen
  try clear i hi hz0 hz1 hz2
  have hmk : ∀ W, (Instr.buildSlice 25 0 #[]).run Tryz.prog W = .ok (.slice (some ⟨W.heap.size, 0, none⟩) 0 0) (W.alloc (.cells #[] 2)) := fun W => by kernel_rfl
  obtain ⟨i, hi, hz0, hz1, hz2⟩ := info_parts Tryz.infoInt
  have hown0 := World.ownsRow_made (e := 2) (size := 1) (base := W5.heap.size) W5 #[] 0 (Nat.le_refl _) (by simp [maxLen]) (by simp)
  go_upto_region 3 with (at_builtin; refine wpList_append_own _ rfl (.tmp 13) (.tmp 20) 25 rfl W5.heap.size 2 i _ 1 8 (by kernel_rfl) hi hz0 hz1 hz2 rfl (by omega) _ 0 [] rfl hown0 qa 300 vc (v9.map (Value.int .i64)) rfl (by rw [List.length_map, hv9.out]) (fun j u hu => ints_flat ((hv8.below (hW.trans ((Below.refl _ _).alloc (Nat.le_refl _) _ |>.mono hW.size)))) j u hu) (fun v hv => by simp only [List.mem_map] at hv; obtain ⟨x, _, rfl⟩ := hv; rfl) (by simp [maxLen] <;> omega) (by omega) (by simp) ?_)
  intro v' w' hown hgr _
  have hB := clone_below hgr
  obtain ⟨p9, cap9, rfl, hR9, hc9, hf9, hT9⟩ := own_ints (l := v9) hown (by rw [hv9.out])
  clear hown hgr hown0 hmk
  have hz9 := hB.size
  have b1 : Blk w' w.heap.size #[.int .i64 K, .slice p' l9.length cap', .int .i64 A, .int .i64 R, .int .i64 n, .int .i64 d, .slice (some qa) v.length vc, .int .i64 E] 27 := blkAny
  have b2 : Blk w' (w.heap.size + 1) #[.int .i64 0, .slice none 0 0, .int .i64 0, .int .i64 0, .int .i64 0, .int .i64 0, .slice none 0 0, .int .i64 0] 27 := blkAny
  have hW : Below w.heap.size w w' := belowAny
  have k1 := b1.cell
  have f1 := b1.frozen
  have k2 := b2.cell
  have f2 := b2.frozen
  replace hR9 := Lib.hid hR9
  replace hf9 := Lib.hid hf9
  replace hT9 := Lib.hid hT9
  go_upto_region 3 with (fail)
  try clear k1 f1 k2 f2
  refine wp_facts (fun W' => Below w.heap.size w W' ∧ ∃ q' vc', Blk W' w.heap.size #[.int .i64 K, .slice p' l9.length cap', .int .i64 A, .int .i64 R, .int .i64 n, .int .i64 d, .slice q' v9.length vc', .int .i64 E] 27 ∧ Blk W' (w.heap.size + 1) #[.int .i64 0, .slice none 0 0, .int .i64 0, .int .i64 0, .int .i64 0, .int .i64 0, .slice none 0 0, .int .i64 0] 27 ∧ RunsIn W' p' l9 ∧ v9.length ≤ vc' ∧ IntsIn W' q' v9 ∧ (∀ a, q' = some a → w.heap.size + 1 < a.block) ∧ TyP W' q' 2 ∧ TyP W' p' 51) ⟨belowAny, p9, cap9, blkAny, blkAny, (by (repeat (first | with_reducible (refine RunsIn.alloc ?_ _) | with_reducible (refine RunsIn.set' ?_ (fun a h => by have := hfp.out a h; omega)))); exact hRp.out.below hB), hc9, (by (repeat (refine IntsIn.set' ?_ (fun a h => by have := hf9.out a h; omega))); exact hR9.out), (fun a h => by have := hf9.out a h; omega), (by (repeat (refine TyP.setCell ?_ _ _)); exact hT9.out), (by (repeat (first | with_reducible (refine TyP.alloc ?_ _) | with_reducible (refine TyP.setCell ?_ _ _))); exact hTp.out.below hB)⟩ ?_
  clear hW b1 b2
  rintro W6 ⟨hW, q', vc', b1, b2, hRp', hvc', hRq, hfq, hTq, hTp'⟩
  replace hTq := Lib.hid hTq
  replace hTp' := Lib.hid hTp'
  replace hRp' := Lib.hid hRp'
  replace hRq := Lib.hid hRq
  replace hfq := Lib.hid hfq
  have y_1 := b1.lt
  have y_2 := b2.lt
  have k1 := b1.cell
  have f1 := b1.frozen
  have k2 := b2.cell
  have f2 := b2.frozen
  go_wp2
  refine bodyPost_ret (v := .agg #[.int .i64 K, .slice p' l9.length cap', .int .i64 A, .int .i64 R, .int .i64 n, .int .i64 d, .slice q' v9.length vc', .int .i64 E]) (by simp [results, Tryz.results11, go_sem, k1, f1, k2, f2, y_1, y_2]) rfl ⟨p', cap', q', vc', rfl, belowAny, ?_, ?_, hvc', (by (repeat (refine TyP.setCell ?_ _ _)); exact hTp'.out), (by (repeat (refine TyP.setCell ?_ _ _)); exact hTq.out)⟩
  · repeat (refine RunsIn.set' ?_ (fun a h => by have := hfp.out a h; omega))
    exact hRp'.out
  · repeat (refine IntsIn.set' ?_ (fun a h => by have := hfq.out a h; omega))
    exact hRq.out

end Go.Proofs.YtgblmlefmohgnaaGreat
namespace Go.Proofs.YtgblmlefmohgnaaGreat
open Go.RowKit
/-- A segment as it came in. -/
structure Came (w : World) (s : SegT) (p q : Option Addr) (cap vc : Nat) : Prop where
  runs : RunsIn w p s.runs
  raw : IntsIn w q s.raw
  nilR : p = none → s.runs = [] ∧ cap = 0
  nilV : q = none → s.raw = [] ∧ vc = 0
  capR : s.runs.length ≤ cap
  capV : s.raw.length ≤ vc
  maxR : s.runs.length ≤ 9223372036854775807
  maxV : s.raw.length ≤ 9223372036854775807
def ownS (s : SegT) : SegT := ⟨s.K, s.runs.take 300, s.A, s.R, s.n, s.d, s.raw.take 300, s.E⟩
def OwnOut (s : SegT) (w : World) (e : Ending) (w' : World) : Prop := ∃ p' cap' q' vc', e = .returned (.agg (segA (ownS s) p' q' cap' vc')) ∧ Below w.heap.size w w' ∧ SegIn w' (ownS s) p' q' ∧ (ownS s).raw.length ≤ vc'
/-- The same, and of which types the rows' blocks are. -/
def OwnOutT (s : SegT) (w : World) (e : Ending) (w' : World) : Prop := ∃ p' cap' q' vc', e = .returned (.agg (segA (ownS s) p' q' cap' vc')) ∧ Below w.heap.size w w' ∧ SegIn w' (ownS s) p' q' ∧ (ownS s).raw.length ≤ vc' ∧ TyP w' p' 51 ∧ TyP w' q' 2
theorem own_out {s : SegT} {w : World} {l : List RunT} {v : List Int} {X : Value} (h1 : s.runs.take 300 = l) (h2 : s.raw.take 300 = v)
    (h : Calls Tryz.prog 11 #[X] w fun e w' => ∃ p' cap' q' vc', e = .returned (.agg #[.int .i64 s.K, .slice p' l.length cap', .int .i64 s.A, .int .i64 s.R, .int .i64 s.n, .int .i64 s.d, .slice q' v.length vc', .int .i64 s.E]) ∧ Below w.heap.size w w' ∧ RunsIn w' p' l ∧ IntsIn w' q' v ∧ v.length ≤ vc' ∧ TyP w' p' 51 ∧ TyP w' q' 2) :
    Calls Tryz.prog 11 #[X] w (OwnOutT s w) := by
  refine h.mono ?_
  rintro e w' ⟨p', cap', q', vc', rfl, hB, hR, hV, hc, hT1, hT2⟩
  refine ⟨p', cap', q', vc', ?_, hB, ⟨?_, ?_, ?_, ?_⟩, ?_, hT1, hT2⟩
  · unfold segA ownS; simp only [h1, h2]
  · show RunsIn w' p' (s.runs.take 300); rw [h1]; exact hR
  · show IntsIn w' q' (s.raw.take 300); rw [h2]; exact hV
  · show (s.runs.take 300).length ≤ 300; rw [List.length_take]; omega
  · show (s.raw.take 300).length ≤ 300; rw [List.length_take]; omega
  · show (s.raw.take 300).length ≤ vc'; rw [h2]; exact hc
theorem c_ownT (s : SegT) (p q : Option Addr) (cap vc : Nat) (w : World) (h : Came w s p q cap vc) :
    Calls Tryz.prog 11 #[.agg (segA s p q cap vc)] w (OwnOutT s w) := by
  have A0 : Addr := ⟨0, 0, none⟩
  unfold segA
  cases p with
  | none =>
    obtain ⟨e1, e2⟩ := h.nilR rfl
    cases q with
    | none =>
      obtain ⟨e3, e4⟩ := h.nilV rfl
      rw [e1, e2, e3, e4]
      exact own_out (by rw [e1]; rfl) (by rw [e3]; rfl) (own_nil_nil s.K s.A s.R s.n s.d s.E A0 A0 0 0 [] [] w)
    | some b =>
      rw [e1, e2]
      rcases Nat.lt_or_ge 300 s.raw.length with hv1 | hv1
      · exact own_out (by rw [e1]; rfl) rfl (own_nil_long s.K s.A s.R s.n s.d s.E A0 b 0 vc [] s.raw w hv1 h.capV h.maxV h.raw _ rfl)
      · exact own_out (by rw [e1]; rfl) (List.take_of_length_le hv1) (own_nil_short s.K s.A s.R s.n s.d s.E A0 b 0 vc [] s.raw w hv1 h.capV h.raw)
  | some a =>
    cases q with
    | none =>
      obtain ⟨e3, e4⟩ := h.nilV rfl
      rw [e3, e4]
      rcases Nat.lt_or_ge 300 s.runs.length with hr1 | hr1
      · exact own_out rfl (by rw [e3]; rfl) (own_long_nil s.K s.A s.R s.n s.d s.E a A0 cap 0 s.runs [] w hr1 h.capR h.maxR h.runs _ rfl)
      · exact own_out (List.take_of_length_le hr1) (by rw [e3]; rfl) (own_short_nil s.K s.A s.R s.n s.d s.E a A0 cap 0 s.runs [] w hr1 h.capR h.runs)
    | some b =>
      rcases Nat.lt_or_ge 300 s.runs.length with hr1 | hr1
      · rcases Nat.lt_or_ge 300 s.raw.length with hv1 | hv1
        · exact own_out rfl rfl (own_long_long s.K s.A s.R s.n s.d s.E a b cap vc s.runs s.raw w hr1 h.capR h.maxR hv1 h.capV h.maxV h.runs h.raw _ rfl _ rfl)
        · exact own_out rfl (List.take_of_length_le hv1) (own_long_short s.K s.A s.R s.n s.d s.E a b cap vc s.runs s.raw w hr1 h.capR h.maxR hv1 h.capV h.runs h.raw _ rfl)
      · rcases Nat.lt_or_ge 300 s.raw.length with hv1 | hv1
        · exact own_out (List.take_of_length_le hr1) rfl (own_short_long s.K s.A s.R s.n s.d s.E a b cap vc s.runs s.raw w hr1 h.capR hv1 h.capV h.maxV h.runs h.raw _ rfl)
        · exact own_out (List.take_of_length_le hr1) (List.take_of_length_le hv1) (own_short_short s.K s.A s.R s.n s.d s.E a b cap vc s.runs s.raw w hr1 h.capR hv1 h.capV h.runs h.raw)
theorem c_own (s : SegT) (p q : Option Addr) (cap vc : Nat) (w : World) (h : Came w s p q cap vc) :
    Calls Tryz.prog 11 #[.agg (segA s p q cap vc)] w (OwnOut s w) :=
  (c_ownT s p q cap vc w h).mono fun e w' ⟨p', c', q', v', e1, hB, hS, hc, _, _⟩ => ⟨p', c', q', v', e1, hB, hS, hc⟩
end Go.Proofs.YtgblmlefmohgnaaGreat
namespace Go.Proofs.YtgblmlefmohgnaaGreat
open Go.RowKit

/-- What the numbers of some places come to. -/
def outOf (s : SegT) (i j : Int) : Array Value × Int := if i < j then (partA (slice (vals s) i.toNat j.toNat), 0) else (#[.int .i64 0, .int .i64 0, .int .i64 0, .int .i64 0, .int .u64 0], 9)
end Go.Proofs.YtgblmlefmohgnaaGreat
namespace Go.Proofs.YtgblmlefmohgnaaGreat
open Go.RowKit Go.Shelf
attribute [local go_sem] Oper.semAt_some
/-- Every block of a type stays as it is. -/
def KeepsT (t : TypeId) (A B : World) : Prop := ∀ (b : Nat) (cs : Array Value) (f : Nat × Nat), A.heap[b]? = some (.cells cs t f) → B.heap[b]? = some (.cells cs t f)
theorem KeepsT.refl (t : TypeId) (A : World) : KeepsT t A A := fun _ _ _ h => h
theorem KeepsT.trans {t : TypeId} {A B C : World} (h : KeepsT t A B) (k : KeepsT t B C) : KeepsT t A C := fun b cs f hb => k b cs f (h b cs f hb)
end Go.Proofs.YtgblmlefmohgnaaGreat
namespace Go.Proofs.YtgblmlefmohgnaaGreat
open Go.RowKit Go.Shelf
attribute [local go_sem] Oper.semAt_some
end Go.Proofs.YtgblmlefmohgnaaGreat
namespace Go.Proofs.YtgblmlefmohgnaaGreat
open Go.RowKit Go.Shelf
/-- All times, in an array of its own. -/
def TimesOut (w : World) (l : List RunT) (e : Ending) (w' : World) : Prop := ∃ v, e = .returned (.tuple #[v, .int .i64 0]) ∧ w'.ownsRow w.heap.size 2 1 v (timesL l).length ((timesL l).map (Value.int .i64)) ∧ Below w.heap.size w w'
end Go.Proofs.YtgblmlefmohgnaaGreat
namespace Go.Proofs.YtgblmlefmohgnaaGreat
open Go.RowKit Go.Shelf
attribute [local go_sem] Oper.semAt_some
/-- The points of a segment. -/
def ptsL (s : SegT) : List (Int × Int) := (timesL s.runs).zip (vals s)
/-- What a round must keep for the points' sake. -/
structure KeepsPts (s : SegT) (p q : Option Addr) (cap vc Bs n₀ : Nat) (A B : World) : Prop where
  size : A.heap.size ≤ B.heap.size
  seg : SegIn A s p q → SegIn B s p q
  box : Blk A Bs (segA s p q cap vc) 78 → Blk B Bs (segA s p q cap vc) 78
  nums : ∀ (b : Nat) (cs : Array Value), n₀ ≤ b → Blk A b cs 2 → Blk B b cs 2
end Go.Proofs.YtgblmlefmohgnaaGreat
