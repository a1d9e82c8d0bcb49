/- Parts of the proof that follows: The laws of chapter 11: own. | The laws of chapter 11: own, told. | The last step of a law, for every law: an argument that came in is opened; behind the call each reads as it did. No condition. | Ranges over functions: all times of runs, one behind the other. No condition. | Ranges over functions: what comes is collected; the times of runs. No condition. | All times of runs, told. -/
import Derived.Laws.AppendOwnNone
import Derived.Test.YtgblmlefmohgnaaGreatRows
import Derived.ProofKit
import Derived.Deep.Slices
import Derived.OpenShut
import Derived.RangeFuncNested
import Derived.RangeFuncBound
import Derived.RangeFuncCalls
import Derived.RangeFuncLeaves
import Derived.RangeFuncBox
import Derived.Maps.AppendAt
import Derived.Shelf.Abstract
import Derived.Shelf.RegionOpen
import Derived.WalkKit
import Derived.OwnWalkIn
import Derived.TacticsInMore
import Derived.LoopNIn
import Derived.LoopIn
import Derived.Test.YtgblmlefmohgnaaGreatBk8
set_option linter.unusedSimpArgs false
set_option linter.unusedVariables false
namespace Go.Proofs.YtgblmlefmohgnaaGreat
open Go.RowKit
/-- The block of a slice is one of a type. -/
def TyP (w : World) (p : Option Addr) (T : TypeId) : Prop := ∀ a, p = some a → ∃ cur fz, w.heap[a.block]? = some (.cells cur T fz)
theorem TyP.below {w w' : World} {p : Option Addr} {T : TypeId} (h : TyP w p T) (hb : Below w.heap.size w w') : TyP w' p T := fun a e => by
  obtain ⟨cur, fz, hh⟩ := h a e
  exact ⟨cur, fz, (hb.block a.block (Array.getElem?_eq_some_iff.1 hh).1).trans hh⟩
theorem TyP.alloc {w : World} {p : Option Addr} {T : TypeId} (h : TyP w p T) (o : Obj) : TyP (w.alloc o) p T := h.below ((Below.refl _ _).alloc (Nat.le_refl _) o)
theorem TyP.setCell {w : World} {p : Option Addr} {T : TypeId} (h : TyP w p T) (a : Addr) (v : Value) : TyP (w.setCell a v) p T := fun b e => by
  obtain ⟨cur, fz, hh⟩ := h b e
  by_cases hb : b.block = a.block
  · refine ⟨if a.spot.isSome then cur else cur.setIfInBounds a.off v, fz, ?_⟩
    simp only [World.setCell, Array.getElem?_modify]
    rw [if_pos hb.symm, hh]; rfl
  · exact ⟨cur, fz, (heap_setCell_other w a b.block v hb).trans hh⟩
theorem TyP.new {w : World} {cs : Array Value} {T : TypeId} {g : Nat} (h : w.heap.size = g) : TyP (w.alloc (.cells cs T)) (some ⟨g, 0, none⟩) T := fun a e => by
  subst h
  cases e
  exact ⟨cs, (0, 0), heap_alloc_new w _⟩
theorem tyNew {w : World} {p : Option Addr} {T : TypeId} (h : TyP w p T := by repeat (first | (exact TyP.new (by first | rfl | (simp; done))) | with_reducible (refine TyP.setCell ?_ _ _) | with_reducible (refine TyP.alloc ?_ _))) : TyP w p T := h
/-- A row is not in a block of another type. -/
theorem TyP.ne {w : World} {p : Option Addr} {T T' : TypeId} {g : Nat} {cs : Array Value} (h : TyP w p T) (hb : Blk w g cs T') (hT : T' ≠ T) : ∀ a, p = some a → a.block ≠ g := fun a e e2 => by
  obtain ⟨cur, fz, hh⟩ := h a e
  unfold Blk at hb
  rw [e2, hb] at hh
  injection hh with hh
  injection hh with _ h2 _
  exact hT h2
theorem RunsIn.take {w : World} {p : Option Addr} {l : List RunT} (h : RunsIn w p l) (k : Nat) : RunsIn w p (l.take k) := ⟨fun i r hr => h.at' i r (by
  rw [List.getElem?_take] at hr
  split at hr
  · exact hr
  · cases hr)⟩
theorem IntsIn.take {w : World} {p : Option Addr} {l : List Int} (h : IntsIn w p l) (k : Nat) : IntsIn w p (l.take k) := ⟨fun i r hr => h.at' i r (by
  rw [List.getElem?_take] at hr
  split at hr
  · exact hr
  · cases hr)⟩
theorem own_runs {w : World} {base n : Nat} {e : TypeId} {v : Value} {l : List RunT} (h : w.ownsRow base e 3 v n (flatCells l)) (hn : n = l.length) : ∃ p' cap', v = .slice p' l.length cap' ∧ RunsIn w p' l ∧ l.length ≤ cap' ∧ (∀ a, p' = some a → base ≤ a.block) ∧ TyP w p' e := by
  subst hn
  obtain ⟨_, h2 | ⟨g, cap', cur, rfl, hg, hb, hn, _, hc, ht⟩⟩ := h
  · obtain ⟨rfl, h0⟩ := h2
    exact ⟨none, 0, by rw [h0], ⟨fun i r hr => by rw [List.getElem?_eq_none_iff.2 (by omega)] at hr; cases hr⟩, by omega, (fun a h => by cases h), fun a h => by cases h⟩
  · exact ⟨some ⟨g, 0, none⟩, cap', rfl, cloneRun_in hb ht, hn, (fun a h => by cases h; exact hg), fun a h => by cases h; exact ⟨_, _, hb⟩⟩
theorem own_ints {w : World} {base n : Nat} {e : TypeId} {v : Value} {l : List Int} (h : w.ownsRow base e 1 v n (l.map (Value.int .i64))) (hn : n = l.length) : ∃ p' cap', v = .slice p' l.length cap' ∧ IntsIn w p' l ∧ l.length ≤ cap' ∧ (∀ a, p' = some a → base ≤ a.block) ∧ TyP w p' e := by
  subst hn
  obtain ⟨_, h2 | ⟨g, cap', cur, rfl, hg, hb, hn, _, hc, ht⟩⟩ := h
  · obtain ⟨rfl, h0⟩ := h2
    exact ⟨none, 0, by rw [h0], ⟨fun i r hr => by rw [List.getElem?_eq_none_iff.2 (by omega)] at hr; cases hr⟩, by omega, (fun a h => by cases h), fun a h => by cases h⟩
  · exact ⟨some ⟨g, 0, none⟩, cap', rfl, cloneInt_in hb ht, hn, (fun a h => by cases h; exact hg), fun a h => by cases h; exact ⟨_, _, hb⟩⟩
set_option maxRecDepth 100000 in
set_option maxHeartbeats 2000000 in
theorem own_nil_nil (K A R n d E : Int) (pa qa : Addr) (cap vc : Nat) (l : List RunT) (v : List Int) (w : World)  :
    Calls Tryz.prog 11 #[.agg #[.int .i64 K, .slice none 0 0, .int .i64 A, .int .i64 R, .int .i64 n, .int .i64 d, .slice none 0 0, .int .i64 E]] w fun e w' => ∃ p' cap' q' vc', e = .returned (.agg #[.int .i64 K, .slice p' ([] : List RunT).length cap', .int .i64 A, .int .i64 R, .int .i64 n, .int .i64 d, .slice q' ([] : List Int).length vc', .int .i64 E]) ∧ Below w.heap.size w w' ∧ RunsIn w' p' ([] : List RunT) ∧ IntsIn w' q' ([] : List Int) ∧ ([] : List Int).length ≤ vc' ∧ TyP w' p' 51 ∧ TyP w' q' 2 := by
  go_enter Tryz.func11, Tryz.ntmps11
  go_upto_region 1 with (fail)
  refine wp_facts (fun W' => Below w.heap.size w W' ∧ Blk W' w.heap.size #[.int .i64 K, .slice none 0 0, .int .i64 A, .int .i64 R, .int .i64 n, .int .i64 d, .slice none 0 0, .int .i64 E] 27 ∧ Blk W' (w.heap.size + 1) #[.int .i64 0, .slice none 0 0, .int .i64 0, .int .i64 0, .int .i64 0, .int .i64 0, .slice none 0 0, .int .i64 0] 27) ⟨by exact belowAny, by exact blkAny, by exact blkAny⟩ ?_
  rintro W1 ⟨hW, b1, b2⟩
  have z2 := hW.size
  have z3 := b1.lt
  have z4 := b2.lt
  have k1 := b1.cell
  have f1 := b1.frozen
  have k2 := b2.cell
  have f2 := b2.frozen
  have hmk : ∀ W, (Instr.buildSlice 22 0 #[]).run Tryz.prog W = .ok (.slice (some ⟨W.heap.size, 0, none⟩) 0 0) (W.alloc (.cells #[] 51)) := fun W => by kernel_rfl
  obtain ⟨i, hi, hz0, hz1, hz2⟩ := info_parts Tryz.infoRun
  have hown0 := World.ownsRow_made (e := 51) (size := 3) (base := W1.heap.size) W1 #[] 0 (Nat.le_refl _) (by simp [maxLen]) (by simp)
  go_upto_region 2 with (at_builtin; refine wpList_append_own_none rfl (.tmp 3) (.tmp 10) 22 rfl W1.heap.size 51 i 3 (by kernel_rfl) hi _ 0 [] rfl hown0 rfl ?_)
  try clear k1 f1 k2 f2
  refine wp_facts (fun W' => Below w.heap.size w W' ∧ ∃ p' cap', Blk W' w.heap.size #[.int .i64 K, .slice p' ([] : List RunT).length cap', .int .i64 A, .int .i64 R, .int .i64 n, .int .i64 d, .slice none 0 0, .int .i64 E] 27 ∧ Blk W' (w.heap.size + 1) #[.int .i64 0, .slice none 0 0, .int .i64 0, .int .i64 0, .int .i64 0, .int .i64 0, .slice none 0 0, .int .i64 0] 27 ∧ RunsIn W' p' ([] : List RunT) ∧ (∀ a, p' = some a → w.heap.size + 1 < a.block) ∧ TyP W' p' 51) ⟨belowAny, (some ⟨W1.heap.size, 0, none⟩), 0, blkAny, blkAny, ⟨fun i r hr => by simp at hr⟩, (fun a h => by cases h; simp only []; omega), (by exact tyNew)⟩ ?_
  clear hW b1 b2
  rintro W5 ⟨hW, p', cap', b1, b2, hRp, hfp, hTp⟩
  replace hTp := Lib.hid hTp
  replace hRp := Lib.hid hRp
  replace hfp := Lib.hid hfp
  have z50 := hW.size
  have z51 := b1.lt
  have z52 := b2.lt
  have k1 := b1.cell
  have f1 := b1.frozen
  have k2 := b2.cell
  have f2 := b2.frozen
  try clear i hi hz0 hz1 hz2
  have hmk : ∀ W, (Instr.buildSlice 25 0 #[]).run Tryz.prog W = .ok (.slice (some ⟨W.heap.size, 0, none⟩) 0 0) (W.alloc (.cells #[] 2)) := fun W => by kernel_rfl
  obtain ⟨i, hi, hz0, hz1, hz2⟩ := info_parts Tryz.infoInt
  have hown0 := World.ownsRow_made (e := 2) (size := 1) (base := W5.heap.size) W5 #[] 0 (Nat.le_refl _) (by simp [maxLen]) (by simp)
  go_upto_region 3 with (at_builtin; refine wpList_append_own_none rfl (.tmp 13) (.tmp 20) 25 rfl W5.heap.size 2 i 1 (by kernel_rfl) hi _ 0 [] rfl hown0 rfl ?_)
  try clear k1 f1 k2 f2
  refine wp_facts (fun W' => Below w.heap.size w W' ∧ ∃ q' vc', Blk W' w.heap.size #[.int .i64 K, .slice p' ([] : List RunT).length cap', .int .i64 A, .int .i64 R, .int .i64 n, .int .i64 d, .slice q' ([] : List Int).length vc', .int .i64 E] 27 ∧ Blk W' (w.heap.size + 1) #[.int .i64 0, .slice none 0 0, .int .i64 0, .int .i64 0, .int .i64 0, .int .i64 0, .slice none 0 0, .int .i64 0] 27 ∧ RunsIn W' p' ([] : List RunT) ∧ ([] : List Int).length ≤ vc' ∧ IntsIn W' q' ([] : List Int) ∧ (∀ a, q' = some a → w.heap.size + 1 < a.block) ∧ TyP W' q' 2 ∧ TyP W' p' 51) ⟨belowAny, (some ⟨W5.heap.size, 0, none⟩), 0, blkAny, blkAny, (by (repeat (first | with_reducible (refine RunsIn.alloc ?_ _) | with_reducible (refine RunsIn.set' ?_ (fun a h => by have := hfp.out a h; omega)))); exact hRp.out), Nat.le_refl _, ⟨fun i r hr => by simp at hr⟩, (fun a h => by cases h; simp only []; omega), (by exact tyNew), (by (repeat (first | with_reducible (refine TyP.alloc ?_ _) | with_reducible (refine TyP.setCell ?_ _ _))); exact hTp.out)⟩ ?_
  clear hW b1 b2
  rintro W6 ⟨hW, q', vc', b1, b2, hRp', hvc', hRq, hfq, hTq, hTp'⟩
  replace hTq := Lib.hid hTq
  replace hTp' := Lib.hid hTp'
  replace hRp' := Lib.hid hRp'
  replace hRq := Lib.hid hRq
  replace hfq := Lib.hid hfq
  have y_1 := b1.lt
  have y_2 := b2.lt
  have k1 := b1.cell
  have f1 := b1.frozen
  have k2 := b2.cell
  have f2 := b2.frozen
  go_wp2
  refine bodyPost_ret (v := .agg #[.int .i64 K, .slice p' ([] : List RunT).length cap', .int .i64 A, .int .i64 R, .int .i64 n, .int .i64 d, .slice q' ([] : List Int).length vc', .int .i64 E]) (by simp [results, Tryz.results11, go_sem, k1, f1, k2, f2, y_1, y_2]) rfl ⟨p', cap', q', vc', rfl, belowAny, ?_, ?_, hvc', (by (repeat (refine TyP.setCell ?_ _ _)); exact hTp'.out), (by (repeat (refine TyP.setCell ?_ _ _)); exact hTq.out)⟩
  · repeat (refine RunsIn.set' ?_ (fun a h => by have := hfp.out a h; omega))
    exact hRp'.out
  · repeat (refine IntsIn.set' ?_ (fun a h => by have := hfq.out a h; omega))
    exact hRq.out

set_option maxRecDepth 100000 in
set_option maxHeartbeats 2000000 in
theorem own_nil_short (K A R n d E : Int) (pa qa : Addr) (cap vc : Nat) (l : List RunT) (v : List Int) (w : World)  (hv0 : v.length ≤ 300) (hv1 : v.length ≤ vc) (hv : IntsIn w (some qa) v) :
    Calls Tryz.prog 11 #[.agg #[.int .i64 K, .slice none 0 0, .int .i64 A, .int .i64 R, .int .i64 n, .int .i64 d, .slice (some qa) v.length vc, .int .i64 E]] w fun e w' => ∃ p' cap' q' vc', e = .returned (.agg #[.int .i64 K, .slice p' ([] : List RunT).length cap', .int .i64 A, .int .i64 R, .int .i64 n, .int .i64 d, .slice q' v.length vc', .int .i64 E]) ∧ Below w.heap.size w w' ∧ RunsIn w' p' ([] : List RunT) ∧ IntsIn w' q' v ∧ v.length ≤ vc' ∧ TyP w' p' 51 ∧ TyP w' q' 2 := by
  go_enter Tryz.func11, Tryz.ntmps11
  go_upto_region 1 with (fail)
  refine wp_facts (fun W' => Below w.heap.size w W' ∧ Blk W' w.heap.size #[.int .i64 K, .slice none 0 0, .int .i64 A, .int .i64 R, .int .i64 n, .int .i64 d, .slice (some qa) v.length vc, .int .i64 E] 27 ∧ Blk W' (w.heap.size + 1) #[.int .i64 0, .slice none 0 0, .int .i64 0, .int .i64 0, .int .i64 0, .int .i64 0, .slice none 0 0, .int .i64 0] 27) ⟨by exact belowAny, by exact blkAny, by exact blkAny⟩ ?_
  rintro W1 ⟨hW, b1, b2⟩
  have z2 := hW.size
  have z3 := b1.lt
  have z4 := b2.lt
  have k1 := b1.cell
  have f1 := b1.frozen
  have k2 := b2.cell
  have f2 := b2.frozen
  have hmk : ∀ W, (Instr.buildSlice 22 0 #[]).run Tryz.prog W = .ok (.slice (some ⟨W.heap.size, 0, none⟩) 0 0) (W.alloc (.cells #[] 51)) := fun W => by kernel_rfl
  obtain ⟨i, hi, hz0, hz1, hz2⟩ := info_parts Tryz.infoRun
  have hown0 := World.ownsRow_made (e := 51) (size := 3) (base := W1.heap.size) W1 #[] 0 (Nat.le_refl _) (by simp [maxLen]) (by simp)
  go_upto_region 2 with (at_builtin; refine wpList_append_own_none rfl (.tmp 3) (.tmp 10) 22 rfl W1.heap.size 51 i 3 (by kernel_rfl) hi _ 0 [] rfl hown0 rfl ?_)
  try clear k1 f1 k2 f2
  refine wp_facts (fun W' => Below w.heap.size w W' ∧ ∃ p' cap', Blk W' w.heap.size #[.int .i64 K, .slice p' ([] : List RunT).length cap', .int .i64 A, .int .i64 R, .int .i64 n, .int .i64 d, .slice (some qa) v.length vc, .int .i64 E] 27 ∧ Blk W' (w.heap.size + 1) #[.int .i64 0, .slice none 0 0, .int .i64 0, .int .i64 0, .int .i64 0, .int .i64 0, .slice none 0 0, .int .i64 0] 27 ∧ RunsIn W' p' ([] : List RunT) ∧ (∀ a, p' = some a → w.heap.size + 1 < a.block) ∧ TyP W' p' 51) ⟨belowAny, (some ⟨W1.heap.size, 0, none⟩), 0, blkAny, blkAny, ⟨fun i r hr => by simp at hr⟩, (fun a h => by cases h; simp only []; omega), (by exact tyNew)⟩ ?_
  clear hW b1 b2
  rintro W5 ⟨hW, p', cap', b1, b2, hRp, hfp, hTp⟩
  replace hTp := Lib.hid hTp
  replace hRp := Lib.hid hRp
  replace hfp := Lib.hid hfp
  have z50 := hW.size
  have z51 := b1.lt
  have z52 := b2.lt
  have k1 := b1.cell
  have f1 := b1.frozen
  have k2 := b2.cell
  have f2 := b2.frozen
  try clear i hi hz0 hz1 hz2
  have hmk : ∀ W, (Instr.buildSlice 25 0 #[]).run Tryz.prog W = .ok (.slice (some ⟨W.heap.size, 0, none⟩) 0 0) (W.alloc (.cells #[] 2)) := fun W => by kernel_rfl
  obtain ⟨i, hi, hz0, hz1, hz2⟩ := info_parts Tryz.infoInt
  have hown0 := World.ownsRow_made (e := 2) (size := 1) (base := W5.heap.size) W5 #[] 0 (Nat.le_refl _) (by simp [maxLen]) (by simp)
  go_upto_region 3 with (at_builtin; refine wpList_append_own _ rfl (.tmp 13) (.tmp 20) 25 rfl W5.heap.size 2 i _ 1 8 (by kernel_rfl) hi hz0 hz1 hz2 rfl (by omega) _ 0 [] rfl hown0 qa v.length vc (v.map (Value.int .i64)) rfl (by rw [List.length_map]; omega) (fun j u hu => ints_flat ((hv.below (hW.trans ((Below.refl _ _).alloc (Nat.le_refl _) _ |>.mono hW.size)))) j u hu) (fun v hv => by simp only [List.mem_map] at hv; obtain ⟨x, _, rfl⟩ := hv; rfl) (by simp [maxLen] <;> omega) (by omega) (by simp) ?_)
  intro v' w' hown hgr _
  have hB := clone_below hgr
  obtain ⟨p9, cap9, rfl, hR9, hc9, hf9, hT9⟩ := own_ints (l := v) hown (by simp)
  clear hown hgr hown0 hmk
  have hz9 := hB.size
  have b1 : Blk w' w.heap.size #[.int .i64 K, .slice p' ([] : List RunT).length cap', .int .i64 A, .int .i64 R, .int .i64 n, .int .i64 d, .slice (some qa) v.length vc, .int .i64 E] 27 := blkAny
  have b2 : Blk w' (w.heap.size + 1) #[.int .i64 0, .slice none 0 0, .int .i64 0, .int .i64 0, .int .i64 0, .int .i64 0, .slice none 0 0, .int .i64 0] 27 := blkAny
  have hW : Below w.heap.size w w' := belowAny
  have k1 := b1.cell
  have f1 := b1.frozen
  have k2 := b2.cell
  have f2 := b2.frozen
  replace hR9 := Lib.hid hR9
  replace hf9 := Lib.hid hf9
  replace hT9 := Lib.hid hT9
  go_upto_region 3 with (fail)
  try clear k1 f1 k2 f2
  refine wp_facts (fun W' => Below w.heap.size w W' ∧ ∃ q' vc', Blk W' w.heap.size #[.int .i64 K, .slice p' ([] : List RunT).length cap', .int .i64 A, .int .i64 R, .int .i64 n, .int .i64 d, .slice q' v.length vc', .int .i64 E] 27 ∧ Blk W' (w.heap.size + 1) #[.int .i64 0, .slice none 0 0, .int .i64 0, .int .i64 0, .int .i64 0, .int .i64 0, .slice none 0 0, .int .i64 0] 27 ∧ RunsIn W' p' ([] : List RunT) ∧ v.length ≤ vc' ∧ IntsIn W' q' v ∧ (∀ a, q' = some a → w.heap.size + 1 < a.block) ∧ TyP W' q' 2 ∧ TyP W' p' 51) ⟨belowAny, p9, cap9, blkAny, blkAny, (by (repeat (first | with_reducible (refine RunsIn.alloc ?_ _) | with_reducible (refine RunsIn.set' ?_ (fun a h => by have := hfp.out a h; omega)))); exact hRp.out.below hB), hc9, (by (repeat (refine IntsIn.set' ?_ (fun a h => by have := hf9.out a h; omega))); exact hR9.out), (fun a h => by have := hf9.out a h; omega), (by (repeat (refine TyP.setCell ?_ _ _)); exact hT9.out), (by (repeat (first | with_reducible (refine TyP.alloc ?_ _) | with_reducible (refine TyP.setCell ?_ _ _))); exact hTp.out.below hB)⟩ ?_
  clear hW b1 b2
  rintro W6 ⟨hW, q', vc', b1, b2, hRp', hvc', hRq, hfq, hTq, hTp'⟩
  replace hTq := Lib.hid hTq
  replace hTp' := Lib.hid hTp'
  replace hRp' := Lib.hid hRp'
  replace hRq := Lib.hid hRq
  replace hfq := Lib.hid hfq
  have y_1 := b1.lt
  have y_2 := b2.lt
  have k1 := b1.cell
  have f1 := b1.frozen
  have k2 := b2.cell
  have f2 := b2.frozen
  go_wp2
  refine bodyPost_ret (v := .agg #[.int .i64 K, .slice p' ([] : List RunT).length cap', .int .i64 A, .int .i64 R, .int .i64 n, .int .i64 d, .slice q' v.length vc', .int .i64 E]) (by simp [results, Tryz.results11, go_sem, k1, f1, k2, f2, y_1, y_2]) rfl ⟨p', cap', q', vc', rfl, belowAny, ?_, ?_, hvc', (by (repeat (refine TyP.setCell ?_ _ _)); exact hTp'.out), (by (repeat (refine TyP.setCell ?_ _ _)); exact hTq.out)⟩
  · repeat (refine RunsIn.set' ?_ (fun a h => by have := hfp.out a h; omega))
    exact hRp'.out
  · repeat (refine IntsIn.set' ?_ (fun a h => by have := hfq.out a h; omega))
    exact hRq.out

set_option maxRecDepth 100000 in
set_option maxHeartbeats 2000000 in
theorem own_nil_long (K A R n d E : Int) (pa qa : Addr) (cap vc : Nat) (l : List RunT) (v : List Int) (w : World)  (hv0 : 300 < v.length) (hv1 : v.length ≤ vc) (hv2 : v.length ≤ 9223372036854775807) (hv : IntsIn w (some qa) v) (v9 : List Int) (k9 : v9 = v.take 300) :
    Calls Tryz.prog 11 #[.agg #[.int .i64 K, .slice none 0 0, .int .i64 A, .int .i64 R, .int .i64 n, .int .i64 d, .slice (some qa) v.length vc, .int .i64 E]] w fun e w' => ∃ p' cap' q' vc', e = .returned (.agg #[.int .i64 K, .slice p' ([] : List RunT).length cap', .int .i64 A, .int .i64 R, .int .i64 n, .int .i64 d, .slice q' v9.length vc', .int .i64 E]) ∧ Below w.heap.size w w' ∧ RunsIn w' p' ([] : List RunT) ∧ IntsIn w' q' v9 ∧ v9.length ≤ vc' ∧ TyP w' p' 51 ∧ TyP w' q' 2 := by
  have hv8 : IntsIn w (some qa) v9 := k9 ▸ hv.take 300
  have hv9 := Lib.hid (show v9.length = 300 by rw [k9, List.length_take]; omega)
  clear k9
  go_enter Tryz.func11, Tryz.ntmps11
  go_upto_region 1 with (fail)
  refine wp_facts (fun W' => Below w.heap.size w W' ∧ Blk W' w.heap.size #[.int .i64 K, .slice none 0 0, .int .i64 A, .int .i64 R, .int .i64 n, .int .i64 d, .slice (some qa) v.length vc, .int .i64 E] 27 ∧ Blk W' (w.heap.size + 1) #[.int .i64 0, .slice none 0 0, .int .i64 0, .int .i64 0, .int .i64 0, .int .i64 0, .slice none 0 0, .int .i64 0] 27) ⟨by exact belowAny, by exact blkAny, by exact blkAny⟩ ?_
  rintro W1 ⟨hW, b1, b2⟩
  have z2 := hW.size
  have z3 := b1.lt
  have z4 := b2.lt
  have k1 := b1.cell
  have f1 := b1.frozen
  have k2 := b2.cell
  have f2 := b2.frozen
  have hmk : ∀ W, (Instr.buildSlice 22 0 #[]).run Tryz.prog W = .ok (.slice (some ⟨W.heap.size, 0, none⟩) 0 0) (W.alloc (.cells #[] 51)) := fun W => by kernel_rfl
  obtain ⟨i, hi, hz0, hz1, hz2⟩ := info_parts Tryz.infoRun
  have hown0 := World.ownsRow_made (e := 51) (size := 3) (base := W1.heap.size) W1 #[] 0 (Nat.le_refl _) (by simp [maxLen]) (by simp)
  go_upto_region 2 with (at_builtin; refine wpList_append_own_none rfl (.tmp 3) (.tmp 10) 22 rfl W1.heap.size 51 i 3 (by kernel_rfl) hi _ 0 [] rfl hown0 rfl ?_)
  try clear k1 f1 k2 f2
  refine wp_facts (fun W' => Below w.heap.size w W' ∧ ∃ p' cap', Blk W' w.heap.size #[.int .i64 K, .slice p' ([] : List RunT).length cap', .int .i64 A, .int .i64 R, .int .i64 n, .int .i64 d, .slice (some qa) v.length vc, .int .i64 E] 27 ∧ Blk W' (w.heap.size + 1) #[.int .i64 0, .slice none 0 0, .int .i64 0, .int .i64 0, .int .i64 0, .int .i64 0, .slice none 0 0, .int .i64 0] 27 ∧ RunsIn W' p' ([] : List RunT) ∧ (∀ a, p' = some a → w.heap.size + 1 < a.block) ∧ TyP W' p' 51) ⟨belowAny, (some ⟨W1.heap.size, 0, none⟩), 0, blkAny, blkAny, ⟨fun i r hr => by simp at hr⟩, (fun a h => by cases h; simp only []; omega), (by exact tyNew)⟩ ?_
  clear hW b1 b2
  rintro W5 ⟨hW, p', cap', b1, b2, hRp, hfp, hTp⟩
  replace hTp := Lib.hid hTp
  replace hRp := Lib.hid hRp
  replace hfp := Lib.hid hfp
  have z50 := hW.size
  have z51 := b1.lt
  have z52 := b2.lt
  have k1 := b1.cell
  have f1 := b1.frozen
  have k2 := b2.cell
  have f2 := b2.frozen
  try clear i hi hz0 hz1 hz2
  have hmk : ∀ W, (Instr.buildSlice 25 0 #[]).run Tryz.prog W = .ok (.slice (some ⟨W.heap.size, 0, none⟩) 0 0) (W.alloc (.cells #[] 2)) := fun W => by kernel_rfl
  obtain ⟨i, hi, hz0, hz1, hz2⟩ := info_parts Tryz.infoInt
  have hown0 := World.ownsRow_made (e := 2) (size := 1) (base := W5.heap.size) W5 #[] 0 (Nat.le_refl _) (by simp [maxLen]) (by simp)
  go_upto_region 3 with (at_builtin; refine wpList_append_own _ rfl (.tmp 13) (.tmp 20) 25 rfl W5.heap.size 2 i _ 1 8 (by kernel_rfl) hi hz0 hz1 hz2 rfl (by omega) _ 0 [] rfl hown0 qa 300 vc (v9.map (Value.int .i64)) rfl (by rw [List.length_map, hv9.out]) (fun j u hu => ints_flat ((hv8.below (hW.trans ((Below.refl _ _).alloc (Nat.le_refl _) _ |>.mono hW.size)))) j u hu) (fun v hv => by simp only [List.mem_map] at hv; obtain ⟨x, _, rfl⟩ := hv; rfl) (by simp [maxLen] <;> omega) (by omega) (by simp) ?_)
  intro v' w' hown hgr _
  have hB := clone_below hgr
  obtain ⟨p9, cap9, rfl, hR9, hc9, hf9, hT9⟩ := own_ints (l := v9) hown (by rw [hv9.out])
  clear hown hgr hown0 hmk
  have hz9 := hB.size
  have b1 : Blk w' w.heap.size #[.int .i64 K, .slice p' ([] : List RunT).length cap', .int .i64 A, .int .i64 R, .int .i64 n, .int .i64 d, .slice (some qa) v.length vc, .int .i64 E] 27 := blkAny
  have b2 : Blk w' (w.heap.size + 1) #[.int .i64 0, .slice none 0 0, .int .i64 0, .int .i64 0, .int .i64 0, .int .i64 0, .slice none 0 0, .int .i64 0] 27 := blkAny
  have hW : Below w.heap.size w w' := belowAny
  have k1 := b1.cell
  have f1 := b1.frozen
  have k2 := b2.cell
  have f2 := b2.frozen
  replace hR9 := Lib.hid hR9
  replace hf9 := Lib.hid hf9
  replace hT9 := Lib.hid hT9
  go_upto_region 3 with (fail)
  try clear k1 f1 k2 f2
  refine wp_facts (fun W' => Below w.heap.size w W' ∧ ∃ q' vc', Blk W' w.heap.size #[.int .i64 K, .slice p' ([] : List RunT).length cap', .int .i64 A, .int .i64 R, .int .i64 n, .int .i64 d, .slice q' v9.length vc', .int .i64 E] 27 ∧ Blk W' (w.heap.size + 1) #[.int .i64 0, .slice none 0 0, .int .i64 0, .int .i64 0, .int .i64 0, .int .i64 0, .slice none 0 0, .int .i64 0] 27 ∧ RunsIn W' p' ([] : List RunT) ∧ v9.length ≤ vc' ∧ IntsIn W' q' v9 ∧ (∀ a, q' = some a → w.heap.size + 1 < a.block) ∧ TyP W' q' 2 ∧ TyP W' p' 51) ⟨belowAny, p9, cap9, blkAny, blkAny, (by (repeat (first | with_reducible (refine RunsIn.alloc ?_ _) | with_reducible (refine RunsIn.set' ?_ (fun a h => by have := hfp.out a h; omega)))); exact hRp.out.below hB), hc9, (by (repeat (refine IntsIn.set' ?_ (fun a h => by have := hf9.out a h; omega))); exact hR9.out), (fun a h => by have := hf9.out a h; omega), (by (repeat (refine TyP.setCell ?_ _ _)); exact hT9.out), (by (repeat (first | with_reducible (refine TyP.alloc ?_ _) | with_reducible (refine TyP.setCell ?_ _ _))); exact hTp.out.below hB)⟩ ?_
  clear hW b1 b2
  rintro W6 ⟨hW, q', vc', b1, b2, hRp', hvc', hRq, hfq, hTq, hTp'⟩
  replace hTq := Lib.hid hTq
  replace hTp' := Lib.hid hTp'
  replace hRp' := Lib.hid hRp'
  replace hRq := Lib.hid hRq
  replace hfq := Lib.hid hfq
  have y_1 := b1.lt
  have y_2 := b2.lt
  have k1 := b1.cell
  have f1 := b1.frozen
  have k2 := b2.cell
  have f2 := b2.frozen
  go_wp2
  refine bodyPost_ret (v := .agg #[.int .i64 K, .slice p' ([] : List RunT).length cap', .int .i64 A, .int .i64 R, .int .i64 n, .int .i64 d, .slice q' v9.length vc', .int .i64 E]) (by simp [results, Tryz.results11, go_sem, k1, f1, k2, f2, y_1, y_2]) rfl ⟨p', cap', q', vc', rfl, belowAny, ?_, ?_, hvc', (by (repeat (refine TyP.setCell ?_ _ _)); exact hTp'.out), (by (repeat (refine TyP.setCell ?_ _ _)); exact hTq.out)⟩
  · repeat (refine RunsIn.set' ?_ (fun a h => by have := hfp.out a h; omega))
    exact hRp'.out
  · repeat (refine IntsIn.set' ?_ (fun a h => by have := hfq.out a h; omega))
    exact hRq.out

set_option maxRecDepth 100000 in
set_option maxHeartbeats 2000000 in
theorem own_short_nil (K A R n d E : Int) (pa qa : Addr) (cap vc : Nat) (l : List RunT) (v : List Int) (w : World) (hl0 : l.length ≤ 300) (hl1 : l.length ≤ cap) (hl : RunsIn w (some pa) l) :
    Calls Tryz.prog 11 #[.agg #[.int .i64 K, .slice (some pa) l.length cap, .int .i64 A, .int .i64 R, .int .i64 n, .int .i64 d, .slice none 0 0, .int .i64 E]] w fun e w' => ∃ p' cap' q' vc', e = .returned (.agg #[.int .i64 K, .slice p' l.length cap', .int .i64 A, .int .i64 R, .int .i64 n, .int .i64 d, .slice q' ([] : List Int).length vc', .int .i64 E]) ∧ Below w.heap.size w w' ∧ RunsIn w' p' l ∧ IntsIn w' q' ([] : List Int) ∧ ([] : List Int).length ≤ vc' ∧ TyP w' p' 51 ∧ TyP w' q' 2 := by
  go_enter Tryz.func11, Tryz.ntmps11
  go_upto_region 1 with (fail)
  refine wp_facts (fun W' => Below w.heap.size w W' ∧ Blk W' w.heap.size #[.int .i64 K, .slice (some pa) l.length cap, .int .i64 A, .int .i64 R, .int .i64 n, .int .i64 d, .slice none 0 0, .int .i64 E] 27 ∧ Blk W' (w.heap.size + 1) #[.int .i64 0, .slice none 0 0, .int .i64 0, .int .i64 0, .int .i64 0, .int .i64 0, .slice none 0 0, .int .i64 0] 27) ⟨by exact belowAny, by exact blkAny, by exact blkAny⟩ ?_
  rintro W1 ⟨hW, b1, b2⟩
  have z2 := hW.size
  have z3 := b1.lt
  have z4 := b2.lt
  have k1 := b1.cell
  have f1 := b1.frozen
  have k2 := b2.cell
  have f2 := b2.frozen
  have hmk : ∀ W, (Instr.buildSlice 22 0 #[]).run Tryz.prog W = .ok (.slice (some ⟨W.heap.size, 0, none⟩) 0 0) (W.alloc (.cells #[] 51)) := fun W => by kernel_rfl
  obtain ⟨i, hi, hz0, hz1, hz2⟩ := info_parts Tryz.infoRun
  have hown0 := World.ownsRow_made (e := 51) (size := 3) (base := W1.heap.size) W1 #[] 0 (Nat.le_refl _) (by simp [maxLen]) (by simp)
  go_upto_region 2 with (at_builtin; refine wpList_append_own _ rfl (.tmp 3) (.tmp 10) 22 rfl W1.heap.size 51 i _ 3 24 (by kernel_rfl) hi hz0 hz1 hz2 rfl (by omega) _ 0 [] rfl hown0 pa l.length cap (flatCells l) rfl (by rw [length_flatCells]) ((hl.below (hW.trans ((Below.refl _ _).alloc (Nat.le_refl _) _ |>.mono hW.size)))).flat (fun v hv => by obtain ⟨x, rfl⟩ := flat_mem _ v hv; rfl) (by simp [maxLen] <;> omega) (by omega) (by simp) ?_)
  intro v' w' hown hgr _
  have hB := clone_below hgr
  obtain ⟨p9, cap9, rfl, hR9, hc9, hf9, hT9⟩ := own_runs (l := l) hown (by simp)
  clear hown hgr hown0 hmk
  have hz9 := hB.size
  have b1 : Blk w' w.heap.size #[.int .i64 K, .slice (some pa) l.length cap, .int .i64 A, .int .i64 R, .int .i64 n, .int .i64 d, .slice none 0 0, .int .i64 E] 27 := blkAny
  have b2 : Blk w' (w.heap.size + 1) #[.int .i64 0, .slice none 0 0, .int .i64 0, .int .i64 0, .int .i64 0, .int .i64 0, .slice none 0 0, .int .i64 0] 27 := blkAny
  have hW : Below w.heap.size w w' := belowAny
  have k1 := b1.cell
  have f1 := b1.frozen
  have k2 := b2.cell
  have f2 := b2.frozen
  replace hR9 := Lib.hid hR9
  replace hf9 := Lib.hid hf9
  replace hT9 := Lib.hid hT9
  go_upto_region 2 with (fail)
  try clear k1 f1 k2 f2
  refine wp_facts (fun W' => Below w.heap.size w W' ∧ ∃ p' cap', Blk W' w.heap.size #[.int .i64 K, .slice p' l.length cap', .int .i64 A, .int .i64 R, .int .i64 n, .int .i64 d, .slice none 0 0, .int .i64 E] 27 ∧ Blk W' (w.heap.size + 1) #[.int .i64 0, .slice none 0 0, .int .i64 0, .int .i64 0, .int .i64 0, .int .i64 0, .slice none 0 0, .int .i64 0] 27 ∧ RunsIn W' p' l ∧ (∀ a, p' = some a → w.heap.size + 1 < a.block) ∧ TyP W' p' 51) ⟨belowAny, p9, cap9, blkAny, blkAny, (by (repeat (refine RunsIn.set' ?_ (fun a h => by have := hf9.out a h; omega))); exact hR9.out), (fun a h => by have := hf9.out a h; omega), (by (repeat (refine TyP.setCell ?_ _ _)); exact hT9.out)⟩ ?_
  clear hW b1 b2
  rintro W5 ⟨hW, p', cap', b1, b2, hRp, hfp, hTp⟩
  replace hTp := Lib.hid hTp
  replace hRp := Lib.hid hRp
  replace hfp := Lib.hid hfp
  have z50 := hW.size
  have z51 := b1.lt
  have z52 := b2.lt
  have k1 := b1.cell
  have f1 := b1.frozen
  have k2 := b2.cell
  have f2 := b2.frozen
  try clear i hi hz0 hz1 hz2
  have hmk : ∀ W, (Instr.buildSlice 25 0 #[]).run Tryz.prog W = .ok (.slice (some ⟨W.heap.size, 0, none⟩) 0 0) (W.alloc (.cells #[] 2)) := fun W => by kernel_rfl
  obtain ⟨i, hi, hz0, hz1, hz2⟩ := info_parts Tryz.infoInt
  have hown0 := World.ownsRow_made (e := 2) (size := 1) (base := W5.heap.size) W5 #[] 0 (Nat.le_refl _) (by simp [maxLen]) (by simp)
  go_upto_region 3 with (at_builtin; refine wpList_append_own_none rfl (.tmp 13) (.tmp 20) 25 rfl W5.heap.size 2 i 1 (by kernel_rfl) hi _ 0 [] rfl hown0 rfl ?_)
  try clear k1 f1 k2 f2
  refine wp_facts (fun W' => Below w.heap.size w W' ∧ ∃ q' vc', Blk W' w.heap.size #[.int .i64 K, .slice p' l.length cap', .int .i64 A, .int .i64 R, .int .i64 n, .int .i64 d, .slice q' ([] : List Int).length vc', .int .i64 E] 27 ∧ Blk W' (w.heap.size + 1) #[.int .i64 0, .slice none 0 0, .int .i64 0, .int .i64 0, .int .i64 0, .int .i64 0, .slice none 0 0, .int .i64 0] 27 ∧ RunsIn W' p' l ∧ ([] : List Int).length ≤ vc' ∧ IntsIn W' q' ([] : List Int) ∧ (∀ a, q' = some a → w.heap.size + 1 < a.block) ∧ TyP W' q' 2 ∧ TyP W' p' 51) ⟨belowAny, (some ⟨W5.heap.size, 0, none⟩), 0, blkAny, blkAny, (by (repeat (first | with_reducible (refine RunsIn.alloc ?_ _) | with_reducible (refine RunsIn.set' ?_ (fun a h => by have := hfp.out a h; omega)))); exact hRp.out), Nat.le_refl _, ⟨fun i r hr => by simp at hr⟩, (fun a h => by cases h; simp only []; omega), (by exact tyNew), (by (repeat (first | with_reducible (refine TyP.alloc ?_ _) | with_reducible (refine TyP.setCell ?_ _ _))); exact hTp.out)⟩ ?_
  clear hW b1 b2
  rintro W6 ⟨hW, q', vc', b1, b2, hRp', hvc', hRq, hfq, hTq, hTp'⟩
  replace hTq := Lib.hid hTq
  replace hTp' := Lib.hid hTp'
  replace hRp' := Lib.hid hRp'
  replace hRq := Lib.hid hRq
  replace hfq := Lib.hid hfq
  have y_1 := b1.lt
  have y_2 := b2.lt
  have k1 := b1.cell
  have f1 := b1.frozen
  have k2 := b2.cell
  have f2 := b2.frozen
  go_wp2
  refine bodyPost_ret (v := .agg #[.int .i64 K, .slice p' l.length cap', .int .i64 A, .int .i64 R, .int .i64 n, .int .i64 d, .slice q' ([] : List Int).length vc', .int .i64 E]) (by simp [results, Tryz.results11, go_sem, k1, f1, k2, f2, y_1, y_2]) rfl ⟨p', cap', q', vc', rfl, belowAny, ?_, ?_, hvc', (by (repeat (refine TyP.setCell ?_ _ _)); exact hTp'.out), (by (repeat (refine TyP.setCell ?_ _ _)); exact hTq.out)⟩
  · repeat (refine RunsIn.set' ?_ (fun a h => by have := hfp.out a h; omega))
    exact hRp'.out
  · repeat (refine IntsIn.set' ?_ (fun a h => by have := hfq.out a h; omega))
    exact hRq.out

set_option maxRecDepth 100000 in
set_option maxHeartbeats 2000000 in
theorem own_short_short (K A R n d E : Int) (pa qa : Addr) (cap vc : Nat) (l : List RunT) (v : List Int) (w : World) (hl0 : l.length ≤ 300) (hl1 : l.length ≤ cap) (hv0 : v.length ≤ 300) (hv1 : v.length ≤ vc) (hl : RunsIn w (some pa) l) (hv : IntsIn w (some qa) v) :
    Calls Tryz.prog 11 #[.agg #[.int .i64 K, .slice (some pa) l.length cap, .int .i64 A, .int .i64 R, .int .i64 n, .int .i64 d, .slice (some qa) v.length vc, .int .i64 E]] w fun e w' => ∃ p' cap' q' vc', e = .returned (.agg #[.int .i64 K, .slice p' l.length cap', .int .i64 A, .int .i64 R, .int .i64 n, .int .i64 d, .slice q' v.length vc', .int .i64 E]) ∧ Below w.heap.size w w' ∧ RunsIn w' p' l ∧ IntsIn w' q' v ∧ v.length ≤ vc' ∧ TyP w' p' 51 ∧ TyP w' q' 2 := by
  go_enter Tryz.func11, Tryz.ntmps11
  go_upto_region 1 with (fail)
  refine wp_facts (fun W' => Below w.heap.size w W' ∧ Blk W' w.heap.size #[.int .i64 K, .slice (some pa) l.length cap, .int .i64 A, .int .i64 R, .int .i64 n, .int .i64 d, .slice (some qa) v.length vc, .int .i64 E] 27 ∧ Blk W' (w.heap.size + 1) #[.int .i64 0, .slice none 0 0, .int .i64 0, .int .i64 0, .int .i64 0, .int .i64 0, .slice none 0 0, .int .i64 0] 27) ⟨by exact belowAny, by exact blkAny, by exact blkAny⟩ ?_
  rintro W1 ⟨hW, b1, b2⟩
  have z2 := hW.size
  have z3 := b1.lt
  have z4 := b2.lt
  have k1 := b1.cell
  have f1 := b1.frozen
  have k2 := b2.cell
  have f2 := b2.frozen
  have hmk : ∀ W, (Instr.buildSlice 22 0 #[]).run Tryz.prog W = .ok (.slice (some ⟨W.heap.size, 0, none⟩) 0 0) (W.alloc (.cells #[] 51)) := fun W => by kernel_rfl
  obtain ⟨i, hi, hz0, hz1, hz2⟩ := info_parts Tryz.infoRun
  have hown0 := World.ownsRow_made (e := 51) (size := 3) (base := W1.heap.size) W1 #[] 0 (Nat.le_refl _) (by simp [maxLen]) (by simp)
  go_upto_region 2 with (at_builtin; refine wpList_append_own _ rfl (.tmp 3) (.tmp 10) 22 rfl W1.heap.size 51 i _ 3 24 (by kernel_rfl) hi hz0 hz1 hz2 rfl (by omega) _ 0 [] rfl hown0 pa l.length cap (flatCells l) rfl (by rw [length_flatCells]) ((hl.below (hW.trans ((Below.refl _ _).alloc (Nat.le_refl _) _ |>.mono hW.size)))).flat (fun v hv => by obtain ⟨x, rfl⟩ := flat_mem _ v hv; rfl) (by simp [maxLen] <;> omega) (by omega) (by simp) ?_)
  intro v' w' hown hgr _
  have hB := clone_below hgr
  obtain ⟨p9, cap9, rfl, hR9, hc9, hf9, hT9⟩ := own_runs (l := l) hown (by simp)
  clear hown hgr hown0 hmk
  have hz9 := hB.size
  have b1 : Blk w' w.heap.size #[.int .i64 K, .slice (some pa) l.length cap, .int .i64 A, .int .i64 R, .int .i64 n, .int .i64 d, .slice (some qa) v.length vc, .int .i64 E] 27 := blkAny
  have b2 : Blk w' (w.heap.size + 1) #[.int .i64 0, .slice none 0 0, .int .i64 0, .int .i64 0, .int .i64 0, .int .i64 0, .slice none 0 0, .int .i64 0] 27 := blkAny
  have hW : Below w.heap.size w w' := belowAny
  have k1 := b1.cell
  have f1 := b1.frozen
  have k2 := b2.cell
  have f2 := b2.frozen
  replace hR9 := Lib.hid hR9
  replace hf9 := Lib.hid hf9
  replace hT9 := Lib.hid hT9
  go_upto_region 2 with (fail)
  try clear k1 f1 k2 f2
  refine wp_facts (fun W' => Below w.heap.size w W' ∧ ∃ p' cap', Blk W' w.heap.size #[.int .i64 K, .slice p' l.length cap', .int .i64 A, .int .i64 R, .int .i64 n, .int .i64 d, .slice (some qa) v.length vc, .int .i64 E] 27 ∧ Blk W' (w.heap.size + 1) #[.int .i64 0, .slice none 0 0, .int .i64 0, .int .i64 0, .int .i64 0, .int .i64 0, .slice none 0 0, .int .i64 0] 27 ∧ RunsIn W' p' l ∧ (∀ a, p' = some a → w.heap.size + 1 < a.block) ∧ TyP W' p' 51) ⟨belowAny, p9, cap9, blkAny, blkAny, (by (repeat (refine RunsIn.set' ?_ (fun a h => by have := hf9.out a h; omega))); exact hR9.out), (fun a h => by have := hf9.out a h; omega), (by (repeat (refine TyP.setCell ?_ _ _)); exact hT9.out)⟩ ?_
  clear hW b1 b2
  rintro W5 ⟨hW, p', cap', b1, b2, hRp, hfp, hTp⟩
  replace hTp := Lib.hid hTp
  replace hRp := Lib.hid hRp
  replace hfp := Lib.hid hfp
  have z50 := hW.size
  have z51 := b1.lt
  have z52 := b2.lt
  have k1 := b1.cell
  have f1 := b1.frozen
  have k2 := b2.cell
  have f2 := b2.frozen
  try clear i hi hz0 hz1 hz2
  have hmk : ∀ W, (Instr.buildSlice 25 0 #[]).run Tryz.prog W = .ok (.slice (some ⟨W.heap.size, 0, none⟩) 0 0) (W.alloc (.cells #[] 2)) := fun W => by kernel_rfl
  obtain ⟨i, hi, hz0, hz1, hz2⟩ := info_parts Tryz.infoInt
  have hown0 := World.ownsRow_made (e := 2) (size := 1) (base := W5.heap.size) W5 #[] 0 (Nat.le_refl _) (by simp [maxLen]) (by simp)
  go_upto_region 3 with (at_builtin; refine wpList_append_own _ rfl (.tmp 13) (.tmp 20) 25 rfl W5.heap.size 2 i _ 1 8 (by kernel_rfl) hi hz0 hz1 hz2 rfl (by omega) _ 0 [] rfl hown0 qa v.length vc (v.map (Value.int .i64)) rfl (by rw [List.length_map]; omega) (fun j u hu => ints_flat ((hv.below (hW.trans ((Below.refl _ _).alloc (Nat.le_refl _) _ |>.mono hW.size)))) j u hu) (fun v hv => by simp only [List.mem_map] at hv; obtain ⟨x, _, rfl⟩ := hv; rfl) (by simp [maxLen] <;> omega) (by omega) (by simp) ?_)
  intro v' w' hown hgr _
  have hB := clone_below hgr
  obtain ⟨p9, cap9, rfl, hR9, hc9, hf9, hT9⟩ := own_ints (l := v) hown (by simp)
  clear hown hgr hown0 hmk
  have hz9 := hB.size
  have b1 : Blk w' w.heap.size #[.int .i64 K, .slice p' l.length cap', .int .i64 A, .int .i64 R, .int .i64 n, .int .i64 d, .slice (some qa) v.length vc, .int .i64 E] 27 := blkAny
  have b2 : Blk w' (w.heap.size + 1) #[.int .i64 0, .slice none 0 0, .int .i64 0, .int .i64 0, .int .i64 0, .int .i64 0, .slice none 0 0, .int .i64 0] 27 := blkAny
  have hW : Below w.heap.size w w' := belowAny
  have k1 := b1.cell
  have f1 := b1.frozen
  have k2 := b2.cell
  have f2 := b2.frozen
  replace hR9 := Lib.hid hR9
  replace hf9 := Lib.hid hf9
  replace hT9 := Lib.hid hT9
  go_upto_region 3 with (fail)
  try clear k1 f1 k2 f2
  refine wp_facts (fun W' => Below w.heap.size w W' ∧ ∃ q' vc', Blk W' w.heap.size #[.int .i64 K, .slice p' l.length cap', .int .i64 A, .int .i64 R, .int .i64 n, .int .i64 d, .slice q' v.length vc', .int .i64 E] 27 ∧ Blk W' (w.heap.size + 1) #[.int .i64 0, .slice none 0 0, .int .i64 0, .int .i64 0, .int .i64 0, .int .i64 0, .slice none 0 0, .int .i64 0] 27 ∧ RunsIn W' p' l ∧ v.length ≤ vc' ∧ IntsIn W' q' v ∧ (∀ a, q' = some a → w.heap.size + 1 < a.block) ∧ TyP W' q' 2 ∧ TyP W' p' 51) ⟨belowAny, p9, cap9, blkAny, blkAny, (by (repeat (first | with_reducible (refine RunsIn.alloc ?_ _) | with_reducible (refine RunsIn.set' ?_ (fun a h => by have := hfp.out a h; omega)))); exact hRp.out.below hB), hc9, (by (repeat (refine IntsIn.set' ?_ (fun a h => by have := hf9.out a h; omega))); exact hR9.out), (fun a h => by have := hf9.out a h; omega), (by (repeat (refine TyP.setCell ?_ _ _)); exact hT9.out), (by (repeat (first | with_reducible (refine TyP.alloc ?_ _) | with_reducible (refine TyP.setCell ?_ _ _))); exact hTp.out.below hB)⟩ ?_
  clear hW b1 b2
  rintro W6 ⟨hW, q', vc', b1, b2, hRp', hvc', hRq, hfq, hTq, hTp'⟩
  replace hTq := Lib.hid hTq
  replace hTp' := Lib.hid hTp'
  replace hRp' := Lib.hid hRp'
  replace hRq := Lib.hid hRq
  replace hfq := Lib.hid hfq
  have y_1 := b1.lt
  have y_2 := b2.lt
  have k1 := b1.cell
  have f1 := b1.frozen
  have k2 := b2.cell
  have f2 := b2.frozen
  go_wp2
  refine bodyPost_ret (v := .agg #[.int .i64 K, .slice p' l.length cap', .int .i64 A, .int .i64 R, .int .i64 n, .int .i64 d, .slice q' v.length vc', .int .i64 E]) (by simp [results, Tryz.results11, go_sem, k1, f1, k2, f2, y_1, y_2]) rfl ⟨p', cap', q', vc', rfl, belowAny, ?_, ?_, hvc', (by (repeat (refine TyP.setCell ?_ _ _)); exact hTp'.out), (by (repeat (refine TyP.setCell ?_ _ _)); exact hTq.out)⟩
  · repeat (refine RunsIn.set' ?_ (fun a h => by have := hfp.out a h; omega))
    exact hRp'.out
  · repeat (refine IntsIn.set' ?_ (fun a h => by have := hfq.out a h; omega))
    exact hRq.out

set_option maxRecDepth 100000 in
set_option maxHeartbeats 2000000 in
theorem own_short_long (K A R n d E : Int) (pa qa : Addr) (cap vc : Nat) (l : List RunT) (v : List Int) (w : World) (hl0 : l.length ≤ 300) (hl1 : l.length ≤ cap) (hv0 : 300 < v.length) (hv1 : v.length ≤ vc) (hv2 : v.length ≤ 9223372036854775807) (hl : RunsIn w (some pa) l) (hv : IntsIn w (some qa) v) (v9 : List Int) (k9 : v9 = v.take 300) :
    Calls Tryz.prog 11 #[.agg #[.int .i64 K, .slice (some pa) l.length cap, .int .i64 A, .int .i64 R, .int .i64 n, .int .i64 d, .slice (some qa) v.length vc, .int .i64 E]] w fun e w' => ∃ p' cap' q' vc', e = .returned (.agg #[.int .i64 K, .slice p' l.length cap', .int .i64 A, .int .i64 R, .int .i64 n, .int .i64 d, .slice q' v9.length vc', .int .i64 E]) ∧ Below w.heap.size w w' ∧ RunsIn w' p' l ∧ IntsIn w' q' v9 ∧ v9.length ≤ vc' ∧ TyP w' p' 51 ∧ TyP w' q' 2 := by
  have hv8 : IntsIn w (some qa) v9 := k9 ▸ hv.take 300
  have hv9 := Lib.hid (show v9.length = 300 by rw [k9, List.length_take]; omega)
  clear k9
  go_enter Tryz.func11, Tryz.ntmps11
  go_upto_region 1 with (fail)
  refine wp_facts (fun W' => Below w.heap.size w W' ∧ Blk W' w.heap.size #[.int .i64 K, .slice (some pa) l.length cap, .int .i64 A, .int .i64 R, .int .i64 n, .int .i64 d, .slice (some qa) v.length vc, .int .i64 E] 27 ∧ Blk W' (w.heap.size + 1) #[.int .i64 0, .slice none 0 0, .int .i64 0, .int .i64 0, .int .i64 0, .int .i64 0, .slice none 0 0, .int .i64 0] 27) ⟨by exact belowAny, by exact blkAny, by exact blkAny⟩ ?_
  rintro W1 ⟨hW, b1, b2⟩
  have z2 := hW.size
  have z3 := b1.lt
  have z4 := b2.lt
  have k1 := b1.cell
  have f1 := b1.frozen
  have k2 := b2.cell
  have f2 := b2.frozen
  have hmk : ∀ W, (Instr.buildSlice 22 0 #[]).run Tryz.prog W = .ok (.slice (some ⟨W.heap.size, 0, none⟩) 0 0) (W.alloc (.cells #[] 51)) := fun W => by kernel_rfl
  obtain ⟨i, hi, hz0, hz1, hz2⟩ := info_parts Tryz.infoRun
  have hown0 := World.ownsRow_made (e := 51) (size := 3) (base := W1.heap.size) W1 #[] 0 (Nat.le_refl _) (by simp [maxLen]) (by simp)
  go_upto_region 2 with (at_builtin; refine wpList_append_own _ rfl (.tmp 3) (.tmp 10) 22 rfl W1.heap.size 51 i _ 3 24 (by kernel_rfl) hi hz0 hz1 hz2 rfl (by omega) _ 0 [] rfl hown0 pa l.length cap (flatCells l) rfl (by rw [length_flatCells]) ((hl.below (hW.trans ((Below.refl _ _).alloc (Nat.le_refl _) _ |>.mono hW.size)))).flat (fun v hv => by obtain ⟨x, rfl⟩ := flat_mem _ v hv; rfl) (by simp [maxLen] <;> omega) (by omega) (by simp) ?_)
  intro v' w' hown hgr _
  have hB := clone_below hgr
  obtain ⟨p9, cap9, rfl, hR9, hc9, hf9, hT9⟩ := own_runs (l := l) hown (by simp)
  clear hown hgr hown0 hmk
  have hz9 := hB.size
  have b1 : Blk w' w.heap.size #[.int .i64 K, .slice (some pa) l.length cap, .int .i64 A, .int .i64 R, .int .i64 n, .int .i64 d, .slice (some qa) v.length vc, .int .i64 E] 27 := blkAny
  have b2 : Blk w' (w.heap.size + 1) #[.int .i64 0, .slice none 0 0, .int .i64 0, .int .i64 0, .int .i64 0, .int .i64 0, .slice none 0 0, .int .i64 0] 27 := blkAny
  have hW : Below w.heap.size w w' := belowAny
  have k1 := b1.cell
  have f1 := b1.frozen
  have k2 := b2.cell
  have f2 := b2.frozen
  replace hR9 := Lib.hid hR9
  replace hf9 := Lib.hid hf9
  replace hT9 := Lib.hid hT9
  go_upto_region 2 with (fail)
  try clear k1 f1 k2 f2
  refine wp_facts (fun W' => Below w.heap.size w W' ∧ ∃ p' cap', Blk W' w.heap.size #[.int .i64 K, .slice p' l.length cap', .int .i64 A, .int .i64 R, .int .i64 n, .int .i64 d, .slice (some qa) v.length vc, .int .i64 E] 27 ∧ Blk W' (w.heap.size + 1) #[.int .i64 0, .slice none 0 0, .int .i64 0, .int .i64 0, .int .i64 0, .int .i64 0, .slice none 0 0, .int .i64 0] 27 ∧ RunsIn W' p' l ∧ (∀ a, p' = some a → w.heap.size + 1 < a.block) ∧ TyP W' p' 51) ⟨belowAny, p9, cap9, blkAny, blkAny, (by (repeat (refine RunsIn.set' ?_ (fun a h => by have := hf9.out a h; omega))); exact hR9.out), (fun a h => by have := hf9.out a h; omega), (by (repeat (refine TyP.setCell ?_ _ _)); exact hT9.out)⟩ ?_
  clear hW b1 b2
  rintro W5 ⟨hW, p', cap', b1, b2, hRp, hfp, hTp⟩
  replace hTp := Lib.hid hTp
  replace hRp := Lib.hid hRp
  replace hfp := Lib.hid hfp
  have z50 := hW.size
  have z51 := b1.lt
  have z52 := b2.lt
  have k1 := b1.cell
  have f1 := b1.frozen
  have k2 := b2.cell
  have f2 := b2.frozen
  try clear i hi hz0 hz1 hz2
  have hmk : ∀ W, (Instr.buildSlice 25 0 #[]).run Tryz.prog W = .ok (.slice (some ⟨W.heap.size, 0, none⟩) 0 0) (W.alloc (.cells #[] 2)) := fun W => by kernel_rfl
  obtain ⟨i, hi, hz0, hz1, hz2⟩ := info_parts Tryz.infoInt
  have hown0 := World.ownsRow_made (e := 2) (size := 1) (base := W5.heap.size) W5 #[] 0 (Nat.le_refl _) (by simp [maxLen]) (by simp)
  go_upto_region 3 with (at_builtin; refine wpList_append_own _ rfl (.tmp 13) (.tmp 20) 25 rfl W5.heap.size 2 i _ 1 8 (by kernel_rfl) hi hz0 hz1 hz2 rfl (by omega) _ 0 [] rfl hown0 qa 300 vc (v9.map (Value.int .i64)) rfl (by rw [List.length_map, hv9.out]) (fun j u hu => ints_flat ((hv8.below (hW.trans ((Below.refl _ _).alloc (Nat.le_refl _) _ |>.mono hW.size)))) j u hu) (fun v hv => by simp only [List.mem_map] at hv; obtain ⟨x, _, rfl⟩ := hv; rfl) (by simp [maxLen] <;> omega) (by omega) (by simp) ?_)
  intro v' w' hown hgr _
  have hB := clone_below hgr
  obtain ⟨p9, cap9, rfl, hR9, hc9, hf9, hT9⟩ := own_ints (l := v9) hown (by rw [hv9.out])
  clear hown hgr hown0 hmk
  have hz9 := hB.size
  have b1 : Blk w' w.heap.size #[.int .i64 K, .slice p' l.length cap', .int .i64 A, .int .i64 R, .int .i64 n, .int .i64 d, .slice (some qa) v.length vc, .int .i64 E] 27 := blkAny
  have b2 : Blk w' (w.heap.size + 1) #[.int .i64 0, .slice none 0 0, .int .i64 0, .int .i64 0, .int .i64 0, .int .i64 0, .slice none 0 0, .int .i64 0] 27 := blkAny
  have hW : Below w.heap.size w w' := belowAny
  have k1 := b1.cell
  have f1 := b1.frozen
  have k2 := b2.cell
  have f2 := b2.frozen
  replace hR9 := Lib.hid hR9
  replace hf9 := Lib.hid hf9
  replace hT9 := Lib.hid hT9
  go_upto_region 3 with (fail)
  try clear k1 f1 k2 f2
  refine wp_facts (fun W' => Below w.heap.size w W' ∧ ∃ q' vc', Blk W' w.heap.size #[.int .i64 K, .slice p' l.length cap', .int .i64 A, .int .i64 R, .int .i64 n, .int .i64 d, .slice q' v9.length vc', .int .i64 E] 27 ∧ Blk W' (w.heap.size + 1) #[.int .i64 0, .slice none 0 0, .int .i64 0, .int .i64 0, .int .i64 0, .int .i64 0, .slice none 0 0, .int .i64 0] 27 ∧ RunsIn W' p' l ∧ v9.length ≤ vc' ∧ IntsIn W' q' v9 ∧ (∀ a, q' = some a → w.heap.size + 1 < a.block) ∧ TyP W' q' 2 ∧ TyP W' p' 51) ⟨belowAny, p9, cap9, blkAny, blkAny, (by (repeat (first | with_reducible (refine RunsIn.alloc ?_ _) | with_reducible (refine RunsIn.set' ?_ (fun a h => by have := hfp.out a h; omega)))); exact hRp.out.below hB), hc9, (by (repeat (refine IntsIn.set' ?_ (fun a h => by have := hf9.out a h; omega))); exact hR9.out), (fun a h => by have := hf9.out a h; omega), (by (repeat (refine TyP.setCell ?_ _ _)); exact hT9.out), (by (repeat (first | with_reducible (refine TyP.alloc ?_ _) | with_reducible (refine TyP.setCell ?_ _ _))); exact hTp.out.below hB)⟩ ?_
  clear hW b1 b2
  rintro W6 ⟨hW, q', vc', b1, b2, hRp', hvc', hRq, hfq, hTq, hTp'⟩
  replace hTq := Lib.hid hTq
  replace hTp' := Lib.hid hTp'
  replace hRp' := Lib.hid hRp'
  replace hRq := Lib.hid hRq
  replace hfq := Lib.hid hfq
  have y_1 := b1.lt
  have y_2 := b2.lt
  have k1 := b1.cell
  have f1 := b1.frozen
  have k2 := b2.cell
  have f2 := b2.frozen
  go_wp2
  refine bodyPost_ret (v := .agg #[.int .i64 K, .slice p' l.length cap', .int .i64 A, .int .i64 R, .int .i64 n, .int .i64 d, .slice q' v9.length vc', .int .i64 E]) (by simp [results, Tryz.results11, go_sem, k1, f1, k2, f2, y_1, y_2]) rfl ⟨p', cap', q', vc', rfl, belowAny, ?_, ?_, hvc', (by (repeat (refine TyP.setCell ?_ _ _)); exact hTp'.out), (by (repeat (refine TyP.setCell ?_ _ _)); exact hTq.out)⟩
  · repeat (refine RunsIn.set' ?_ (fun a h => by have := hfp.out a h; omega))
    exact hRp'.out
  · repeat (refine IntsIn.set' ?_ (fun a h => by have := hfq.out a h; omega))
    exact hRq.out

set_option maxRecDepth 100000 in
set_option maxHeartbeats 2000000 in
theorem own_long_nil (K A R n d E : Int) (pa qa : Addr) (cap vc : Nat) (l : List RunT) (v : List Int) (w : World) (hl0 : 300 < l.length) (hl1 : l.length ≤ cap) (hl2 : l.length ≤ 9223372036854775807) (hl : RunsIn w (some pa) l) (l9 : List RunT) (h9 : l9 = l.take 300) :
    Calls Tryz.prog 11 #[.agg #[.int .i64 K, .slice (some pa) l.length cap, .int .i64 A, .int .i64 R, .int .i64 n, .int .i64 d, .slice none 0 0, .int .i64 E]] w fun e w' => ∃ p' cap' q' vc', e = .returned (.agg #[.int .i64 K, .slice p' l9.length cap', .int .i64 A, .int .i64 R, .int .i64 n, .int .i64 d, .slice q' ([] : List Int).length vc', .int .i64 E]) ∧ Below w.heap.size w w' ∧ RunsIn w' p' l9 ∧ IntsIn w' q' ([] : List Int) ∧ ([] : List Int).length ≤ vc' ∧ TyP w' p' 51 ∧ TyP w' q' 2 := by
  have hl8 : RunsIn w (some pa) l9 := h9 ▸ hl.take 300
  have hl9 := Lib.hid (show l9.length = 300 by rw [h9, List.length_take]; omega)
  clear h9
  go_enter Tryz.func11, Tryz.ntmps11
  go_upto_region 1 with (fail)
  refine wp_facts (fun W' => Below w.heap.size w W' ∧ Blk W' w.heap.size #[.int .i64 K, .slice (some pa) l.length cap, .int .i64 A, .int .i64 R, .int .i64 n, .int .i64 d, .slice none 0 0, .int .i64 E] 27 ∧ Blk W' (w.heap.size + 1) #[.int .i64 0, .slice none 0 0, .int .i64 0, .int .i64 0, .int .i64 0, .int .i64 0, .slice none 0 0, .int .i64 0] 27) ⟨by exact belowAny, by exact blkAny, by exact blkAny⟩ ?_
  rintro W1 ⟨hW, b1, b2⟩
  have z2 := hW.size
  have z3 := b1.lt
  have z4 := b2.lt
  have k1 := b1.cell
  have f1 := b1.frozen
  have k2 := b2.cell
  have f2 := b2.frozen
  have hmk : ∀ W, (Instr.buildSlice 22 0 #[]).run Tryz.prog W = .ok (.slice (some ⟨W.heap.size, 0, none⟩) 0 0) (W.alloc (.cells #[] 51)) := fun W => by kernel_rfl
  obtain ⟨i, hi, hz0, hz1, hz2⟩ := info_parts Tryz.infoRun
  have hown0 := World.ownsRow_made (e := 51) (size := 3) (base := W1.heap.size) W1 #[] 0 (Nat.le_refl _) (by simp [maxLen]) (by simp)
  go_upto_region 2 with (at_builtin; refine wpList_append_own _ rfl (.tmp 3) (.tmp 10) 22 rfl W1.heap.size 51 i _ 3 24 (by kernel_rfl) hi hz0 hz1 hz2 rfl (by omega) _ 0 [] rfl hown0 pa 300 cap (flatCells l9) rfl (by rw [length_flatCells, hl9.out]) ((hl8.below (hW.trans ((Below.refl _ _).alloc (Nat.le_refl _) _ |>.mono hW.size)))).flat (fun v hv => by obtain ⟨x, rfl⟩ := flat_mem _ v hv; rfl) (by simp [maxLen] <;> omega) (by omega) (by simp) ?_)
  intro v' w' hown hgr _
  have hB := clone_below hgr
  obtain ⟨p9, cap9, rfl, hR9, hc9, hf9, hT9⟩ := own_runs (l := l9) hown (by rw [hl9.out])
  clear hown hgr hown0 hmk
  have hz9 := hB.size
  have b1 : Blk w' w.heap.size #[.int .i64 K, .slice (some pa) l.length cap, .int .i64 A, .int .i64 R, .int .i64 n, .int .i64 d, .slice none 0 0, .int .i64 E] 27 := blkAny
  have b2 : Blk w' (w.heap.size + 1) #[.int .i64 0, .slice none 0 0, .int .i64 0, .int .i64 0, .int .i64 0, .int .i64 0, .slice none 0 0, .int .i64 0] 27 := blkAny
  have hW : Below w.heap.size w w' := belowAny
  have k1 := b1.cell
  have f1 := b1.frozen
  have k2 := b2.cell
  have f2 := b2.frozen
  replace hR9 := Lib.hid hR9
  replace hf9 := Lib.hid hf9
  replace hT9 := Lib.hid hT9
  go_upto_region 2 with (fail)
  try clear k1 f1 k2 f2
  refine wp_facts (fun W' => Below w.heap.size w W' ∧ ∃ p' cap', Blk W' w.heap.size #[.int .i64 K, .slice p' l9.length cap', .int .i64 A, .int .i64 R, .int .i64 n, .int .i64 d, .slice none 0 0, .int .i64 E] 27 ∧ Blk W' (w.heap.size + 1) #[.int .i64 0, .slice none 0 0, .int .i64 0, .int .i64 0, .int .i64 0, .int .i64 0, .slice none 0 0, .int .i64 0] 27 ∧ RunsIn W' p' l9 ∧ (∀ a, p' = some a → w.heap.size + 1 < a.block) ∧ TyP W' p' 51) ⟨belowAny, p9, cap9, blkAny, blkAny, (by (repeat (refine RunsIn.set' ?_ (fun a h => by have := hf9.out a h; omega))); exact hR9.out), (fun a h => by have := hf9.out a h; omega), (by (repeat (refine TyP.setCell ?_ _ _)); exact hT9.out)⟩ ?_
  clear hW b1 b2
  rintro W5 ⟨hW, p', cap', b1, b2, hRp, hfp, hTp⟩
  replace hTp := Lib.hid hTp
  replace hRp := Lib.hid hRp
  replace hfp := Lib.hid hfp
  have z50 := hW.size
  have z51 := b1.lt
  have z52 := b2.lt
  have k1 := b1.cell
  have f1 := b1.frozen
  have k2 := b2.cell
  have f2 := b2.frozen
  try clear i hi hz0 hz1 hz2
  have hmk : ∀ W, (Instr.buildSlice 25 0 #[]).run Tryz.prog W = .ok (.slice (some ⟨W.heap.size, 0, none⟩) 0 0) (W.alloc (.cells #[] 2)) := fun W => by kernel_rfl
  obtain ⟨i, hi, hz0, hz1, hz2⟩ := info_parts Tryz.infoInt
  have hown0 := World.ownsRow_made (e := 2) (size := 1) (base := W5.heap.size) W5 #[] 0 (Nat.le_refl _) (by simp [maxLen]) (by simp)
  go_upto_region 3 with (at_builtin; refine wpList_append_own_none rfl (.tmp 13) (.tmp 20) 25 rfl W5.heap.size 2 i 1 (by kernel_rfl) hi _ 0 [] rfl hown0 rfl ?_)
  try clear k1 f1 k2 f2
  refine wp_facts (fun W' => Below w.heap.size w W' ∧ ∃ q' vc', Blk W' w.heap.size #[.int .i64 K, .slice p' l9.length cap', .int .i64 A, .int .i64 R, .int .i64 n, .int .i64 d, .slice q' ([] : List Int).length vc', .int .i64 E] 27 ∧ Blk W' (w.heap.size + 1) #[.int .i64 0, .slice none 0 0, .int .i64 0, .int .i64 0, .int .i64 0, .int .i64 0, .slice none 0 0, .int .i64 0] 27 ∧ RunsIn W' p' l9 ∧ ([] : List Int).length ≤ vc' ∧ IntsIn W' q' ([] : List Int) ∧ (∀ a, q' = some a → w.heap.size + 1 < a.block) ∧ TyP W' q' 2 ∧ TyP W' p' 51) ⟨belowAny, (some ⟨W5.heap.size, 0, none⟩), 0, blkAny, blkAny, (by (repeat (first | with_reducible (refine RunsIn.alloc ?_ _) | with_reducible (refine RunsIn.set' ?_ (fun a h => by have := hfp.out a h; omega)))); exact hRp.out), Nat.le_refl _, ⟨fun i r hr => by simp at hr⟩, (fun a h => by cases h; simp only []; omega), (by exact tyNew), (by (repeat (first | with_reducible (refine TyP.alloc ?_ _) | with_reducible (refine TyP.setCell ?_ _ _))); exact hTp.out)⟩ ?_
  clear hW b1 b2
  rintro W6 ⟨hW, q', vc', b1, b2, hRp', hvc', hRq, hfq, hTq, hTp'⟩
  replace hTq := Lib.hid hTq
  replace hTp' := Lib.hid hTp'
  replace hRp' := Lib.hid hRp'
  replace hRq := Lib.hid hRq
  replace hfq := Lib.hid hfq
  have y_1 := b1.lt
  have y_2 := b2.lt
  have k1 := b1.cell
  have f1 := b1.frozen
  have k2 := b2.cell
  have f2 := b2.frozen
  go_wp2
  refine bodyPost_ret (v := .agg #[.int .i64 K, .slice p' l9.length cap', .int .i64 A, .int .i64 R, .int .i64 n, .int .i64 d, .slice q' ([] : List Int).length vc', .int .i64 E]) (by simp [results, Tryz.results11, go_sem, k1, f1, k2, f2, y_1, y_2]) rfl ⟨p', cap', q', vc', rfl, belowAny, ?_, ?_, hvc', (by (repeat (refine TyP.setCell ?_ _ _)); exact hTp'.out), (by (repeat (refine TyP.setCell ?_ _ _)); exact hTq.out)⟩
  · repeat (refine RunsIn.set' ?_ (fun a h => by have := hfp.out a h; omega))
    exact hRp'.out
  · repeat (refine IntsIn.set' ?_ (fun a h => by have := hfq.out a h; omega))
    exact hRq.out

set_option maxRecDepth 100000 in
set_option maxHeartbeats 2000000 in
theorem own_long_short (K A R n d E : Int) (pa qa : Addr) (cap vc : Nat) (l : List RunT) (v : List Int) (w : World) (hl0 : 300 < l.length) (hl1 : l.length ≤ cap) (hl2 : l.length ≤ 9223372036854775807) (hv0 : v.length ≤ 300) (hv1 : v.length ≤ vc) (hl : RunsIn w (some pa) l) (hv : IntsIn w (some qa) v) (l9 : List RunT) (h9 : l9 = l.take 300) :
    Calls Tryz.prog 11 #[.agg #[.int .i64 K, .slice (some pa) l.length cap, .int .i64 A, .int .i64 R, .int .i64 n, .int .i64 d, .slice (some qa) v.length vc, .int .i64 E]] w fun e w' => ∃ p' cap' q' vc', e = .returned (.agg #[.int .i64 K, .slice p' l9.length cap', .int .i64 A, .int .i64 R, .int .i64 n, .int .i64 d, .slice q' v.length vc', .int .i64 E]) ∧ Below w.heap.size w w' ∧ RunsIn w' p' l9 ∧ IntsIn w' q' v ∧ v.length ≤ vc' ∧ TyP w' p' 51 ∧ TyP w' q' 2 := by
  have hl8 : RunsIn w (some pa) l9 := h9 ▸ hl.take 300
  have hl9 := Lib.hid (show l9.length = 300 by rw [h9, List.length_take]; omega)
  clear h9
  go_enter Tryz.func11, Tryz.ntmps11
  go_upto_region 1 with (fail)
  refine wp_facts (fun W' => Below w.heap.size w W' ∧ Blk W' w.heap.size #[.int .i64 K, .slice (some pa) l.length cap, .int .i64 A, .int .i64 R, .int .i64 n, .int .i64 d, .slice (some qa) v.length vc, .int .i64 E] 27 ∧ Blk W' (w.heap.size + 1) #[.int .i64 0, .slice none 0 0, .int .i64 0, .int .i64 0, .int .i64 0, .int .i64 0, .slice none 0 0, .int .i64 0] 27) ⟨by exact belowAny, by exact blkAny, by exact blkAny⟩ ?_
  rintro W1 ⟨hW, b1, b2⟩
  have z2 := hW.size
  have z3 := b1.lt
  have z4 := b2.lt
  have k1 := b1.cell
  have f1 := b1.frozen
  have k2 := b2.cell
  have f2 := b2.frozen
  have hmk : ∀ W, (Instr.buildSlice 22 0 #[]).run Tryz.prog W = .ok (.slice (some ⟨W.heap.size, 0, none⟩) 0 0) (W.alloc (.cells #[] 51)) := fun W => by kernel_rfl
  obtain ⟨i, hi, hz0, hz1, hz2⟩ := info_parts Tryz.infoRun
  have hown0 := World.ownsRow_made (e := 51) (size := 3) (base := W1.heap.size) W1 #[] 0 (Nat.le_refl _) (by simp [maxLen]) (by simp)
  go_upto_region 2 with (at_builtin; refine wpList_append_own _ rfl (.tmp 3) (.tmp 10) 22 rfl W1.heap.size 51 i _ 3 24 (by kernel_rfl) hi hz0 hz1 hz2 rfl (by omega) _ 0 [] rfl hown0 pa 300 cap (flatCells l9) rfl (by rw [length_flatCells, hl9.out]) ((hl8.below (hW.trans ((Below.refl _ _).alloc (Nat.le_refl _) _ |>.mono hW.size)))).flat (fun v hv => by obtain ⟨x, rfl⟩ := flat_mem _ v hv; rfl) (by simp [maxLen] <;> omega) (by omega) (by simp) ?_)
  intro v' w' hown hgr _
  have hB := clone_below hgr
  obtain ⟨p9, cap9, rfl, hR9, hc9, hf9, hT9⟩ := own_runs (l := l9) hown (by rw [hl9.out])
  clear hown hgr hown0 hmk
  have hz9 := hB.size
  have b1 : Blk w' w.heap.size #[.int .i64 K, .slice (some pa) l.length cap, .int .i64 A, .int .i64 R, .int .i64 n, .int .i64 d, .slice (some qa) v.length vc, .int .i64 E] 27 := blkAny
  have b2 : Blk w' (w.heap.size + 1) #[.int .i64 0, .slice none 0 0, .int .i64 0, .int .i64 0, .int .i64 0, .int .i64 0, .slice none 0 0, .int .i64 0] 27 := blkAny
  have hW : Below w.heap.size w w' := belowAny
  have k1 := b1.cell
  have f1 := b1.frozen
  have k2 := b2.cell
  have f2 := b2.frozen
  replace hR9 := Lib.hid hR9
  replace hf9 := Lib.hid hf9
  replace hT9 := Lib.hid hT9
  go_upto_region 2 with (fail)
  try clear k1 f1 k2 f2
  refine wp_facts (fun W' => Below w.heap.size w W' ∧ ∃ p' cap', Blk W' w.heap.size #[.int .i64 K, .slice p' l9.length cap', .int .i64 A, .int .i64 R, .int .i64 n, .int .i64 d, .slice (some qa) v.length vc, .int .i64 E] 27 ∧ Blk W' (w.heap.size + 1) #[.int .i64 0, .slice none 0 0, .int .i64 0, .int .i64 0, .int .i64 0, .int .i64 0, .slice none 0 0, .int .i64 0] 27 ∧ RunsIn W' p' l9 ∧ (∀ a, p' = some a → w.heap.size + 1 < a.block) ∧ TyP W' p' 51) ⟨belowAny, p9, cap9, blkAny, blkAny, (by (repeat (refine RunsIn.set' ?_ (fun a h => by have := hf9.out a h; omega))); exact hR9.out), (fun a h => by have := hf9.out a h; omega), (by (repeat (refine TyP.setCell ?_ _ _)); exact hT9.out)⟩ ?_
  clear hW b1 b2
  rintro W5 ⟨hW, p', cap', b1, b2, hRp, hfp, hTp⟩
  replace hTp := Lib.hid hTp
  replace hRp := Lib.hid hRp
  replace hfp := Lib.hid hfp
  have z50 := hW.size
  have z51 := b1.lt
  have z52 := b2.lt
  have k1 := b1.cell
  have f1 := b1.frozen
  have k2 := b2.cell
  have f2 := b2.frozen
  try clear i hi hz0 hz1 hz2
  have hmk : ∀ W, (Instr.buildSlice 25 0 #[]).run Tryz.prog W = .ok (.slice (some ⟨W.heap.size, 0, none⟩) 0 0) (W.alloc (.cells #[] 2)) := fun W => by kernel_rfl
  obtain ⟨i, hi, hz0, hz1, hz2⟩ := info_parts Tryz.infoInt
  have hown0 := World.ownsRow_made (e := 2) (size := 1) (base := W5.heap.size) W5 #[] 0 (Nat.le_refl _) (by simp [maxLen]) (by simp)
  go_upto_region 3 with (at_builtin; refine wpList_append_own _ rfl (.tmp 13) (.tmp 20) 25 rfl W5.heap.size 2 i _ 1 8 (by kernel_rfl) hi hz0 hz1 hz2 rfl (by omega) _ 0 [] rfl hown0 qa v.length vc (v.map (Value.int .i64)) rfl (by rw [List.length_map]; omega) (fun j u hu => ints_flat ((hv.below (hW.trans ((Below.refl _ _).alloc (Nat.le_refl _) _ |>.mono hW.size)))) j u hu) (fun v hv => by simp only [List.mem_map] at hv; obtain ⟨x, _, rfl⟩ := hv; rfl) (by simp [maxLen] <;> omega) (by omega) (by simp) ?_)
  intro v' w' hown hgr _
  have hB := clone_below hgr
  obtain ⟨p9, cap9, rfl, hR9, hc9, hf9, hT9⟩ := own_ints (l := v) hown (by simp)
  clear hown hgr hown0 hmk
  have hz9 := hB.size
  have b1 : Blk w' w.heap.size #[.int .i64 K, .slice p' l9.length cap', .int .i64 A, .int .i64 R, .int .i64 n, .int .i64 d, .slice (some qa) v.length vc, .int .i64 E] 27 := blkAny
  have b2 : Blk w' (w.heap.size + 1) #[.int .i64 0, .slice none 0 0, .int .i64 0, .int .i64 0, .int .i64 0, .int .i64 0, .slice none 0 0, .int .i64 0] 27 := blkAny
  have hW : Below w.heap.size w w' := belowAny
  have k1 := b1.cell
  have f1 := b1.frozen
  have k2 := b2.cell
  have f2 := b2.frozen
  replace hR9 := Lib.hid hR9
  replace hf9 := Lib.hid hf9
  replace hT9 := Lib.hid hT9
  go_upto_region 3 with (fail)
  try clear k1 f1 k2 f2
  refine wp_facts (fun W' => Below w.heap.size w W' ∧ ∃ q' vc', Blk W' w.heap.size #[.int .i64 K, .slice p' l9.length cap', .int .i64 A, .int .i64 R, .int .i64 n, .int .i64 d, .slice q' v.length vc', .int .i64 E] 27 ∧ Blk W' (w.heap.size + 1) #[.int .i64 0, .slice none 0 0, .int .i64 0, .int .i64 0, .int .i64 0, .int .i64 0, .slice none 0 0, .int .i64 0] 27 ∧ RunsIn W' p' l9 ∧ v.length ≤ vc' ∧ IntsIn W' q' v ∧ (∀ a, q' = some a → w.heap.size + 1 < a.block) ∧ TyP W' q' 2 ∧ TyP W' p' 51) ⟨belowAny, p9, cap9, blkAny, blkAny, (by (repeat (first | with_reducible (refine RunsIn.alloc ?_ _) | with_reducible (refine RunsIn.set' ?_ (fun a h => by have := hfp.out a h; omega)))); exact hRp.out.below hB), hc9, (by (repeat (refine IntsIn.set' ?_ (fun a h => by have := hf9.out a h; omega))); exact hR9.out), (fun a h => by have := hf9.out a h; omega), (by (repeat (refine TyP.setCell ?_ _ _)); exact hT9.out), (by (repeat (first | with_reducible (refine TyP.alloc ?_ _) | with_reducible (refine TyP.setCell ?_ _ _))); exact hTp.out.below hB)⟩ ?_
  clear hW b1 b2
  rintro W6 ⟨hW, q', vc', b1, b2, hRp', hvc', hRq, hfq, hTq, hTp'⟩
  replace hTq := Lib.hid hTq
  replace hTp' := Lib.hid hTp'
  replace hRp' := Lib.hid hRp'
  replace hRq := Lib.hid hRq
  replace hfq := Lib.hid hfq
  have y_1 := b1.lt
  have y_2 := b2.lt
  have k1 := b1.cell
  have f1 := b1.frozen
  have k2 := b2.cell
  have f2 := b2.frozen
  go_wp2
  refine bodyPost_ret (v := .agg #[.int .i64 K, .slice p' l9.length cap', .int .i64 A, .int .i64 R, .int .i64 n, .int .i64 d, .slice q' v.length vc', .int .i64 E]) (by simp [results, Tryz.results11, go_sem, k1, f1, k2, f2, y_1, y_2]) rfl ⟨p', cap', q', vc', rfl, belowAny, ?_, ?_, hvc', (by (repeat (refine TyP.setCell ?_ _ _)); exact hTp'.out), (by (repeat (refine TyP.setCell ?_ _ _)); exact hTq.out)⟩
  · repeat (refine RunsIn.set' ?_ (fun a h => by have := hfp.out a h; omega))
    exact hRp'.out
  · repeat (refine IntsIn.set' ?_ (fun a h => by have := hfq.out a h; omega))
    exact hRq.out

set_option maxRecDepth 100000 in
set_option maxHeartbeats 2000000 in
theorem own_long_long (K A R n d E : Int) (pa qa : Addr) (cap vc : Nat) (l : List RunT) (v : List Int) (w : World) (hl0 : 300 < l.length) (hl1 : l.length ≤ cap) (hl2 : l.length ≤ 9223372036854775807) (hv0 : 300 < v.length) (hv1 : v.length ≤ vc) (hv2 : v.length ≤ 9223372036854775807) (hl : RunsIn w (some pa) l) (hv : IntsIn w (some qa) v) (l9 : List RunT) (h9 : l9 = l.take 300) (v9 : List Int) (k9 : v9 = v.take 300) :
    Calls Tryz.prog 11 #[.agg #[.int .i64 K, .slice (some pa) l.length cap, .int .i64 A, .int .i64 R, .int .i64 n, .int .i64 d, .slice (some qa) v.length vc, .int .i64 E]] w fun e w' => ∃ p' cap' q' vc', e = .returned (.agg #[.int .i64 K, .slice p' l9.length cap', .int .i64 A, .int .i64 R, .int .i64 n, .int .i64 d, .slice q' v9.length vc', .int .i64 E]) ∧ Below w.heap.size w w' ∧ RunsIn w' p' l9 ∧ IntsIn w' q' v9 ∧ v9.length ≤ vc' ∧ TyP w' p' 51 ∧ TyP w' q' 2 := by
  have hl8 : RunsIn w (some pa) l9 := h9 ▸ hl.take 300
  have hl9 := Lib.hid (show l9.length = 300 by rw [h9, List.length_take]; omega)
  clear h9
  have hv8 : IntsIn w (some qa) v9 := k9 ▸ hv.take 300
  have hv9 := Lib.hid (show v9.length = 300 by rw [k9, List.length_take]; omega)
  clear k9
  go_enter Tryz.func11, Tryz.ntmps11
  go_upto_region 1 with (fail)
  refine wp_facts (fun W' => Below w.heap.size w W' ∧ Blk W' w.heap.size #[.int .i64 K, .slice (some pa) l.length cap, .int .i64 A, .int .i64 R, .int .i64 n, .int .i64 d, .slice (some qa) v.length vc, .int .i64 E] 27 ∧ Blk W' (w.heap.size + 1) #[.int .i64 0, .slice none 0 0, .int .i64 0, .int .i64 0, .int .i64 0, .int .i64 0, .slice none 0 0, .int .i64 0] 27) ⟨by exact belowAny, by exact blkAny, by exact blkAny⟩ ?_
  rintro W1 ⟨hW, b1, b2⟩
  have z2 := hW.size
  have z3 := b1.lt
  have z4 := b2.lt
  have k1 := b1.cell
  have f1 := b1.frozen
  have k2 := b2.cell
  have f2 := b2.frozen
  have hmk : ∀ W, (Instr.buildSlice 22 0 #[]).run Tryz.prog W = .ok (.slice (some ⟨W.heap.size, 0, none⟩) 0 0) (W.alloc (.cells #[] 51)) := fun W => by kernel_rfl
  obtain ⟨i, hi, hz0, hz1, hz2⟩ := info_parts Tryz.infoRun
  have hown0 := World.ownsRow_made (e := 51) (size := 3) (base := W1.heap.size) W1 #[] 0 (Nat.le_refl _) (by simp [maxLen]) (by simp)
  go_upto_region 2 with (at_builtin; refine wpList_append_own _ rfl (.tmp 3) (.tmp 10) 22 rfl W1.heap.size 51 i _ 3 24 (by kernel_rfl) hi hz0 hz1 hz2 rfl (by omega) _ 0 [] rfl hown0 pa 300 cap (flatCells l9) rfl (by rw [length_flatCells, hl9.out]) ((hl8.below (hW.trans ((Below.refl _ _).alloc (Nat.le_refl _) _ |>.mono hW.size)))).flat (fun v hv => by obtain ⟨x, rfl⟩ := flat_mem _ v hv; rfl) (by simp [maxLen] <;> omega) (by omega) (by simp) ?_)
  intro v' w' hown hgr _
  have hB := clone_below hgr
  obtain ⟨p9, cap9, rfl, hR9, hc9, hf9, hT9⟩ := own_runs (l := l9) hown (by rw [hl9.out])
  clear hown hgr hown0 hmk
  have hz9 := hB.size
  have b1 : Blk w' w.heap.size #[.int .i64 K, .slice (some pa) l.length cap, .int .i64 A, .int .i64 R, .int .i64 n, .int .i64 d, .slice (some qa) v.length vc, .int .i64 E] 27 := blkAny
  have b2 : Blk w' (w.heap.size + 1) #[.int .i64 0, .slice none 0 0, .int .i64 0, .int .i64 0, .int .i64 0, .int .i64 0, .slice none 0 0, .int .i64 0] 27 := blkAny
  have hW : Below w.heap.size w w' := belowAny
  have k1 := b1.cell
  have f1 := b1.frozen
  have k2 := b2.cell
  have f2 := b2.frozen
  replace hR9 := Lib.hid hR9
  replace hf9 := Lib.hid hf9
  replace hT9 := Lib.hid hT9
  go_upto_region 2 with (fail)
  try clear k1 f1 k2 f2
  refine wp_facts (fun W' => Below w.heap.size w W' ∧ ∃ p' cap', Blk W' w.heap.size #[.int .i64 K, .slice p' l9.length cap', .int .i64 A, .int .i64 R, .int .i64 n, .int .i64 d, .slice (some qa) v.length vc, .int .i64 E] 27 ∧ Blk W' (w.heap.size + 1) #[.int .i64 0, .slice none 0 0, .int .i64 0, .int .i64 0, .int .i64 0, .int .i64 0, .slice none 0 0, .int .i64 0] 27 ∧ RunsIn W' p' l9 ∧ (∀ a, p' = some a → w.heap.size + 1 < a.block) ∧ TyP W' p' 51) ⟨belowAny, p9, cap9, blkAny, blkAny, (by (repeat (refine RunsIn.set' ?_ (fun a h => by have := hf9.out a h; omega))); exact hR9.out), (fun a h => by have := hf9.out a h; omega), (by (repeat (refine TyP.setCell ?_ _ _)); exact hT9.out)⟩ ?_
  clear hW b1 b2
  rintro W5 ⟨hW, p', cap', b1, b2, hRp, hfp, hTp⟩
  replace hTp := Lib.hid hTp
  replace hRp := Lib.hid hRp
  replace hfp := Lib.hid hfp
  have z50 := hW.size
  have z51 := b1.lt
  have z52 := b2.lt
  have k1 := b1.cell
  have f1 := b1.frozen
  have k2 := b2.cell
  have f2 := b2.frozen
  try clear i hi hz0 hz1 hz2
  have hmk : ∀ W, (Instr.buildSlice 25 0 #[]).run Tryz.prog W = .ok (.slice (some ⟨W.heap.size, 0, none⟩) 0 0) (W.alloc (.cells #[] 2)) := fun W => by kernel_rfl
  obtain ⟨i, hi, hz0, hz1, hz2⟩ := info_parts Tryz.infoInt
  have hown0 := World.ownsRow_made (e := 2) (size := 1) (base := W5.heap.size) W5 #[] 0 (Nat.le_refl _) (by simp [maxLen]) (by simp)
  go_upto_region 3 with (at_builtin; refine wpList_append_own _ rfl (.tmp 13) (.tmp 20) 25 rfl W5.heap.size 2 i _ 1 8 (by kernel_rfl) hi hz0 hz1 hz2 rfl (by omega) _ 0 [] rfl hown0 qa 300 vc (v9.map (Value.int .i64)) rfl (by rw [List.length_map, hv9.out]) (fun j u hu => ints_flat ((hv8.below (hW.trans ((Below.refl _ _).alloc (Nat.le_refl _) _ |>.mono hW.size)))) j u hu) (fun v hv => by simp only [List.mem_map] at hv; obtain ⟨x, _, rfl⟩ := hv; rfl) (by simp [maxLen] <;> omega) (by omega) (by simp) ?_)
  intro v' w' hown hgr _
  have hB := clone_below hgr
  obtain ⟨p9, cap9, rfl, hR9, hc9, hf9, hT9⟩ := own_ints (l := v9) hown (by rw [hv9.out])
  clear hown hgr hown0 hmk
  have hz9 := hB.size
  have b1 : Blk w' w.heap.size #[.int .i64 K, .slice p' l9.length cap', .int .i64 A, .int .i64 R, .int .i64 n, .int .i64 d, .slice (some qa) v.length vc, .int .i64 E] 27 := blkAny
  have b2 : Blk w' (w.heap.size + 1) #[.int .i64 0, .slice none 0 0, .int .i64 0, .int .i64 0, .int .i64 0, .int .i64 0, .slice none 0 0, .int .i64 0] 27 := blkAny
  have hW : Below w.heap.size w w' := belowAny
  have k1 := b1.cell
  have f1 := b1.frozen
  have k2 := b2.cell
  have f2 := b2.frozen
  replace hR9 := Lib.hid hR9
  replace hf9 := Lib.hid hf9
  replace hT9 := Lib.hid hT9
  go_upto_region 3 with (fail)
  try clear k1 f1 k2 f2
  refine wp_facts (fun W' => Below w.heap.size w W' ∧ ∃ q' vc', Blk W' w.heap.size #[.int .i64 K, .slice p' l9.length cap', .int .i64 A, .int .i64 R, .int .i64 n, .int .i64 d, .slice q' v9.length vc', .int .i64 E] 27 ∧ Blk W' (w.heap.size + 1) #[.int .i64 0, .slice none 0 0, .int .i64 0, .int .i64 0, .int .i64 0, .int .i64 0, .slice none 0 0, .int .i64 0] 27 ∧ RunsIn W' p' l9 ∧ v9.length ≤ vc' ∧ IntsIn W' q' v9 ∧ (∀ a, q' = some a → w.heap.size + 1 < a.block) ∧ TyP W' q' 2 ∧ TyP W' p' 51) ⟨belowAny, p9, cap9, blkAny, blkAny, (by (repeat (first | with_reducible (refine RunsIn.alloc ?_ _) | with_reducible (refine RunsIn.set' ?_ (fun a h => by have := hfp.out a h; omega)))); exact hRp.out.below hB), hc9, (by (repeat (refine IntsIn.set' ?_ (fun a h => by have := hf9.out a h; omega))); exact hR9.out), (fun a h => by have := hf9.out a h; omega), (by (repeat (refine TyP.setCell ?_ _ _)); exact hT9.out), (by (repeat (first | with_reducible (refine TyP.alloc ?_ _) | with_reducible (refine TyP.setCell ?_ _ _))); exact hTp.out.below hB)⟩ ?_
  clear hW b1 b2
  rintro W6 ⟨hW, q', vc', b1, b2, hRp', hvc', hRq, hfq, hTq, hTp'⟩
  replace hTq := Lib.hid hTq
  replace hTp' := Lib.hid hTp'
  replace hRp' := Lib.hid hRp'
  replace hRq := Lib.hid hRq
  replace hfq := Lib.hid hfq
  have y_1 := b1.lt
  have y_2 := b2.lt
  have k1 := b1.cell
  have f1 := b1.frozen
  have k2 := b2.cell
  have f2 := b2.frozen
  go_wp2
  refine bodyPost_ret (v := .agg #[.int .i64 K, .slice p' l9.length cap', .int .i64 A, .int .i64 R, .int .i64 n, .int .i64 d, .slice q' v9.length vc', .int .i64 E]) (by simp [results, Tryz.results11, go_sem, k1, f1, k2, f2, y_1, y_2]) rfl ⟨p', cap', q', vc', rfl, belowAny, ?_, ?_, hvc', (by (repeat (refine TyP.setCell ?_ _ _)); exact hTp'.out), (by (repeat (refine TyP.setCell ?_ _ _)); exact hTq.out)⟩
  · repeat (refine RunsIn.set' ?_ (fun a h => by have := hfp.out a h; omega))
    exact hRp'.out
  · repeat (refine IntsIn.set' ?_ (fun a h => by have := hfq.out a h; omega))
    exact hRq.out

end Go.Proofs.YtgblmlefmohgnaaGreat
namespace Go.Proofs.YtgblmlefmohgnaaGreat
open Go.RowKit
/-- A segment as it came in. -/
structure Came (w : World) (s : SegT) (p q : Option Addr) (cap vc : Nat) : Prop where
  runs : RunsIn w p s.runs
  raw : IntsIn w q s.raw
  nilR : p = none → s.runs = [] ∧ cap = 0
  nilV : q = none → s.raw = [] ∧ vc = 0
  capR : s.runs.length ≤ cap
  capV : s.raw.length ≤ vc
  maxR : s.runs.length ≤ 9223372036854775807
  maxV : s.raw.length ≤ 9223372036854775807
def ownS (s : SegT) : SegT := ⟨s.K, s.runs.take 300, s.A, s.R, s.n, s.d, s.raw.take 300, s.E⟩
def OwnOut (s : SegT) (w : World) (e : Ending) (w' : World) : Prop := ∃ p' cap' q' vc', e = .returned (.agg (segA (ownS s) p' q' cap' vc')) ∧ Below w.heap.size w w' ∧ SegIn w' (ownS s) p' q' ∧ (ownS s).raw.length ≤ vc'
/-- The same, and of which types the rows' blocks are. -/
def OwnOutT (s : SegT) (w : World) (e : Ending) (w' : World) : Prop := ∃ p' cap' q' vc', e = .returned (.agg (segA (ownS s) p' q' cap' vc')) ∧ Below w.heap.size w w' ∧ SegIn w' (ownS s) p' q' ∧ (ownS s).raw.length ≤ vc' ∧ TyP w' p' 51 ∧ TyP w' q' 2
theorem own_out {s : SegT} {w : World} {l : List RunT} {v : List Int} {X : Value} (h1 : s.runs.take 300 = l) (h2 : s.raw.take 300 = v)
    (h : Calls Tryz.prog 11 #[X] w fun e w' => ∃ p' cap' q' vc', e = .returned (.agg #[.int .i64 s.K, .slice p' l.length cap', .int .i64 s.A, .int .i64 s.R, .int .i64 s.n, .int .i64 s.d, .slice q' v.length vc', .int .i64 s.E]) ∧ Below w.heap.size w w' ∧ RunsIn w' p' l ∧ IntsIn w' q' v ∧ v.length ≤ vc' ∧ TyP w' p' 51 ∧ TyP w' q' 2) :
    Calls Tryz.prog 11 #[X] w (OwnOutT s w) := by
  refine h.mono ?_
  rintro e w' ⟨p', cap', q', vc', rfl, hB, hR, hV, hc, hT1, hT2⟩
  refine ⟨p', cap', q', vc', ?_, hB, ⟨?_, ?_, ?_, ?_⟩, ?_, hT1, hT2⟩
  · unfold segA ownS; simp only [h1, h2]
  · show RunsIn w' p' (s.runs.take 300); rw [h1]; exact hR
  · show IntsIn w' q' (s.raw.take 300); rw [h2]; exact hV
  · show (s.runs.take 300).length ≤ 300; rw [List.length_take]; omega
  · show (s.raw.take 300).length ≤ 300; rw [List.length_take]; omega
  · show (s.raw.take 300).length ≤ vc'; rw [h2]; exact hc
theorem c_ownT (s : SegT) (p q : Option Addr) (cap vc : Nat) (w : World) (h : Came w s p q cap vc) :
    Calls Tryz.prog 11 #[.agg (segA s p q cap vc)] w (OwnOutT s w) := by
  have A0 : Addr := ⟨0, 0, none⟩
  unfold segA
  cases p with
  | none =>
    obtain ⟨e1, e2⟩ := h.nilR rfl
    cases q with
    | none =>
      obtain ⟨e3, e4⟩ := h.nilV rfl
      rw [e1, e2, e3, e4]
      exact own_out (by rw [e1]; rfl) (by rw [e3]; rfl) (own_nil_nil s.K s.A s.R s.n s.d s.E A0 A0 0 0 [] [] w)
    | some b =>
      rw [e1, e2]
      rcases Nat.lt_or_ge 300 s.raw.length with hv1 | hv1
      · exact own_out (by rw [e1]; rfl) rfl (own_nil_long s.K s.A s.R s.n s.d s.E A0 b 0 vc [] s.raw w hv1 h.capV h.maxV h.raw _ rfl)
      · exact own_out (by rw [e1]; rfl) (List.take_of_length_le hv1) (own_nil_short s.K s.A s.R s.n s.d s.E A0 b 0 vc [] s.raw w hv1 h.capV h.raw)
  | some a =>
    cases q with
    | none =>
      obtain ⟨e3, e4⟩ := h.nilV rfl
      rw [e3, e4]
      rcases Nat.lt_or_ge 300 s.runs.length with hr1 | hr1
      · exact own_out rfl (by rw [e3]; rfl) (own_long_nil s.K s.A s.R s.n s.d s.E a A0 cap 0 s.runs [] w hr1 h.capR h.maxR h.runs _ rfl)
      · exact own_out (List.take_of_length_le hr1) (by rw [e3]; rfl) (own_short_nil s.K s.A s.R s.n s.d s.E a A0 cap 0 s.runs [] w hr1 h.capR h.runs)
    | some b =>
      rcases Nat.lt_or_ge 300 s.runs.length with hr1 | hr1
      · rcases Nat.lt_or_ge 300 s.raw.length with hv1 | hv1
        · exact own_out rfl rfl (own_long_long s.K s.A s.R s.n s.d s.E a b cap vc s.runs s.raw w hr1 h.capR h.maxR hv1 h.capV h.maxV h.runs h.raw _ rfl _ rfl)
        · exact own_out rfl (List.take_of_length_le hv1) (own_long_short s.K s.A s.R s.n s.d s.E a b cap vc s.runs s.raw w hr1 h.capR h.maxR hv1 h.capV h.runs h.raw _ rfl)
      · rcases Nat.lt_or_ge 300 s.raw.length with hv1 | hv1
        · exact own_out (List.take_of_length_le hr1) rfl (own_short_long s.K s.A s.R s.n s.d s.E a b cap vc s.runs s.raw w hr1 h.capR hv1 h.capV h.maxV h.runs h.raw _ rfl)
        · exact own_out (List.take_of_length_le hr1) (List.take_of_length_le hv1) (own_short_short s.K s.A s.R s.n s.d s.E a b cap vc s.runs s.raw w hr1 h.capR hv1 h.capV h.runs h.raw)
theorem c_own (s : SegT) (p q : Option Addr) (cap vc : Nat) (w : World) (h : Came w s p q cap vc) :
    Calls Tryz.prog 11 #[.agg (segA s p q cap vc)] w (OwnOut s w) :=
  (c_ownT s p q cap vc w h).mono fun e w' ⟨p', c', q', v', e1, hB, hS, hc, _, _⟩ => ⟨p', c', q', v', e1, hB, hS, hc⟩
end Go.Proofs.YtgblmlefmohgnaaGreat
namespace Go.Proofs.YtgblmlefmohgnaaGreat
open Go.ChangeShapes Go.WideShapes Go.ChangeAt Go.RowKit Go.Deep

section
variable {H : Type} {enc : TypeId × Value → H} {P : Program}
theorem trodAll_stays (hl : laidOutB P = true) {W W' : World} (hb : Below W.heap.size W W') {sp : Nat → Bool} : ∀ (ts : List TypeId) (vs : List Value) (ds : List (DataW H)) (ps : List MemPlace), (∀ t, t ∈ ts → P.readableRec t = true ∧ t < P.types.size) →
    DataW.TrodAll enc P W 0 (fun _ => true) true ts vs ds ps → (∀ p ∈ ps, p.block < W.heap.size) → (∀ p ∈ ps, sp p.block = true) → DataW.TrodAll enc P W' 0 sp true ts vs ds ps
  | [], vs, ds, ps, _, h, _, _ => by
    obtain ⟨rfl, rfl, rfl⟩ := trodAll_nil h
    rfl
  | t :: ts, vs, ds, ps, hr, h, hlt, hs => by
    obtain ⟨v, vs', d, ds', p, q, rfl, rfl, rfl, h1, h2⟩ := trodAll_cons h
    exact ⟨p, q, WideElems.Trod_stays hl (hr t (by simp)).1 (hr t (by simp)).2 h1 (fun x hx => hb.same (hlt x (by simp [hx]))) (fun x hx => hs x (by simp [hx])),
      trodAll_stays hl hb ts vs' ds' q (fun u hu => hr u (by simp [hu])) h2 (fun x hx => hlt x (by simp [hx])) (fun x hx => hs x (by simp [hx])), rfl⟩
theorem law_post {f : Func} {s : ChangeSpec} {apart fresh handsOn again : Bool} {W W' : World} {args : Array Value} {ds : List (DataW H)} {before : List MemPlace} {tb : TypeId} (hl : laidOutB P = true)
    (hpar : ∀ t, t ∈ f.params.toList → P.readableRec t = true ∧ t < P.types.size) (hres : f.resultTypes = #[tb]) (htb : P.underlying tb = some .bool) (hv : s.vars = [])
    (hW : DataW.Whole enc P f.params.toList s.vars apart W args.toList ds [] before) (hb : Below W.heap.size W W') (hfn : s.fn H ds = { results := [.lit (.bool true)], args := ds }) :
    s.post enc P f apart fresh handsOn again W args (.bool true) W' := by
  have hlt : ∀ p ∈ before, p.block < W.heap.size := fun p hp => hW.lt p hp
  have hold : ∀ p ∈ before, (fun b => decide (b < W.heap.size)) p.block = true := fun p hp => by simpa using hlt p hp
  have hW' := hW
  obtain ⟨p, q, hA, hV, rfl, hz, hn⟩ := hW
  rw [hv] at hV
  obtain ⟨_, rfl⟩ := trodVars_none hV
  have hR : ∀ (b : Nat) (sp : Nat → Bool) (hd : Bool), DataW.TrodAll enc P W' b sp hd f.resultTypes.toList ((Value.bool true).resultList f.resultTypes.size) (s.fn H (ds ++ [])).results [] := fun b sp hd => by
    rw [hres, List.append_nil, hfn]
    exact trodAll_mk1 (shut_bool htb _)
  have hargs : ∀ sp : Nat → Bool, (∀ x ∈ p ++ [], sp x.block = true) → DataW.TrodAll enc P W' 0 sp true f.params.toList args.toList (s.fn H (ds ++ [])).args p := fun sp hsp => by
    rw [List.append_nil, hfn]
    exact trodAll_stays hl hb _ _ _ _ hpar hA (fun x hx => hlt x (by simp [hx])) (fun x hx => hsp x (by simp [hx]))
  have hvars : ∀ sp : Nat → Bool, (∀ x ∈ p ++ [], sp x.block = true) → DataW.TrodVars enc P W' sp s.vars (s.fn H (ds ++ [])).vars [] := fun sp _ => by
    rw [hv, List.append_nil, hfn]
    rfl
  refine ⟨ds, [], p ++ [], [], p, [], hW', hR _ _ _, hargs _ hold, hvars _ hold, World.keptBut_mono (fun x hx => ⟨hx, ?_⟩) (hb.frame (· ∈ p ++ [])), fun _ => ?_⟩
  · exact Or.inr (by simpa using hx)
  · refine ⟨?_, _, _, ([] ++ p) ++ [], ⟨[] ++ p, [], trodAll_append (hargs _ (fun _ _ => rfl)) (hR _ _ _), hvars _ (fun _ _ => rfl), rfl, ?_, ?_⟩, ?_⟩
    · exact ok_one hres rfl (okWide_bool_mk htb _)
    · intro b off hx
      have hin : MemPlace.cell b off ∈ p ++ [] := by simpa using hx
      rw [hb.frozen (hlt _ hin)]
      exact hz b off hin
    · intro ha
      simpa using hn ha
    · intro x hx _
      simpa using hx
end

/-- The fields of a struct: type and place. -/
def fieldsOf (P : Program) (t : TypeId) : Array (TypeId × Nat) := match P.underlying t with | some (.struct fs) => fs.map fun f => (f.type, f.offset) | _ => #[]
section
variable {H : Type} {enc : TypeId × Value → H} {P : Program} {w : World} {base : Nat} {spare : Nat → Bool} {held : Bool}
theorem open_struct {t : TypeId} {fl : Array (TypeId × Nat)} {fuel : Nat} {cs : List Value} {x : DataW H × List MemPlace} (hf : fieldsOf P t = fl) (hne : fl.size ≠ 0) (h : DataW.trod enc P w base spare held fuel t cs = some x) :
    cs.length = P.cellsOf t ∧ ∀ (i : Nat) (ty : TypeId) (off : Nat), fl[i]? = some (ty, off) → ∃ n y, DataW.trod enc P w base spare held n ty ((cs.drop off).take (P.cellsOf ty)) = some y := by
  unfold fieldsOf at hf
  split at hf
  · rename_i fs hu
    obtain ⟨xs, n, _, _, hl, hxl, hat⟩ := DataW.trod_struct hu h
    refine ⟨hl, fun i ty off hi => ?_⟩
    subst hf
    simp only [Array.getElem?_map, Option.map_eq_some_iff, Prod.mk.injEq] at hi
    obtain ⟨f, h1, h2, h3⟩ := hi
    have hh := hat i f h1
    have hlt : i < xs.length := by have := (Array.getElem?_eq_some_iff.1 h1).1; omega
    rw [List.getElem?_eq_getElem hlt] at hh
    subst h2; subst h3
    exact ⟨n, _, hh⟩
  · subst hf; simp at hne
theorem struct_of {t : TypeId} {fl : Array (TypeId × Nat)} (hf : fieldsOf P t = fl) (hne : fl.size ≠ 0) : ∃ fs, P.underlying t = some (.struct fs) := by
  unfold fieldsOf at hf
  split at hf
  · rename_i fs hu
    exact ⟨fs, hu⟩
  · subst hf; simp at hne
/-- A struct whose fields are all numbers of 64 bits. -/
theorem open_ints_struct {t : TypeId} {fl : Array (TypeId × Nat)} {fuel : Nat} {cs : List Value} {x : DataW H × List MemPlace} (hf : fieldsOf P t = fl) (hne : fl.size ≠ 0) (hn : P.cellsOf t = fl.size)
    (ha : ∀ i, i < fl.size → ∃ ty, fl[i]? = some (ty, i) ∧ P.underlying ty = some (.int .i64) ∧ P.cellsOf ty = 1) (h : DataW.trod enc P w base spare held fuel t cs = some x) :
    cs.length = fl.size ∧ ∀ i, i < fl.size → ∃ z : Int, cs[i]? = some (.int .i64 z) ∧ I64 z := by
  obtain ⟨hl, hat⟩ := open_struct hf hne h
  refine ⟨by omega, fun i hi => ?_⟩
  obtain ⟨ty, h1, h2, h3⟩ := ha i hi
  obtain ⟨n, y, hy⟩ := hat i ty i h1
  obtain ⟨z, hz, _, hw⟩ := DataW.trod_int h2 hy
  refine ⟨z, ?_, ?_⟩
  · rw [h3] at hz
    have : ((cs.drop i).take 1)[0]? = some (.int .i64 z) := by rw [hz]; rfl
    simpa using this
  · simp [Lit.wf, IntKind.min, IntKind.max, IntKind.signed, IntKind.bits] at hw
    exact ⟨by omega, by omega⟩
theorem list_of {α : Type} {Q : Nat → α → Prop} : ∀ n, (∀ i, i < n → ∃ x, Q i x) → ∃ l : List α, l.length = n ∧ ∀ i x, l[i]? = some x → Q i x
  | 0, _ => ⟨[], rfl, fun i x h => by simp at h⟩
  | n + 1, h => by
    obtain ⟨l, hl, hq⟩ := list_of n fun i hi => h i (by omega)
    obtain ⟨x, hx⟩ := h n (by omega)
    refine ⟨l ++ [x], by simp [hl], fun i y hy => ?_⟩
    rcases Nat.lt_or_ge i l.length with hlt | hge
    · rw [List.getElem?_append_left hlt] at hy
      exact hq i y hy
    · rw [List.getElem?_append_right hge] at hy
      have : i = l.length := by
        rcases Nat.eq_or_lt_of_le hge with e | e
        · exact e.symm
        · rw [List.getElem?_eq_none (by simp; omega)] at hy; cases hy
      subst this
      simp at hy
      rw [hl, ← hy]
      exact hx
theorem spot_none {a : Addr} {v : Value} (h : w.cell? a = some v) : a = ⟨a.block, a.off, none⟩ := by
  obtain ⟨b, o, s⟩ := a
  cases s with
  | none => rfl
  | some k =>
    unfold World.cell? at h
    simp at h
    split at h <;> cases h
theorem add_at {b o n : Nat} : (⟨b, o, none⟩ : Addr).add n = ⟨b, o + n, none⟩ := by unfold Addr.add; split <;> simp_all
/-- A slice of structs of n numbers each. -/
theorem open_rows {t e : TypeId} {n fuel : Nat} {fl : Array (TypeId × Nat)} {cs : List Value} {x : DataW H × List MemPlace} (ht : P.underlying t = some (.slice e)) (hf : fieldsOf P e = fl) (hfl : fl.size = n) (hn0 : n ≠ 0) (hn : P.cellsOf e = n)
    (ha : ∀ i, i < fl.size → ∃ ty, fl[i]? = some (ty, i) ∧ P.underlying ty = some (.int .i64) ∧ P.cellsOf ty = 1) (h : DataW.trod enc P w base spare held fuel t cs = some x) :
    ∃ (p : Option Addr) (len cap : Nat), cs = [.slice p len cap] ∧ (p = none → len = 0 ∧ cap = 0) ∧ len ≤ cap ∧ cap ≤ maxLen ∧
      ∀ i, i < len → ∃ b o, p = some ⟨b, o, none⟩ ∧ ∀ j, j < n → ∃ z : Int, w.cell? ⟨b, o + i * n + j, none⟩ = some (.int .i64 z) ∧ I64 z := by
  rcases open_slice ht h with ⟨rfl, rfl⟩ | ⟨a, len, cap, m, k, D, Pl, rfl, hb, hl, hm, hmm, hx, hi⟩
  · exact ⟨none, 0, 0, rfl, fun _ => ⟨rfl, rfl⟩, Nat.le_refl _, Nat.zero_le _, fun i hi => by omega⟩
  · refine ⟨some a, len, cap, rfl, (fun e => by cases e), hl, hm, fun i hilt => ?_⟩
    have hlm : len ≤ m := by rw [hmm]; split <;> omega
    have key : ∀ i, i < len → ∀ j, j < n → ∃ z : Int, w.cell? (a.add (i * n + j)) = some (.int .i64 z) ∧ I64 z := by
      intro i hilt j hj
      obtain ⟨cs', hc, ht'⟩ := hi i (by omega)
      obtain ⟨_, hcl, hat⟩ := World.cells?_some hc
      obtain ⟨hl', hz⟩ := open_ints_struct hf (by omega) (by omega) ha ht'
      obtain ⟨z, hz1, hz2⟩ := hz j (by omega)
      have := hat j (by omega)
      rw [add_add, hn, hz1] at this
      exact ⟨z, this, hz2⟩
    obtain ⟨z0, hz0, _⟩ := key 0 (by omega) 0 (by omega)
    simp [Addr.add] at hz0
    have hs := spot_none hz0
    refine ⟨a.block, a.off, by rw [← hs], fun j hj => ?_⟩
    obtain ⟨z, h1, h2⟩ := key i hilt j hj
    rw [hs, add_at] at h1
    exact ⟨z, by rw [Nat.add_assoc]; exact h1, h2⟩
/-- A slice of numbers. -/
theorem open_nums {t e : TypeId} {fuel : Nat} {cs : List Value} {x : DataW H × List MemPlace} (ht : P.underlying t = some (.slice e)) (he : P.underlying e = some (.int .i64)) (hc : P.cellsOf e = 1) (h : DataW.trod enc P w base spare held fuel t cs = some x) :
    ∃ (p : Option Addr) (l : List Int) (cap : Nat), cs = [.slice p l.length cap] ∧ (p = none → l = [] ∧ cap = 0) ∧ l.length ≤ cap ∧ cap ≤ maxLen ∧ IntsIn w p l ∧ ∀ z, z ∈ l → I64 z := by
  rcases open_ints ht he hc h with ⟨rfl, _⟩ | ⟨a, len, cap, zs, rfl, hb, hl, hm, hzl, _, hz, hw⟩
  · exact ⟨none, [], 0, rfl, fun _ => ⟨rfl, rfl⟩, Nat.le_refl _, Nat.zero_le _, ⟨fun i x h => by simp at h⟩, fun z h => by simp at h⟩
  · have hle : len ≤ zs.length := by rw [hzl]; split <;> omega
    refine ⟨some a, zs.take len, cap, by simp [hle], (fun e => by cases e), by simp; omega, hm, ⟨fun i x hx => ?_⟩, fun z hz' => ?_⟩
    · rw [List.getElem?_take] at hx
      split at hx
      · rename_i hil
        have h0 := hz 0 (by omega)
        simp [Addr.add] at h0
        have hs := spot_none h0
        have hi := hz i (by omega)
        rw [hs, add_at] at hi
        refine ⟨a.block, a.off, by rw [← hs], ?_⟩
        rw [hi, List.getD_eq_getElem?_getD, hx]
        rfl
      · cases hx
    · have := hw z (List.mem_of_mem_take hz')
      simp [Lit.wf, IntKind.min, IntKind.max, IntKind.signed, IntKind.bits] at this
      exact ⟨by omega, by omega⟩
theorem wf_I64 {z : Int} (hw : (Lit.int .i64 z).wf = true) : I64 z := by
  simp [Lit.wf, IntKind.min, IntKind.max, IntKind.signed, IntKind.bits] at hw
  exact ⟨by omega, by omega⟩
end
section
variable {H : Type} {enc : TypeId × Value → H} {w : World} {base : Nat} {spare : Nat → Bool} {held : Bool}
theorem Tryz.fieldsRun : fieldsOf Tryz.prog 51 = #[(2, 0), (2, 1), (3, 2)] := by kernel_rfl
theorem Tryz.fieldsLine : fieldsOf Tryz.prog 24 = #[(2, 0), (2, 1), (2, 2), (2, 3)] := by kernel_rfl
theorem Tryz.fieldsSeg : fieldsOf Tryz.prog 27 = #[(3, 0), (22, 1), (24, 2), (25, 6), (2, 7)] := by kernel_rfl
theorem Tryz.isInt : Tryz.prog.underlying 3 = some (.int .i64) ∧ Tryz.prog.cellsOf 3 = 1 := ⟨by kernel_rfl, by kernel_rfl⟩
theorem Tryz.isInt64 : Tryz.prog.underlying 2 = some (.int .i64) ∧ Tryz.prog.cellsOf 2 = 1 := ⟨by kernel_rfl, by kernel_rfl⟩
set_option maxRecDepth 100000 in
theorem open_run_list {fuel : Nat} {cs : List Value} {x : DataW H × List MemPlace} (h : DataW.trod enc Tryz.prog w base spare held fuel 22 cs = some x) :
    ∃ (p : Option Addr) (l : List RunT) (cap : Nat), cs = [.slice p l.length cap] ∧ (p = none → l = [] ∧ cap = 0) ∧ l.length ≤ cap ∧ cap ≤ maxLen ∧ RunsIn w p l ∧ ∀ r, r ∈ l → I64 r.f ∧ I64 r.s ∧ I64 r.c := by
  obtain ⟨p, len, cap, rfl, hn, hl, hm, hi⟩ := open_rows (n := 3) (by kernel_rfl) Tryz.fieldsRun rfl (by omega) (by kernel_rfl) (fun i hi => by
    match i, hi with
    | 0, _ => exact ⟨_, rfl, Tryz.isInt64⟩
    | 1, _ => exact ⟨_, rfl, Tryz.isInt64⟩
    | 2, _ => exact ⟨_, rfl, Tryz.isInt⟩) h
  obtain ⟨l, rfl, hq⟩ := list_of (Q := fun i (r : RunT) => (∃ b o, p = some ⟨b, o, none⟩ ∧ w.cell? ⟨b, o + i * 3, none⟩ = some (.int .i64 r.f) ∧ w.cell? ⟨b, o + i * 3 + 1, none⟩ = some (.int .i64 r.s) ∧ w.cell? ⟨b, o + i * 3 + 2, none⟩ = some (.int .i64 r.c)) ∧ I64 r.f ∧ I64 r.s ∧ I64 r.c) len (fun i hilt => by
    obtain ⟨b, o, e, hj⟩ := hi i hilt
    obtain ⟨f, f1, f2⟩ := hj 0 (by omega)
    obtain ⟨s, s1, s2⟩ := hj 1 (by omega)
    obtain ⟨c, c1, c2⟩ := hj 2 (by omega)
    exact ⟨⟨f, s, c⟩, ⟨b, o, e, by simpa using f1, s1, c1⟩, f2, s2, c2⟩)
  refine ⟨p, l, cap, rfl, fun e => ⟨List.length_eq_zero_iff.1 (hn e).1, (hn e).2⟩, hl, hm, ⟨fun i r hr => (hq i r hr).1⟩, fun r hr => ?_⟩
  obtain ⟨i, hi⟩ := List.getElem?_of_mem hr
  exact (hq i r hi).2
set_option maxRecDepth 100000 in
/-- A segment that came in. -/
theorem open_seg {r : Reach} {b0 : Nat} {v : Value} {d : DataW H} {ps : List MemPlace} (hv : Value.okWide Tryz.prog w r b0 27 v) (h : DataW.Trod enc Tryz.prog w base spare held 27 v d ps) :
    ∃ s p q cap vc, v = .agg (segA s p q cap vc) ∧ Came w s p q cap vc ∧ (I64 s.K ∧ I64 s.A ∧ I64 s.R ∧ I64 s.n ∧ I64 s.d ∧ I64 s.E) ∧ (∀ r, r ∈ s.runs → I64 r.f ∧ I64 r.s ∧ I64 r.c) ∧ ∀ z, z ∈ s.raw → I64 z := by
  obtain ⟨fs, hfs⟩ : ∃ fs, Tryz.prog.underlying 27 = some (.struct fs) := struct_of Tryz.fieldsSeg (by simp)
  obtain ⟨cs, rfl, hsz⟩ := okWide_struct hfs hv
  have hC : Tryz.prog.cellsOf 27 = 8 := by kernel_rfl
  have hR : Tryz.prog.cellsOf 22 = 1 := by kernel_rfl
  have hV : Tryz.prog.cellsOf 25 = 1 := by kernel_rfl
  have hL : Tryz.prog.cellsOf 24 = 4 := by kernel_rfl
  obtain ⟨fuel, hf⟩ := h
  obtain ⟨l⟩ := cs
  obtain ⟨_, hat⟩ := open_struct Tryz.fieldsSeg (by simp) hf
  rw [hC] at hsz
  match l, hsz with
  | [c0, c1, c2, c3, c4, c5, c6, c7], _ =>
    obtain ⟨n0, y0, h0⟩ := hat 0 _ _ rfl
    obtain ⟨n1, y1, h1⟩ := hat 1 _ _ rfl
    obtain ⟨n2, y2, h2⟩ := hat 2 _ _ rfl
    obtain ⟨n3, y3, h3⟩ := hat 3 _ _ rfl
    obtain ⟨n4, y4, h4⟩ := hat 4 _ _ rfl
    rw [Tryz.isInt.2] at h0
    rw [hR] at h1
    rw [hL] at h2
    rw [hV] at h3
    rw [Tryz.isInt64.2] at h4
    obtain ⟨K, eK, _, wK⟩ := DataW.trod_int Tryz.isInt.1 h0
    obtain ⟨p, l, cap, e1, r1, r2, r3, r4, r5⟩ := open_run_list h1
    obtain ⟨_, hln⟩ := open_ints_struct Tryz.fieldsLine (by simp) (by rw [hL]; rfl) (fun i hi => by
      match i, hi with
      | 0, _ => exact ⟨_, rfl, Tryz.isInt64⟩
      | 1, _ => exact ⟨_, rfl, Tryz.isInt64⟩
      | 2, _ => exact ⟨_, rfl, Tryz.isInt64⟩
      | 3, _ => exact ⟨_, rfl, Tryz.isInt64⟩) h2
    obtain ⟨A, a1, a2⟩ := hln 0 (by simp)
    obtain ⟨R, b1, b2⟩ := hln 1 (by simp)
    obtain ⟨N, g1, g2⟩ := hln 2 (by simp)
    obtain ⟨D, d1, d2⟩ := hln 3 (by simp)
    obtain ⟨q, v, vc, e3, q1, q2, q3, q4, q5⟩ := open_nums (by kernel_rfl) Tryz.isInt64.1 Tryz.isInt64.2 h3
    obtain ⟨E, eE, _, wE⟩ := DataW.trod_int Tryz.isInt64.1 h4
    simp [Value.cells] at eK e1 a1 b1 g1 d1 e3 eE
    subst eK; subst e1; subst a1; subst b1; subst g1; subst d1; subst e3; subst eE
    unfold maxLen at r3 q3
    exact ⟨⟨K, l, A, R, N, D, v, E⟩, p, q, cap, vc, rfl, ⟨r4, q4, r1, q1, r2, q2, by show l.length ≤ _; omega, by show v.length ≤ _; omega⟩, ⟨wf_I64 wK, a2, b2, g2, d2, wf_I64 wE⟩, r5, q5⟩
end
theorem pars_ok {P : Program} {ts : List TypeId} (h : (ts.all fun t => P.readableRec t && decide (t < P.types.size)) = true) : ∀ t, t ∈ ts → P.readableRec t = true ∧ t < P.types.size := fun t ht => by
  have := List.all_eq_true.1 h t ht
  simpa using this
theorem Tryz.ownKnob : ownKnob Tryz.prog.godebug = none := by kernel_rfl
theorem Tryz.laidOut : laidOutB Tryz.prog = true := by kernel_rfl
end Go.Proofs.YtgblmlefmohgnaaGreat
namespace Go.Proofs.YtgblmlefmohgnaaGreat
open Go.RowKit Go.Shelf
attribute [local go_sem] Oper.semAt_some
theorem wpIn_scope {P : Program} {n : Nat} {c : Code} {Q : Exit → Act → World → Prop} {a : Act} {w : World} (h : c.wpIn Fence.wide n P (Exit.noGoto Q) a w) : (Code.scope c).wpIn Fence.wide n P Q a w := wpIn_wide.2 (wp_scope_straight (wpIn_wide.1 h))
theorem wpIn_lab {F : Fence} {P : Program} {n l : Nat} {c : Code} {Q : Exit → Act → World → Prop} {a : Act} {w : World} (h : c.wpIn F n P Q a w) : ((Code.label l).seq c).wpIn F n P Q a w := wpIn_seq (wpIn_label h)
/-- Every block of a type stays as it is. -/
def KeepsT (t : TypeId) (A B : World) : Prop := ∀ (b : Nat) (cs : Array Value) (f : Nat × Nat), A.heap[b]? = some (.cells cs t f) → B.heap[b]? = some (.cells cs t f)
theorem KeepsT.refl (t : TypeId) (A : World) : KeepsT t A A := fun _ _ _ h => h
theorem KeepsT.trans {t : TypeId} {A B C : World} (h : KeepsT t A B) (k : KeepsT t B C) : KeepsT t A C := fun b cs f hb => k b cs f (h b cs f hb)
theorem times_step {l : List RunT} {k : Nat} {r : RunT} (hr : l[k]? = some r) : timesL (l.take (k + 1)) = timesL (l.take k) ++ timesR r := by
  rw [List.take_add_one, hr, timesL_append]
  simp [timesL]
theorem timesR_step {r : RunT} {j : Nat} (h : (j : Int) < r.c) : (timesR r).take (j + 1) = (timesR r).take j ++ [r.f + r.s * (j : Int)] := by
  rw [List.take_add_one, timesR_at r j h]
  rfl
theorem times_room {l : List RunT} {k j : Nat} {r : RunT} (hr : l[k]? = some r) (h : (j : Int) < r.c) : (timesL (l.take k) ++ (timesR r).take j).length < (timesL l).length := by
  have e : timesL l = timesL (l.take (k + 1)) ++ timesL (l.drop (k + 1)) := by rw [← timesL_append, List.take_append_drop]
  rw [e, times_step hr]
  have := length_timesR r
  simp
  omega
theorem times_pre {l : List RunT} {k j : Nat} {r : RunT} (hr : l[k]? = some r) : timesL (l.take k) ++ (timesR r).take j <+: timesL l := by
  have e : timesL l = timesL (l.take (k + 1)) ++ timesL (l.drop (k + 1)) := by rw [← timesL_append, List.take_append_drop]
  rw [e, times_step hr]
  exact ⟨(timesR r).drop j ++ timesL (l.drop (k + 1)), by rw [List.append_assoc, ← List.append_assoc (List.take j _), List.take_append_drop, List.append_assoc]⟩
set_option maxRecDepth 100000 in
set_option maxHeartbeats 4000000 in
theorem all1_in (n : Nat) (hn : 1 ≤ n) (lr Bs n₀ : Nat) (p : Option Addr) (cap : Nat) (l : List RunT) (hl : ∀ r, r ∈ l → RunOk r) (hlen : l.length ≤ 256) (Kp : World → World → Prop) (hK : ∀ {A B}, Kp A B → Below n₀ A B ∧ KeepsT 51 A B)
    (J Jx : List Int → World → Prop) (B0 : Nat) (hJ : AbidesFrom B0 J)
    (hY : ∀ pre x W, J pre W → pre.length < (timesL l).length → YieldAt Fence.wide (n - 1) Tryz.prog lr #[.int .i64 x] W fun e W' => (e = .returned (.bool true) ∧ J (pre ++ [x]) W' ∧ Kp W W') ∨ (e = .returned (.bool false) ∧ Jx (pre ++ [x]) W'))
    (W : World) (hBs : W.cell? ⟨Bs, 0, none⟩ = some (.slice p l.length cap)) (hR : RunsIn W p l) (hn₀ : ∀ a, p = some a → a.block < n₀) (hn1 : n₀ ≤ W.heap.size) (h0 : J [] W) :
    CallsIn Fence.wide n Tryz.prog 145 #[.func (.yield lr) #[] #[], .pointer (some ⟨Bs, 0, none⟩)] W fun e W' => (∃ v, e = .returned v) ∧ ((∃ ys, ys = timesL l ∧ J ys W') ∨ (∃ pre, pre <+: timesL l ∧ Jx pre W')) := by
  refine callsIn_of_wp Tryz.func145 rfl trivial ?_ rfl
  simp only [Tryz.ntmps145, List.size_toArray, List.length_cons, List.length_nil, Nat.reduceAdd, Nat.reduceSub, Array.replicate_succ, Array.replicate_zero, List.push_toArray, List.append_toArray, List.nil_append, List.cons_append]
  refine wpIn_scope (wpIn_lab ?_)
  gi_wp2
  gi_loopw [8] (fun i wr => ∃ k : Nat, k ≤ l.length ∧ i = .int .i64 k ∧ J (timesL (l.take k)) wr ∧ Below n₀ W wr ∧ W.heap.size ≤ wr.heap.size) (fun i _ => l.length - (intOf i).toNat)
  case atStart => exact ⟨0, Nat.zero_le _, rfl, h0, Below.refl _ _, Nat.le_refl _⟩
  case round =>
    obtain ⟨k, hk, rfl, hJs, hnx, hsz⟩ := hrel
    obtain ⟨wo, rfl⟩ : ∃ wo : World, wo = wr := ⟨_, rfl⟩
    rcases Nat.lt_or_ge k l.length with hlt | hge
    · obtain ⟨r, hri⟩ : ∃ r, l[k]? = some r := ⟨l[k]'(by omega), List.getElem?_eq_getElem (by omega)⟩
      have hr := hl r (List.mem_of_getElem? hri)
      obtain ⟨b, o, rfl, k0, k1, k2⟩ := hR.at' k r hri
      have hbl : b < n₀ := hn₀ _ rfl
      have q0 : wo.cell? ⟨b, o + k * 3, none⟩ = some (.int .i64 r.f) := (hnx.cell (p := ⟨b, o + k * 3, none⟩) hbl).trans k0
      have q1 : wo.cell? ⟨b, o + k * 3 + 1, none⟩ = some (.int .i64 r.s) := (hnx.cell (p := ⟨b, o + k * 3 + 1, none⟩) hbl).trans k1
      have q2 : wo.cell? ⟨b, o + k * 3 + 2, none⟩ = some (.int .i64 r.c) := (hnx.cell (p := ⟨b, o + k * 3 + 2, none⟩) hbl).trans k2
      clear k0 k1 k2
      have r1 := hr.f0; have r2 := hr.f1; have r3 := hr.s0; have r4 := hr.s1; have r5 := hr.c0; have r6 := hr.c1; have r7 := lastI_le hr; have r8 := hr.last
      gi_wp2
      gi_loopw [14] (fun j wr => ∃ m : Nat, (m : Int) ≤ r.c ∧ j = .int .i64 m ∧ J (timesL (l.take k) ++ (timesR r).take m) wr ∧ Below n₀ W wr ∧ W.heap.size ≤ wr.heap.size ∧ Blk wr wo.heap.size #[.int .i64 r.f, .int .i64 r.s, .int .i64 r.c] 51) (fun j _ => r.c.toNat - (intOf j).toNat)
      case atStart => exact ⟨0, by omega, rfl, by simpa using hJ _ _ _ none hJs (World.grownBy_alloc wo _ none) (fun r e => by cases e), hnx.alloc (by omega) _, by simp; omega, Blk.new' rfl⟩
      case round =>
        obtain ⟨m, hm, rfl, hJm, hnm, hsm, hb⟩ := hrel
        have kb := hb.cell
        have fb := hb.frozen
        by_cases hmc : (m : Int) < r.c
        · have m0 : 0 ≤ r.s * (m : Int) := Int.mul_nonneg r3 (by omega)
          have m1 : r.f + r.s * (m : Int) ≤ lastI r := run_at_le hr (by omega)
          obtain ⟨fn, tmps, assign, body, hy, hR'⟩ := hY _ (r.f + r.s * (m : Int)) wr hJm (times_room hri hmc)
          gi_wp2
          refine hR'.mono ?_
          rintro e W3 (⟨rfl, hJ3, hk3⟩ | ⟨rfl, hJx3⟩)
          · obtain ⟨g1, g2⟩ := hK hk3
            have g3 := g1.size
            gi_wp2
            go_roundw
            case rel => exact ⟨m + 1, by omega, by simp, by rw [timesR_step hmc, ← List.append_assoc]; exact hJ3, hnm.trans g1, by omega, g2 _ _ _ hb⟩
            case measure => simp [intOf]; omega
          · gi_wp2
            simp only [Exit.noGoto]
            refine bodyPost_end (results_none rfl _ _ _) rfl ?_
            exact ⟨⟨_, rfl⟩, .inr ⟨_, by rw [List.append_assoc, ← timesR_step hmc]; exact times_pre hri, hJx3⟩⟩
        · have e : (m : Int) = r.c := by omega
          have et : (timesR r).take m = timesR r := List.take_of_length_le (by rw [length_timesR]; omega)
          rw [et, ← times_step hri] at hJm
          gi_wp2
          go_roundw
          case rel => exact ⟨k + 1, by omega, by simp, hJm, hnm, hsm⟩
          case measure => simp [intOf]; omega
    · obtain rfl : k = l.length := by omega
      rw [List.take_length] at hJs
      gi_wp2
      simp only [Exit.noGoto]
      refine bodyPost_end (results_none rfl _ _ _) rfl ?_
      exact ⟨⟨_, rfl⟩, .inl ⟨_, rfl, hJs⟩⟩
end Go.Proofs.YtgblmlefmohgnaaGreat
namespace Go.Proofs.YtgblmlefmohgnaaGreat
open Go.RowKit Go.Shelf
attribute [local go_sem] Oper.semAt_some
theorem keepsT_appended {W w1 : World} {n₀ B : Nat} {t e T : TypeId} {size : Nat} {v v' : Value} {k : Nat} {xs : List Value} {tmp : Obj} (hv : Boxed W B t v) (hrow : W.ownsRow n₀ e size v k xs) (hgrow : (W.alloc tmp).grownBy w1 v.ownBlock) (h1 : T ≠ t) (h2 : T ≠ e) : KeepsT T W (w1.setCell ⟨B, 0, none⟩ v') := by
  intro b cs f hb
  have hlt := lt_of_heap hb
  have e1 : b ≠ B := by
    rintro rfl
    rw [show W.heap[b]? = _ from hv] at hb
    injection hb with hb
    injection hb with _ h _
    exact h1 h.symm
  rw [Below.heap_setCell w1 ⟨B, 0, none⟩ v' b e1]
  rw [hgrow.block b (by simp; omega) ?_, Below.heap_alloc W tmp b hlt]
  · exact hb
  · rcases hrow.2 with ⟨rfl, _⟩ | ⟨g, cap, cur, rfl, _, hgb, _⟩
    · simp [Value.ownBlock]
    · intro e'
      obtain rfl : b = g := by simpa [Value.ownBlock] using e'
      rw [hgb] at hb
      injection hb with hb
      injection hb with _ h _
      exact h2 h.symm

set_option maxRecDepth 100000 in
set_option maxHeartbeats 4000000 in
theorem appendSeqI (gf : Nat) (lb : Array Value) (xs : List Int) (hlen : xs.length ≤ 1000000) (w w0 : World) (hw0 : Below w0.heap.size w0 w) (Kp : World → World → Prop) (enters : ∀ args w, (callFunc gf args).run Tryz.prog w = .ok (.enter gf args) w)
    (hKp : ∀ {A B}, Below w.heap.size A B → (∀ T, T ≠ 25 → T ≠ 2 → KeepsT T A B) → Kp A B) (hKt : ∀ {A B C}, Kp A B → Kp B C → Kp A C) (hKb : ∀ (W : World) (l : Nat) (o o' : Obj), w.heap.size ≤ l → W.heap[l]? = some o → o.isCells = false → o.isWalk = false → Kp W (W.putObj l o'))
    (hseq : SeqStopsK Fence.wide 2 Tryz.prog gf lb (fun x : Int => #[Value.int .i64 x]) Kp (fun ys => ys = xs) (fun pre => pre <+: xs) xs.length w0) :
    CallsIn Fence.wide 3 Tryz.prog 144 #[.slice none 0 0, .func (.func gf) #[] lb] w fun e W' => ∃ v, e = .returned v ∧ W'.ownsRow w.heap.size 2 1 v xs.length (xs.map (Value.int .i64)) ∧ Below w.heap.size w W' := by
  obtain ⟨i0, hi, hz0, hz1, hz2⟩ := info_parts Tryz.infoInt
  refine callsIn_of_wp_marks Tryz.func144 rfl trivial ?_ rfl
  simp only [Tryz.ntmps144, List.size_toArray, List.length_cons, List.length_nil, Nat.reduceAdd, Nat.reduceSub, Array.replicate_succ, Array.replicate_zero, List.push_toArray, List.append_toArray, List.nil_append, List.cons_append]
  gi_wp2
  have bO := Boxed.new w 25 (.slice none 0 0)
  have hB0 : Below w.heap.size w (w.alloc (.cells #[.slice none 0 0] 25)) := (Below.refl _ w).alloc (Nat.le_refl _) _
  refine wpIn_rangeFunc_ownG rfl (by omega) (gf := gf) (lb := lb) rfl trivial enters hseq hKt (fun W l o o' hl => hKb W l o o' (by simp at hl; omega)) (hw0.trans (hB0.mono hw0.size)) (fun _ => rfl)
    (fun pre W => (∃ v, Boxed W w.heap.size 25 v ∧ W.ownsRow w.heap.size 2 1 v pre.length (pre.map (Value.int .i64)) ∧ True) ∧ Below w.heap.size w W)
    (fun _ _ _ => False)
    (OwnFrom.and (Own.from (holdsRow_own w.heap.size w.heap.size 25 2 1 (fun pre : List Int => pre.length) (fun pre => pre.map (Value.int .i64)) (fun _ _ => True)) _) (ownFrom_below (Nat.le_refl _) (by simp)))
    (fun _ _ _ _ _ hs _ _ => hs)
    ⟨⟨_, bO, World.ownsRow_nil _ _ _ _, trivial⟩, hB0⟩
    (fun x => { tmps := #[.slice none 0 0, .func (.func gf) #[] lb, .pointer (some ⟨w.heap.size, 0, none⟩), undef, .slice none 0 0, .int .i64 x, .func (.func gf) #[] lb, .int .i64 x, undef, undef, undef, undef, undef], defers := [] }) ?assign ?body ?done ?stop
  case assign =>
    intro l x W K hK
    gi_wp2
    exact hK
  case body =>
    rintro l pre x W ⟨⟨v, hv, hrow, _⟩, hB⟩ hlt
    have hc := hv.cell
    gi_wp2_with (gi_at_builtin; refine wpListIn_append_own _ rfl _ _ 25 rfl w.heap.size 2 i0 (.int .i64 0) 1 8 (by kernel_rfl) hi hz0 hz1 hz2 rfl (by decide) _ _ _ rfl (hrow.alloc _) ⟨W.heap.size, 0, none⟩ 1 1 [.int .i64 x] rfl rfl (cell_one_new _ _ _) (by simp [Value.oneCell']) (by simp [maxLen]; omega) (by omega) (by have := hB.size; simp; omega) ?_; intro v' w1 hown' hgrow _; obtain ⟨g', cap', rfl⟩ := ownsRow_succ hown'; obtain ⟨hv1, hv2, hr2, hk2, hb2⟩ := hv.appended (by decide) hrow hB.size (Nat.le_refl _) hown' hgrow; have hkt := fun T h1 h2 => keepsT_appended (v' := .slice (some ⟨g', 0, none⟩) (pre.length + 1) cap') (T := T) hv hrow hgrow h1 h2; have hc1 := hv1.cell; have hf1 := hv1.frozen)
    exact ⟨hk2.from _, hKp hb2 hkt, ⟨_, hv2, by simpa using hr2, trivial⟩, hB.trans hb2⟩
  case done =>
    rintro D ys W hD rfl ⟨⟨v, hv, hrow, _⟩, hB⟩ hK
    have hc := hv.cell
    gi_wp2
    refine ⟨by simp, .inl ⟨_, _, rfl, run_takeDeferred hK, ?_⟩⟩
    exact ⟨_, results_tmp rfl _ _ _, v, rfl, ownsRow_putObj hrow _ hK rfl, hB.trans (belowK_b (w := w) (Nat.le_refl _) W D _ _ (by simp at hD; omega) hK rfl rfl)⟩
  case stop =>
    rintro D c pre W _ _ h _
    exact h.elim

end Go.Proofs.YtgblmlefmohgnaaGreat
namespace Go.Proofs.YtgblmlefmohgnaaGreat
open Go.RowKit Go.Shelf
theorem ownsRow_le {W : World} {b b' : Nat} {e : TypeId} {s : Nat} {v : Value} {k : Nat} {xs : List Value} (h : W.ownsRow b e s v k xs) (hb : b' ≤ b) : W.ownsRow b' e s v k xs := by
  obtain ⟨h1, h2 | ⟨g, cap, cur, e1, hg, r⟩⟩ := h
  · exact ⟨h1, .inl h2⟩
  · exact ⟨h1, .inr ⟨g, cap, cur, e1, Nat.le_trans hb hg, r⟩⟩
theorem keepsT_putObj {T : TypeId} {W : World} {l : Nat} {o : Obj} (o' : Obj) (hl : W.heap[l]? = some o) (ho : o.isCells = false) : KeepsT T W (W.putObj l o') := by
  intro b cs f hb
  rw [World.putObj_heap_other]
  · exact hb
  · rintro rfl
    rw [hb] at hl
    cases hl
    cases ho
theorem keepsT_of_below {T : TypeId} {A B : World} (h : Below A.heap.size A B) : KeepsT T A B := fun b cs f hb => (h.block b (lt_of_heap hb)).trans hb

set_option maxRecDepth 100000 in
set_option maxHeartbeats 2000000 in
theorem collectI (gf : Nat) (lb : Array Value) (xs : List Int) (hlen : xs.length ≤ 1000000) (w w0 : World) (hw0 : Below w0.heap.size w0 w) (Kp : World → World → Prop) (enters : ∀ args w, (callFunc gf args).run Tryz.prog w = .ok (.enter gf args) w)
    (hKp : ∀ {A B}, Below w.heap.size A B → (∀ T, T ≠ 25 → T ≠ 2 → KeepsT T A B) → Kp A B) (hKt : ∀ {A B C}, Kp A B → Kp B C → Kp A C) (hKb : ∀ (W : World) (l : Nat) (o o' : Obj), w.heap.size ≤ l → W.heap[l]? = some o → o.isCells = false → o.isWalk = false → Kp W (W.putObj l o'))
    (hseq : SeqStopsK Fence.wide 2 Tryz.prog gf lb (fun x : Int => #[Value.int .i64 x]) Kp (fun ys => ys = xs) (fun pre => pre <+: xs) xs.length w0) :
    Calls Tryz.prog 130 #[.func (.func gf) #[] lb] w fun e W' => ∃ v, e = .returned v ∧ W'.ownsRow w.heap.size 2 1 v xs.length (xs.map (Value.int .i64)) ∧ Below w.heap.size w W' := by
  have c1 := Lib.hid (callsIn_wide.1 (appendSeqI gf lb xs hlen w w0 hw0 Kp enters hKp hKt hKb hseq))
  clear hKp hKt hKb hseq enters hw0
  go_enter Tryz.func130, Tryz.ntmps130
  go_wp2_with fail
  refine c1.out.mono ?_
  rintro e w1 ⟨v, rfl, hv, hB⟩
  replace hv := Lib.hid hv
  replace hB := Lib.hid hB
  go_wp2
  go_ret
  exact ⟨v, rfl, hv.out, hB.out⟩

set_option maxRecDepth 100000 in
set_option maxHeartbeats 2000000 in
theorem all_w (p : Option Addr) (len cap : Nat) (w : World) : Calls Tryz.prog 131 #[.slice p len cap] w fun e w' => e = .returned (.func (.func 145) #[] #[.pointer (some ⟨w.heap.size, 0, none⟩)]) ∧ w' = w.alloc (.cells #[.slice p len cap] 22) := by
  have hmf : ∀ (fn : Fn) (first cap : Array Value) (w : World), (Instr.makeFunc fn first cap).run Tryz.prog w = .ok (.func fn first cap) w := fun _ _ _ _ => rfl
  go_enter Tryz.func131, Tryz.ntmps131
  go_wp2
  go_ret
  exact ⟨rfl, rfl⟩
/-- All times, in an array of its own. -/
def TimesOut (w : World) (l : List RunT) (e : Ending) (w' : World) : Prop := ∃ v, e = .returned (.tuple #[v, .int .i64 0]) ∧ w'.ownsRow w.heap.size 2 1 v (timesL l).length ((timesL l).map (Value.int .i64)) ∧ Below w.heap.size w w'
theorem collect_times (p : Option Addr) (cap : Nat) (l : List RunT) (w : World) (Bs : Nat) (hl : RunsOk l) (h : RunsIn w p l) (hBs : Blk w Bs #[.slice p l.length cap] 22) :
    Calls Tryz.prog 130 #[.func (.func 145) #[] #[.pointer (some ⟨Bs, 0, none⟩)]] w fun e W' => ∃ v, e = .returned v ∧ W'.ownsRow w.heap.size 2 1 v (timesL l).length ((timesL l).map (Value.int .i64)) ∧ Below w.heap.size w W' := by
  have hlt : ∀ a, p = some a → a.block < w.heap.size := by
    rintro a rfl
    have := hl.some'
    obtain ⟨b, o, e, k0, _⟩ := h.at' 0 (l[0]'(by omega)) (List.getElem?_eq_getElem (by omega))
    cases e
    exact cell_lt k0
  have hcnt := hl.count
  have hlen := length_times hl
  refine collectI 145 _ (timesL l) (by omega) w w (Below.refl _ _) (fun A B => Below w.heap.size A B ∧ KeepsT 51 A B) (enters_of Tryz.func145 (by kernel_rfl) rfl)
    (fun hb hk => ⟨hb, hk _ (by decide) (by decide)⟩) (fun h k => ⟨h.1.trans k.1, h.2.trans k.2⟩) (fun W k o o' hk ho h1 h2 => ⟨belowK_b (Nat.le_refl _) W k o o' hk ho h1 h2, keepsT_putObj o' ho h1⟩) ?_
  intro lr J Jx W hW hJ _ hY h0
  exact all1_in 2 (by omega) lr Bs w.heap.size p cap l hl.each (by have := hl.few; omega) _ (fun h => h) J Jx _ hJ hY W ((hBs.below hW).cell 0) (h.below hW) hlt hW.size h0
set_option maxRecDepth 100000 in
set_option maxHeartbeats 2000000 in
theorem c_Times (p : Option Addr) (cap : Nat) (l : List RunT) (w : World) (hl : RunsOk l) (h : RunsIn w p l) : Calls Tryz.prog 107 #[.slice p l.length cap] w (TimesOut w l) := by
  have hlen := hl.few
  have c1 := fun W (hW : Below w.heap.size w W) => rises_w p cap l W (by omega) (h.below hW)
  rw [(risesB_iff l).2 hl] at c1
  have c2 := Lib.hid (fun W Bs (hW : Below w.heap.size w W) (hb : Blk W Bs #[.slice p l.length cap] 22) => collect_times p cap l W Bs hl (h.below hW) hb)
  have H_c1 := Lib.hid c1
  clear c1
  go_enter Tryz.func107, Tryz.ntmps107
  have c1 := H_c1.out
  go_wp2_with fail
  refine (c1 _ (belowAny)).mono ?_
  rintro e w1 ⟨rfl, hb1⟩
  clear c1
  have z1 := hb1.size
  go_wp2_with fail
  refine (all_w _ _ _ _).mono ?_
  rintro e w2 ⟨rfl, rfl⟩
  go_wp2_with fail
  refine (c2.out _ _ (belowAny) (Blk.new' rfl)).mono ?_
  rintro e w3 ⟨v, rfl, hv, hB⟩
  replace hv := Lib.hid hv
  have hBB : Hid (Below w.heap.size w w3) := Lib.hid (belowAny)
  clear hB
  go_wp2
  refine bodyPost_ret (v := .tuple #[v, .int .i64 0]) (by simp [results, Tryz.results107, go_sem]) rfl ⟨v, rfl, ownsRow_le hv.out (by simp; omega), hBB.out⟩
end Go.Proofs.YtgblmlefmohgnaaGreat
