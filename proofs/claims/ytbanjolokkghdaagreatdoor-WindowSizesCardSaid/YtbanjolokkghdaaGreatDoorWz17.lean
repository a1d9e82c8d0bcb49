/- Parts of the proof that follows: Layer vary: bytes, and those of a number behind them (puts, PutU, Put). No condition but that there are some bytes already. | Layer segcode: what a writer lays: numbers, and runs. No condition but that there are some bytes already. | The laws of chapter 11: wakes. | The laws of chapter 11: wakes told; together. | The laws of chapter 11: own. | A segment as it came in. No condition. | The laws of chapter 11: own, told. | A segment that lies, kept by steps that make memory. No condition. | Layer seg: Check, Count told. -/
import Derived.Laws.AppendOwnNone
import Derived.Test.YtbanjolokkghdaaGreatDoorWz16
set_option linter.unusedSimpArgs false
set_option linter.unusedVariables false
namespace Go.Proofs.YtbanjolokkghdaaGreatDoor
open Go.RowKit Go.Shelf
attribute [local go_sem] Oper.semAt_some
def KN (Ba : Nat) (A B : World) : Prop := ∀ cs, Blk A Ba cs 309 → Blk B Ba cs 309
theorem row_setX {w : World} {B o n s j : Nat} {e t : TypeId} {v u : Value} {xs : List Value} {cs : Array Value} (h : w.ownsRow B e s v n xs) (hb : Blk w o cs t) (hne : t ≠ e) : (w.setCell ⟨o, j, none⟩ u).ownsRow B e s v n xs := by
  refine ⟨h.1, ?_⟩
  rcases h.2 with h0 | ⟨g, cap, cur, rfl, hB, hg, h1, h2, h3, h4⟩
  · exact .inl h0
  · refine .inr ⟨g, cap, cur, rfl, hB, ?_, h1, h2, h3, h4⟩
    refine (Below.heap_setCell _ _ _ _ (fun e1 => ?_)).trans hg
    simp only at e1
    subst e1
    rw [show w.heap[g]? = _ from hb] at hg
    injection hg with hg
    injection hg with _ h2 _
    exact hne h2
theorem copy_byt {w : World} {g n c cp : Nat} {ad : Addr} {cur : Array Value} {l : List Int} (hg : Blk w g cur 5) (hl : l.length = n) (hfit : n ≤ cur.size) (hsrc : ∀ j u, (l.map (Value.int .u8))[j]? = some u → w.cell? (ad.add j) = some u) :
    ∃ w', (∀ ty, (Builtin.copy_ #[69, 69] ty #[.slice (some ⟨g, 0, none⟩) n c, .slice (some ad) n cp]).run Tryz.prog w = .ok (goInt (n : Nat)) w') ∧ Blk w' g (l.map (Value.int .u8) ++ cur.toList.drop (l.map (Value.int .u8)).length).toArray 5 ∧ Below g w w' ∧ (∀ b cs t', b ≠ g → Blk w b cs t' → Blk w' b cs t') := by
  have hrun := fun ty => run_copyP (P := Tryz.prog) w 69 69 ty 5 1 g n c ad n cp cur 5 (l.map (Value.int .u8)) (by kernel_rfl) (by kernel_rfl) hg (by rw [List.length_map, hl]; show n = min n n * 1; omega) hsrc (by rw [List.length_map, hl]; exact hfit) (byt_one l)
  simp only [show Nat.min n n = n from Nat.min_self _] at hrun
  exact ⟨_, hrun, setRow_heap w g cur _ 5 (0, 0) hg, below_setRow (Below.refl _ _ |>.mono (Nat.le_of_lt hg.lt)) (Nat.le_refl _) _, fun b cs t' hb hB => (setRow_other w g b _ hb).trans hB⟩
def ptURel (w : World) (g k cp gl : Nat) (l bs : List Int) (a' : Act) (W : World) : Prop :=
  Below w.heap.size w W ∧ ((∃ v, (∃ u : Nat → Value, a' = { tmps := #[.slice (some ⟨g, 0, none⟩) k cp, .func (.func 177) #[] #[], .slice (some ⟨gl, 0, none⟩) 1 1, u 3, u 4, u 5, .slice none 0 0, .pointer (some ⟨w.heap.size + 1, 0, none⟩), u 8, u 9, u 10, u 11, u 12, u 13, u 14, u 15, u 16, u 17, u 18, u 19, u 20, u 21, u 22, u 23, .slice (some ⟨gl, 0, none⟩) 1 1, .int .i64 1, .int .i64 0, u 27, u 28, u 29, u 30, u 31, u 32, u 33, u 34, u 35, u 36, u 37, u 38, u 39, u 40, u 41, u 42], defers := [] }) ∧ Boxed W (w.heap.size + 1) 69 v ∧ W.ownsRow w.heap.size 5 1 v k (l.map (Value.int .u8))) ∨
    (∃ v D, (∃ u : Nat → Value, a' = { tmps := #[.slice (some ⟨g, 0, none⟩) k cp, .func (.func 177) #[] #[], .slice (some ⟨gl, 0, none⟩) 1 1, u 3, u 4, u 5, .slice none 0 0, .pointer (some ⟨w.heap.size + 1, 0, none⟩), u 8, u 9, u 10, u 11, u 12, u 13, u 14, u 15, u 16, u 17, u 18, u 19, u 20, u 21, u 22, u 23, .slice (some ⟨gl, 0, none⟩) 1 1, .int .i64 1, .int .i64 1, u 27, u 28, u 29, u 30, u 31, u 32, u 33, u 34, u 35, u 36, u 37, u 38, u 39, u 40, u 41, u 42], defers := [{ target := .collected D, args := #[] }] }) ∧ w.heap.size + 1 < D ∧ W.heap[D]? = some (.deferred (some [])) ∧ Boxed W (w.heap.size + 1) 69 v ∧ W.ownsRow w.heap.size 5 1 v (k + bs.length) ((l ++ bs).map (Value.int .u8))))
def ptSRel (w : World) (g k cp gl : Nat) (l bs : List Int) (a' : Act) (W : World) : Prop :=
  Below w.heap.size w W ∧ ((∃ v, (∃ u : Nat → Value, a' = { tmps := #[.slice (some ⟨g, 0, none⟩) k cp, .func (.func 179) #[] #[], .slice (some ⟨gl, 0, none⟩) 1 1, u 3, u 4, u 5, .slice none 0 0, .pointer (some ⟨w.heap.size + 1, 0, none⟩), u 8, u 9, u 10, u 11, u 12, u 13, u 14, u 15, u 16, u 17, u 18, u 19, u 20, u 21, u 22, u 23, .slice (some ⟨gl, 0, none⟩) 1 1, .int .i64 1, .int .i64 0, u 27, u 28, u 29, u 30, u 31, u 32, u 33, u 34, u 35, u 36, u 37, u 38, u 39, u 40, u 41, u 42], defers := [] }) ∧ Boxed W (w.heap.size + 1) 69 v ∧ W.ownsRow w.heap.size 5 1 v k (l.map (Value.int .u8))) ∨
    (∃ v D, (∃ u : Nat → Value, a' = { tmps := #[.slice (some ⟨g, 0, none⟩) k cp, .func (.func 179) #[] #[], .slice (some ⟨gl, 0, none⟩) 1 1, u 3, u 4, u 5, .slice none 0 0, .pointer (some ⟨w.heap.size + 1, 0, none⟩), u 8, u 9, u 10, u 11, u 12, u 13, u 14, u 15, u 16, u 17, u 18, u 19, u 20, u 21, u 22, u 23, .slice (some ⟨gl, 0, none⟩) 1 1, .int .i64 1, .int .i64 1, u 27, u 28, u 29, u 30, u 31, u 32, u 33, u 34, u 35, u 36, u 37, u 38, u 39, u 40, u 41, u 42], defers := [{ target := .collected D, args := #[] }] }) ∧ w.heap.size + 1 < D ∧ W.heap[D]? = some (.deferred (some [])) ∧ Boxed W (w.heap.size + 1) 69 v ∧ W.ownsRow w.heap.size 5 1 v (k + bs.length) ((l ++ bs).map (Value.int .u8))))
set_option maxRecDepth 100000 in
set_option maxHeartbeats 8000000 in
theorem putsU_w (z : Int) (m : Nat) (hm : m < 18446744073709551616) (k : Nat) (hk1 : 1 ≤ k) (hk2 : k ≤ 100000) (g cp : Nat) (l : List Int) (hl : l.length = k) (w : World) (hcp : k ≤ cp) (hsrc : ∀ j u, (l.map (Value.int .u8))[j]? = some u → w.cell? ((⟨g, 0, none⟩ : Addr).add j) = some u) (gl : Nat) (hn : w.cell? ⟨gl, 0, none⟩ = some (.int .u64 z))
    (cA : ∀ W, Calls Tryz.prog 177 #[.int .u64 z] W fun e w' => e = .returned (.int .u64 (m : Int)) ∧ Below W.heap.size W w') :
    CallsIn Fence.wide 4 Tryz.prog 176 #[.slice (some ⟨g, 0, none⟩) k cp, .func (.func 177) #[] #[], .slice (some ⟨gl, 0, none⟩) 1 1] w fun e w' => ∃ v, e = .returned v ∧ Below w.heap.size w w' ∧ BytR w' w.heap.size v (k + vlen m) := by
  have hmf : ∀ (fn : Fn) (first cap : Array Value) (w : World), (Instr.makeFunc fn first cap).run Tryz.prog w = .ok (.func fn first cap) w := fun _ _ _ _ => rfl
  obtain ⟨i0, hi, hz0, hz1, hz2⟩ := info_parts Tryz.infoU8
  obtain ⟨C, hC, hmk⟩ := make_u8 k (by omega)
  replace hC := Lib.hid hC
  replace hl := Lib.hid hl
  have hbl := Lib.hid (byL_len m)
  have hv10 := vlen_ten hm
  replace cA := Lib.hid cA
  have hlt9 := cell_lt hn
  try simp only at hlt9
  have hA : Below w.heap.size w ((w.alloc (.cells (C.map (Value.int .u8)).toArray 5)).alloc (.cells #[.slice (some ⟨w.heap.size, 0, none⟩) k (k + 9)] 69)) := belowAny
  refine callsIn_of_wp_marks Tryz.func176 rfl trivial ?_ rfl
  simp only [Tryz.ntmps176, List.size_toArray, List.length_cons, List.length_nil, Nat.reduceAdd, Nat.reduceSub, Array.replicate_succ, Array.replicate_zero, List.push_toArray, List.append_toArray, List.nil_append, List.cons_append]
  refine wpIn_wide.2 ?_
  obtain ⟨W2, hrun, b2, hB2, hK2⟩ := copy_byt (w := (w.alloc (.cells (C.map (Value.int .u8)).toArray 5)).alloc (.cells #[.slice (some ⟨w.heap.size, 0, none⟩) k (k + 9)] 69)) (g := w.heap.size) (n := k) (c := k + 9) (ad := ⟨g, 0, none⟩) (cp := cp) (cur := (C.map (Value.int .u8)).toArray) (l := l) (by exact blkAny2) hl.out (by simp [hC.out]) (fun j u hu => (hA.cell (World.block_lt_of_cell? w _ (hsrc j u hu))).trans (hsrc j u hu))
  have bO : Boxed W2 (w.heap.size + 1) 69 (.slice (some ⟨w.heap.size, 0, none⟩) k (k + 9)) := hK2 _ _ _ (by omega) (by exact blkAny2)
  have hW2 : Below w.heap.size w W2 := hA.trans hB2
  have hR2 : W2.ownsRow w.heap.size 5 1 (.slice (some ⟨w.heap.size, 0, none⟩) k (k + 9)) k (l.map (Value.int .u8)) :=
    ⟨by simp [hl.out], .inr ⟨w.heap.size, k + 9, _, rfl, Nat.le_refl _, b2, by omega, by simp [maxLen]; omega, by simp [hl.out, hC.out], by show ((l.map (Value.int .u8)) ++ _).take (k * 1) = _; exact List.take_left' (by simp [hl.out])⟩⟩
  clear hB2 hK2 b2 hA hsrc
  go_wp2
  clear hmk hrun
  refine wp_loop (ptURel w g k cp gl l (byL m)) (fun a' _ => 1 - (intAt (a'.tmps.getD 26 undef)).toNat) ?_ ?_
  · exact ⟨hW2, .inl ⟨_, frame_ex rfl, bO, hR2⟩⟩
  clear hW2 bO hR2
  rintro a' W ⟨hW, ⟨v, ⟨u, rfl⟩, bO, hR⟩ | ⟨v, D, ⟨u, rfl⟩, hD, hK, bO, hR⟩⟩
  · have hz := hW.size
    have yO := bO.lt
    have hn1 : W.cell? ⟨gl, 0, none⟩ = some (.int .u64 z) := (hW.cell (cell_lt hn)).trans hn
    go_wp2_with fail
    refine (cA.out W).mono ?_
    rintro e w3 ⟨rfl, hB3⟩
    have hz3 := hB3.size
    go_wp2_with fail
    refine (c_vyBytes (m : Int) w3).mono ?_
    rintro e w4 ⟨rfl, hw4⟩
    have bN : Blk w4 w3.heap.size #[.int .u64 (m : Int)] 309 := by rw [hw4]; exact Blk.new' rfl
    have hB4 : Below W.heap.size W w4 := by rw [hw4]; exact hB3.alloc hz3 _
    have bO4 : Boxed w4 (w.heap.size + 1) 69 v := Blk.below (show Blk W (w.heap.size + 1) #[v] 69 from bO) hB4
    have hR4 := (OwnR.below ⟨hR⟩ hB4).own
    have hW4 := hW.trans (hB4.mono hz)
    have hz4 : w4.heap.size = w3.heap.size + 1 := by rw [hw4]; simp
    clear hw4 hB4 bO hR hW hB3
    go_wp2
    refine (wpIn_wide (n := 4)).1 ?_
    refine rangeFunc_wr rfl (by omega) (gf := 257) (lb := #[.pointer (some ⟨w3.heap.size, 0, none⟩)]) rfl trivial (enters_of Tryz.func257 (by kernel_rfl) rfl)
      (encs := fun x : Int => #[Value.int .u8 x]) (Kp := KN w3.heap.size) (xs := byL m) (Ba := w3.heap.size) (by omega)
      (fun lr J W hWW hJ hJw hY h0 => numB1_in 3 (by omega) lr w3.heap.size m hm (KN w3.heap.size) (fun h hb => h _ hb) J hJw hY W (bN.below hWW) h0)
      (fun h h2 cs hb => h2 cs (h cs hb)) (fun A q o o' h1 _ _ _ cs hb => (World.putObj_heap_other (by omega)).trans hb) (fun _ => rfl)
      (fun pre W => ((∃ v, Boxed W (w.heap.size + 1) 69 v ∧ W.ownsRow w.heap.size 5 1 v (k + pre.length) ((l ++ pre).map (Value.int .u8)) ∧ True) ∧ ∃ u, Blk W w3.heap.size #[u] 309) ∧ Below w.heap.size w W)
      (OwnFrom.and (OwnFrom.and (Own.from (holdsRow_own w.heap.size (w.heap.size + 1) 69 5 1 (fun pre : List Int => k + pre.length) (fun pre => (l ++ pre).map (Value.int .u8)) (fun _ _ => True)) _) (fun _ X Y row ⟨u, hu⟩ hg hr => ⟨u, blk_own w3.heap.size 309 (fun (_ : Unit) => #[u]) () X Y row hu hg (fun r e => (hr r e).2)⟩)) (ownFrom_below (Nat.le_refl _) (by omega)))
      (fun pre W x ⟨⟨⟨v, i1, i2, _⟩, u, i3⟩, i4⟩ => ⟨⟨⟨v, Blk.setO (show Blk W (w.heap.size + 1) #[v] 69 from i1) (by omega) 0 x, row_setX i2 i3 (by decide), trivial⟩, x, i3.set2 (by rfl)⟩, i4.setCell (p := ⟨w3.heap.size, 0, none⟩) (by simp; omega) x⟩)
      ⟨⟨⟨v, bO4, by simpa using hR4, trivial⟩, _, bN⟩, hW4⟩
      (fun x a' _ => a' = { tmps := #[.slice (some ⟨g, 0, none⟩) k cp, .func (.func 177) #[] #[], .slice (some ⟨gl, 0, none⟩) 1 1, u 3, u 4, u 5, .slice none 0 0, .pointer (some ⟨w.heap.size + 1, 0, none⟩), u 8, .int .u64 z, .func (.func 225) #[.int .u64 (m : Int)] #[], .int .u8 x, u 12, u 13, u 14, u 15, u 16, u 17, u 18, u 19, u 20, u 21, u 22, u 23, .slice (some ⟨gl, 0, none⟩) 1 1, .int .i64 1, .int .i64 0, .bool true, .pointer (some ⟨gl, 0, none⟩), .int .u64 z, .func (.func 177) #[] #[], .int .u64 z, .int .u64 (m : Int), .func (.func 225) #[.int .u64 (m : Int)] #[], .func (.func 225) #[.int .u64 (m : Int)] #[], .func (.func 257) #[] #[.pointer (some ⟨w3.heap.size, 0, none⟩)], .int .u8 x, u 37, u 38, u 39, u 40, u 41, u 42], defers := [] }) (fun x a' _ X Y row hs _ _ => hs) ?assign ?body ?done
    case assign =>
      rintro lr pre x W K hI hK
      gi_wp2
      exact hK _ _ (KeepsFrom.refl _ _) (fun _ h => h) hI rfl
    case body =>
      rintro lr pre x a' W ⟨⟨⟨v, hv, hrow, _⟩, u1, hu1⟩, hB⟩ rfl hp
      have hpl : pre.length + 1 ≤ 10 := by have h1 := hp.length_le; rw [List.length_append, hbl.out] at h1; simp at h1; omega
      have hc := hv.cell
      have hzB := hB.size
      have yv := hv.lt
      have yN := hu1.lt
      replace hp := Lib.hid hp
      gi_wp2_with (gi_at_builtin; refine wpListIn_append_own _ rfl _ _ 69 rfl w.heap.size 5 i0 (.int .u8 0) 1 1 (by kernel_rfl) hi hz0 hz1 hz2 rfl (by decide) _ _ _ rfl (hrow.alloc _) ⟨W.heap.size, 0, none⟩ 1 1 [.int .u8 x] rfl rfl (cell_one_new _ _ _) (by simp [Value.oneCell']) (by simp [maxLen]; omega) (by omega) (by simp; omega) ?_; intro v' w1 hown' hgrow _; obtain ⟨g', cap', rfl⟩ := ownsRow_succ hown'; obtain ⟨hv1, hv2, hr2, hk2, hb2⟩ := hv.appended (by decide) hrow hzB (by omega) hown' hgrow; have hc1 := hv1.cell; have hf1 := hv1.frozen)
      have hKN : KN w3.heap.size W (w1.setCell ⟨w.heap.size + 1, 0, none⟩ (.slice (some ⟨g', 0, none⟩) (k + pre.length + 1) cap')) := fun cs hb => Blk.setO (Blk.grown hb hrow (by decide) hgrow) (by omega) 0 _
      exact ⟨hk2.from _, hKN, ⟨⟨_, hv2, by simpa [Nat.add_assoc] using hr2, trivial⟩, u1, hKN _ hu1⟩, hB.trans hb2⟩
    case done =>
      rintro D W5 hD ⟨⟨⟨v5, hv5, hrow5, _⟩, u5, hu5⟩, hB5⟩ hK5
      simp only [Exit.inBlock, Exit.then]
      go_wp2
      refine ⟨?_, by simp [intAt]⟩
      exact ⟨hB5, .inr ⟨v5, D, frame_ex rfl, by omega, hK5, hv5, hrow5⟩⟩
  · have k1 := bO.cell
    have y1 := bO.lt
    rw [hbl.out] at hR
    replace hR := Lib.hid hR
    go_wp2
    refine ⟨by simp, .inl ⟨_, _, rfl, run_takeDeferred hK, ?_⟩⟩
    exact ⟨_, results_tmp rfl _ _ _, v, rfl, hW.trans (belowK_b (w := w) (Nat.le_refl _) W D _ _ (by omega) hK rfl rfl), l ++ byL m, by simp [hl.out, hbl.out], ⟨ownsRow_putObj hR.out _ hK rfl⟩⟩
set_option maxRecDepth 100000 in
set_option maxHeartbeats 8000000 in
theorem putsS_w (z : Int) (m : Nat) (hm : m < 18446744073709551616) (k : Nat) (hk1 : 1 ≤ k) (hk2 : k ≤ 100000) (g cp : Nat) (l : List Int) (hl : l.length = k) (w : World) (hcp : k ≤ cp) (hsrc : ∀ j u, (l.map (Value.int .u8))[j]? = some u → w.cell? ((⟨g, 0, none⟩ : Addr).add j) = some u) (gl : Nat) (hn : w.cell? ⟨gl, 0, none⟩ = some (.int .i64 z))
    (cA : ∀ W, Calls Tryz.prog 179 #[.int .i64 z] W fun e w' => e = .returned (.int .u64 (m : Int)) ∧ Below W.heap.size W w') :
    CallsIn Fence.wide 4 Tryz.prog 178 #[.slice (some ⟨g, 0, none⟩) k cp, .func (.func 179) #[] #[], .slice (some ⟨gl, 0, none⟩) 1 1] w fun e w' => ∃ v, e = .returned v ∧ Below w.heap.size w w' ∧ BytR w' w.heap.size v (k + vlen m) := by
  have hmf : ∀ (fn : Fn) (first cap : Array Value) (w : World), (Instr.makeFunc fn first cap).run Tryz.prog w = .ok (.func fn first cap) w := fun _ _ _ _ => rfl
  obtain ⟨i0, hi, hz0, hz1, hz2⟩ := info_parts Tryz.infoU8
  obtain ⟨C, hC, hmk⟩ := make_u8 k (by omega)
  replace hC := Lib.hid hC
  replace hl := Lib.hid hl
  have hbl := Lib.hid (byL_len m)
  have hv10 := vlen_ten hm
  replace cA := Lib.hid cA
  have hlt9 := cell_lt hn
  try simp only at hlt9
  have hA : Below w.heap.size w ((w.alloc (.cells (C.map (Value.int .u8)).toArray 5)).alloc (.cells #[.slice (some ⟨w.heap.size, 0, none⟩) k (k + 9)] 69)) := belowAny
  refine callsIn_of_wp_marks Tryz.func178 rfl trivial ?_ rfl
  simp only [Tryz.ntmps178, List.size_toArray, List.length_cons, List.length_nil, Nat.reduceAdd, Nat.reduceSub, Array.replicate_succ, Array.replicate_zero, List.push_toArray, List.append_toArray, List.nil_append, List.cons_append]
  refine wpIn_wide.2 ?_
  obtain ⟨W2, hrun, b2, hB2, hK2⟩ := copy_byt (w := (w.alloc (.cells (C.map (Value.int .u8)).toArray 5)).alloc (.cells #[.slice (some ⟨w.heap.size, 0, none⟩) k (k + 9)] 69)) (g := w.heap.size) (n := k) (c := k + 9) (ad := ⟨g, 0, none⟩) (cp := cp) (cur := (C.map (Value.int .u8)).toArray) (l := l) (by exact blkAny2) hl.out (by simp [hC.out]) (fun j u hu => (hA.cell (World.block_lt_of_cell? w _ (hsrc j u hu))).trans (hsrc j u hu))
  have bO : Boxed W2 (w.heap.size + 1) 69 (.slice (some ⟨w.heap.size, 0, none⟩) k (k + 9)) := hK2 _ _ _ (by omega) (by exact blkAny2)
  have hW2 : Below w.heap.size w W2 := hA.trans hB2
  have hR2 : W2.ownsRow w.heap.size 5 1 (.slice (some ⟨w.heap.size, 0, none⟩) k (k + 9)) k (l.map (Value.int .u8)) :=
    ⟨by simp [hl.out], .inr ⟨w.heap.size, k + 9, _, rfl, Nat.le_refl _, b2, by omega, by simp [maxLen]; omega, by simp [hl.out, hC.out], by show ((l.map (Value.int .u8)) ++ _).take (k * 1) = _; exact List.take_left' (by simp [hl.out])⟩⟩
  clear hB2 hK2 b2 hA hsrc
  go_wp2
  clear hmk hrun
  refine wp_loop (ptSRel w g k cp gl l (byL m)) (fun a' _ => 1 - (intAt (a'.tmps.getD 26 undef)).toNat) ?_ ?_
  · exact ⟨hW2, .inl ⟨_, frame_ex rfl, bO, hR2⟩⟩
  clear hW2 bO hR2
  rintro a' W ⟨hW, ⟨v, ⟨u, rfl⟩, bO, hR⟩ | ⟨v, D, ⟨u, rfl⟩, hD, hK, bO, hR⟩⟩
  · have hz := hW.size
    have yO := bO.lt
    have hn1 : W.cell? ⟨gl, 0, none⟩ = some (.int .i64 z) := (hW.cell (cell_lt hn)).trans hn
    go_wp2_with fail
    refine (cA.out W).mono ?_
    rintro e w3 ⟨rfl, hB3⟩
    have hz3 := hB3.size
    go_wp2_with fail
    refine (c_vyBytes (m : Int) w3).mono ?_
    rintro e w4 ⟨rfl, hw4⟩
    have bN : Blk w4 w3.heap.size #[.int .u64 (m : Int)] 309 := by rw [hw4]; exact Blk.new' rfl
    have hB4 : Below W.heap.size W w4 := by rw [hw4]; exact hB3.alloc hz3 _
    have bO4 : Boxed w4 (w.heap.size + 1) 69 v := Blk.below (show Blk W (w.heap.size + 1) #[v] 69 from bO) hB4
    have hR4 := (OwnR.below ⟨hR⟩ hB4).own
    have hW4 := hW.trans (hB4.mono hz)
    have hz4 : w4.heap.size = w3.heap.size + 1 := by rw [hw4]; simp
    clear hw4 hB4 bO hR hW hB3
    go_wp2
    refine (wpIn_wide (n := 4)).1 ?_
    refine rangeFunc_wr rfl (by omega) (gf := 257) (lb := #[.pointer (some ⟨w3.heap.size, 0, none⟩)]) rfl trivial (enters_of Tryz.func257 (by kernel_rfl) rfl)
      (encs := fun x : Int => #[Value.int .u8 x]) (Kp := KN w3.heap.size) (xs := byL m) (Ba := w3.heap.size) (by omega)
      (fun lr J W hWW hJ hJw hY h0 => numB1_in 3 (by omega) lr w3.heap.size m hm (KN w3.heap.size) (fun h hb => h _ hb) J hJw hY W (bN.below hWW) h0)
      (fun h h2 cs hb => h2 cs (h cs hb)) (fun A q o o' h1 _ _ _ cs hb => (World.putObj_heap_other (by omega)).trans hb) (fun _ => rfl)
      (fun pre W => ((∃ v, Boxed W (w.heap.size + 1) 69 v ∧ W.ownsRow w.heap.size 5 1 v (k + pre.length) ((l ++ pre).map (Value.int .u8)) ∧ True) ∧ ∃ u, Blk W w3.heap.size #[u] 309) ∧ Below w.heap.size w W)
      (OwnFrom.and (OwnFrom.and (Own.from (holdsRow_own w.heap.size (w.heap.size + 1) 69 5 1 (fun pre : List Int => k + pre.length) (fun pre => (l ++ pre).map (Value.int .u8)) (fun _ _ => True)) _) (fun _ X Y row ⟨u, hu⟩ hg hr => ⟨u, blk_own w3.heap.size 309 (fun (_ : Unit) => #[u]) () X Y row hu hg (fun r e => (hr r e).2)⟩)) (ownFrom_below (Nat.le_refl _) (by omega)))
      (fun pre W x ⟨⟨⟨v, i1, i2, _⟩, u, i3⟩, i4⟩ => ⟨⟨⟨v, Blk.setO (show Blk W (w.heap.size + 1) #[v] 69 from i1) (by omega) 0 x, row_setX i2 i3 (by decide), trivial⟩, x, i3.set2 (by rfl)⟩, i4.setCell (p := ⟨w3.heap.size, 0, none⟩) (by simp; omega) x⟩)
      ⟨⟨⟨v, bO4, by simpa using hR4, trivial⟩, _, bN⟩, hW4⟩
      (fun x a' _ => a' = { tmps := #[.slice (some ⟨g, 0, none⟩) k cp, .func (.func 179) #[] #[], .slice (some ⟨gl, 0, none⟩) 1 1, u 3, u 4, u 5, .slice none 0 0, .pointer (some ⟨w.heap.size + 1, 0, none⟩), u 8, .int .i64 z, .func (.func 225) #[.int .u64 (m : Int)] #[], .int .u8 x, u 12, u 13, u 14, u 15, u 16, u 17, u 18, u 19, u 20, u 21, u 22, u 23, .slice (some ⟨gl, 0, none⟩) 1 1, .int .i64 1, .int .i64 0, .bool true, .pointer (some ⟨gl, 0, none⟩), .int .i64 z, .func (.func 179) #[] #[], .int .i64 z, .int .u64 (m : Int), .func (.func 225) #[.int .u64 (m : Int)] #[], .func (.func 225) #[.int .u64 (m : Int)] #[], .func (.func 257) #[] #[.pointer (some ⟨w3.heap.size, 0, none⟩)], .int .u8 x, u 37, u 38, u 39, u 40, u 41, u 42], defers := [] }) (fun x a' _ X Y row hs _ _ => hs) ?assign ?body ?done
    case assign =>
      rintro lr pre x W K hI hK
      gi_wp2
      exact hK _ _ (KeepsFrom.refl _ _) (fun _ h => h) hI rfl
    case body =>
      rintro lr pre x a' W ⟨⟨⟨v, hv, hrow, _⟩, u1, hu1⟩, hB⟩ rfl hp
      have hpl : pre.length + 1 ≤ 10 := by have h1 := hp.length_le; rw [List.length_append, hbl.out] at h1; simp at h1; omega
      have hc := hv.cell
      have hzB := hB.size
      have yv := hv.lt
      have yN := hu1.lt
      replace hp := Lib.hid hp
      gi_wp2_with (gi_at_builtin; refine wpListIn_append_own _ rfl _ _ 69 rfl w.heap.size 5 i0 (.int .u8 0) 1 1 (by kernel_rfl) hi hz0 hz1 hz2 rfl (by decide) _ _ _ rfl (hrow.alloc _) ⟨W.heap.size, 0, none⟩ 1 1 [.int .u8 x] rfl rfl (cell_one_new _ _ _) (by simp [Value.oneCell']) (by simp [maxLen]; omega) (by omega) (by simp; omega) ?_; intro v' w1 hown' hgrow _; obtain ⟨g', cap', rfl⟩ := ownsRow_succ hown'; obtain ⟨hv1, hv2, hr2, hk2, hb2⟩ := hv.appended (by decide) hrow hzB (by omega) hown' hgrow; have hc1 := hv1.cell; have hf1 := hv1.frozen)
      have hKN : KN w3.heap.size W (w1.setCell ⟨w.heap.size + 1, 0, none⟩ (.slice (some ⟨g', 0, none⟩) (k + pre.length + 1) cap')) := fun cs hb => Blk.setO (Blk.grown hb hrow (by decide) hgrow) (by omega) 0 _
      exact ⟨hk2.from _, hKN, ⟨⟨_, hv2, by simpa [Nat.add_assoc] using hr2, trivial⟩, u1, hKN _ hu1⟩, hB.trans hb2⟩
    case done =>
      rintro D W5 hD ⟨⟨⟨v5, hv5, hrow5, _⟩, u5, hu5⟩, hB5⟩ hK5
      simp only [Exit.inBlock, Exit.then]
      go_wp2
      refine ⟨?_, by simp [intAt]⟩
      exact ⟨hB5, .inr ⟨v5, D, frame_ex rfl, by omega, hK5, hv5, hrow5⟩⟩
  · have k1 := bO.cell
    have y1 := bO.lt
    rw [hbl.out] at hR
    replace hR := Lib.hid hR
    go_wp2
    refine ⟨by simp, .inl ⟨_, _, rfl, run_takeDeferred hK, ?_⟩⟩
    exact ⟨_, results_tmp rfl _ _ _, v, rfl, hW.trans (belowK_b (w := w) (Nat.le_refl _) W D _ _ (by omega) hK rfl rfl), l ++ byL m, by simp [hl.out, hbl.out], ⟨ownsRow_putObj hR.out _ hK rfl⟩⟩
set_option maxRecDepth 100000 in
set_option maxHeartbeats 2000000 in
theorem c_vyPutU (z : Int) (h0 : 0 ≤ z) (h1 : z < 18446744073709551616) (v : Value) (k B : Nat) (w : World) (hv : BytR w B v k) (hk1 : 1 ≤ k) (hk2 : k ≤ 100000) :
    Calls Tryz.prog 125 #[v, .int .u64 z] w fun e w' => ∃ v', e = .returned v' ∧ Below w.heap.size w w' ∧ BytR w' w.heap.size v' (k + vlen z.toNat) := by
  obtain ⟨l, hl, hO⟩ := hv
  obtain ⟨g, cp, rfl, hg, hxl, hat⟩ := hO.src hk1
  have hcp : k ≤ cp := by obtain ⟨_, _, e, h2, _⟩ := hO.form; injection e with _ _ e; omega
  have hA : Below w.heap.size w (w.alloc (.cells #[.int .u64 z] 104)) := belowAny
  have hn : (w.alloc (.cells #[.int .u64 z] 104)).cell? ⟨w.heap.size, 0, none⟩ = some (.int .u64 z) := Blk.cell (show Blk (w.alloc (.cells #[.int .u64 z] 104)) w.heap.size #[.int .u64 z] 104 from Blk.new' rfl) 0
  have cA : ∀ W, Calls Tryz.prog 177 #[.int .u64 z] W fun e w' => e = .returned (.int .u64 ((z.toNat : Nat) : Int)) ∧ Below W.heap.size W w' := fun W => (c_vyPlain z W).mono fun e w' ⟨e1, e2⟩ => ⟨by rw [e1]; congr 2; omega, e2⟩
  have c1 := Lib.hid (callsIn_wide.1 (putsU_w z z.toNat (by omega) k hk1 hk2 g cp l hl (w.alloc (.cells #[.int .u64 z] 104)) hcp (fun j u hu => (hA.cell (World.block_lt_of_cell? w _ (hat j u hu))).trans (hat j u hu)) w.heap.size hn cA))
  clear hat hO hl hxl cA hn
  go_enter Tryz.func125, Tryz.ntmps125
  go_wp2_with fail
  refine c1.out.mono ?_
  rintro e w2 ⟨v2, rfl, hB2, hV2⟩
  have h1' := hA.size
  have hU := hA.trans (hB2.mono h1')
  replace hV2 := Lib.hid (hV2.mono h1')
  clear hB2 hA
  go_wp2
  go_ret
  exact ⟨v2, rfl, hU, hV2.out⟩
set_option maxRecDepth 100000 in
set_option maxHeartbeats 2000000 in
theorem c_vyPutS (z : Int) (hz : I64 z) (v : Value) (k B : Nat) (w : World) (hv : BytR w B v k) (hk1 : 1 ≤ k) (hk2 : k ≤ 100000) :
    Calls Tryz.prog 127 #[v, .int .i64 z] w fun e w' => ∃ v', e = .returned v' ∧ Below w.heap.size w w' ∧ BytR w' w.heap.size v' (k + vlen (foldZ z)) := by
  obtain ⟨l, hl, hO⟩ := hv
  obtain ⟨g, cp, rfl, hg, hxl, hat⟩ := hO.src hk1
  have hcp : k ≤ cp := by obtain ⟨_, _, e, h2, _⟩ := hO.form; injection e with _ _ e; omega
  have hA : Below w.heap.size w (w.alloc (.cells #[.int .i64 z] 2)) := belowAny
  have hn : (w.alloc (.cells #[.int .i64 z] 2)).cell? ⟨w.heap.size, 0, none⟩ = some (.int .i64 z) := Blk.cell (show Blk (w.alloc (.cells #[.int .i64 z] 2)) w.heap.size #[.int .i64 z] 2 from Blk.new' rfl) 0
  have cA : ∀ W, Calls Tryz.prog 179 #[.int .i64 z] W fun e w' => e = .returned (.int .u64 (((foldZ z) : Nat) : Int)) ∧ Below W.heap.size W w' := fun W => c_vyFolded z hz W
  have c1 := Lib.hid (callsIn_wide.1 (putsS_w z (foldZ z) (fold_lt hz) k hk1 hk2 g cp l hl (w.alloc (.cells #[.int .i64 z] 2)) hcp (fun j u hu => (hA.cell (World.block_lt_of_cell? w _ (hat j u hu))).trans (hat j u hu)) w.heap.size hn cA))
  clear hat hO hl hxl cA hn
  go_enter Tryz.func127, Tryz.ntmps127
  go_wp2_with fail
  refine c1.out.mono ?_
  rintro e w2 ⟨v2, rfl, hB2, hV2⟩
  have h1' := hA.size
  have hU := hA.trans (hB2.mono h1')
  replace hV2 := Lib.hid (hV2.mono h1')
  clear hB2 hA
  go_wp2
  go_ret
  exact ⟨v2, rfl, hU, hV2.out⟩
end Go.Proofs.YtbanjolokkghdaaGreatDoor
namespace Go.Proofs.YtbanjolokkghdaaGreatDoor
open Go.RowKit
theorem BytR.setO {w : World} {B o j k : Nat} {v u : Value} (h : BytR w B v k) (ho : o < B) : BytR (w.setCell ⟨o, j, none⟩ u) B v k := by
  obtain ⟨l, h1, h2⟩ := h
  refine ⟨l, h1, ⟨h2.own.1, ?_⟩⟩
  rcases h2.own.2 with h0 | ⟨g, cap, cur, rfl, hB, hg, e1, e2, e3, e4⟩
  · exact .inl h0
  · refine .inr ⟨g, cap, cur, rfl, hB, ?_, e1, e2, e3, e4⟩
    exact (Below.heap_setCell _ _ _ _ (by show g ≠ o; omega)).trans hg
theorem BytR.form {w : World} {B k : Nat} {v : Value} (h : BytR w B v k) : ∃ p c, v = .slice p k c := by
  obtain ⟨l, h1, h2⟩ := h
  obtain ⟨p, c, e, _⟩ := h2.form
  exact ⟨p, c, e⟩
/-- What a writer in block g has laid. -/
def WrPost (g K : Nat) (w : World) (e : Ending) (w' : World) : Prop := e = .returned (.tuple #[]) ∧ Rex [g] w w' ∧ ∃ v', Blk w' g #[v'] 148 ∧ BytR w' 0 v' K
set_option maxRecDepth 100000 in
set_option maxHeartbeats 2000000 in
theorem c_wrPlain (g : Nat) (v : Value) (k : Nat) (n : Int) (h0 : 0 ≤ n) (h1 : n < 9223372036854775808) (w : World) (hg : Blk w g #[v] 148) (hv : BytR w 0 v k) (hk1 : 1 ≤ k) (hk2 : k ≤ 100000) :
    Calls Tryz.prog 85 #[.pointer (some ⟨g, 0, none⟩), .int .i64 n] w (WrPost g (k + vlen n.toNat) w) := by
  have c1 := Lib.hid (c_vyPutU n h0 (by omega) v k 0 w hv hk1 hk2)
  go_enter Tryz.func85, Tryz.ntmps85
  have k1 := hg.cell
  have y1 := hg.lt
  go_wp2_with fail
  refine (c1.out).mono ?_
  rintro e w2 ⟨v2, rfl, hB2, hV2⟩
  have b2 := hg.below hB2
  have k2 := b2.cell
  have f2 := b2.frozen
  have y2 := b2.lt
  clear k1
  obtain ⟨pp, cc, rfl⟩ := hV2.form
  go_wp2
  refine bodyPost_end (results_none rfl _ _ _) rfl ⟨rfl, (Rex.of_below hB2).setOwn b2 (by simp) 0 _, _, b2.set2 (by rfl), (hV2.setO y1).mono (Nat.zero_le _)⟩
set_option maxRecDepth 100000 in
set_option maxHeartbeats 2000000 in
theorem c_wrSigned (g : Nat) (v : Value) (k : Nat) (n : Int) (hn : I64 n) (w : World) (hg : Blk w g #[v] 148) (hv : BytR w 0 v k) (hk1 : 1 ≤ k) (hk2 : k ≤ 100000) :
    Calls Tryz.prog 88 #[.pointer (some ⟨g, 0, none⟩), .int .i64 n] w (WrPost g (k + vlen (foldZ n)) w) := by
  have c1 := Lib.hid (c_vyPutS n hn v k 0 w hv hk1 hk2)
  go_enter Tryz.func88, Tryz.ntmps88
  have k1 := hg.cell
  have y1 := hg.lt
  go_wp2_with fail
  refine (c1.out).mono ?_
  rintro e w2 ⟨v2, rfl, hB2, hV2⟩
  have b2 := hg.below hB2
  have k2 := b2.cell
  have f2 := b2.frozen
  have y2 := b2.lt
  clear k1
  obtain ⟨pp, cc, rfl⟩ := hV2.form
  go_wp2
  refine bodyPost_end (results_none rfl _ _ _) rfl ⟨rfl, (Rex.of_below hB2).setOwn b2 (by simp) 0 _, _, b2.set2 (by rfl), (hV2.setO y1).mono (Nat.zero_le _)⟩
set_option maxRecDepth 100000 in
set_option maxHeartbeats 2000000 in
theorem c_scLast (r : RunT) (hr : RunOk r) (w : World) : Calls Tryz.prog 126 #[.agg #[.int .i64 r.f, .int .i64 r.s, .int .i64 r.c]] w fun e w' => e = .returned (.int .i64 (lastI r)) ∧ Below w.heap.size w w' := by
  have e0 := hr.f0; have e1 := hr.f1; have e2 := hr.s0; have e3 := hr.s1; have e4 := hr.c0; have e5 := hr.c1; have e6 := hr.last; have e7 := lastI_le hr
  unfold lastI at e6 e7
  have hA : Below w.heap.size w (w.alloc (.cells #[.int .i64 r.f, .int .i64 r.s, .int .i64 r.c] 94)) := belowAny
  have hm : r.s * (r.c - 1) = (r.c - 1) * r.s := Int.mul_comm _ _
  have hl : lastI r = r.f + (r.c - 1) * r.s := by unfold lastI; rw [hm]
  rw [hm] at e6 e7
  rw [hl]
  clear hm hl
  go_enter Tryz.func126, Tryz.ntmps126
  go_wp2
  go_ret
  exact ⟨rfl, hA⟩
theorem RunsIn.rexN {L : List Nat} {w w' : World} {p : Option Addr} {l : List RunT} (h : RunsIn w p l) (hN : ∀ a, p = some a → a.block ∉ L) (hr : Rex L w w') : RunsIn w' p l := ⟨fun i r hi => by
  obtain ⟨b, o, rfl, q0, q1, q2⟩ := h.at' i r hi
  have hb := hN _ rfl
  have hc : ∀ {z : Nat} {u : Value}, w.cell? ⟨b, z, none⟩ = some u → w'.cell? ⟨b, z, none⟩ = some u := fun hq => (World.cell?_of_block (hr.block b (cell_lt hq) hb)).trans hq
  exact ⟨b, o, rfl, hc q0, hc q1, hc q2⟩⟩
def wrRel (w : World) (g : Nat) (p : Option Addr) (cap : Nat) (l : List RunT) (k0 : Nat) (a' : Act) (W : World) : Prop :=
  Rex [g] w W ∧ ∃ (i : Nat) (v : Value), (∃ u : Nat → Value, a' = { tmps := #[.pointer (some ⟨g, 0, none⟩), .slice p l.length cap, u 2, u 3, .func (.func 85) #[.pointer (some ⟨g, 0, none⟩)] #[], .int .i64 (fromI l i), u 6, u 7, u 8, u 9, u 10, u 11, u 12, u 13, .slice p l.length cap, .int .i64 (l.length : Int), .int .i64 (i : Int), u 17, u 18, u 19, u 20, u 21, u 22, u 23, u 24, u 25, u 26, u 27, u 28, u 29, u 30, u 31, u 32, u 33, u 34, u 35, u 36, u 37, u 38, u 39], defers := [] }) ∧ Blk W g #[v] 148 ∧ BytR W 0 v (k0 + vlen l.length + szTo l i) ∧ szTo l i ≤ 30 * i ∧ i ≤ l.length
set_option maxRecDepth 100000 in
set_option maxHeartbeats 8000000 in
theorem c_wrRuns (g : Nat) (v : Value) (k0 : Nat) (p : Option Addr) (cap : Nat) (l : List RunT) (w : World) (hl : RunsOk l) (hin : RunsIn w p l) (hN : ∀ a, p = some a → a.block ≠ g) (hg : Blk w g #[v] 148) (hv : BytR w 0 v k0) (hk1 : 1 ≤ k0) (hk2 : k0 ≤ 50000) :
    Calls Tryz.prog 86 #[.pointer (some ⟨g, 0, none⟩), .slice p l.length cap] w (WrPost g (k0 + vlen l.length + szTo l l.length) w) := by
  have hmf : ∀ (fn : Fn) (first cap : Array Value) (w : World), (Instr.makeFunc fn first cap).run Tryz.prog w = .ok (.func fn first cap) w := fun _ _ _ _ => rfl
  have cP := Lib.hid (fun v k n h0 h1 {W} => c_wrPlain g v k n h0 h1 W)
  have cL := Lib.hid c_scLast
  have hfew := hl.few
  have hv1 := vlen_ten (n := l.length) (by omega)
  have hc1 := Lib.hid (c_wrPlain g v k0 (l.length : Int) (by omega) (by omega) w hg hv hk1 (by omega))
  have yg := hg.lt
  go_enter Tryz.func86, Tryz.ntmps86
  go_upto_region 0 with (fail)
  refine wp_scope_straight ?_
  go_wp2_with fail
  refine hc1.out.mono ?_
  rintro e w1 ⟨rfl, hR1, v1, b1, hV1⟩
  rw [show ((l.length : Int)).toNat = l.length by omega] at hV1
  go_wp2
  try (refine wp_label ?_; simp only [Exit.then]; go_wp2)
  refine wp_loop (wrRel w g p cap l k0) (fun a' _ => l.length - (intAt (a'.tmps.getD 16 undef)).toNat) ?_ ?_
  · unfold wrRel
    exact ⟨hR1, 0, v1, frame_ex rfl, b1, hV1, Nat.le_refl _, Nat.zero_le _⟩
  clear b1 hV1 hR1 hc1
  rintro a' W ⟨hW, i, v, ⟨u, rfl⟩, b1, hV, hk, hi'⟩
  have hz9 := hW.size
  rcases Nat.lt_or_ge i l.length with hlt | hge
  · obtain ⟨r, tr⟩ : ∃ r, l[i]? = some r := ⟨l[i]'(by omega), List.getElem?_eq_getElem (by omega)⟩
    obtain ⟨b, o, rfl, q0, q1, q2⟩ := (hin.rexN (L := [g]) (fun a e => by simpa using hN a e) hW).at' i r tr
    have zq := cell_lt q0
    try simp only at zq
    obtain ⟨Z, hZ⟩ : ∃ Z, szTo l i = Z := ⟨_, rfl⟩
    rw [hZ] at hV hk
    replace hZ := Lib.hid hZ
    have hr := hl.each r (List.mem_of_getElem? tr)
    have r1 := hr.f0; have r2 := hr.f1; have r3 := hr.s0; have r4 := hr.s1; have r5 := hr.c0; have r6 := hr.c1
    have hle := fromI_le hl tr
    obtain ⟨X, hX⟩ : ∃ X, fromI l i = X := ⟨_, rfl⟩
    have hfr := Lib.hid hX
    rw [hX] at hle ⊢
    clear hX
    obtain ⟨g1, g2⟩ := hle
    by_cases hc : 1 < r.c
    ·
      replace tr := Lib.hid tr
      have hce : (r.c == 1) = false := by simp; omega
      have k1 := b1.cell
      have f1 := b1.frozen
      have y1 := b1.lt
      go_wp2_with fail
      have hA : Below W.heap.size W (W.alloc (.cells #[.int .i64 r.f, .int .i64 r.s, .int .i64 r.c] 94)) := belowAny
      have b5 : Blk (W.alloc (.cells #[.int .i64 r.f, .int .i64 r.s, .int .i64 r.c] 94)) W.heap.size #[.int .i64 r.f, .int .i64 r.s, .int .i64 r.c] 94 := Blk.new' rfl
      clear k1 f1 q0 q1 q2
      replace b1 := b1.below hA
      replace hV := hV.below hA
      replace hW := hW.trans (Rex.of_below (L := [g]) hA)
      clear hA
      have hv126' := vlen_ten (n := (r.f - X).toNat) (by omega)
      refine (cP.out _ _ (r.f - X) (by omega) (by omega) b1 hV (by omega) (by omega)).mono ?_
      rintro e w126 ⟨rfl, hR126, v126, bb126, hVV126⟩
      replace b5 := b5.rex hR126 (by simp; omega)
      replace hW := hW.trans hR126
      clear b1 hV hR126
      have b1 := bb126
      have hV := hVV126
      clear bb126 hVV126
      have hv127' := vlen_ten (n := r.c.toNat) (by omega)
      have k1 := b1.cell
      have f1 := b1.frozen
      have y1 := b1.lt
      have k5 := b5.cell
      have f5 := b5.frozen
      have y5 := b5.lt
      go_wp2_with fail
      refine (cP.out _ _ r.c (by omega) (by omega) b1 hV (by omega) (by omega)).mono ?_
      rintro e w127 ⟨rfl, hR127, v127, bb127, hVV127⟩
      clear k1 f1 y1 k5 f5 y5
      replace b5 := b5.rex hR127 (by simp; omega)
      replace hW := hW.trans hR127
      clear b1 hV hR127
      have b1 := bb127
      have hV := hVV127
      clear bb127 hVV127
      have k1 := b1.cell
      have f1 := b1.frozen
      have y1 := b1.lt
      have k5 := b5.cell
      have f5 := b5.frozen
      have y5 := b5.lt
      go_wp2_with fail
      refine (cL.out r hr _).mono ?_
      rintro e w9 ⟨rfl, hB9⟩
      clear k1 f1 y1 k5 f5 y5
      replace b1 := b1.below hB9
      replace b5 := b5.below hB9
      replace hV := hV.below hB9
      replace hW := hW.trans (Rex.of_below (L := [g]) hB9)
      clear hB9
      have hv128' := vlen_ten (n := r.s.toNat) (by omega)
      have k1 := b1.cell
      have f1 := b1.frozen
      have y1 := b1.lt
      have k5 := b5.cell
      have f5 := b5.frozen
      have y5 := b5.lt
      go_wp2_with fail
      refine (cP.out _ _ r.s (by omega) (by omega) b1 hV (by omega) (by omega)).mono ?_
      rintro e w128 ⟨rfl, hR128, v128, bb128, hVV128⟩
      clear k1 f1 y1 k5 f5 y5
      replace b5 := b5.rex hR128 (by simp; omega)
      replace hW := hW.trans hR128
      clear b1 hV hR128
      have b1 := bb128
      have hV := hVV128
      clear bb128 hVV128
      have k1 := b1.cell
      have f1 := b1.frozen
      have y1 := b1.lt
      have k5 := b5.cell
      have f5 := b5.frozen
      have y5 := b5.lt
      go_wp2
      have hs := szTo_succ tr.out
      unfold runSz at hs
      rw [if_pos hc, hfr.out, hZ.out] at hs
      rw [show (i : Int) + 1 = ((i + 1 : Nat) : Int) by omega]
      refine ⟨?_, by simp [intAt]; omega⟩
      unfold wrRel
      refine ⟨hW, i + 1, _, ?_, b1, hV.cast (show _ = k0 + vlen l.length + szTo l (i + 1) by rw [hs]; omega), by omega, by omega⟩
      rw [fromI_succ tr.out]
      exact frame_ex rfl
    ·
      replace tr := Lib.hid tr
      have hce : (r.c == 1) = true := by simp; omega
      have k1 := b1.cell
      have f1 := b1.frozen
      have y1 := b1.lt
      go_wp2_with fail
      have hA : Below W.heap.size W (W.alloc (.cells #[.int .i64 r.f, .int .i64 r.s, .int .i64 r.c] 94)) := belowAny
      have b5 : Blk (W.alloc (.cells #[.int .i64 r.f, .int .i64 r.s, .int .i64 r.c] 94)) W.heap.size #[.int .i64 r.f, .int .i64 r.s, .int .i64 r.c] 94 := Blk.new' rfl
      clear k1 f1 q0 q1 q2
      replace b1 := b1.below hA
      replace hV := hV.below hA
      replace hW := hW.trans (Rex.of_below (L := [g]) hA)
      clear hA
      have hv101' := vlen_ten (n := (r.f - X).toNat) (by omega)
      refine (cP.out _ _ (r.f - X) (by omega) (by omega) b1 hV (by omega) (by omega)).mono ?_
      rintro e w101 ⟨rfl, hR101, v101, bb101, hVV101⟩
      replace b5 := b5.rex hR101 (by simp; omega)
      replace hW := hW.trans hR101
      clear b1 hV hR101
      have b1 := bb101
      have hV := hVV101
      clear bb101 hVV101
      have hv102' := vlen_ten (n := r.c.toNat) (by omega)
      have k1 := b1.cell
      have f1 := b1.frozen
      have y1 := b1.lt
      have k5 := b5.cell
      have f5 := b5.frozen
      have y5 := b5.lt
      go_wp2_with fail
      refine (cP.out _ _ r.c (by omega) (by omega) b1 hV (by omega) (by omega)).mono ?_
      rintro e w102 ⟨rfl, hR102, v102, bb102, hVV102⟩
      clear k1 f1 y1 k5 f5 y5
      replace b5 := b5.rex hR102 (by simp; omega)
      replace hW := hW.trans hR102
      clear b1 hV hR102
      have b1 := bb102
      have hV := hVV102
      clear bb102 hVV102
      have k1 := b1.cell
      have f1 := b1.frozen
      have y1 := b1.lt
      have k5 := b5.cell
      have f5 := b5.frozen
      have y5 := b5.lt
      go_wp2_with fail
      refine (cL.out r hr _).mono ?_
      rintro e w9 ⟨rfl, hB9⟩
      clear k1 f1 y1 k5 f5 y5
      replace b1 := b1.below hB9
      replace b5 := b5.below hB9
      replace hV := hV.below hB9
      replace hW := hW.trans (Rex.of_below (L := [g]) hB9)
      clear hB9
      have k1 := b1.cell
      have f1 := b1.frozen
      have y1 := b1.lt
      have k5 := b5.cell
      have f5 := b5.frozen
      have y5 := b5.lt
      go_wp2
      have hs := szTo_succ tr.out
      unfold runSz at hs
      rw [if_neg (by omega), hfr.out, hZ.out] at hs
      rw [show (i : Int) + 1 = ((i + 1 : Nat) : Int) by omega]
      refine ⟨?_, by simp [intAt]; omega⟩
      unfold wrRel
      refine ⟨hW, i + 1, _, ?_, b1, hV.cast (show _ = k0 + vlen l.length + szTo l (i + 1) by rw [hs]; omega), by omega, by omega⟩
      rw [fromI_succ tr.out]
      exact frame_ex rfl
  · obtain rfl : i = l.length := by omega
    go_wp2
    simp only [Exit.noGoto]
    exact bodyPost_end (results_none rfl _ _ _) rfl ⟨rfl, hW, v, b1, hV⟩
end Go.Proofs.YtbanjolokkghdaaGreatDoor
namespace Go.Proofs.YtbanjolokkghdaaGreatDoor
open Go.RowKit
def l0 : List RunT := [⟨10, 2, 4⟩]
def s0 : SegT := ⟨2, l0, 5, 0, 1, 2, [], 3⟩
end Go.Proofs.YtbanjolokkghdaaGreatDoor
namespace Go.Proofs.YtbanjolokkghdaaGreatDoor
open Go.RowKit
end Go.Proofs.YtbanjolokkghdaaGreatDoor
namespace Go.Proofs.YtbanjolokkghdaaGreatDoor
open Go.RowKit
/-- The block of a slice is one of a type. -/
def TyP (w : World) (p : Option Addr) (T : TypeId) : Prop := ∀ a, p = some a → ∃ cur fz, w.heap[a.block]? = some (.cells cur T fz)
theorem TyP.below {w w' : World} {p : Option Addr} {T : TypeId} (h : TyP w p T) (hb : Below w.heap.size w w') : TyP w' p T := fun a e => by
  obtain ⟨cur, fz, hh⟩ := h a e
  exact ⟨cur, fz, (hb.block a.block (Array.getElem?_eq_some_iff.1 hh).1).trans hh⟩
theorem TyP.alloc {w : World} {p : Option Addr} {T : TypeId} (h : TyP w p T) (o : Obj) : TyP (w.alloc o) p T := h.below ((Below.refl _ _).alloc (Nat.le_refl _) o)
theorem TyP.setCell {w : World} {p : Option Addr} {T : TypeId} (h : TyP w p T) (a : Addr) (v : Value) : TyP (w.setCell a v) p T := fun b e => by
  obtain ⟨cur, fz, hh⟩ := h b e
  by_cases hb : b.block = a.block
  · refine ⟨if a.spot.isSome then cur else cur.setIfInBounds a.off v, fz, ?_⟩
    simp only [World.setCell, Array.getElem?_modify]
    rw [if_pos hb.symm, hh]; rfl
  · exact ⟨cur, fz, (heap_setCell_other w a b.block v hb).trans hh⟩
theorem TyP.new {w : World} {cs : Array Value} {T : TypeId} {g : Nat} (h : w.heap.size = g) : TyP (w.alloc (.cells cs T)) (some ⟨g, 0, none⟩) T := fun a e => by
  subst h
  cases e
  exact ⟨cs, (0, 0), heap_alloc_new w _⟩
theorem RunsIn.take {w : World} {p : Option Addr} {l : List RunT} (h : RunsIn w p l) (k : Nat) : RunsIn w p (l.take k) := ⟨fun i r hr => h.at' i r (by
  rw [List.getElem?_take] at hr
  split at hr
  · exact hr
  · cases hr)⟩
theorem IntsIn.take {w : World} {p : Option Addr} {l : List Int} (h : IntsIn w p l) (k : Nat) : IntsIn w p (l.take k) := ⟨fun i r hr => h.at' i r (by
  rw [List.getElem?_take] at hr
  split at hr
  · exact hr
  · cases hr)⟩
end Go.Proofs.YtbanjolokkghdaaGreatDoor
namespace Go.Proofs.YtbanjolokkghdaaGreatDoor
open Go.RowKit
/-- A segment as it came in. -/
structure Came (w : World) (s : SegT) (p q : Option Addr) (cap vc : Nat) : Prop where
  runs : RunsIn w p s.runs
  raw : IntsIn w q s.raw
  nilR : p = none → s.runs = [] ∧ cap = 0
  nilV : q = none → s.raw = [] ∧ vc = 0
  capR : s.runs.length ≤ cap
  capV : s.raw.length ≤ vc
  maxR : s.runs.length ≤ 9223372036854775807
  maxV : s.raw.length ≤ 9223372036854775807
end Go.Proofs.YtbanjolokkghdaaGreatDoor
namespace Go.Proofs.YtbanjolokkghdaaGreatDoor
open Go.RowKit
def ownS (s : SegT) : SegT := ⟨s.K, s.runs.take 300, s.A, s.R, s.n, s.d, s.raw.take 300, s.E⟩
def OwnOut (s : SegT) (w : World) (e : Ending) (w' : World) : Prop := ∃ p' cap' q' vc', e = .returned (.agg (segA (ownS s) p' q' cap' vc')) ∧ Below w.heap.size w w' ∧ SegIn w' (ownS s) p' q' ∧ (ownS s).raw.length ≤ vc'
/-- The same, and of which types the rows' blocks are. -/
def OwnOutT (s : SegT) (w : World) (e : Ending) (w' : World) : Prop := ∃ p' cap' q' vc', e = .returned (.agg (segA (ownS s) p' q' cap' vc')) ∧ Below w.heap.size w w' ∧ SegIn w' (ownS s) p' q' ∧ (ownS s).raw.length ≤ vc' ∧ TyP w' p' 94 ∧ TyP w' q' 2
end Go.Proofs.YtbanjolokkghdaaGreatDoor
namespace Go.Proofs.YtbanjolokkghdaaGreatDoor
open Go.RowKit
structure SegP (w : World) (s : SegT) (p q : Option Addr) : Prop where
  seg : SegIn w s p q
theorem SegP.below {w w' : World} {s : SegT} {p q : Option Addr} (h : SegP w s p q) (hb : Below w.heap.size w w') : SegP w' s p q := ⟨h.seg.below hb⟩
theorem SegP.alloc {w : World} {s : SegT} {p q : Option Addr} (h : SegP w s p q) (o : Obj) : SegP (w.alloc o) s p q := h.below ((Below.refl _ _).alloc (Nat.le_refl _) o)
theorem SegP.rex {L : List Nat} {w w' : World} {s : SegT} {p q : Option Addr} (h : SegP w s p q) (hr : Rex L w w') (hL : L = []) : SegP w' s p q := by subst hL; exact h.below hr.below
theorem SegP.drew {w : World} {s : SegT} {p q : Option Addr} (h : SegP w s p q) : SegP w.drew s p q := ⟨⟨⟨h.seg.runs.at'⟩, ⟨h.seg.raw.at'⟩, h.seg.fewR, h.seg.fewV⟩⟩
structure PtsP (w : World) (b o : Nat) (l : List (Int × Int)) : Prop where
  pts : PtsIn w (some ⟨b, o, none⟩) l
theorem PtsP.below {w w' : World} {b o : Nat} {l : List (Int × Int)} (h : PtsP w b o l) (hb : Below w.heap.size w w') : PtsP w' b o l := ⟨h.pts.below hb⟩
theorem PtsP.rex {L : List Nat} {w w' : World} {b o : Nat} {l : List (Int × Int)} (h : PtsP w b o l) (hr : Rex L w w') (hL : L = []) : PtsP w' b o l := by subst hL; exact h.below hr.below
theorem PtsP.drew {w : World} {b o : Nat} {l : List (Int × Int)} (h : PtsP w b o l) : PtsP w.drew b o l := ⟨⟨h.pts.at'⟩⟩
theorem PtsP.cellAt {w : World} {b o : Nat} {l : List (Int × Int)} (h : PtsP w b o l) {i : Nat} {x : Int × Int} (hx : l[i]? = some x) : w.cell? ⟨b, o + i * 2, none⟩ = some (.int .i64 x.1) ∧ w.cell? ⟨b, o + i * 2 + 1, none⟩ = some (.int .i64 x.2) := by
  obtain ⟨b', o', e, h1, h2⟩ := h.pts.at' i x hx
  cases e
  exact ⟨h1, h2⟩
end Go.Proofs.YtbanjolokkghdaaGreatDoor
namespace Go.Proofs.YtbanjolokkghdaaGreatDoor
open Go.RowKit
set_option maxRecDepth 100000 in
set_option maxHeartbeats 2000000 in
theorem scheck_no (K A R n d E : Int) (p q : Option Addr) (len cap m vc : Nat) (w : World)
    (c1 : ∀ W, Below w.heap.size w W → Calls Tryz.prog 70 #[.agg #[.int .i64 K, .slice p len cap, .int .i64 A, .int .i64 R, .int .i64 n, .int .i64 d, .slice q m vc, .int .i64 E]] W fun e w' => e = .returned (.bool false) ∧ Below W.heap.size W w') :
    Calls Tryz.prog 42 #[.agg #[.int .i64 K, .slice p len cap, .int .i64 A, .int .i64 R, .int .i64 n, .int .i64 d, .slice q m vc, .int .i64 E]] w fun e w' => e = .returned (.int .i64 210) ∧ Below w.heap.size w w' := by
  have H_c1 := Lib.hid c1
  clear c1
  go_enter Tryz.func42, Tryz.ntmps42
  go_upto_region 1 with (fail)
  refine wp_cutB w (Bc w.heap.size #[.int .i64 K, .slice p len cap, .int .i64 A, .int .i64 R, .int .i64 n, .int .i64 d, .slice q m vc, .int .i64 E] 29 <| Bz) ?_
  rintro W1 hW z2 ⟨⟨b1, yb1, k1, f1⟩, -⟩
  go_wp2_with fail
  refine (H_c1.out _ (belowAny)).mono ?_
  rintro e w3 ⟨rfl, hb3⟩
  have z4 := hb3.size
  try simp at z4
  clear k1 f1
  refine haveB w w3 (Bc w.heap.size #[.int .i64 K, .slice p len cap, .int .i64 A, .int .i64 R, .int .i64 n, .int .i64 d, .slice q m vc, .int .i64 E] 29 <| Bz) ?_
  clear b1 hW
  rintro hW z5 ⟨⟨b1, yb1, k1, f1⟩, -⟩
  clear hb3
  go_wp2
  refine bodyPost_ret (by simp [results, Tryz.results42, go_sem, k1, f1, yb1]) rfl ⟨rfl, by exact belowAny⟩
set_option maxRecDepth 100000 in
set_option maxHeartbeats 2000000 in
theorem scheck_yes (K A R n d E : Int) (p q : Option Addr) (len cap m vc : Nat) (w : World)
    (c1 : ∀ W, Below w.heap.size w W → Calls Tryz.prog 70 #[.agg #[.int .i64 K, .slice p len cap, .int .i64 A, .int .i64 R, .int .i64 n, .int .i64 d, .slice q m vc, .int .i64 E]] W fun e w' => e = .returned (.bool true) ∧ Below W.heap.size W w') :
    Calls Tryz.prog 42 #[.agg #[.int .i64 K, .slice p len cap, .int .i64 A, .int .i64 R, .int .i64 n, .int .i64 d, .slice q m vc, .int .i64 E]] w fun e w' => e = .returned (.int .i64 0) ∧ Below w.heap.size w w' := by
  have H_c1 := Lib.hid c1
  clear c1
  go_enter Tryz.func42, Tryz.ntmps42
  go_upto_region 1 with (fail)
  refine wp_cutB w (Bc w.heap.size #[.int .i64 K, .slice p len cap, .int .i64 A, .int .i64 R, .int .i64 n, .int .i64 d, .slice q m vc, .int .i64 E] 29 <| Bz) ?_
  rintro W1 hW z2 ⟨⟨b1, yb1, k1, f1⟩, -⟩
  go_wp2_with fail
  refine (H_c1.out _ (belowAny)).mono ?_
  rintro e w3 ⟨rfl, hb3⟩
  have z4 := hb3.size
  try simp at z4
  clear k1 f1
  refine haveB w w3 (Bc w.heap.size #[.int .i64 K, .slice p len cap, .int .i64 A, .int .i64 R, .int .i64 n, .int .i64 d, .slice q m vc, .int .i64 E] 29 <| Bz) ?_
  clear b1 hW
  rintro hW z5 ⟨⟨b1, yb1, k1, f1⟩, -⟩
  clear hb3
  go_wp2
  refine bodyPost_ret (by simp [results, Tryz.results42, go_sem, k1, f1, yb1]) rfl ⟨rfl, by exact belowAny⟩
theorem c_segCheckYes (s : SegT) (p q : Option Addr) (cap vc : Nat) (w : World) (h : SegIn w s p q) (hs : segB s = true) :
    Calls Tryz.prog 42 #[.agg (segA s p q cap vc)] w fun e w' => e = .returned (.int .i64 0) ∧ Below w.heap.size w w' :=
  scheck_yes _ _ _ _ _ _ p q _ cap _ vc w (fun W hW => by have := c_segIs s p q cap vc W (h.below hW); rw [hs] at this; exact this)
theorem c_segCheckNo (s : SegT) (p q : Option Addr) (cap vc : Nat) (w : World) (h : SegIn w s p q) (hs : segB s = false) :
    Calls Tryz.prog 42 #[.agg (segA s p q cap vc)] w fun e w' => e = .returned (.int .i64 210) ∧ Below w.heap.size w w' :=
  scheck_no _ _ _ _ _ _ p q _ cap _ vc w (fun W hW => by have := c_segIs s p q cap vc W (h.below hW); rw [hs] at this; exact this)
end Go.Proofs.YtbanjolokkghdaaGreatDoor
