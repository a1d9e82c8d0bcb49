/- Parts of the proof that follows: Layer segcode: Encode, Size; window.Size: how many bytes segments have. No condition. | window.Size, and the document's: how many bytes segments have together. No condition. | A series' times, one behind the other. No condition. | series.kept: how many times a series keeps. No condition. | series.Check. No condition. | The references' numbers: parts. | The references' numbers: made. -/
import Derived.Test.YtbanjolokkghdaaGreatDoorWz18
set_option linter.unusedSimpArgs false
set_option linter.unusedVariables false
namespace Go.Proofs.YtbanjolokkghdaaGreatDoor
open Go.RowKit
theorem szTo_le {l : List RunT} (hl : RunsOk l) : ∀ i, i ≤ l.length → szTo l i ≤ 30 * i
  | 0, _ => Nat.le_refl _
  | i + 1, hi => by
    obtain ⟨r, tr⟩ : ∃ r, l[i]? = some r := ⟨l[i]'(by omega), List.getElem?_eq_getElem (by omega)⟩
    have h0 := szTo_le hl i (by omega)
    have hr := hl.each r (List.mem_of_getElem? tr)
    have r1 := hr.f0; have r2 := hr.f1; have r3 := hr.s0; have r4 := hr.s1; have r5 := hr.c0; have r6 := hr.c1
    have hle := fromI_le hl tr
    rw [szTo_succ tr]
    unfold runSz
    have a1 := vlen_ten (n := (r.f - fromI l i).toNat) (by omega)
    have a2 := vlen_ten (n := r.c.toNat) (by omega)
    have a3 := vlen_ten (n := r.s.toNat) (by omega)
    split <;> omega
theorem rawTo_le {l : List Int} (hl : l.all isBack = true) : ∀ i, i ≤ l.length → rawTo l i ≤ 10 * i
  | 0, _ => Nat.le_refl _
  | i + 1, hi => by
    obtain ⟨x, tr⟩ : ∃ x, l[i]? = some x := ⟨l[i]'(by omega), List.getElem?_eq_getElem (by omega)⟩
    have h0 := rawTo_le hl i (by omega)
    have hx := List.all_eq_true.1 hl x (List.mem_of_getElem? tr)
    unfold isBack at hx
    simp at hx
    have hp := prev_bd hl i
    rw [rawTo_succ tr]
    have a1 := vlen_ten (n := foldZ (x - prevV l i)) (fold_lt (by unfold I64; omega))
    omega
theorem line_le {s : SegT} (h : SzOk s) : lineSz s.K s.A s.R s.n s.d ≤ 40 := by
  have a0 := h.r0; have a1 := h.r1; have a2 := h.d0; have a3 := h.d1
  have b1 := vlen_ten (n := s.R.toNat) (by omega)
  have b2 := vlen_ten (n := s.d.toNat) (by omega)
  have b3 := vlen_ten (fold_lt h.n0)
  have b4 := vlen_ten (fold_lt h.a0)
  unfold lineSz
  split <;> split <;> split <;> omega
theorem segSz_le {s : SegT} (h : SzOk s) : segSz s ≤ 12000 := by
  have h1 := szTo_le h.runs s.runs.length (Nat.le_refl _)
  have h2 := rawTo_le h.raw s.raw.length (Nat.le_refl _)
  have h3 := h.runs.few
  have h4 := h.fewV
  have h5 := line_le h
  have h6 := h.e0; have h7 := h.e1
  have h8 := vlen_ten (n := s.E.toNat) (by omega)
  have h9 := vlen_ten (n := s.runs.length) (by omega)
  unfold segSz
  omega
set_option maxRecDepth 100000 in
set_option maxHeartbeats 2000000 in
theorem line_1 (g : Nat) (v : Value) (k0 : Nat) (A R n d : Int) (hA0 : I64 A) (hR0 : 0 ≤ R) (hR1 : R ≤ 281474976710656) (hn : I64 n) (hd0 : 0 ≤ d) (hd1 : d ≤ 281474976710656) (w : World) (hg : Blk w g #[v] 148) (hv : BytR w 0 v k0) (hk1 : 1 ≤ k0) (hk2 : k0 ≤ 50000) :
    Calls Tryz.prog 87 #[.pointer (some ⟨g, 0, none⟩), .int .i64 1, .agg #[.int .i64 A, .int .i64 R, .int .i64 n, .int .i64 d]] w (WrPost g (k0 + lineSz 1 A R n d) w) := by
  have cP := Lib.hid (fun v k n h0 h1 {W} => c_wrPlain g v k n h0 h1 W)
  have cS := Lib.hid (fun v k n h0 {W} => c_wrSigned g v k n h0 W)
  have b1 := hg
  have hV := hv
  have hW := Rex.refl [g] w
  have b5 : Blk (w.alloc (.cells #[.int .i64 A, .int .i64 R, .int .i64 n, .int .i64 d] 26)) w.heap.size #[.int .i64 A, .int .i64 R, .int .i64 n, .int .i64 d] 26 := Blk.new' rfl
  have hA : Below w.heap.size w (w.alloc (.cells #[.int .i64 A, .int .i64 R, .int .i64 n, .int .i64 d] 26)) := belowAny
  have yg := hg.lt
  replace b1 := b1.below hA
  replace hV := hV.below hA
  replace hW := hW.trans (Rex.of_below (L := [g]) hA)
  clear hA hg hv
  go_enter Tryz.func87, Tryz.ntmps87
  have hv4' := vlen_ten (n := foldZ A) (fold_lt hA0)
  have k_b1 := b1.cell
  have f_b1 := b1.frozen
  have y_b1 := b1.lt
  have k_b5 := b5.cell
  have f_b5 := b5.frozen
  have y_b5 := b5.lt
  go_wp2_with fail
  refine (cS.out _ _ A hA0 b1 hV (by omega) (by omega)).mono ?_
  rintro e w4 ⟨rfl, hR4, v4, bb4, hVV4⟩
  clear k_b1 f_b1 y_b1 k_b5 f_b5 y_b5
  replace b5 := b5.rex hR4 (by simp; omega)
  replace hW := hW.trans hR4
  clear b1 hV hR4
  have b1 := bb4
  have hV := hVV4
  clear bb4 hVV4
  have k_b1 := b1.cell
  have f_b1 := b1.frozen
  have y_b1 := b1.lt
  have k_b5 := b5.cell
  have f_b5 := b5.frozen
  have y_b5 := b5.lt
  go_wp2
  refine bodyPost_end (results_none rfl _ _ _) rfl ⟨rfl, hW, _, b1, hV.cast ?_⟩
  simp [lineSz]
  try omega
set_option maxRecDepth 100000 in
set_option maxHeartbeats 2000000 in
theorem line_2 (g : Nat) (v : Value) (k0 : Nat) (A R n d : Int) (hA0 : I64 A) (hR0 : 0 ≤ R) (hR1 : R ≤ 281474976710656) (hn : I64 n) (hd0 : 0 ≤ d) (hd1 : d ≤ 281474976710656) (w : World) (hg : Blk w g #[v] 148) (hv : BytR w 0 v k0) (hk1 : 1 ≤ k0) (hk2 : k0 ≤ 50000) :
    Calls Tryz.prog 87 #[.pointer (some ⟨g, 0, none⟩), .int .i64 2, .agg #[.int .i64 A, .int .i64 R, .int .i64 n, .int .i64 d]] w (WrPost g (k0 + lineSz 2 A R n d) w) := by
  have cP := Lib.hid (fun v k n h0 h1 {W} => c_wrPlain g v k n h0 h1 W)
  have cS := Lib.hid (fun v k n h0 {W} => c_wrSigned g v k n h0 W)
  have b1 := hg
  have hV := hv
  have hW := Rex.refl [g] w
  have b5 : Blk (w.alloc (.cells #[.int .i64 A, .int .i64 R, .int .i64 n, .int .i64 d] 26)) w.heap.size #[.int .i64 A, .int .i64 R, .int .i64 n, .int .i64 d] 26 := Blk.new' rfl
  have hA : Below w.heap.size w (w.alloc (.cells #[.int .i64 A, .int .i64 R, .int .i64 n, .int .i64 d] 26)) := belowAny
  have yg := hg.lt
  replace b1 := b1.below hA
  replace hV := hV.below hA
  replace hW := hW.trans (Rex.of_below (L := [g]) hA)
  clear hA hg hv
  go_enter Tryz.func87, Tryz.ntmps87
  have hv2' := vlen_ten (n := foldZ n) (fold_lt hn)
  have k_b1 := b1.cell
  have f_b1 := b1.frozen
  have y_b1 := b1.lt
  have k_b5 := b5.cell
  have f_b5 := b5.frozen
  have y_b5 := b5.lt
  go_wp2_with fail
  refine (cS.out _ _ n hn b1 hV (by omega) (by omega)).mono ?_
  rintro e w2 ⟨rfl, hR2, v2, bb2, hVV2⟩
  clear k_b1 f_b1 y_b1 k_b5 f_b5 y_b5
  replace b5 := b5.rex hR2 (by simp; omega)
  replace hW := hW.trans hR2
  clear b1 hV hR2
  have b1 := bb2
  have hV := hVV2
  clear bb2 hVV2
  have hv3' := vlen_ten (n := d.toNat) (by omega)
  have k_b1 := b1.cell
  have f_b1 := b1.frozen
  have y_b1 := b1.lt
  have k_b5 := b5.cell
  have f_b5 := b5.frozen
  have y_b5 := b5.lt
  go_wp2_with fail
  refine (cP.out _ _ d hd0 (by omega) b1 hV (by omega) (by omega)).mono ?_
  rintro e w3 ⟨rfl, hR3, v3, bb3, hVV3⟩
  clear k_b1 f_b1 y_b1 k_b5 f_b5 y_b5
  replace b5 := b5.rex hR3 (by simp; omega)
  replace hW := hW.trans hR3
  clear b1 hV hR3
  have b1 := bb3
  have hV := hVV3
  clear bb3 hVV3
  have hv4' := vlen_ten (n := foldZ A) (fold_lt hA0)
  have k_b1 := b1.cell
  have f_b1 := b1.frozen
  have y_b1 := b1.lt
  have k_b5 := b5.cell
  have f_b5 := b5.frozen
  have y_b5 := b5.lt
  go_wp2_with fail
  refine (cS.out _ _ A hA0 b1 hV (by omega) (by omega)).mono ?_
  rintro e w4 ⟨rfl, hR4, v4, bb4, hVV4⟩
  clear k_b1 f_b1 y_b1 k_b5 f_b5 y_b5
  replace b5 := b5.rex hR4 (by simp; omega)
  replace hW := hW.trans hR4
  clear b1 hV hR4
  have b1 := bb4
  have hV := hVV4
  clear bb4 hVV4
  have k_b1 := b1.cell
  have f_b1 := b1.frozen
  have y_b1 := b1.lt
  have k_b5 := b5.cell
  have f_b5 := b5.frozen
  have y_b5 := b5.lt
  go_wp2
  refine bodyPost_end (results_none rfl _ _ _) rfl ⟨rfl, hW, _, b1, hV.cast ?_⟩
  simp [lineSz]
  try omega
set_option maxRecDepth 100000 in
set_option maxHeartbeats 2000000 in
theorem line_3 (g : Nat) (v : Value) (k0 : Nat) (A R n d : Int) (hA0 : I64 A) (hR0 : 0 ≤ R) (hR1 : R ≤ 281474976710656) (hn : I64 n) (hd0 : 0 ≤ d) (hd1 : d ≤ 281474976710656) (w : World) (hg : Blk w g #[v] 148) (hv : BytR w 0 v k0) (hk1 : 1 ≤ k0) (hk2 : k0 ≤ 50000) :
    Calls Tryz.prog 87 #[.pointer (some ⟨g, 0, none⟩), .int .i64 3, .agg #[.int .i64 A, .int .i64 R, .int .i64 n, .int .i64 d]] w (WrPost g (k0 + lineSz 3 A R n d) w) := by
  have cP := Lib.hid (fun v k n h0 h1 {W} => c_wrPlain g v k n h0 h1 W)
  have cS := Lib.hid (fun v k n h0 {W} => c_wrSigned g v k n h0 W)
  have b1 := hg
  have hV := hv
  have hW := Rex.refl [g] w
  have b5 : Blk (w.alloc (.cells #[.int .i64 A, .int .i64 R, .int .i64 n, .int .i64 d] 26)) w.heap.size #[.int .i64 A, .int .i64 R, .int .i64 n, .int .i64 d] 26 := Blk.new' rfl
  have hA : Below w.heap.size w (w.alloc (.cells #[.int .i64 A, .int .i64 R, .int .i64 n, .int .i64 d] 26)) := belowAny
  have yg := hg.lt
  replace b1 := b1.below hA
  replace hV := hV.below hA
  replace hW := hW.trans (Rex.of_below (L := [g]) hA)
  clear hA hg hv
  go_enter Tryz.func87, Tryz.ntmps87
  have hv1' := vlen_ten (n := R.toNat) (by omega)
  have k_b1 := b1.cell
  have f_b1 := b1.frozen
  have y_b1 := b1.lt
  have k_b5 := b5.cell
  have f_b5 := b5.frozen
  have y_b5 := b5.lt
  go_wp2_with fail
  refine (cP.out _ _ R hR0 (by omega) b1 hV (by omega) (by omega)).mono ?_
  rintro e w1 ⟨rfl, hR1, v1, bb1, hVV1⟩
  clear k_b1 f_b1 y_b1 k_b5 f_b5 y_b5
  replace b5 := b5.rex hR1 (by simp; omega)
  replace hW := hW.trans hR1
  clear b1 hV hR1
  have b1 := bb1
  have hV := hVV1
  clear bb1 hVV1
  have hv2' := vlen_ten (n := foldZ n) (fold_lt hn)
  have k_b1 := b1.cell
  have f_b1 := b1.frozen
  have y_b1 := b1.lt
  have k_b5 := b5.cell
  have f_b5 := b5.frozen
  have y_b5 := b5.lt
  go_wp2_with fail
  refine (cS.out _ _ n hn b1 hV (by omega) (by omega)).mono ?_
  rintro e w2 ⟨rfl, hR2, v2, bb2, hVV2⟩
  clear k_b1 f_b1 y_b1 k_b5 f_b5 y_b5
  replace b5 := b5.rex hR2 (by simp; omega)
  replace hW := hW.trans hR2
  clear b1 hV hR2
  have b1 := bb2
  have hV := hVV2
  clear bb2 hVV2
  have hv3' := vlen_ten (n := d.toNat) (by omega)
  have k_b1 := b1.cell
  have f_b1 := b1.frozen
  have y_b1 := b1.lt
  have k_b5 := b5.cell
  have f_b5 := b5.frozen
  have y_b5 := b5.lt
  go_wp2_with fail
  refine (cP.out _ _ d hd0 (by omega) b1 hV (by omega) (by omega)).mono ?_
  rintro e w3 ⟨rfl, hR3, v3, bb3, hVV3⟩
  clear k_b1 f_b1 y_b1 k_b5 f_b5 y_b5
  replace b5 := b5.rex hR3 (by simp; omega)
  replace hW := hW.trans hR3
  clear b1 hV hR3
  have b1 := bb3
  have hV := hVV3
  clear bb3 hVV3
  have hv4' := vlen_ten (n := foldZ A) (fold_lt hA0)
  have k_b1 := b1.cell
  have f_b1 := b1.frozen
  have y_b1 := b1.lt
  have k_b5 := b5.cell
  have f_b5 := b5.frozen
  have y_b5 := b5.lt
  go_wp2_with fail
  refine (cS.out _ _ A hA0 b1 hV (by omega) (by omega)).mono ?_
  rintro e w4 ⟨rfl, hR4, v4, bb4, hVV4⟩
  clear k_b1 f_b1 y_b1 k_b5 f_b5 y_b5
  replace b5 := b5.rex hR4 (by simp; omega)
  replace hW := hW.trans hR4
  clear b1 hV hR4
  have b1 := bb4
  have hV := hVV4
  clear bb4 hVV4
  have k_b1 := b1.cell
  have f_b1 := b1.frozen
  have y_b1 := b1.lt
  have k_b5 := b5.cell
  have f_b5 := b5.frozen
  have y_b5 := b5.lt
  go_wp2
  refine bodyPost_end (results_none rfl _ _ _) rfl ⟨rfl, hW, _, b1, hV.cast ?_⟩
  simp [lineSz]
  try omega
set_option maxRecDepth 100000 in
set_option maxHeartbeats 2000000 in
theorem line_4 (g : Nat) (v : Value) (k0 : Nat) (A R n d : Int) (hA0 : I64 A) (hR0 : 0 ≤ R) (hR1 : R ≤ 281474976710656) (hn : I64 n) (hd0 : 0 ≤ d) (hd1 : d ≤ 281474976710656) (w : World) (hg : Blk w g #[v] 148) (hv : BytR w 0 v k0) (hk1 : 1 ≤ k0) (hk2 : k0 ≤ 50000) :
    Calls Tryz.prog 87 #[.pointer (some ⟨g, 0, none⟩), .int .i64 4, .agg #[.int .i64 A, .int .i64 R, .int .i64 n, .int .i64 d]] w (WrPost g (k0 + lineSz 4 A R n d) w) := by
  have cP := Lib.hid (fun v k n h0 h1 {W} => c_wrPlain g v k n h0 h1 W)
  have cS := Lib.hid (fun v k n h0 {W} => c_wrSigned g v k n h0 W)
  have b1 := hg
  have hV := hv
  have hW := Rex.refl [g] w
  have b5 : Blk (w.alloc (.cells #[.int .i64 A, .int .i64 R, .int .i64 n, .int .i64 d] 26)) w.heap.size #[.int .i64 A, .int .i64 R, .int .i64 n, .int .i64 d] 26 := Blk.new' rfl
  have hA : Below w.heap.size w (w.alloc (.cells #[.int .i64 A, .int .i64 R, .int .i64 n, .int .i64 d] 26)) := belowAny
  have yg := hg.lt
  replace b1 := b1.below hA
  replace hV := hV.below hA
  replace hW := hW.trans (Rex.of_below (L := [g]) hA)
  clear hA hg hv
  go_enter Tryz.func87, Tryz.ntmps87
  have k_b1 := b1.cell
  have f_b1 := b1.frozen
  have y_b1 := b1.lt
  have k_b5 := b5.cell
  have f_b5 := b5.frozen
  have y_b5 := b5.lt
  go_wp2
  refine bodyPost_end (results_none rfl _ _ _) rfl ⟨rfl, hW, _, b1, hV.cast ?_⟩
  simp [lineSz]
  try omega
theorem c_wrLine (g : Nat) (v : Value) (k0 : Nat) (s : SegT) (h : SzOk s) (w : World) (hg : Blk w g #[v] 148) (hv : BytR w 0 v k0) (hk1 : 1 ≤ k0) (hk2 : k0 ≤ 50000) :
    Calls Tryz.prog 87 #[.pointer (some ⟨g, 0, none⟩), .int .i64 s.K, .agg #[.int .i64 s.A, .int .i64 s.R, .int .i64 s.n, .int .i64 s.d]] w (WrPost g (k0 + lineSz s.K s.A s.R s.n s.d) w) := by
  have a1 := h.k0; have a2 := h.k1
  rcases (by omega : s.K = 1 ∨ s.K = 2 ∨ s.K = 3 ∨ s.K = 4) with e | e | e | e <;> rw [e]
  · exact line_1 g v k0 _ _ _ _ h.a0 h.r0 h.r1 h.n0 h.d0 h.d1 w hg hv hk1 hk2
  · exact line_2 g v k0 _ _ _ _ h.a0 h.r0 h.r1 h.n0 h.d0 h.d1 w hg hv hk1 hk2
  · exact line_3 g v k0 _ _ _ _ h.a0 h.r0 h.r1 h.n0 h.d0 h.d1 w hg hv hk1 hk2
  · exact line_4 g v k0 _ _ _ _ h.a0 h.r0 h.r1 h.n0 h.d0 h.d1 w hg hv hk1 hk2
def encRel (w : World) (g : Nat) (s : SegT) (p : Option Addr) (cap : Nat) (q : Option Addr) (vc C : Nat) (a' : Act) (W : World) : Prop :=
  Below w.heap.size w W ∧ Blk W w.heap.size #[.int .i64 s.K, .slice p s.runs.length cap, .int .i64 s.A, .int .i64 s.R, .int .i64 s.n, .int .i64 s.d, .slice q s.raw.length vc, .int .i64 s.E] 29 ∧ ∃ (i : Nat) (v : Value), (∃ u : Nat → Value, a' = { tmps := #[u 0, .pointer (some ⟨w.heap.size, 0, none⟩), .slice none 0 0, .int .i64 0, .int .i64 0, .pointer (some ⟨g, 0, none⟩), .int .i64 (prevV s.raw i), u 7, u 8, u 9, u 10, u 11, u 12, u 13, u 14, u 15, u 16, u 17, u 18, u 19, u 20, u 21, u 22, u 23, u 24, u 25, u 26, u 27, u 28, u 29, u 30, u 31, u 32, u 33, u 34, .slice q s.raw.length vc, .int .i64 (s.raw.length : Int), .int .i64 (i : Int), u 38, u 39, u 40, u 41, u 42, u 43, u 44, u 45, u 46, u 47, u 48, u 49, u 50, u 51], defers := [] }) ∧ Blk W g #[v] 148 ∧ BytR W 0 v (C + rawTo s.raw i) ∧ i ≤ s.raw.length
theorem few_far {w : World} {p : Option Addr} {l : List RunT} {g : Nat} (hl : RunsOk l) (h : RunsIn w p l) (hg : w.heap.size ≤ g) : ∀ a, p = some a → a.block ≠ g := fun a e => by
  obtain ⟨r, hr⟩ : ∃ r, l[0]? = some r := ⟨l[0]'(hl.some'), List.getElem?_eq_getElem hl.some'⟩
  obtain ⟨b, o, e2, q0, _⟩ := h.at' 0 r hr
  rw [e] at e2
  injection e2 with e2
  subst e2
  have := cell_lt q0
  simp only at this ⊢
  omega
set_option maxRecDepth 100000 in
set_option maxHeartbeats 20000000 in
theorem c_scEncode (s : SegT) (p q : Option Addr) (cap vc : Nat) (w : World) (h : SegIn w s p q) (hs : segB s = true) :
    Calls Tryz.prog 61 #[.agg #[.int .i64 s.K, .slice p s.runs.length cap, .int .i64 s.A, .int .i64 s.R, .int .i64 s.n, .int .i64 s.d, .slice q s.raw.length vc, .int .i64 s.E]] w fun e w' => ∃ v, e = .returned (.tuple #[v, .int .i64 0]) ∧ Below w.heap.size w w' ∧ BytR w' 0 v (segSz s) := by
  have hz := sz_ok hs
  have hK1 := hz.k0
  have hK2 := hz.k1
  have e0 := hz.e0
  have e1 := hz.e1
  have hfr := hz.runs.few
  have hfv := hz.fewV
  have c1 := fun W (hW : Below w.heap.size w W) => c_segCheckYes s p q cap vc W (h.below hW) hs
  unfold segA at c1
  replace c1 := Lib.hid c1
  have hv0 := vlen_ten (n := s.E.toNat) (by omega)
  have hv1 := vlen_ten (n := s.runs.length) (by omega)
  have hv2 := szTo_le hz.runs s.runs.length (Nat.le_refl _)
  have hv3 := line_le hz
  go_enter Tryz.func61, Tryz.ntmps61
  go_wp2_with fail
  refine (c1.out _ (by exact belowAny)).mono ?_
  rintro e w9 ⟨rfl, hB9⟩
  have hA : Below w.heap.size w (w.alloc (.cells #[.int .i64 s.K, .slice p s.runs.length cap, .int .i64 s.A, .int .i64 s.R, .int .i64 s.n, .int .i64 s.d, .slice q s.raw.length vc, .int .i64 s.E] 29)) := belowAny
  have b9 : Blk w9 w.heap.size #[.int .i64 s.K, .slice p s.runs.length cap, .int .i64 s.A, .int .i64 s.R, .int .i64 s.n, .int .i64 s.d, .slice q s.raw.length vc, .int .i64 s.E] 29 := Blk.below (by exact blkAny2) hB9
  have hW9 := hA.trans (hB9.mono hA.size)
  clear hA hB9 c1
  have z9 := hW9.size
  have k9 := b9.cell
  have f9 := b9.frozen
  have y9 := b9.lt
  go_wp2_with fail
  obtain ⟨W0, hW0⟩ : ∃ W0, W0 = ((w9.alloc (.cells #[.int .u8 s.K] 5)).alloc (.cells #[.slice (some ⟨w9.heap.size, 0, none⟩) 1 1] 148)) := ⟨_, rfl⟩
  have bs : Blk W0 w.heap.size #[.int .i64 s.K, .slice p s.runs.length cap, .int .i64 s.A, .int .i64 s.R, .int .i64 s.n, .int .i64 s.d, .slice q s.raw.length vc, .int .i64 s.E] 29 := by rw [hW0]; exact blkAny2
  have bg : Blk W0 (w9.heap.size + 1) #[.slice (some ⟨w9.heap.size, 0, none⟩) 1 1] 148 := by rw [hW0]; exact blkAny2
  have hV : BytR W0 0 (.slice (some ⟨w9.heap.size, 0, none⟩) 1 1) 1 := ⟨[s.K], rfl, ⟨own_new1 (by rw [hW0]; exact blkAny2) (Nat.zero_le _)⟩⟩
  have hA9 : Below w9.heap.size w9 W0 := by rw [hW0]; exact belowAny
  have hW : Below w.heap.size w W0 := hW9.trans (hA9.mono z9)
  rw [← hW0]
  obtain ⟨g, hg⟩ : ∃ g, w9.heap.size + 1 = g := ⟨_, rfl⟩
  rw [hg] at bg ⊢
  have hg1 : w.heap.size < g := by omega
  clear hW0 hA9 hW9 b9 k9 f9 y9
  have zW := hW.size
  refine (c_wrPlain g _ _ s.E e0 (by omega) _ bg hV (by omega) (by omega)).mono ?_
  rintro e w10 ⟨rfl, hR10, v10, bb10, hV10⟩
  replace bs := bs.rex hR10 (by simp; omega)
  replace hW := hW.trans (hR10.of_priv zW (by simp; omega))
  clear bg hV hR10 zW hg z9
  have bg := bb10
  have hV := hV10
  clear bb10 hV10
  have k_bs := bs.cell
  have f_bs := bs.frozen
  have y_bs := bs.lt
  have k_bg := bg.cell
  have f_bg := bg.frozen
  have y_bg := bg.lt
  have zW := hW.size
  go_wp2_with fail
  refine (c_wrRuns g _ _ p cap s.runs _ hz.runs (h.runs.below hW) (few_far hz.runs h.runs (by omega)) bg hV (by omega) (by omega)).mono ?_
  rintro e w11 ⟨rfl, hR11, v11, bb11, hVV11⟩
  clear k_bs f_bs y_bs k_bg f_bg y_bg
  replace bs := bs.rex hR11 (by simp; omega)
  replace hW := hW.trans (hR11.of_priv zW (by simp; omega))
  clear bg hV hR11 zW
  have bg := bb11
  have hV := hVV11
  clear bb11 hVV11

  have k_bs := bs.cell
  have f_bs := bs.frozen
  have y_bs := bs.lt
  have k_bg := bg.cell
  have f_bg := bg.frozen
  have y_bg := bg.lt
  have zW := hW.size
  go_wp2_with fail
  refine (c_wrLine g _ _ s hz _ bg hV (by omega) (by omega)).mono ?_
  rintro e w12 ⟨rfl, hR12, v12, bb12, hVV12⟩
  clear k_bs f_bs y_bs k_bg f_bg y_bg
  replace bs := bs.rex hR12 (by simp; omega)
  replace hW := hW.trans (hR12.of_priv zW (by simp; omega))
  clear bg hV hR12 zW
  have bg := bb12
  have hV := hVV12
  clear bb12 hVV12

  obtain ⟨C0, hC0⟩ : ∃ C0, 1 + vlen s.E.toNat + vlen s.runs.length + szTo s.runs s.runs.length + lineSz s.K s.A s.R s.n s.d = C0 := ⟨_, rfl⟩
  have hC9 : 1 ≤ C0 ∧ C0 ≤ 20000 := by omega
  replace hV := hV.cast hC0
  replace hC0 := Lib.hid hC0
  clear hv0 hv1 hv2 hv3
  have k_bs := bs.cell
  have f_bs := bs.frozen
  have y_bs := bs.lt
  have k_bg := bg.cell
  have f_bg := bg.frozen
  have y_bg := bg.lt
  go_wp2
  clear k_bs f_bs y_bs k_bg f_bg y_bg
  refine wp_loop (encRel w g s p cap q vc C0) (fun a' _ => s.raw.length - (intAt (a'.tmps.getD 37 undef)).toNat) ?_ ?_
  · unfold encRel
    exact ⟨hW, bs, 0, _, frame_ex rfl, bg, hV, Nat.zero_le _⟩
  clear hW bs bg hV
  rintro a' W ⟨hW, bs, i, v, ⟨u, rfl⟩, bg, hV, hi'⟩
  have hz9 := hW.size
  rcases Nat.lt_or_ge i s.raw.length with hlt | hge
  · obtain ⟨x, tr⟩ : ∃ x, s.raw[i]? = some x := ⟨s.raw[i]'(by omega), List.getElem?_eq_getElem (by omega)⟩
    obtain ⟨b, o, rfl, q0⟩ := (h.raw.below hW).at' i x tr
    have zq := cell_lt q0
    try simp only at zq
    have hrl := rawTo_le hz.raw i (by omega)
    obtain ⟨Z, hZ⟩ : ∃ Z, rawTo s.raw i = Z := ⟨_, rfl⟩
    rw [hZ] at hV hrl
    have hs := rawTo_succ tr
    have hx := List.all_eq_true.1 hz.raw x (List.mem_of_getElem? tr)
    unfold isBack at hx
    simp at hx
    have hpv := prev_bd hz.raw i
    have hnx := Lib.hid (prevV_succ tr)
    obtain ⟨P, hP⟩ : ∃ P, prevV s.raw i = P := ⟨_, rfl⟩
    rw [hP, hZ] at hs
    rw [hP] at hpv ⊢
    have hI : I64 (x - P) := by unfold I64; omega
    replace hs := Lib.hid hs
    clear hP hZ tr
    have hv4 := vlen_ten (fold_lt hI)
    have k_bs := bs.cell
    have f_bs := bs.frozen
    have y_bs := bs.lt
    have k_bg := bg.cell
    have f_bg := bg.frozen
    have y_bg := bg.lt
    have zW := hW.size
    go_wp2_with fail
    refine (c_wrSigned g _ _ (x - P) hI _ bg hV (by omega) (by omega)).mono ?_
    rintro e w20 ⟨rfl, hR20, v20, bb20, hVV20⟩
    clear k_bs f_bs y_bs k_bg f_bg y_bg
    replace bs := bs.rex hR20 (by simp; omega)
    replace hW := hW.trans (hR20.of_priv zW (by simp; omega))
    clear bg hV hR20 zW
    have bg := bb20
    have hV := hVV20
    clear bb20 hVV20

    have k_bs := bs.cell
    have f_bs := bs.frozen
    have y_bs := bs.lt
    have k_bg := bg.cell
    have f_bg := bg.frozen
    have y_bg := bg.lt
    go_wp2
    rw [show (i : Int) + 1 = ((i + 1 : Nat) : Int) by omega]
    refine ⟨?_, by simp [intAt]; omega⟩
    unfold encRel
    refine ⟨hW, bs, i + 1, _, ?_, bg, hV.cast (show _ = C0 + rawTo s.raw (i + 1) by rw [hs.out]; omega), by omega⟩
    rw [hnx.out]
    exact frame_ex rfl
  · obtain rfl : i = s.raw.length := by omega
    have hsz := Lib.hid (show segSz s = C0 + rawTo s.raw s.raw.length by unfold segSz; rw [hC0.out])
    have k_bs := bs.cell
    have f_bs := bs.frozen
    have y_bs := bs.lt
    have k_bg := bg.cell
    have f_bg := bg.frozen
    have y_bg := bg.lt
    go_wp2
    exact bodyPost_ret (v := .tuple #[v, .int .i64 0]) (by simp [results, Tryz.results61, go_sem]) rfl ⟨v, rfl, hW, hV.cast hsz.out.symm⟩
set_option maxRecDepth 100000 in
set_option maxHeartbeats 2000000 in
theorem c_scEncodeNo (s : SegT) (p q : Option Addr) (cap vc : Nat) (w : World) (h : SegIn w s p q) (hs : segB s = false) :
    Calls Tryz.prog 61 #[.agg #[.int .i64 s.K, .slice p s.runs.length cap, .int .i64 s.A, .int .i64 s.R, .int .i64 s.n, .int .i64 s.d, .slice q s.raw.length vc, .int .i64 s.E]] w fun e w' => e = .returned (.tuple #[.slice none 0 0, .int .i64 210]) ∧ Below w.heap.size w w' := by
  have c1 := fun W (hW : Below w.heap.size w W) => c_segCheckNo s p q cap vc W (h.below hW) hs
  unfold segA at c1
  replace c1 := Lib.hid c1
  go_enter Tryz.func61, Tryz.ntmps61
  go_wp2_with fail
  have hA : Below w.heap.size w (w.alloc (.cells #[.int .i64 s.K, .slice p s.runs.length cap, .int .i64 s.A, .int .i64 s.R, .int .i64 s.n, .int .i64 s.d, .slice q s.raw.length vc, .int .i64 s.E] 29)) := belowAny
  refine (c1.out _ hA).mono ?_
  rintro e w9 ⟨rfl, hB9⟩
  have hW := hA.trans (hB9.mono hA.size)
  clear hB9 hA
  go_wp2
  exact bodyPost_ret (v := .tuple #[.slice none 0 0, .int .i64 210]) (by simp [results, Tryz.results61, go_sem]) rfl ⟨rfl, hW⟩
set_option maxRecDepth 100000 in
set_option maxHeartbeats 2000000 in
theorem c_scSize (s : SegT) (p q : Option Addr) (cap vc : Nat) (w : World) (h : SegIn w s p q) (hs : segB s = true) :
    Calls Tryz.prog 34 #[.agg #[.int .i64 s.K, .slice p s.runs.length cap, .int .i64 s.A, .int .i64 s.R, .int .i64 s.n, .int .i64 s.d, .slice q s.raw.length vc, .int .i64 s.E]] w fun e w' => e = .returned (.tuple #[.int .i64 (segSz s : Int), .int .i64 0]) ∧ Below w.heap.size w w' := by
  have c1 := Lib.hid (fun W (hW : Below w.heap.size w W) => c_scEncode s p q cap vc W (h.below hW) hs)
  go_enter Tryz.func34, Tryz.ntmps34
  go_wp2_with fail
  have hA : Below w.heap.size w (w.alloc (.cells #[.int .i64 s.K, .slice p s.runs.length cap, .int .i64 s.A, .int .i64 s.R, .int .i64 s.n, .int .i64 s.d, .slice q s.raw.length vc, .int .i64 s.E] 29)) := belowAny
  refine (c1.out _ hA).mono ?_
  rintro e w9 ⟨v, rfl, hB9, hV⟩
  have hW := hA.trans (hB9.mono hA.size)
  obtain ⟨pp, cc, rfl⟩ := hV.form
  clear hV hB9 hA
  go_wp2
  exact bodyPost_ret (v := .tuple #[.int .i64 (segSz s : Int), .int .i64 0]) (by simp [results, Tryz.results34, go_sem]) rfl ⟨rfl, hW⟩
set_option maxRecDepth 100000 in
set_option maxHeartbeats 2000000 in
theorem c_scSizeNo (s : SegT) (p q : Option Addr) (cap vc : Nat) (w : World) (h : SegIn w s p q) (hs : segB s = false) :
    Calls Tryz.prog 34 #[.agg #[.int .i64 s.K, .slice p s.runs.length cap, .int .i64 s.A, .int .i64 s.R, .int .i64 s.n, .int .i64 s.d, .slice q s.raw.length vc, .int .i64 s.E]] w fun e w' => e = .returned (.tuple #[.int .i64 0, .int .i64 210]) ∧ Below w.heap.size w w' := by
  have c1 := Lib.hid (fun W (hW : Below w.heap.size w W) => c_scEncodeNo s p q cap vc W (h.below hW) hs)
  go_enter Tryz.func34, Tryz.ntmps34
  go_wp2_with fail
  have hA : Below w.heap.size w (w.alloc (.cells #[.int .i64 s.K, .slice p s.runs.length cap, .int .i64 s.A, .int .i64 s.R, .int .i64 s.n, .int .i64 s.d, .slice q s.raw.length vc, .int .i64 s.E] 29)) := belowAny
  refine (c1.out _ hA).mono ?_
  rintro e w9 ⟨rfl, hB9⟩
  have hW := hA.trans (hB9.mono hA.size)
  clear hB9 hA
  go_wp2
  exact bodyPost_ret (v := .tuple #[.int .i64 0, .int .i64 210]) (by simp [results, Tryz.results34, go_sem]) rfl ⟨rfl, hW⟩
end Go.Proofs.YtbanjolokkghdaaGreatDoor
namespace Go.Proofs.YtbanjolokkghdaaGreatDoor
open Go.RowKit
def sumSz : List SegT → Nat
  | [] => 0
  | x :: l => segSz x + sumSz l
theorem sumSz_append : ∀ a b : List SegT, sumSz (a ++ b) = sumSz a + sumSz b
  | [], b => by simp [sumSz]
  | x :: a, b => by simp only [List.cons_append, sumSz, sumSz_append a b]; omega
theorem sumSz_take {l : List SegT} {i : Nat} {x : SegT} (h : l[i]? = some x) : sumSz (l.take (i + 1)) = sumSz (l.take i) + segSz x := by
  rw [List.take_add_one, h, sumSz_append]
  simp [sumSz]
def wsRel (w : World) (p : Option Addr) (cap : Nat) (l : List SegT) (a' : Act) (W : World) : Prop :=
  Below w.heap.size w W ∧ ∃ (i z : Nat), (∃ u : Nat → Value, a' = { tmps := #[.slice p l.length cap, u 1, .int .i64 0, .int .i64 0, .int .i64 (z : Int), u 5, u 6, u 7, u 8, .slice p l.length cap, .int .i64 (l.length : Int), .int .i64 (i : Int), u 12, u 13, u 14, u 15, u 16, u 17, u 18, u 19, u 20, u 21, u 22, u 23, u 24, u 25, u 26], defers := [] }) ∧ (l.take i).all segB = true ∧ z = sumSz (l.take i) ∧ z ≤ 12000 * i ∧ i ≤ l.length
set_option maxRecDepth 100000 in
set_option maxHeartbeats 2000000 in
theorem c_wnSize (p : Option Addr) (cap : Nat) (l : List SegT) (w : World) (hin : SegsIn w p l) (hmx : l.length ≤ 100) :
    Calls Tryz.prog 8 #[.slice p l.length cap] w fun e w' => (e = .returned (.tuple #[.int .i64 (if l.all segB = true then (sumSz l : Int) else 0), .int .i64 (if l.all segB = true then 0 else 210)])) ∧ Below w.heap.size w w' := by
  obtain ⟨Z1, hZ1⟩ : ∃ Z1 : Int, (if l.all segB = true then (sumSz l : Int) else 0) = Z1 := ⟨_, rfl⟩
  obtain ⟨Z2, hZ2⟩ : ∃ Z2 : Int, (if l.all segB = true then (0 : Int) else 210) = Z2 := ⟨_, rfl⟩
  rw [hZ1, hZ2]
  replace hZ1 := Lib.hid hZ1
  replace hZ2 := Lib.hid hZ2
  go_enter Tryz.func8, Tryz.ntmps8
  go_wp2
  refine wp_loop (wsRel w p cap l) (fun a' _ => l.length - (intAt (a'.tmps.getD 11 undef)).toNat) ?_ ?_
  · unfold wsRel
    exact ⟨Below.refl _ _, 0, 0, frame_ex rfl, by simp, by simp [sumSz], Nat.le_refl _, Nat.zero_le _⟩
  rintro a' W ⟨hW0, i, z, ⟨u, rfl⟩, hall, hsum, hzb, hi'⟩
  have hz := hW0.size
  replace hall := Lib.hid hall
  replace hsum := Lib.hid hsum
  rcases Nat.lt_or_ge i l.length with hlt | hge
  · obtain ⟨x, tr⟩ : ∃ x, l[i]? = some x := ⟨l[i]'(by omega), List.getElem?_eq_getElem (by omega)⟩
    obtain ⟨b, o, p', q', cp, vc, rfl, hs, hvc, q0, q1, q2, q3, q4, q5, q6, q7⟩ := (hin.below hW0).one tr
    have hA : Below W.heap.size W (W.alloc (.cells #[.int .i64 x.K, .slice p' x.runs.length cp, .int .i64 x.A, .int .i64 x.R, .int .i64 x.n, .int .i64 x.d, .slice q' x.raw.length vc, .int .i64 x.E] 29)) := belowAny
    cases hB : segB x with
    | true =>
      have c1 := Lib.hid (fun W' (hW' : Below W.heap.size W W') => c_scSize x p' q' cp vc W' (hs.below hW') hB)
      have hle := segSz_le (sz_ok hB)
      have hnx := Lib.hid (show (l.take (i + 1)).all segB = true by rw [List.take_add_one, tr, List.all_append, hall.out]; simp [hB])
      have hns := Lib.hid (show z + segSz x = sumSz (l.take (i + 1)) by rw [sumSz_take tr, hsum.out])
      obtain ⟨S, hS⟩ : ∃ S, segSz x = S := ⟨_, rfl⟩
      rw [hS] at c1 hle hns
      clear tr hs hvc hS hB
      go_wp2_with fail
      refine (c1.out _ hA).mono ?_
      rintro e w9 ⟨rfl, hB9⟩
      have hV := hW0.trans ((hA.trans (hB9.mono hA.size)).mono hz)
      clear hB9 hA q0 q1 q2 q3 q4 q5 q6 q7
      go_wp2
      rw [show (i : Int) + 1 = ((i + 1 : Nat) : Int) by omega, show (z : Int) + (S : Int) = ((z + S : Nat) : Int) by omega]
      refine ⟨?_, by simp [intAt]; omega⟩
      unfold wsRel
      exact ⟨hV, i + 1, z + S, frame_ex rfl, hnx.out, hns.out, by omega, by omega⟩
    | false =>
      have c1 := Lib.hid (fun W' (hW' : Below W.heap.size W W') => c_scSizeNo x p' q' cp vc W' (hs.below hW') hB)
      have hno : l.all segB = false := by
        cases h0 : l.all segB with
        | false => rfl
        | true => have := List.all_eq_true.1 h0 x (List.mem_of_getElem? tr); rw [hB] at this; cases this
      have e1 := Lib.hid (show Z1 = 0 by rw [← hZ1.out, hno]; rfl)
      have e2 := Lib.hid (show Z2 = 210 by rw [← hZ2.out, hno]; rfl)
      clear tr hs hvc hB hno
      go_wp2_with fail
      refine (c1.out _ hA).mono ?_
      rintro e w9 ⟨rfl, hB9⟩
      have hV := hW0.trans ((hA.trans (hB9.mono hA.size)).mono hz)
      clear hB9 hA q0 q1 q2 q3 q4 q5 q6 q7
      go_wp2
      exact bodyPost_ret (v := .tuple #[.int .i64 0, .int .i64 210]) (by simp [results, Tryz.results8, go_sem]) rfl ⟨by rw [e1.out, e2.out], hV⟩
  · obtain rfl : i = l.length := by omega
    have h1 := hall.out
    have h2 := hsum.out
    rw [List.take_length] at h1 h2
    have e1 := Lib.hid (show Z1 = (z : Int) by rw [← hZ1.out, h1, h2]; rfl)
    have e2 := Lib.hid (show Z2 = 0 by rw [← hZ2.out, h1]; rfl)
    clear h1 h2
    go_wp2
    exact bodyPost_ret (v := .tuple #[.int .i64 (z : Int), .int .i64 0]) (by simp [results, Tryz.results8, go_sem]) rfl ⟨by rw [e1.out, e2.out], hW0⟩
def r13szRel (w : World) (p : Option Addr) (cap : Nat) (l : List SegT) (a' : Act) (W : World) : Prop :=
  Below w.heap.size w W ∧ ∃ (i z : Nat), (∃ u : Nat → Value, a' = { tmps := #[.slice p l.length cap, u 1, .int .i64 0, .int .i64 (z : Int), .int .i64 (i : Int), u 5, u 6, u 7, u 8, u 9, u 10, u 11, u 12, u 13, u 14, u 15, u 16, u 17, u 18, u 19], defers := [] }) ∧ z = sumSz (l.take i) ∧ z ≤ 12000 * i ∧ i ≤ l.length
set_option maxRecDepth 100000 in
set_option maxHeartbeats 2000000 in
theorem c_r13Size (p : Option Addr) (cap : Nat) (l : List SegT) (w : World) (hin : SegsIn w p l) (hmx : l.length ≤ 100) (hall : l.all segB = true) :
    Calls Tryz.prog 9 #[.slice p l.length cap] w fun e w' => e = .returned (.int .i64 (sumSz l : Int)) ∧ Below w.heap.size w w' := by
  obtain ⟨Z1, hZ1⟩ : ∃ Z1 : Int, (sumSz l : Int) = Z1 := ⟨_, rfl⟩
  rw [hZ1]
  replace hZ1 := Lib.hid hZ1
  go_enter Tryz.func9, Tryz.ntmps9
  go_wp2
  refine wp_loop (r13szRel w p cap l) (fun a' _ => l.length - (intAt (a'.tmps.getD 4 undef)).toNat) ?_ ?_
  · unfold r13szRel
    exact ⟨Below.refl _ _, 0, 0, frame_ex rfl, by simp [sumSz], Nat.le_refl _, Nat.zero_le _⟩
  rintro a' W ⟨hW0, i, z, ⟨u, rfl⟩, hsum, hzb, hi'⟩
  have hz := hW0.size
  replace hsum := Lib.hid hsum
  rcases Nat.lt_or_ge i l.length with hlt | hge
  · obtain ⟨x, tr⟩ : ∃ x, l[i]? = some x := ⟨l[i]'(by omega), List.getElem?_eq_getElem (by omega)⟩
    obtain ⟨b, o, p', q', cp, vc, rfl, hs, hvc, q0, q1, q2, q3, q4, q5, q6, q7⟩ := (hin.below hW0).one tr
    have hB := List.all_eq_true.1 hall x (List.mem_of_getElem? tr)
    have c1 := Lib.hid (c_r12Bytes x p' q' cp vc W hs (sz_ok hB))
    have hle := segSz_le (sz_ok hB)
    have hns := Lib.hid (show z + segSz x = sumSz (l.take (i + 1)) by rw [sumSz_take tr, hsum.out])
    obtain ⟨S, hS⟩ : ∃ S, segSz x = S := ⟨_, rfl⟩
    rw [hS] at c1 hle hns
    clear tr hs hvc hS hB
    go_wp2_with fail
    refine c1.out.mono ?_
    rintro e w9 ⟨v, rfl, hB9, hv⟩
    obtain ⟨pp, cc, rfl⟩ := hv.form
    have hV := hW0.trans (hB9.mono hz)
    clear hB9 hv q0 q1 q2 q3 q4 q5 q6 q7
    go_wp2
    rw [show (i : Int) + 1 = ((i + 1 : Nat) : Int) by omega, show (z : Int) + (S : Int) = ((z + S : Nat) : Int) by omega]
    refine ⟨?_, by simp [intAt]; omega⟩
    unfold r13szRel
    exact ⟨hV, i + 1, z + S, frame_ex rfl, hns.out, by omega, by omega⟩
  · obtain rfl : i = l.length := by omega
    have h2 := hsum.out
    rw [List.take_length] at h2
    have e1 := Lib.hid (show Z1 = (z : Int) by rw [← hZ1.out, h2])
    clear h2
    go_wp2
    go_ret
    exact ⟨by rw [e1.out]; rfl, hW0⟩
end Go.Proofs.YtbanjolokkghdaaGreatDoor
namespace Go.Proofs.YtbanjolokkghdaaGreatDoor
open Go.RowKit Go.Shelf
attribute [local go_sem] Oper.semAt_some
end Go.Proofs.YtbanjolokkghdaaGreatDoor
namespace Go.Proofs.YtbanjolokkghdaaGreatDoor
open Go.RowKit Go.Shelf
attribute [local go_sem] Oper.semAt_some
def keptL (fl : Int) (l : List Int) : Nat := (l.filter fun t => decide (fl ≤ t)).length
end Go.Proofs.YtbanjolokkghdaaGreatDoor
namespace Go.Proofs.YtbanjolokkghdaaGreatDoor
open Go.RowKit Go.Shelf
attribute [local go_sem] Oper.semAt_some
end Go.Proofs.YtbanjolokkghdaaGreatDoor
namespace Go.Proofs.YtbanjolokkghdaaGreatDoor
open Go.RowKit
def parRel (w : World) (p : Option Addr) (a : List Int) (n ca : Nat) (vb : Value) (a' : Act) (W : World) : Prop :=
  Below w.heap.size w W ∧ ∃ (k : Nat) (v : Value) (pq : Option Addr) (lq : List Int) (cq r : Nat), (∃ u : Nat → Value, a' = { tmps := #[.slice p a.length ca, vb, u 2, u 3, u 4, u 5, .slice pq lq.length cq, v, .int .i64 ((k : Int) - 1), u 9, u 10, u 11, u 12, u 13, u 14, u 15, u 16, u 17, u 18, u 19, u 20, u 21, u 22, u 23, u 24, u 25, u 26, u 27, u 28, u 29, u 30, u 31, u 32, u 33, u 34, u 35, u 36, u 37, u 38], defers := [] }) ∧ k ≤ a.length ∧
    Bits W v r ∧ r < n ∧ DigsIn W pq lq ∧ Dig lq ∧ (pq = none → lq = [] ∧ cq = 0) ∧ (lq.length ≤ cq ∧ cq ≤ 9223372036854775807) ∧ lq.length + k = a.length ∧ valD (a.drop k) = valD lq * n + r
set_option maxRecDepth 100000 in
set_option maxHeartbeats 8000000 in
theorem parts_w (p : Option Addr) (a : List Int) (ca n : Nat) (vb : Value) (w : World) (ha : DigsIn w p a) (hb : Bits w vb n) (hda : Dig a) (hla : a.length ≤ 800) (hn0 : 0 < n) (hn : n < 2 ^ 800) :
    Calls Tryz.prog 115 #[.slice p a.length ca, vb] w fun e w' => ∃ v1 v2, e = .returned (.tuple #[v1, v2]) ∧ Bits w' v1 (valD a / n) ∧ Bits w' v2 (valD a % n) ∧ Below w.heap.size w w' := by
  obtain ⟨i0, hi, hz0, hz1, hz2⟩ := info_parts Tryz.infoI
  go_enter Tryz.func115, Tryz.ntmps115
  go_wp2
  refine wp_loop (parRel w p a n ca vb) (fun a' _ => ((intAt (a'.tmps.getD 8 undef)) + 1).toNat) ?_ ?_
  · unfold parRel
    exact ⟨Below.refl _ _, a.length, _, none, [], 0, 0, frame_ex rfl, Nat.le_refl _, Bits.zero _, hn0, ⟨fun i x h => by simp at h, fun a e => by cases e⟩, Dig.nil, fun _ => ⟨rfl, rfl⟩, by simp, by simp, by rw [List.drop_eq_nil_of_le (Nat.le_refl _)]; simp [valD]⟩
  · rintro a' W ⟨hW, k, v, pq, lq, cq, r, ⟨u, rfl⟩, hk, hv, hr, hiq, hdq, hnq, hcq, hlq, hinv⟩
    have hz := hW.size
    replace hinv := Lib.hid hinv
    replace hnq := Lib.hid hnq
    replace hr := Lib.hid hr
    cases k with
    | zero =>
      replace hv := Lib.hid hv
      have ct := Lib.hid (fun W' (hW' : Below W.heap.size W W') => c_trim pq cq lq W' (hiq.below hW') hnq.out hcq.1 hcq.2 (by omega) hdq)
      clear hiq
      go_wp2_with fail
      refine (ct.out _ (Below.refl _ _)).mono ?_
      rintro e w2 ⟨v2, rfl, hb2, hB2⟩
      replace hb2 := Lib.hid hb2
      have hv2 := Lib.hid (hv.out.below hB2)
      have hBB := Lib.hid (hW.trans (hB2.mono hz))
      clear hB2 ct
      go_wp2
      have hin := hinv.out
      have hrn := hr.out
      rw [List.drop_zero] at hin
      have e1 : valD a / n = valD lq := by rw [hin, Nat.add_comm, Nat.add_mul_div_right _ _ hn0, Nat.div_eq_of_lt hrn, Nat.zero_add]
      have e2 : valD a % n = r := by rw [hin, Nat.add_comm, Nat.add_mul_mod_self_right, Nat.mod_eq_of_lt hrn]
      refine bodyPost_ret (v := .tuple #[v2, v]) (by simp [results, Tryz.results115, go_sem]) rfl ⟨_, _, rfl, by rw [e1]; exact hb2.out, by rw [e2]; exact hv2.out, hBB.out⟩
    | succ j =>
      obtain ⟨y, hy⟩ : ∃ y, a[j]? = some y := ⟨a[j], List.getElem?_eq_getElem (by omega)⟩
      obtain ⟨ga, oa, rfl, qb⟩ := (ha.below hW).at' _ y hy
      obtain ⟨pl, l, cl, rfl, hlc, hl1, hln, hil, hdl, hcl, hvl⟩ := hv
      replace hvl := Lib.hid hvl
      replace hln := Lib.hid hln
      have by01 := hda.at hy
      have hstep := Lib.hid (valD_drop hy)
      have hl9 : l.length ≤ 800 := canon_len hcl (by rw [hvl.out]; exact Nat.lt_trans hr.out hn)
      have hn9 := Lib.hid (Nat.lt_trans hn (pow_lt2 800 900 (by omega)))
      have hiq0 := Lib.hid hiq
      have e0 : ((j + 1 : Nat) : Int) - 1 = (j : Int) := by omega
      rw [e0]
      clear hy e0 hiq hn
      cases pl with
      | none =>
        obtain ⟨rfl, rfl⟩ := hln.out rfl
        have ct := Lib.hid (fun W' (hW' : Below (W.alloc (.cells #[.int .i64 y] 3)).heap.size (W.alloc (.cells #[.int .i64 y] 3)) W') => c_trim (some ⟨W.heap.size, 0, none⟩) 1 [y] W' ((fresh_ints W y).below hW') (fun e => by cases e) (by simp) (by omega) (by simp) (Dig.nil.cons by01))
        have hB := hW.alloc hz (.cells #[.int .i64 y] 3)
        have hW1 := Lib.hid ((Below.refl W.heap.size W).alloc (Nat.le_refl _) (.cells #[.int .i64 y] 3))
        have hz3 := hW1.out.size
        replace hB := Lib.hid hB
        have hs1 := hB.out.size
        go_wp2_with fail
        refine (ct.out _ (Below.refl _ _)).mono ?_
        rintro e w2 ⟨v2, rfl, hb2, hB2⟩
        obtain ⟨R, hR⟩ : ∃ R, R = valD (y :: []) := ⟨_, rfl⟩
        have hz4 : W.heap.size ≤ w2.heap.size := Nat.le_trans hz3 hB2.size
        have hRlt : R < 2 ^ 801 := by rw [hR]; exact valD_pow (k := 801) (hdl.cons by01) (by simp <;> omega)
        have hR2 : R = y.toNat + 2 * r := by rw [hR, ← hvl.out]; rfl
        rw [← hR] at hb2
        clear hR
        have hRl := Lib.hid (Nat.lt_trans hRlt (pow_lt2 801 900 (by omega)))
        replace hb2 := Lib.hid hb2
        have hBB := Lib.hid (hB.out.trans (hB2.mono hs1))
        have hs2 := hBB.out.size
        have cl := Lib.hid (c_less v2 vb R n w2 hb2.out (hb.below hBB.out) hRl.out hn9.out)
        have hW2 := Lib.hid (hW1.out.trans (hB2.mono hz3))
        clear hB2 hB ct hs1 qb hRlt
        replace hR2 := Lib.hid hR2
        go_wp2_with fail
        refine cl.out.mono ?_
        rintro e w3 ⟨rfl, hB3⟩
        have hb3 := Lib.hid (hb2.out.below hB3)
        have hB4 := Lib.hid (hBB.out.trans (hB3.mono hs2))
        have hW3 := Lib.hid (hW2.out.trans (hB3.mono hz4))
        clear hB3 cl
        by_cases hlt : R < n
        · have hlt2 := Lib.hid hlt
          have hinv2 := Lib.hid (show valD (a.drop j) = valD (0 :: lq) * n + R by
            rw [hstep.out, hinv.out, hR2.out]
            simp only [valD]
            rw [show (0 : Int).toNat = 0 from rfl, Nat.zero_add, Nat.mul_assoc]
            omega)
          have hd := Lib.hid (show decide (R < n) = true by simp [hlt])
          rw [hd.out]
          clear hlt
          have hzs := hB4.out.size
          cases pq with
          | none =>
            obtain ⟨rfl, rfl⟩ := hnq.out rfl
            go_wp2
            refine ⟨?_, by simp [intAt]⟩
            unfold parRel
            have hA := hB4.out.alloc hzs (.cells #[.int .i64 0] 3)
            exact ⟨hA, j, v2, some ⟨w3.heap.size, 0, none⟩, [0], 1, R, frame_ex rfl, by omega, hb3.out.below ((Below.refl _ _).alloc (Nat.le_refl _) _), hlt2.out, fresh_ints w3 0, Dig.nil.cons (by omega), (fun e => by cases e), by simp, by simp at hlq ⊢; omega, hinv2.out⟩
          | some aq =>
            have TT := hiq0.out.below hW3.out
            have T4 : 1 + lq.length ≤ maxLen := by simp [maxLen]; omega
            have T5 : (1 + lq.length) * 8 ≤ 140737488355328 := by omega
            have T6 : w.heap.size ≤ (w3.alloc (.cells #[.int .i64 0] 3)).heap.size := by simp; omega
            go_wp2_with (at_builtin; refine wpList_append_own _ rfl (.tmp 33) (.tmp 34) 132 rfl w.heap.size 3 i0 (.int .i64 0) 1 8 (by kernel_rfl) hi hz0 hz1 hz2 rfl (by decide) _ 1 [.int .i64 0] rfl (row_fresh w3 0 hzs) aq lq.length cq (lq.map (Value.int .i64)) rfl (by simp) (ints_new TT) (ints_one lq) T4 T5 T6 ?_)
            clear TT T4 T5 T6
            intro v' w5 hown hgr _
            obtain ⟨p', cap', rfl, hcap, hcm, hn', hI⟩ := row_ints (l := 0 :: lq) hown (by simp; omega)
            have hA := Lib.hid ((hB4.out.alloc hzs (.cells #[.int .i64 0] 3)).grown hgr (by simp; omega) fun j ej => by
              obtain rfl : w3.heap.size = j := by simpa [Value.ownBlock] using ej
              exact hzs)
            have hA2 := Lib.hid (((Below.refl w3.heap.size w3).alloc (Nat.le_refl _) (.cells #[.int .i64 0] 3)).grown hgr (by simp) fun j ej => by
              obtain rfl : w3.heap.size = j := by simpa [Value.ownBlock] using ej
              exact Nat.le_refl _)
            replace hI := Lib.hid hI
            replace hn' := Lib.hid hn'
            clear hown hgr
            go_wp2
            refine ⟨?_, by simp [intAt]⟩
            unfold parRel
            exact ⟨hA.out, j, v2, p', 0 :: lq, cap', R, frame_ex rfl, by omega, hb3.out.below hA2.out, hlt2.out, hI.out, hdq.cons (by omega), (fun e => absurd (hn'.out e).1 (by simp)), ⟨hcap, hcm⟩, by simp; omega, hinv2.out⟩
        · have hlt2 := Lib.hid (show R - n < n by have := hR2.out; have := hr.out; omega)
          have hinv2 := Lib.hid (show valD (a.drop j) = valD (1 :: lq) * n + (R - n) by
            rw [hstep.out, hinv.out]
            simp only [valD]
            rw [show (1 : Int).toNat = 1 from rfl, Nat.add_mul, Nat.mul_assoc]
            have := hR2.out
            omega)
          have hd := Lib.hid (show decide (R < n) = false by simp; omega)
          rw [hd.out]
          have cm := Lib.hid (c_minus v2 vb R n w3 hb3.out (hb.below hB4.out) hRl.out (by omega))
          have hs4 := hB4.out.size
          go_wp2_with fail
          refine cm.out.mono ?_
          rintro e w4 ⟨v4, rfl, hb5, hB5⟩
          replace hb5 := Lib.hid hb5
          have hB6 := Lib.hid (hB4.out.trans (hB5.mono hs4))
          have hz5 : W.heap.size ≤ w3.heap.size := hW3.out.size
          have hW4 := Lib.hid (hW3.out.trans (hB5.mono hz5))
          clear hB5 cm
          have hzs := hB6.out.size
          cases pq with
          | none =>
            obtain ⟨rfl, rfl⟩ := hnq.out rfl
            go_wp2
            refine ⟨?_, by simp [intAt]⟩
            unfold parRel
            have hA := hB6.out.alloc hzs (.cells #[.int .i64 1] 3)
            exact ⟨hA, j, v4, some ⟨w4.heap.size, 0, none⟩, [1], 1, (R - n), frame_ex rfl, by omega, hb5.out.below ((Below.refl _ _).alloc (Nat.le_refl _) _), hlt2.out, fresh_ints w4 1, Dig.nil.cons (by omega), (fun e => by cases e), by simp, by simp at hlq ⊢; omega, hinv2.out⟩
          | some aq =>
            have TT := hiq0.out.below hW4.out
            have T4 : 1 + lq.length ≤ maxLen := by simp [maxLen]; omega
            have T5 : (1 + lq.length) * 8 ≤ 140737488355328 := by omega
            have T6 : w.heap.size ≤ (w4.alloc (.cells #[.int .i64 1] 3)).heap.size := by simp; omega
            go_wp2_with (at_builtin; refine wpList_append_own _ rfl (.tmp 33) (.tmp 34) 132 rfl w.heap.size 3 i0 (.int .i64 0) 1 8 (by kernel_rfl) hi hz0 hz1 hz2 rfl (by decide) _ 1 [.int .i64 1] rfl (row_fresh w4 1 hzs) aq lq.length cq (lq.map (Value.int .i64)) rfl (by simp) (ints_new TT) (ints_one lq) T4 T5 T6 ?_)
            clear TT T4 T5 T6
            intro v' w5 hown hgr _
            obtain ⟨p', cap', rfl, hcap, hcm, hn', hI⟩ := row_ints (l := 1 :: lq) hown (by simp; omega)
            have hA := Lib.hid ((hB6.out.alloc hzs (.cells #[.int .i64 1] 3)).grown hgr (by simp; omega) fun j ej => by
              obtain rfl : w4.heap.size = j := by simpa [Value.ownBlock] using ej
              exact hzs)
            have hA2 := Lib.hid (((Below.refl w4.heap.size w4).alloc (Nat.le_refl _) (.cells #[.int .i64 1] 3)).grown hgr (by simp) fun j ej => by
              obtain rfl : w4.heap.size = j := by simpa [Value.ownBlock] using ej
              exact Nat.le_refl _)
            replace hI := Lib.hid hI
            replace hn' := Lib.hid hn'
            clear hown hgr
            go_wp2
            refine ⟨?_, by simp [intAt]⟩
            unfold parRel
            exact ⟨hA.out, j, v4, p', 1 :: lq, cap', (R - n), frame_ex rfl, by omega, hb5.out.below hA2.out, hlt2.out, hI.out, hdq.cons (by omega), (fun e => absurd (hn'.out e).1 (by simp)), ⟨hcap, hcm⟩, by simp; omega, hinv2.out⟩
      | some ad =>
        go_wp2_with (at_builtin; refine wpList_append_own _ rfl (.tmp 21) (.tmp 22) 132 rfl w.heap.size 3 i0 (.int .i64 0) 1 8 (by kernel_rfl) hi hz0 hz1 hz2 rfl (by decide) _ 1 [.int .i64 y] rfl (row_fresh W y hz) ad l.length cl (l.map (Value.int .i64)) rfl (by simp) (ints_new hil) (ints_one l) (by simp [maxLen]; omega) (by omega) (by simp; omega) ?_)
        intro v' w1 hown hgr _
        obtain ⟨p', cap', rfl, hcap, hcm, hn', hI⟩ := row_ints (l := y :: l) hown (by simp; omega)
        have hB := (hW.alloc hz (.cells #[.int .i64 y] 3)).grown hgr (by simp; omega) fun j ej => by
          obtain rfl : W.heap.size = j := by simpa [Value.ownBlock] using ej
          exact hz
        have hW1 := Lib.hid (((Below.refl W.heap.size W).alloc (Nat.le_refl _) (.cells #[.int .i64 y] 3)).grown hgr (by simp) fun j ej => by
          obtain rfl : W.heap.size = j := by simpa [Value.ownBlock] using ej
          exact Nat.le_refl _)
        have hz3 := hW1.out.size
        have ct := Lib.hid (fun W' (hW' : Below w1.heap.size w1 W') => c_trim p' cap' (y :: l) W' (hI.below hW') hn' hcap hcm (by simp; omega) (hdl.cons by01))
        clear hown hgr hI
        replace hB := Lib.hid hB
        have hs1 := hB.out.size
        go_wp2_with fail
        refine (ct.out _ (Below.refl _ _)).mono ?_
        rintro e w2 ⟨v2, rfl, hb2, hB2⟩
        obtain ⟨R, hR⟩ : ∃ R, R = valD (y :: l) := ⟨_, rfl⟩
        have hz4 : W.heap.size ≤ w2.heap.size := Nat.le_trans hz3 hB2.size
        have hRlt : R < 2 ^ 801 := by rw [hR]; exact valD_pow (k := 801) (hdl.cons by01) (by simp <;> omega)
        have hR2 : R = y.toNat + 2 * r := by rw [hR, ← hvl.out]; rfl
        rw [← hR] at hb2
        clear hR
        have hRl := Lib.hid (Nat.lt_trans hRlt (pow_lt2 801 900 (by omega)))
        replace hb2 := Lib.hid hb2
        have hBB := Lib.hid (hB.out.trans (hB2.mono hs1))
        have hs2 := hBB.out.size
        have cl := Lib.hid (c_less v2 vb R n w2 hb2.out (hb.below hBB.out) hRl.out hn9.out)
        have hW2 := Lib.hid (hW1.out.trans (hB2.mono hz3))
        clear hB2 hB ct hs1 qb hRlt
        replace hR2 := Lib.hid hR2
        go_wp2_with fail
        refine cl.out.mono ?_
        rintro e w3 ⟨rfl, hB3⟩
        have hb3 := Lib.hid (hb2.out.below hB3)
        have hB4 := Lib.hid (hBB.out.trans (hB3.mono hs2))
        have hW3 := Lib.hid (hW2.out.trans (hB3.mono hz4))
        clear hB3 cl
        by_cases hlt : R < n
        · have hlt2 := Lib.hid hlt
          have hinv2 := Lib.hid (show valD (a.drop j) = valD (0 :: lq) * n + R by
            rw [hstep.out, hinv.out, hR2.out]
            simp only [valD]
            rw [show (0 : Int).toNat = 0 from rfl, Nat.zero_add, Nat.mul_assoc]
            omega)
          have hd := Lib.hid (show decide (R < n) = true by simp [hlt])
          rw [hd.out]
          clear hlt
          have hzs := hB4.out.size
          cases pq with
          | none =>
            obtain ⟨rfl, rfl⟩ := hnq.out rfl
            go_wp2
            refine ⟨?_, by simp [intAt]⟩
            unfold parRel
            have hA := hB4.out.alloc hzs (.cells #[.int .i64 0] 3)
            exact ⟨hA, j, v2, some ⟨w3.heap.size, 0, none⟩, [0], 1, R, frame_ex rfl, by omega, hb3.out.below ((Below.refl _ _).alloc (Nat.le_refl _) _), hlt2.out, fresh_ints w3 0, Dig.nil.cons (by omega), (fun e => by cases e), by simp, by simp at hlq ⊢; omega, hinv2.out⟩
          | some aq =>
            have TT := hiq0.out.below hW3.out
            have T4 : 1 + lq.length ≤ maxLen := by simp [maxLen]; omega
            have T5 : (1 + lq.length) * 8 ≤ 140737488355328 := by omega
            have T6 : w.heap.size ≤ (w3.alloc (.cells #[.int .i64 0] 3)).heap.size := by simp; omega
            go_wp2_with (at_builtin; refine wpList_append_own _ rfl (.tmp 33) (.tmp 34) 132 rfl w.heap.size 3 i0 (.int .i64 0) 1 8 (by kernel_rfl) hi hz0 hz1 hz2 rfl (by decide) _ 1 [.int .i64 0] rfl (row_fresh w3 0 hzs) aq lq.length cq (lq.map (Value.int .i64)) rfl (by simp) (ints_new TT) (ints_one lq) T4 T5 T6 ?_)
            clear TT T4 T5 T6
            intro v' w5 hown hgr _
            obtain ⟨p', cap', rfl, hcap, hcm, hn', hI⟩ := row_ints (l := 0 :: lq) hown (by simp; omega)
            have hA := Lib.hid ((hB4.out.alloc hzs (.cells #[.int .i64 0] 3)).grown hgr (by simp; omega) fun j ej => by
              obtain rfl : w3.heap.size = j := by simpa [Value.ownBlock] using ej
              exact hzs)
            have hA2 := Lib.hid (((Below.refl w3.heap.size w3).alloc (Nat.le_refl _) (.cells #[.int .i64 0] 3)).grown hgr (by simp) fun j ej => by
              obtain rfl : w3.heap.size = j := by simpa [Value.ownBlock] using ej
              exact Nat.le_refl _)
            replace hI := Lib.hid hI
            replace hn' := Lib.hid hn'
            clear hown hgr
            go_wp2
            refine ⟨?_, by simp [intAt]⟩
            unfold parRel
            exact ⟨hA.out, j, v2, p', 0 :: lq, cap', R, frame_ex rfl, by omega, hb3.out.below hA2.out, hlt2.out, hI.out, hdq.cons (by omega), (fun e => absurd (hn'.out e).1 (by simp)), ⟨hcap, hcm⟩, by simp; omega, hinv2.out⟩
        · have hlt2 := Lib.hid (show R - n < n by have := hR2.out; have := hr.out; omega)
          have hinv2 := Lib.hid (show valD (a.drop j) = valD (1 :: lq) * n + (R - n) by
            rw [hstep.out, hinv.out]
            simp only [valD]
            rw [show (1 : Int).toNat = 1 from rfl, Nat.add_mul, Nat.mul_assoc]
            have := hR2.out
            omega)
          have hd := Lib.hid (show decide (R < n) = false by simp; omega)
          rw [hd.out]
          have cm := Lib.hid (c_minus v2 vb R n w3 hb3.out (hb.below hB4.out) hRl.out (by omega))
          have hs4 := hB4.out.size
          go_wp2_with fail
          refine cm.out.mono ?_
          rintro e w4 ⟨v4, rfl, hb5, hB5⟩
          replace hb5 := Lib.hid hb5
          have hB6 := Lib.hid (hB4.out.trans (hB5.mono hs4))
          have hz5 : W.heap.size ≤ w3.heap.size := hW3.out.size
          have hW4 := Lib.hid (hW3.out.trans (hB5.mono hz5))
          clear hB5 cm
          have hzs := hB6.out.size
          cases pq with
          | none =>
            obtain ⟨rfl, rfl⟩ := hnq.out rfl
            go_wp2
            refine ⟨?_, by simp [intAt]⟩
            unfold parRel
            have hA := hB6.out.alloc hzs (.cells #[.int .i64 1] 3)
            exact ⟨hA, j, v4, some ⟨w4.heap.size, 0, none⟩, [1], 1, (R - n), frame_ex rfl, by omega, hb5.out.below ((Below.refl _ _).alloc (Nat.le_refl _) _), hlt2.out, fresh_ints w4 1, Dig.nil.cons (by omega), (fun e => by cases e), by simp, by simp at hlq ⊢; omega, hinv2.out⟩
          | some aq =>
            have TT := hiq0.out.below hW4.out
            have T4 : 1 + lq.length ≤ maxLen := by simp [maxLen]; omega
            have T5 : (1 + lq.length) * 8 ≤ 140737488355328 := by omega
            have T6 : w.heap.size ≤ (w4.alloc (.cells #[.int .i64 1] 3)).heap.size := by simp; omega
            go_wp2_with (at_builtin; refine wpList_append_own _ rfl (.tmp 33) (.tmp 34) 132 rfl w.heap.size 3 i0 (.int .i64 0) 1 8 (by kernel_rfl) hi hz0 hz1 hz2 rfl (by decide) _ 1 [.int .i64 1] rfl (row_fresh w4 1 hzs) aq lq.length cq (lq.map (Value.int .i64)) rfl (by simp) (ints_new TT) (ints_one lq) T4 T5 T6 ?_)
            clear TT T4 T5 T6
            intro v' w5 hown hgr _
            obtain ⟨p', cap', rfl, hcap, hcm, hn', hI⟩ := row_ints (l := 1 :: lq) hown (by simp; omega)
            have hA := Lib.hid ((hB6.out.alloc hzs (.cells #[.int .i64 1] 3)).grown hgr (by simp; omega) fun j ej => by
              obtain rfl : w4.heap.size = j := by simpa [Value.ownBlock] using ej
              exact hzs)
            have hA2 := Lib.hid (((Below.refl w4.heap.size w4).alloc (Nat.le_refl _) (.cells #[.int .i64 1] 3)).grown hgr (by simp) fun j ej => by
              obtain rfl : w4.heap.size = j := by simpa [Value.ownBlock] using ej
              exact Nat.le_refl _)
            replace hI := Lib.hid hI
            replace hn' := Lib.hid hn'
            clear hown hgr
            go_wp2
            refine ⟨?_, by simp [intAt]⟩
            unfold parRel
            exact ⟨hA.out, j, v4, p', 1 :: lq, cap', (R - n), frame_ex rfl, by omega, hb5.out.below hA2.out, hlt2.out, hI.out, hdq.cons (by omega), (fun e => absurd (hn'.out e).1 (by simp)), ⟨hcap, hcm⟩, by simp; omega, hinv2.out⟩
theorem c_refparts (va vb : Value) (m n : Nat) (w : World) (ha : Bits w va m) (hb : Bits w vb n) (hm : m < 2 ^ 800) (hn0 : 0 < n) (hn : n < 2 ^ 800) :
    Calls Tryz.prog 115 #[va, vb] w fun e w' => ∃ v1 v2, e = .returned (.tuple #[v1, v2]) ∧ Bits w' v1 (m / n) ∧ Bits w' v2 (m % n) ∧ Below w.heap.size w w' := by
  obtain ⟨p, a, ca, rfl, _, _, _, hia, hda, hca, rfl⟩ := ha
  exact parts_w p a ca n vb w hia hb hda (canon_len hca hm) hn0 hn
end Go.Proofs.YtbanjolokkghdaaGreatDoor
namespace Go.Proofs.YtbanjolokkghdaaGreatDoor
open Go.RowKit
theorem bits_len {w : World} {v : Value} {n : Nat} (h : Bits w v n) : ∃ (p : Option Addr) (l : List Int) (cap : Nat), v = .slice p l.length cap ∧ (0 < l.length ↔ 0 < n) ∧ l.length ≤ 1000 := by
  obtain ⟨p, l, cap, rfl, _, hl, _, _, hd, hc, rfl⟩ := h
  refine ⟨p, l, cap, rfl, ⟨fun h => Nat.lt_of_lt_of_le (Nat.pos_of_ne_zero (by simp)) (canon_pos hc (by rintro rfl; simp at h)), fun h => ?_⟩, hl⟩
  rcases Nat.eq_zero_or_pos l.length with h1 | h1
  · have : l = [] := List.length_eq_zero_iff.1 h1
    subst this
    simp [valD] at h
  · exact h1
set_option maxRecDepth 100000 in
set_option maxHeartbeats 4000000 in
theorem c_refmade (b : Bool) (v : Value) (n : Nat) (w : World) (h : Bits w v n) :
    Calls Tryz.prog 116 #[.bool b, v] w fun e w' => e = .returned (.agg #[.bool (b && decide (0 < n)), v]) ∧ Below w.heap.size w w' := by
  obtain ⟨p, l, cap, rfl, hp, hl⟩ := bits_len h
  replace hp := Lib.hid hp
  clear h
  go_enter Tryz.func116, Tryz.ntmps116
  cases b with
  | false =>
    go_wp2
    refine bodyPost_ret (v := .agg #[.bool false, .slice p l.length cap]) (by simp [results, Tryz.results116, go_sem]) rfl ⟨rfl, (Below.refl _ _).alloc (Nat.le_refl _) _⟩
  | true =>
    go_wp2
    refine bodyPost_ret (v := .agg #[.bool (decide (0 < l.length)), .slice p l.length cap]) (by simp [results, Tryz.results116, go_sem]) rfl ⟨by simp [hp.out], (Below.refl _ _).alloc (Nat.le_refl _) _⟩
end Go.Proofs.YtbanjolokkghdaaGreatDoor
