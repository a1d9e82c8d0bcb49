/- Parts of the proof that follows: WindowSizes, walked: the segments of its own. No condition but that the row can be read. | A run of closed code, whatever order is drawn and however much room append makes: the runner, on numbered memory of its own. No condition. -/
import Derived.RangeFuncLeaves
import Derived.Laws.Tables
import Derived.Test.YtbanjolokkghdaaGreatDoorWz28
set_option linter.unusedSimpArgs false
set_option linter.unusedVariables false
namespace Go.Proofs.YtbanjolokkghdaaGreatDoor
open Go.RowKit
/-- A row that lies in a block of a type. -/
def RowT (w : World) (e : TypeId) (p : Option Addr) (k : Nat) (xs : List Value) : Prop := ∃ g cur, p = some ⟨g, 0, none⟩ ∧ Blk w g cur e ∧ cur.toList.take k = xs
theorem RowT.below {w w' : World} {e : TypeId} {p : Option Addr} {k : Nat} {xs : List Value} (h : RowT w e p k xs) (hb : Below w.heap.size w w') : RowT w' e p k xs := by
  obtain ⟨g, cur, h1, h2, h3⟩ := h
  exact ⟨g, cur, h1, h2.below hb, h3⟩
theorem RowT.grown {w w' : World} {e e' : TypeId} {p : Option Addr} {k B n s : Nat} {xs xs' : List Value} {v : Value} {o : Obj} (h : RowT w e p k xs) (ho : w.ownsRow B e' s v n xs') (hne : e ≠ e') (hg : (w.alloc o).grownBy w' v.ownBlock) : RowT w' e p k xs := by
  obtain ⟨g, cur, h1, h2, h3⟩ := h
  exact ⟨g, cur, h1, Blk.grown h2 ho hne hg, h3⟩
theorem RowT.setT {w : World} {e t : TypeId} {p : Option Addr} {k o j : Nat} {xs : List Value} {cs : Array Value} {u : Value} (h : RowT w e p k xs) (hb : Blk w o cs t) (hne : e ≠ t) : RowT (w.setCell ⟨o, j, none⟩ u) e p k xs := by
  obtain ⟨g, cur, h1, h2, h3⟩ := h
  refine ⟨g, cur, h1, h2.setO ?_ j u, h3⟩
  rintro rfl
  unfold Blk at h2 hb
  rw [h2] at hb
  injection hb with hb
  injection hb with _ h4 _
  exact hne h4
theorem runs_flatP {w : World} {p : Option Addr} {a : Addr} {l : List RunT} (h : RunsIn w p l) (ha : p = some a) : ∀ j u, (flatCells l)[j]? = some u → w.cell? (a.add j) = some u := by subst ha; exact fun j u hu => h.flat j u hu
theorem ints_flatP {w : World} {p : Option Addr} {a : Addr} {l : List Int} (h : IntsIn w p l) (ha : p = some a) : ∀ j u, (l.map (Value.int .i64))[j]? = some u → w.cell? (a.add j) = some u := by subst ha; exact fun j u hu => ints_flat h j u hu
structure SegRowT (w : World) (x : SegR) : Prop where
  runs : RowT w 94 x.p (x.s.runs.length * 3) (flatCells x.s.runs)
  raw : RowT w 2 x.q x.s.raw.length (x.s.raw.map (Value.int .i64))
  cap : x.s.raw.length ≤ x.vc
  fewR : x.s.runs.length ≤ 300
  fewV : x.s.raw.length ≤ 300
theorem SegRowT.below {w w' : World} {x : SegR} (h : SegRowT w x) (hb : Below w.heap.size w w') : SegRowT w' x := ⟨h.runs.below hb, h.raw.below hb, h.cap, h.fewR, h.fewV⟩
theorem SegRowT.inn {w : World} {x : SegR} (h : SegRowT w x) : SegIn w x.s x.p x.q := by
  obtain ⟨g, cur, h1, h2, h3⟩ := h.runs
  obtain ⟨g', cur', h1', h2', h3'⟩ := h.raw
  exact ⟨by rw [h1]; exact cloneRun_in h2 h3, by rw [h1']; exact cloneInt_in h2' h3', h.fewR, h.fewV⟩
structure SegRowsT (w : World) (l : List SegR) : Prop where
  at' : ∀ x, x ∈ l → SegRowT w x
theorem SegRowsT.below {w w' : World} {l : List SegR} (h : SegRowsT w l) (hb : Below w.heap.size w w') : SegRowsT w' l := ⟨fun x hx => (h.at' x hx).below hb⟩
theorem few_rowsT {w w' : World} {B n s : Nat} {RL : List SegR} {x : SegR} {v : Value} {xs : List Value} {o : Obj} (ho : w.ownsRow B 29 s v n xs) (h : SegRowsT w RL) (hx : SegRowT w x) (hg : (w.alloc o).grownBy w' v.ownBlock) : SegRowsT w' (RL ++ [x]) := ⟨fun y hy => by
  have k : ∀ {y : SegR}, SegRowT w y → SegRowT w' y := fun h => ⟨h.runs.grown ho (by decide) hg, h.raw.grown ho (by decide) hg, h.cap, h.fewR, h.fewV⟩
  rcases List.mem_append.1 hy with h1 | h1
  · exact k (h.at' y h1)
  · rw [List.mem_singleton.1 h1]; exact k hx⟩
theorem OwnR.segsT {W : World} {B n : Nat} {e : TypeId} {v : Value} {RL : List SegR} (h : OwnR W B e 8 v n (flatSegs RL)) (hP : SegRowsT W RL) : ∀ {p : Option Addr} {cap : Nat}, v = .slice p n cap → SegsIn W p (RL.map (·.s)) := fun {p cap} hv => by
  rcases h.own.2 with ⟨h1, h0⟩ | ⟨g, cap', cur, h1, hg, hb, hn, hmx, _, ht⟩
  · have h2 := h.own.1
    rw [flatSegs_len, h0] at h2
    have : RL = [] := List.length_eq_zero_iff.1 (by omega)
    subst this
    exact ⟨fun i r hr => by simp at hr⟩
  · rw [h1] at hv
    injection hv with h2 _ _
    subst h2
    refine ⟨fun i r hr => ?_⟩
    rw [List.getElem?_map] at hr
    obtain ⟨x, hx, rfl⟩ := Option.map_eq_some_iff.1 hr
    have hm := hP.at' x (List.mem_of_getElem? hx)
    refine ⟨g, 0, x.p, x.q, x.cap, x.vc, rfl, fun j v hv => ?_, hm.inn, hm.cap⟩
    have h3 : (flatSegs RL)[i * 8 + j]? = some v := flat_to _ 8 segRA_len RL i x j v hx (by simpa [segRA] using hv)
    rw [cell_of_row W g _ cur e (0, 0) hb, Nat.zero_add]
    exact row_take ht h3
def szRel (w : World) (p : Option Addr) (cap : Nat) (rows : List SegR) (a' : Act) (W : World) : Prop :=
  Below w.heap.size w W ∧ ∃ (i : Nat) (v : Value) (RL : List SegR) (R : Bool), (∃ u : Nat → Value, a' = { tmps := #[.slice p rows.length cap, u 1, .bool false, v, .bool R, u 5, u 6, u 7, u 8, u 9, u 10, .slice p rows.length cap, .int .i64 (rows.length : Int), .int .i64 (i : Int), u 14, u 15, u 16, u 17, u 18, u 19, u 20, u 21, u 22, u 23, u 24, u 25, u 26, u 27, u 28, u 29, u 30, u 31, u 32, u 33, u 34, u 35, u 36, u 37, u 38, u 39, u 40, u 41, u 42, u 43, u 44, u 45, u 46, u 47, u 48, u 49, u 50, u 51, u 52, u 53, u 54, u 55, u 56, u 57, u 58, u 59, u 60, u 61, u 62, u 63, u 64, u 65, u 66, u 67, u 68, u 69, u 70], defers := [] }) ∧ OwnR W w.heap.size 29 8 v RL.length (flatSegs RL) ∧ SegRowsT W RL ∧ R = (RL.map (·.s)).all segB ∧ RL.length = i ∧ i ≤ rows.length ∧ i ≤ 12
set_option maxRecDepth 100000 in
set_option maxHeartbeats 8000000 in
theorem wsizes_w (p : Option Addr) (cap : Nat) (rows : List SegR) (w : World) (h : SegsCame w p rows) (hmx : rows.length ≤ 9223372036854775807)
    (c1 : Hid (∀ W, Below w.heap.size w W → Calls Tryz.prog 6 #[] W fun e w' => e = .returned (.bool true) ∧ Below w.heap.size w w')) :
    Calls Tryz.prog 3 #[.slice p rows.length cap] w fun e w' => e = .returned (.bool true) ∧ Below w.heap.size w w' := by
  obtain ⟨i0, hi, hz0, hz1, hz2⟩ := info_parts Tryz.infoSeg
  obtain ⟨iR, hiR, hzR0, hzR1, hzR2⟩ := info_parts Tryz.infoRun
  obtain ⟨iI, hiI, hzI0, hzI1, hzI2⟩ := info_parts Tryz.infoInt
  have hmkR : ∀ W, (Instr.buildSlice 24 0 #[]).run Tryz.prog W = .ok (.slice (some ⟨W.heap.size, 0, none⟩) 0 0) (W.alloc (.cells #[] 94)) := fun W => by kernel_rfl
  have hmkI : ∀ W, (Instr.buildSlice 27 0 #[]).run Tryz.prog W = .ok (.slice (some ⟨W.heap.size, 0, none⟩) 0 0) (W.alloc (.cells #[] 2)) := fun W => by kernel_rfl
  go_enter Tryz.func3, Tryz.ntmps3
  go_wp2_with fail
  refine (c1.out w (Below.refl _ _)).mono ?_
  rintro e w1 ⟨rfl, hW1⟩
  go_wp2
  refine wp_loop (szRel w p cap rows) (fun a' _ => rows.length - (intAt (a'.tmps.getD 13 undef)).toNat) ?_ ?_
  · unfold szRel
    exact ⟨hW1, 0, _, [], true, frame_ex rfl, OwnR.nil _ _ _ _, ⟨fun x hx => by cases hx⟩, rfl, rfl, Nat.zero_le _, Nat.zero_le _⟩
  clear hW1 c1
  rintro a' W ⟨hW, i, v, RL, R, ⟨u, rfl⟩, hown, hrows, hfl, hlR, hi', hi12⟩
  have hz := hW.size
  replace hfl := Lib.hid hfl
  replace hlR := Lib.hid hlR
  rcases Nat.lt_or_ge i rows.length with hlt | hge
  · obtain ⟨r0, tr⟩ : ∃ x, rows[i]? = some x := ⟨rows[i]'(by omega), List.getElem?_eq_getElem (by omega)⟩
    obtain ⟨b, o, rfl, hcs, hcm⟩ := (h.below hW) i _ tr
    have q0 : W.cell? ⟨b, o + i * 8, none⟩ = some (.int .i64 r0.s.K) := hcs 0 _ rfl
    have q1 : W.cell? ⟨b, o + i * 8 + 1, none⟩ = some (.slice r0.p r0.s.runs.length r0.cap) := hcs 1 _ rfl
    have q2 : W.cell? ⟨b, o + i * 8 + 2, none⟩ = some (.int .i64 r0.s.A) := hcs 2 _ rfl
    have q3 : W.cell? ⟨b, o + i * 8 + 3, none⟩ = some (.int .i64 r0.s.R) := hcs 3 _ rfl
    have q4 : W.cell? ⟨b, o + i * 8 + 4, none⟩ = some (.int .i64 r0.s.n) := hcs 4 _ rfl
    have q5 : W.cell? ⟨b, o + i * 8 + 5, none⟩ = some (.int .i64 r0.s.d) := hcs 5 _ rfl
    have q6 : W.cell? ⟨b, o + i * 8 + 6, none⟩ = some (.slice r0.q r0.s.raw.length r0.vc) := hcs 6 _ rfl
    have q7 : W.cell? ⟨b, o + i * 8 + 7, none⟩ = some (.int .i64 r0.s.E) := hcs 7 _ rfl
    have zq := cell_lt q0
    try simp only at zq
    clear hcs tr
    by_cases h12 : i = 12
    · subst h12
      clear hcm
      have hl12 : RL.length ≤ 12 := by have := hlR.out; omega
      replace hfl := hfl.out
      clear hlR
      obtain ⟨vp, vc, rfl, -, -, -, -⟩ := hown.form
      have hS := hown.segsT hrows rfl
      obtain ⟨L9, hRL⟩ : ∃ L9, RL.map (·.s) = L9 := ⟨_, rfl⟩
      rw [hRL] at hS hfl
      have hLl : L9.length = RL.length := by rw [← hRL, List.length_map]
      have hA2 : Below W.heap.size W (W.alloc (.cells #[.int .i64 r0.s.K, .slice r0.p r0.s.runs.length r0.cap, .int .i64 r0.s.A, .int .i64 r0.s.R, .int .i64 r0.s.n, .int .i64 r0.s.d, .slice r0.q r0.s.raw.length r0.vc, .int .i64 r0.s.E] 29)) := belowAny
      replace hS := hS.below hA2
      replace hW := hW.trans (hA2.mono hz)
      replace hz := hW.size
      clear hA2
      have cW := Lib.hid (fun W (h : SegsIn W vp L9) => c_wnSize vp vc L9 W h (by omega))
      have cZ := Lib.hid (fun W (h : SegsIn W vp L9) (ha : L9.all segB = true) => c_r13Size vp vc L9 W h (by omega) ha)
      rw [hLl] at cW cZ
      replace hLl := Lib.hid hLl
      replace hS := Lib.hid hS
      clear hown hrows hRL
      cases R with
      | true =>
        have hall := hfl.symm
        have cW' := Lib.hid (fun W h => by have t := cW.out W h; rw [if_pos hall, if_pos hall] at t; exact t)
        have cZ' := Lib.hid (fun W h => cZ.out W h hall)
        clear cW cZ
        obtain ⟨SS, hSS⟩ : ∃ SS : Int, (sumSz L9 : Int) = SS := ⟨_, rfl⟩
        rw [hSS] at cW' cZ'
        replace hall := Lib.hid hall
        clear hfl hSS
        go_wp2_with fail
        refine (cW'.out _ hS.out).mono ?_
        rintro e w5 ⟨rfl, hb5⟩
        have hS5 := hS.out.below hb5
        have hW5 := hW.trans (hb5.mono hz)
        clear hb5 hS hW
        go_wp2_with fail
        refine (cZ'.out w5 hS5).mono ?_
        rintro e w6 ⟨rfl, hb6⟩
        have hW6 := hW5.trans (hb6.mono hW5.size)
        clear hb6 hW5 hS5
        go_wp2
        go_ret
        exact ⟨by simp, hW6⟩
      | false =>
        have hall : ¬ L9.all segB = true := by rw [← hfl]; simp
        have cW' := Lib.hid (fun W h => by have t := cW.out W h; rw [if_neg hall, if_neg hall] at t; exact t)
        clear cW cZ
        replace hall := Lib.hid hall
        clear hfl
        go_wp2_with fail
        refine (cW'.out _ hS.out).mono ?_
        rintro e w5 ⟨rfl, hb5⟩
        have hW5 := hW.trans (hb5.mono hz)
        clear hb5 hS hW
        go_wp2
        go_ret
        exact ⟨rfl, hW5⟩
    · have hce : ((i : Int) == 12) = false := by simp; omega
      obtain ⟨M, hM⟩ : ∃ M, (r0.s.runs.take 300).length = M := ⟨_, rfl⟩
      obtain ⟨K, hK⟩ : ∃ K, (r0.s.raw.take 300).length = K := ⟨_, rfl⟩
      have lM := hM
      have lK := hK
      rw [List.length_take] at lM lK
      have hR0 := hcm.runs.take 300
      have hV0 := hcm.raw.take 300
      have hnilR : r0.p = none → M = 0 ∧ r0.cap = 0 := fun e => by have t := hcm.nilR e; rw [t.1] at lM; exact ⟨by simpa using lM.symm, t.2⟩
      have hnilV : r0.q = none → K = 0 ∧ r0.vc = 0 := fun e => by have t := hcm.nilV e; rw [t.1] at lK; exact ⟨by simpa using lK.symm, t.2⟩
      have hcR := hcm.capR
      have hcV := hcm.capV
      have hmR := hcm.maxR
      have hmV := hcm.maxV
      have hMc : (M : Int) ≤ r0.cap := by omega
      have hKc : (K : Int) ≤ r0.vc := by omega
      have hM3 : M ≤ 300 := by omega
      have hK3 : K ≤ 300 := by omega
      have hmin1 : ∀ ts t W, (Builtin.min_ ts t #[.int .i64 (r0.s.runs.length : Int), .int .i64 300]).run Tryz.prog W = .ok (.int .i64 (M : Int)) W := fun ts t W => by
        have e : (if (300 : Int) < (r0.s.runs.length : Int) then (300 : Int) else (r0.s.runs.length : Int)) = (M : Int) := by split <;> omega
        simp [Builtin.min_, Builtin.min2, e]
      have hmin2 : ∀ ts t W, (Builtin.min_ ts t #[.int .i64 (r0.s.raw.length : Int), .int .i64 300]).run Tryz.prog W = .ok (.int .i64 (K : Int)) W := fun ts t W => by
        have e : (if (300 : Int) < (r0.s.raw.length : Int) then (300 : Int) else (r0.s.raw.length : Int)) = (K : Int) := by split <;> omega
        simp [Builtin.min_, Builtin.min2, e]
      replace hM := Lib.hid hM
      replace hK := Lib.hid hK
      clear hcm lM lK
      have hA1 : Below W.heap.size W ((W.alloc (.cells #[.int .i64 r0.s.K, .slice r0.p r0.s.runs.length r0.cap, .int .i64 r0.s.A, .int .i64 r0.s.R, .int .i64 r0.s.n, .int .i64 r0.s.d, .slice r0.q r0.s.raw.length r0.vc, .int .i64 r0.s.E] 29)).alloc (.cells #[] 94)) := belowAny
      obtain ⟨_, w1, hr1, hB1, g1, c1', cur1, rfl, hg1, hb1, hc1, hs1, ht1⟩ := app_own (P := Tryz.prog) (W := ((W.alloc (.cells #[.int .i64 r0.s.K, .slice r0.p r0.s.runs.length r0.cap, .int .i64 r0.s.A, .int .i64 r0.s.R, .int .i64 r0.s.n, .int .i64 r0.s.d, .slice r0.q r0.s.raw.length r0.vc, .int .i64 r0.s.E] 29)).alloc (.cells #[] 94))) (g := W.heap.size + 1) (p := r0.p) (m := M) (c := r0.cap) (news := flatCells (r0.s.runs.take 300)) 24 24 94 iR _ 3 24 (by kernel_rfl) hiR hzR0 hzR1 hzR2 rfl (by omega) (by exact blkAny2) hnilR (by rw [length_flatCells, hM.out]) (fun a ha => runs_flatP (hR0.below hA1) ha) (fun u hu => by obtain ⟨x, rfl⟩ := flat_mem _ u hu; rfl) (by omega) (by omega)
      have hW1 := hA1.trans (hB1.mono hA1.size)
      have bS1 : Blk w1 W.heap.size #[.int .i64 r0.s.K, .slice r0.p r0.s.runs.length r0.cap, .int .i64 r0.s.A, .int .i64 r0.s.R, .int .i64 r0.s.n, .int .i64 r0.s.d, .slice r0.q r0.s.raw.length r0.vc, .int .i64 r0.s.E] 29 := Blk.below (by exact blkAny2) hB1
      have bS1' : Blk (w1.setCell ⟨W.heap.size, 1, none⟩ (.slice (some ⟨g1, 0, none⟩) M c1')) W.heap.size #[.int .i64 r0.s.K, .slice (some ⟨g1, 0, none⟩) M c1', .int .i64 r0.s.A, .int .i64 r0.s.R, .int .i64 r0.s.n, .int .i64 r0.s.d, .slice r0.q r0.s.raw.length r0.vc, .int .i64 r0.s.E] 29 := bS1.set2 (by rfl)
      have hW1' : Below W.heap.size W (w1.setCell ⟨W.heap.size, 1, none⟩ (.slice (some ⟨g1, 0, none⟩) M c1')) := hW1.setCell (p := ⟨W.heap.size, 1, none⟩) (by simp) _
      have rT1 : RowT (w1.setCell ⟨W.heap.size, 1, none⟩ (.slice (some ⟨g1, 0, none⟩) M c1')) 94 (some ⟨g1, 0, none⟩) (M * 3) (flatCells (r0.s.runs.take 300)) := RowT.setT ⟨g1, cur1, rfl, hb1, ht1⟩ bS1 (by decide)
      have hA2 : Below (w1.setCell ⟨W.heap.size, 1, none⟩ (.slice (some ⟨g1, 0, none⟩) M c1')).heap.size (w1.setCell ⟨W.heap.size, 1, none⟩ (.slice (some ⟨g1, 0, none⟩) M c1')) ((w1.setCell ⟨W.heap.size, 1, none⟩ (.slice (some ⟨g1, 0, none⟩) M c1')).alloc (.cells #[] 2)) := (Below.refl _ _).alloc (Nat.le_refl _) _
      have hX2 : Below W.heap.size W ((w1.setCell ⟨W.heap.size, 1, none⟩ (.slice (some ⟨g1, 0, none⟩) M c1')).alloc (.cells #[] 2)) := hW1'.alloc hW1'.size _
      obtain ⟨_, w2, hr2, hB2, g2, c2', cur2, rfl, hg2, hb2, hc2, hs2, ht2⟩ := app_own (P := Tryz.prog) (W := ((w1.setCell ⟨W.heap.size, 1, none⟩ (.slice (some ⟨g1, 0, none⟩) M c1')).alloc (.cells #[] 2))) (g := w1.heap.size) (p := r0.q) (m := K) (c := r0.vc) (news := (r0.s.raw.take 300).map (Value.int .i64)) 27 27 2 iI _ 1 8 (by kernel_rfl) hiI hzI0 hzI1 hzI2 rfl (by omega) (by exact blkAny2) hnilV (by rw [List.length_map, hK.out, Nat.mul_one]) (fun a ha => ints_flatP (hV0.below hX2) ha) (fun u hu => by simp only [List.mem_map] at hu; obtain ⟨x, _, rfl⟩ := hu; rfl) (by omega) (by omega)
      have bS2 : Blk w2 W.heap.size #[.int .i64 r0.s.K, .slice (some ⟨g1, 0, none⟩) M c1', .int .i64 r0.s.A, .int .i64 r0.s.R, .int .i64 r0.s.n, .int .i64 r0.s.d, .slice r0.q r0.s.raw.length r0.vc, .int .i64 r0.s.E] 29 := Blk.below (show Blk ((w1.setCell ⟨W.heap.size, 1, none⟩ (.slice (some ⟨g1, 0, none⟩) M c1')).alloc (.cells #[] 2)) W.heap.size #[.int .i64 r0.s.K, .slice (some ⟨g1, 0, none⟩) M c1', .int .i64 r0.s.A, .int .i64 r0.s.R, .int .i64 r0.s.n, .int .i64 r0.s.d, .slice r0.q r0.s.raw.length r0.vc, .int .i64 r0.s.E] 29 from bS1'.alloc _) hB2
      have hW2 : Below W.heap.size W w2 := hX2.trans (hB2.mono hX2.size)
      have bS3 : Blk (w2.setCell ⟨W.heap.size, 6, none⟩ (.slice (some ⟨g2, 0, none⟩) K c2')) W.heap.size #[.int .i64 r0.s.K, .slice (some ⟨g1, 0, none⟩) M c1', .int .i64 r0.s.A, .int .i64 r0.s.R, .int .i64 r0.s.n, .int .i64 r0.s.d, .slice (some ⟨g2, 0, none⟩) K c2', .int .i64 r0.s.E] 29 := bS2.set2 (by rfl)
      have hW3 : Below W.heap.size W (w2.setCell ⟨W.heap.size, 6, none⟩ (.slice (some ⟨g2, 0, none⟩) K c2')) := hW2.setCell (p := ⟨W.heap.size, 6, none⟩) (by simp) _
      have rT1' : RowT (w2.setCell ⟨W.heap.size, 6, none⟩ (.slice (some ⟨g2, 0, none⟩) K c2')) 94 (some ⟨g1, 0, none⟩) (M * 3) (flatCells (r0.s.runs.take 300)) := RowT.setT (RowT.below (w := (w1.setCell ⟨W.heap.size, 1, none⟩ (.slice (some ⟨g1, 0, none⟩) M c1'))) rT1 (hA2.trans (hB2.mono hA2.size))) bS2 (by decide)
      have rT2' : RowT (w2.setCell ⟨W.heap.size, 6, none⟩ (.slice (some ⟨g2, 0, none⟩) K c2')) 2 (some ⟨g2, 0, none⟩) (K * 1) ((r0.s.raw.take 300).map (Value.int .i64)) := RowT.setT ⟨g2, cur2, rfl, hb2, ht2⟩ bS2 (by decide)
      have k1 := bS1.cell
      have f1 := bS1.frozen
      have y1 := bS1.lt
      have k2 := bS2.cell
      have f2 := bS2.frozen
      have y2 := bS2.lt
      go_upto_region 11 with (first
        | (at_builtin; refine wpList_append_run rfl (.tmp 20) (.tmp 27) 24 rfl _ _ _ _ rfl rfl hr1 ?_)
        | (at_builtin; refine wpList_append_run rfl (.tmp 30) (.tmp 37) 27 rfl _ _ _ _ rfl rfl hr2 ?_))
      clear hr1 hr2 k1 f1 y1 k2 f2 y2 q0 q1 q2 q3 q4 q5 q6 q7 hmin1 hmin2 hmkR hmkI
      obtain ⟨W3, hWe⟩ : ∃ W3, W3 = (w2.setCell ⟨W.heap.size, 6, none⟩ (.slice (some ⟨g2, 0, none⟩) K c2')) := ⟨_, rfl⟩
      rw [← hWe] at bS3 hW3 rT1' rT2' ⊢
      have hX3 : SegRowT W3 ⟨ownG r0.s, some ⟨g1, 0, none⟩, some ⟨g2, 0, none⟩, c1', c2'⟩ := ⟨by show RowT W3 _ _ ((r0.s.runs.take 300).length * 3) _; rw [hM.out]; exact rT1', by show RowT W3 _ _ (r0.s.raw.take 300).length _; rw [hK.out, ← Nat.mul_one K]; exact rT2', by show (r0.s.raw.take 300).length ≤ c2'; rw [hK.out]; exact hc2, by show (r0.s.runs.take 300).length ≤ 300; rw [hM.out]; exact hM3, by show (r0.s.raw.take 300).length ≤ 300; rw [hK.out]; exact hK3⟩
      have hne : v.ownBlock ≠ some W.heap.size := fun e => by have := (hown.own.lt _ e).2; omega
      have hO := hown.below hW3
      have hR3 := hrows.below hW3
      have hV := hW.trans (hW3.mono hz)
      have zz := hV.size
      have zs := hW3.size
      have yS := bS3.lt
      clear hWe hW2 bS2 bS1 bS1' hW1 hW1' rT1 rT1' rT2' hA1 hA2 hX2 hB1 hB2 hb1 hb2 ht1 ht2 hs1 hs2 hg1 hg2 hc1 hc2 hown hrows hW hR0 hV0 hnilR hnilV
      replace hR3 := Lib.hid hR3
      replace hX3 := Lib.hid hX3
      have hl12 : RL.length ≤ 12 := by rw [hlR.out]; exact hi12
      have hY := Lib.hid (show (segRA ⟨ownG r0.s, some ⟨g1, 0, none⟩, some ⟨g2, 0, none⟩, c1', c2'⟩).toList = (#[.int .i64 r0.s.K, .slice (some ⟨g1, 0, none⟩) M c1', .int .i64 r0.s.A, .int .i64 r0.s.R, .int .i64 r0.s.n, .int .i64 r0.s.d, .slice (some ⟨g2, 0, none⟩) K c2', .int .i64 r0.s.E] : Array Value).toList by unfold segRA segA ownG; simp only [hM.out, hK.out])
      have k3 := bS3.cell
      have f3 := bS3.frozen
      go_wp2_with (at_builtin; refine wpList_append_own _ rfl (.tmp 40) (.tmp 42) 22 rfl w.heap.size 29 i0 (.agg #[.int .i64 0, .slice none 0 0, .int .i64 0, .int .i64 0, .int .i64 0, .int .i64 0, .slice none 0 0, .int .i64 0]) 8 96 (by kernel_rfl) hi hz0 hz1 hz2 rfl (by decide) _ _ _ rfl (hO.own.alloc _) ⟨W3.heap.size, 0, none⟩ 1 1 (#[.int .i64 r0.s.K, .slice (some ⟨g1, 0, none⟩) M c1', .int .i64 r0.s.A, .int .i64 r0.s.R, .int .i64 r0.s.n, .int .i64 r0.s.d, .slice (some ⟨g2, 0, none⟩) K c2', .int .i64 r0.s.E] : Array Value).toList rfl rfl (fun j u hu => arr_new (by exact blkAny2) hu) (by simp [Value.oneCell']) (by simp [maxLen]; omega) (by omega) (by simp; omega) ?_)
      intro v' w8 hown2 hgr _
      have hBw := below_append hV zz hO.own hgr
      have bS8 : Blk w8 W.heap.size #[.int .i64 r0.s.K, .slice (some ⟨g1, 0, none⟩) M c1', .int .i64 r0.s.A, .int .i64 r0.s.R, .int .i64 r0.s.n, .int .i64 r0.s.d, .slice (some ⟨g2, 0, none⟩) K c2', .int .i64 r0.s.E] 29 := (hgr.block W.heap.size (by simp; omega) hne.symm).trans (bS3.alloc _)
      have hS8 := Lib.hid (few_rowsT hO.own hR3.out hX3.out hgr)
      replace hown2 := Lib.hid hown2
      obtain ⟨BB, hBB⟩ : ∃ BB, segB (ownG r0.s) = BB := ⟨_, rfl⟩
      have cR := Lib.hid (show Calls Tryz.prog 7 #[.agg #[.int .i64 r0.s.K, .slice (some ⟨g1, 0, none⟩) M c1', .int .i64 r0.s.A, .int .i64 r0.s.R, .int .i64 r0.s.n, .int .i64 r0.s.d, .slice (some ⟨g2, 0, none⟩) K c2', .int .i64 r0.s.E]] w8 (fun e w' => e = .returned (.bool BB) ∧ Below w8.heap.size w8 w') from by
        have t := c_refRight (ownG r0.s) (some ⟨g1, 0, none⟩) (some ⟨g2, 0, none⟩) c1' c2' w8 ((hS8.out.at' _ (List.mem_append_right _ (List.mem_singleton.2 rfl))).inn)
        rw [hBB] at t
        unfold segA ownG at t
        simp only [hM.out, hK.out] at t
        exact t)
      have k8 := bS8.cell
      have f8 := bS8.frozen
      have y8 := bS8.lt
      have z8 := hBw.size
      replace hBB := Lib.hid hBB
      clear hgr hO bS3 k3 f3 yS zs hne hV zz
      cases R with
      | true =>
        go_wp2_with fail
        refine cR.out.mono ?_
        rintro e w9 ⟨rfl, hB9⟩
        have hW9 := hBw.trans (hB9.mono z8)
        clear k8 f8 y8 bS8 hBw cR
        go_wp2
        rw [show (i : Int) + 1 = ((i + 1 : Nat) : Int) by omega]
        refine ⟨?_, by simp [intAt]; omega⟩
        unfold szRel
        exact ⟨hW9, i + 1, v', RL ++ [⟨ownG r0.s, some ⟨g1, 0, none⟩, some ⟨g2, 0, none⟩, c1', c2'⟩], BB, frame_ex rfl, ⟨by rw [flatSegs_snoc, List.length_append, hY.out]; exact (OwnR.below ⟨hown2.out⟩ hB9).own⟩, hS8.out.below hB9, by rw [List.map_append, List.all_append, ← hfl.out]; simp [hBB.out], by rw [List.length_append, hlR.out]; rfl, by omega, by omega⟩
      | false =>
        clear cR
        go_wp2
        rw [show (i : Int) + 1 = ((i + 1 : Nat) : Int) by omega]
        refine ⟨?_, by simp [intAt]; omega⟩
        unfold szRel
        exact ⟨hBw, i + 1, v', RL ++ [⟨ownG r0.s, some ⟨g1, 0, none⟩, some ⟨g2, 0, none⟩, c1', c2'⟩], false, frame_ex rfl, ⟨by rw [flatSegs_snoc, List.length_append, hY.out]; exact hown2.out⟩, hS8.out, by rw [List.map_append, List.all_append, ← hfl.out]; rfl, by rw [List.length_append, hlR.out]; rfl, by omega, by omega⟩
  · obtain rfl : i = rows.length := by omega
    have hl12 : RL.length ≤ 12 := by have := hlR.out; omega
    replace hfl := hfl.out
    clear hlR
    obtain ⟨vp, vc, rfl, -, -, -, -⟩ := hown.form
    have hS := hown.segsT hrows rfl
    obtain ⟨L9, hRL⟩ : ∃ L9, RL.map (·.s) = L9 := ⟨_, rfl⟩
    rw [hRL] at hS hfl
    have hLl : L9.length = RL.length := by rw [← hRL, List.length_map]
    have cW := Lib.hid (fun W (h : SegsIn W vp L9) => c_wnSize vp vc L9 W h (by omega))
    have cZ := Lib.hid (fun W (h : SegsIn W vp L9) (ha : L9.all segB = true) => c_r13Size vp vc L9 W h (by omega) ha)
    rw [hLl] at cW cZ
    replace hLl := Lib.hid hLl
    replace hS := Lib.hid hS
    clear hown hrows hRL
    cases R with
    | true =>
      have hall := hfl.symm
      have cW' := Lib.hid (fun W h => by have t := cW.out W h; rw [if_pos hall, if_pos hall] at t; exact t)
      have cZ' := Lib.hid (fun W h => cZ.out W h hall)
      clear cW cZ
      obtain ⟨SS, hSS⟩ : ∃ SS : Int, (sumSz L9 : Int) = SS := ⟨_, rfl⟩
      rw [hSS] at cW' cZ'
      replace hall := Lib.hid hall
      clear hfl hSS
      go_wp2_with fail
      refine (cW'.out _ hS.out).mono ?_
      rintro e w5 ⟨rfl, hb5⟩
      have hS5 := hS.out.below hb5
      have hW5 := hW.trans (hb5.mono hz)
      clear hb5 hS hW
      go_wp2_with fail
      refine (cZ'.out w5 hS5).mono ?_
      rintro e w6 ⟨rfl, hb6⟩
      have hW6 := hW5.trans (hb6.mono hW5.size)
      clear hb6 hW5 hS5
      go_wp2
      go_ret
      exact ⟨by simp, hW6⟩
    | false =>
      have hall : ¬ L9.all segB = true := by rw [← hfl]; simp
      have cW' := Lib.hid (fun W h => by have t := cW.out W h; rw [if_neg hall, if_neg hall] at t; exact t)
      clear cW cZ
      replace hall := Lib.hid hall
      clear hfl
      go_wp2_with fail
      refine (cW'.out _ hS.out).mono ?_
      rintro e w5 ⟨rfl, hb5⟩
      have hW5 := hW.trans (hb5.mono hz)
      clear hb5 hS hW
      go_wp2
      go_ret
      exact ⟨rfl, hW5⟩
end Go.Proofs.YtbanjolokkghdaaGreatDoor
namespace Go.Proofs.YtbanjolokkghdaaGreatDoor
open Go.RowKit
inductive Tr (α : Type) where
  | nil
  | node (o : Option α) (l r : Tr α)
noncomputable def Tr.get {α : Type} (t : Tr α) : Nat → Option α :=
  Tr.rec (motive := fun _ => Nat → Option α) (fun _ => none) (fun o _ _ gl gr k => bif Nat.beq k 0 then o else bif Nat.beq (Nat.mod k 2) 1 then gl (Nat.div k 2) else gr (Nat.pred (Nat.div k 2))) t
noncomputable def Tr.set {α : Type} (n : Nat) : Tr α → Nat → Option α → Tr α :=
  Nat.rec (motive := fun _ => Tr α → Nat → Option α → Tr α) (fun t _ _ => t)
    (fun _ ih t k v => Tr.rec (motive := fun _ => Tr α)
      (bif Nat.beq k 0 then .node v .nil .nil else bif Nat.beq (Nat.mod k 2) 1 then .node none (ih .nil (Nat.div k 2) v) .nil else .node none .nil (ih .nil (Nat.pred (Nat.div k 2)) v))
      (fun o l r _ _ => bif Nat.beq k 0 then .node v l r else bif Nat.beq (Nat.mod k 2) 1 then .node o (ih l (Nat.div k 2) v) r else .node o l (ih r (Nat.pred (Nat.div k 2)) v)) t) n
/-- A block: a row of cells (behind which there may be more: op), a map's entries, a string's reader, a range's record, a block for deferred calls. -/
inductive AO where
  | cells (cs : List Value) (t : TypeId) (op : Bool)
  | map (es : List MapEntry) (clock : Nat)
  | iter (s : ByteArray) (pos : Nat)
  | loop (st : LoopState) (pend : Option Code) (t : Tr Value) (m : Nat) (ps : Array Tmp) (asg body : Code) (d : Nat)
  | dfr (open_ : Bool)
/-- The memory; the next number; below lim nothing may be written but one; hid: numbers that are not seen. -/
structure St where
  T : Tr AO
  next : Nat
  lim : Nat
  one : Nat
  hid : List (Nat × Nat)
  /-- numbers below this are package-level variables -/
  ng : Nat
structure Fr where
  t : Tr Value
  m : Nat
  marks : List Nat
  round : Option Nat
def hidden : List (Nat × Nat) → Nat → Bool
  | [], _ => false
  | (a, b) :: r, k => (Nat.ble a k && Nat.blt k b) || hidden r k
def big : Nat := 1000000
noncomputable def St.get (s : St) (k : Nat) : Option AO := bif hidden s.hid k then none else s.T.get k
noncomputable def St.new (s : St) (o : AO) : Option (Nat × St) := bif Nat.blt s.next big then some (s.next, { s with T := s.T.set 24 s.next (some o), next := Nat.succ s.next }) else none
noncomputable def St.put (s : St) (k : Nat) (o : Option AO) : Option St := bif (Nat.ble s.lim k || Nat.beq k s.one) && Nat.blt k s.next then some { s with T := s.T.set 24 k o } else none
noncomputable def Fr.get (f : Fr) (k : Nat) : Value := (f.t.get k).getD undef
noncomputable def Fr.put (f : Fr) (d : Option Tmp) (v : Value) : Option Fr := match d with
  | none => some f
  | some d => bif Nat.blt d f.m then some { f with t := f.t.set 24 d (some v) } else none
mutual
/-- no address in it -/
def pl : Value → Bool
  | .bool _ | .int _ _ | .string _ | .pointer none | .slice none _ _ | .map none | .nilFunc | .nilIface => true
  | .agg ⟨cs⟩ => pls cs
  | .tuple ⟨cs⟩ => pls cs
  | .func (.func _) ⟨[]⟩ ⟨[]⟩ => true
  | _ => false
def pls : List Value → Bool
  | [] => true
  | v :: r => pl v && pls r
end
def okOpd (ng : Nat) : Operand → Bool
  | .tmp _ => true
  | .const v => pl v
  | .func _ => true
  | .global g => Nat.blt g ng
noncomputable def Fr.ev (f : Fr) : Operand → Value
  | .tmp t => f.get t
  | .const v => v
  | .global g => .pointer (some ⟨g, 0, none⟩)
  | .func g => .func (.func g) #[] #[]
def pv {α : Type} (P : Program) : Sem α → Option α
  | .pure a => some a
  | .program k => pv P (k P)
  | .mark _ k => pv P k
  | _ => none
def ival : Value → Option Nat
  | .int _ n => match n with | .ofNat k => some k | _ => none
  | _ => none
def takeN : Nat → List Value → List Value
  | 0, _ => []
  | _, [] => []
  | n + 1, x :: l => x :: takeN n l
def dropN : Nat → List Value → List Value
  | 0, l => l
  | _, [] => []
  | n + 1, _ :: l => dropN n l
def aggB (P : Program) (t : TypeId) : Option Bool := match P.underlying t with
  | some (.struct _) => some true
  | some (.array _ _) => some true
  | some _ => some false
  | none => none
def elemB (P : Program) (t : TypeId) : Option TypeId := match P.underlying t with
  | some (.slice e) => some e
  | _ => none
def szB (P : Program) (t : TypeId) : Option Nat := (P.info? t).map (·.size)
def zeroB (P : Program) (t : TypeId) : Option Value := ((P.info? t).bind (·.zero)).bind fun z => bif pl z then some z else none
/-- n cells at a place -/
noncomputable def rd (s : St) (k off n : Nat) : Option (List Value) := match s.get k with
  | some (.cells cs _ _) => bif Nat.ble (Nat.add off n) cs.length then some (takeN n (dropN off cs)) else none
  | _ => none
def ones : List Value → Bool
  | [] => true
  | v :: l => v.oneCell' && ones l
noncomputable def wr (s : St) (k off : Nat) (vs : List Value) : Option St := match s.get k with
  | some (.cells cs t op) => bif Nat.ble (Nat.add off vs.length) cs.length && ones vs then s.put k (some (.cells (takeN off cs ++ (vs ++ dropN (Nat.add off vs.length) cs)) t op)) else none
  | _ => none
noncomputable def ld (P : Program) (s : St) (t : TypeId) (k off : Nat) : Option Value := match aggB P t, szB P t with
  | some true, some n => (rd s k off n).map fun l => .agg l.toArray
  | some false, some _ => match rd s k off 1 with | some (v :: _) => some v | _ => none
  | _, _ => none
def reps : Nat → List Value → List Value
  | 0, _ => []
  | n + 1, l => l ++ reps n l
def bnd (s : Option Value) (d : Nat) : Option Nat := match s with | none => some d | some v => ival v
/-- a part of a slice -/
def slB (sz : Nat) (a : Option Addr) (len cap : Nat) (lo hi mx : Option Value) : Option Value := match bnd mx cap, bnd hi len, bnd lo 0 with
  | some m, some h, some l => bif Nat.ble m cap && Nat.ble h m && Nat.ble l h && (mx.isNone || hi.isSome) then
      (match a with
       | none => some (.slice none (Nat.sub h l) (Nat.sub m l))
       | some a => match mx, a.spot with
         | none, some _ => bif Nat.beq m l then none else some (.slice (some ⟨a.block, Nat.add a.off (Nat.mul l sz), a.spot⟩) (Nat.sub h l) (Nat.sub m l))
         | _, _ => some (.slice (some (bif Nat.beq m l then ⟨a.block, a.off, none⟩ else ⟨a.block, Nat.add a.off (Nat.mul l sz), none⟩)) (Nat.sub h l) (Nat.sub m l)))
    else none
  | _, _, _ => none
def mfind (k : Value) : List MapEntry → Option (Option Value)
  | [] => some none
  | e :: es => match e.key, k with
    | .int a x, .int b y => bif decide (a = b) then (bif decide (y = x) then some (some e.val) else mfind k es) else none
    | _, _ => none
structure Rec where
  code : Code → Fr → St → Option (Exit × Fr × St)
  call : FuncId → List Value → St → Option (Value × St)
  yield : Nat → List Value → St → Option (Value × St)
  /-- code within a scope: a jump to a label of it goes on behind the label -/
  back : Code → Code → Fr → St → Option (Exit × Fr × St)
noncomputable def callV (R : Rec) (f : Value) (args : List Value) (st : St) : Option (Value × St) := match f with
  | .func (.func g) first cap => R.call g (first.toList ++ (args ++ cap.toList)) st
  | .func (.yield l) ⟨[]⟩ ⟨[]⟩ => R.yield l args st
  | _ => none
noncomputable def appB (P : Program) (st : St) (t : TypeId) (s x : Value) : Option (Value × St) := match elemB P t with
  | none => none
  | some e => match P.info? e, zeroB P e with
    | some i, some z => bif Nat.beq z.cells.size i.size then match s, x with
      | .slice a len cap, .slice (some ⟨kb, ob, _⟩) n _ =>
        match rd st kb ob (Nat.mul n i.size) with
        | none => none
        | some src => bif Nat.ble (Nat.add len n) cap then
            match a with
            | some ⟨k, 0, sp⟩ => match st.get k with
              | some (.cells _ t' _) => bif Nat.beq t' e then (wr st k (Nat.mul len i.size) src).map fun st => (.slice (some ⟨k, 0, sp⟩) (Nat.add len n) cap, st) else none
              | _ => none
            | _ => none
          else bif Nat.ble (Nat.mul (Nat.mul 8 (Nat.add (Nat.add len n) 64)) (Nat.add i.bytes 1)) 100000000 && ones src then
            match a with
            | none => bif Nat.beq len 0 && Nat.beq cap 0 then (bif Nat.blt 0 n then (st.new (.cells src e true)).map fun r => (.slice (some ⟨r.1, 0, some 0⟩) n n, r.2) else none) else none
            | some ⟨k, off, sp⟩ => match rd st k off (Nat.mul len i.size) with
              | none => none
              | some old => match sp with
                | none => (st.new (.cells (old ++ src) e true)).map fun r => (.slice (some ⟨r.1, 0, some 0⟩) (Nat.add len n) (Nat.add len n), r.2)
                | some _ => match st.get k, off with
                  | some (.cells cs t' true), 0 => bif Nat.beq t' e && Nat.beq cs.length (Nat.mul cap i.size) then
                      match st.put k none with
                      | none => none
                      | some st => (st.new (.cells (old ++ src) e true)).map fun r => (.slice (some ⟨r.1, 0, some 0⟩) (Nat.add len n) (Nat.add len n), r.2)
                    else none
                  | _, _ => none
          else none
      | .slice a len cap, .slice none n _ => bif Nat.beq n 0 && Nat.ble len cap then some (.slice a len cap, st) else none
      | _, _ => none
      else none
    | _, _ => none
/-- n zeros behind a slice that has no room for them (append of a make) -/
noncomputable def appZ (P : Program) (st : St) (t u : TypeId) (s : Value) (n : Nat) : Option (Value × St) := match P.underlying u with
  | some (.int _) => match elemB P t with
    | none => none
    | some e => match P.info? e, zeroB P e with
      | some i, some z => bif Nat.beq z.cells.size i.size && (Nat.blt 0 n && (Nat.blt 0 i.size && ones z.cells.toList)) then
          match s with
          | .slice none 0 0 => bif Nat.ble (Nat.mul (Nat.mul 8 (Nat.add n 64)) (Nat.add i.bytes 1)) 100000000 then (st.new (.cells (reps n z.cells.toList) e true)).map fun r => (.slice (some ⟨r.1, 0, some 0⟩) n n, r.2) else none
          | .slice (some ⟨k, off, none⟩) len cap => bif Nat.blt cap (Nat.add len n) && Nat.ble (Nat.mul (Nat.mul 8 (Nat.add (Nat.add len n) 64)) (Nat.add i.bytes 1)) 100000000 then
              match rd st k off (Nat.mul len i.size) with
              | none => none
              | some old => (st.new (.cells (old ++ reps n z.cells.toList) e true)).map fun r => (.slice (some ⟨r.1, 0, some 0⟩) (Nat.add len n) (Nat.add len n), r.2)
            else none
          | _ => none
        else none
      | _, _ => none
  | _ => none
def nilB (P : Program) (t : TypeId) (x y : Value) : Bool := match P.underlying t, x, y with
  | some (.slice _), .slice none _ _, .slice (some _) _ _ | some (.slice _), .slice (some _) _ _, .slice none _ _ | some (.pointer _), .pointer none, .pointer (some _) | some (.pointer _), .pointer (some _), .pointer none | some (.func _ _ _), .nilFunc, .func _ _ _ | some (.func _ _ _), .func _ _ _, .nilFunc => true
  | _, _, _ => false
def eqNil (P : Program) (t : TypeId) (op : BinOp) (x y : Value) : Option Value := bif nilB P t x y then (match op with | .eql => some (.bool false) | .neq => some (.bool true) | _ => none) else none
def pvV (P : Program) (ρ : Operand → Value) (o : Oper) : Option Value := match pv P (execOp ρ o) with
  | some (.value v) => bif pl v then some v else none
  | _ => none
/-- an operation that looks at no memory -/
def pureK (o : Oper) : Bool := match o.op with
  | .move _ | .assign _ | .pick _ _ _ | .extract _ _ | .field _ _ _ | .index _ _ _ | .build _ _ | .makeFunc _ _ _ | .nilCheck _ | .binOp _ _ _ _ _ | .unOp _ _ _ | .convert _ _ _ | .fieldAddr _ _ _ | .indexAddr _ _ _ | .slice _ _ _ _ _ => true
  | _ => false
def partB (P : Program) (t : TypeId) (cs : Array Value) (off : Nat) : Option Value := match aggB P t, szB P t with
  | some true, some n => some (.agg (cs.extract off (off + n)))
  | some false, some _ => cs[off]?
  | _, _ => none
def execP (P : Program) (ρ : Operand → Value) (o : Oper) : Option Value := match o.op with
  | .move x | .assign x => some (ρ x)
  | .pick c a b => match ρ c with | .bool t => some (bif t then ρ a else ρ b) | _ => none
  | .extract x i => match ρ x with | .tuple vs => vs[i]? | _ => none
  | .field t x f => match P.underlying t, ρ x with
    | some (.struct fs), .agg cs => match fs[f]? with | some fd => partB P fd.type cs fd.offset | none => none
    | _, _ => none
  | .index t x i => bif pl (ρ x) && pl (ρ i) then pvV P ρ o else match P.underlying t, ρ x, ival (ρ i) with
    | some (.array n e), .agg cs, some k => match szB P e with | some sz => bif Nat.blt k n then partB P e cs (k * sz) else none | none => none
    | _, _, _ => none
  | .build t parts => bif (zeroB P t).isSome then (P.built t (parts.toList.map fun p => (p.1, ρ p.2))).map .agg else none
  | .makeFunc (.func g) first cap => some (.func (.func g) (first.map ρ) (cap.map ρ))
  | .nilCheck x => match ρ x with
    | .pointer (some a) => some (.pointer (some a))
    | .func (.func g) a b => some (.func (.func g) a b)
    | .func (.yield g) a b => some (.func (.yield g) a b)
    | _ => none
  | .binOp op t x y _ => match eqNil P t op (ρ x) (ρ y) with
    | some v => some v
    | none => bif pl (ρ x) && pl (ρ y) then pvV P ρ o else none
  | .unOp _ _ x | .convert _ _ x => bif pl (ρ x) then pvV P ρ o else none
  | .fieldAddr s x f => match ρ x, P.underlying s with
    | .pointer (some ⟨k, off, none⟩), some (.struct fs) => match fs[f]? with
      | some fd => match szB P fd.type with | some (.succ _) => some (.pointer (some ⟨k, Nat.add off fd.offset, none⟩)) | _ => none
      | none => none
    | _, _ => none
  | .indexAddr t x i => match P.underlying t, ρ x, ival (ρ i) with
    | some (.array len e), .pointer (some ⟨k, off, none⟩), some n => match szB P e with | some sz => bif Nat.blt n len then some (.pointer (some ⟨k, Nat.add off (Nat.mul n sz), none⟩)) else none | none => none
    | some (.slice e), .slice (some ⟨k, off, _⟩) len _, some n => match szB P e with | some sz => bif Nat.blt n len then some (.pointer (some ⟨k, Nat.add off (Nat.mul n sz), none⟩)) else none | none => none
    | _, _, _ => none
  | .slice t x lo hi mx => match P.underlying t, ρ x with
    | some (.slice e), .slice a len cap => match szB P e with | some sz => slB sz a len cap (lo.map ρ) (hi.map ρ) (mx.map ρ) | none => none
    | some .string, .string _ => bif pl (ρ x) && ((lo.toList ++ hi.toList ++ mx.toList).all fun y => pl (ρ y)) then pvV P ρ o else none
    | _, _ => none
  | _ => none
noncomputable def allPl (l : List Value) : Bool := pls l
noncomputable def newC (s : St) (cs : List Value) (t : TypeId) : Option (Value × St) := bif ones cs then (s.new (.cells cs t false)).map fun r => (.pointer (some ⟨r.1, 0, none⟩), r.2) else none
def pvp (P : Program) (x : Sem Value) : Option Value := match pv P x with | some v => bif pl v then some v else none | none => none
noncomputable def bi (P : Program) (b : Builtin) (tys : List TypeId) (type : TypeId) (args : List Value) (st : St) : Option (Value × St) := match b, tys, args with
  | .len, t :: _, [.slice _ n _] => (elemB P t).map fun _ => (.int .i64 n, st)
  | .len, _, [.string s] => (pvp P (Builtin.len_ tys.toArray type #[.string s])).map fun v => (v, st)
  | .cap, t :: _, [.slice none _ n] => (elemB P t).map fun _ => (.int .i64 n, st)
  | .cap, t :: _, [.slice (some ⟨_, _, none⟩) _ n] => (elemB P t).map fun _ => (.int .i64 n, st)
  | .append, [t, u], [s, x] => bif Nat.beq t u then appB P st t s x else (match x with | .int _ (.ofNat n) => appZ P st t u s n | _ => none)
  | .copy, [t, u], [.slice a n _, .slice b m _] => bif Nat.beq t u then (match (elemB P t).bind (szB P) with
    | none => none
    | some sz => bif Nat.beq (Nat.min m n) 0 then some (.int .i64 0, st) else match a, b with
      | some ⟨ka, oa, _⟩, some ⟨kb, ob, _⟩ => match rd st kb ob (Nat.mul (Nat.min m n) sz) with
        | none => none
        | some src => (wr st ka oa src).map fun st => (.int .i64 (Nat.min m n), st)
      | _, _ => none) else none
  | .clear, t :: _, [.slice a n _] => bif Nat.beq n 0 then (elemB P t).map fun _ => (.tuple #[], st) else match (elemB P t).bind (zeroB P), a with
    | some z, some ⟨k, off, _⟩ => (wr st k off (reps n z.cells.toList)).map fun st => (.tuple #[], st)
    | _, _ => none
  | .max, _, l => bif pls l then (pvp P (Builtin.max_ tys.toArray type l.toArray)).map fun v => (v, st) else none
  | .min, _, l => bif pls l then (pvp P (Builtin.min_ tys.toArray type l.toArray)).map fun v => (v, st) else none
  | _, _, _ => none
/-- an operation that looks at memory, or calls -/
noncomputable def execH (P : Program) (R : Rec) (ρ : Operand → Value) (o : Oper) (st : St) : Option (Value × St) := match o.op with
  | .alloc e => match zeroB P e with | some z => newC st z.cells.toList e | none => none
  | .box e x => newC st (ρ x).cells.toList e
  | .buildSlice t len parts => match elemB P t with
    | none => none
    | some e => match szB P e, zeroB P e with
      | some sz, some z => bif Nat.beq sz 0 || Nat.blt 10000 (len * sz) || !(Nat.beq z.cells.size sz) then none else
        match Instr.fill (fun i => some (i * sz, sz)) (reps len z.cells.toList).toArray (parts.toList.map fun p => (p.1, ρ p.2)) with
        | none => none
        | some cs => bif ones cs.toList then (st.new (.cells cs.toList e false)).map fun r => (.slice (some ⟨r.1, 0, none⟩) len len, r.2) else none
      | _, _ => none
  | .load t a => match ρ a with
    | .pointer (some ⟨k, off, none⟩) => (ld P st t k off).map fun v => (v, st)
    | _ => none
  | .store t a x => match ρ a, szB P t with
    | .pointer (some ⟨k, off, none⟩), some n => bif Nat.beq (ρ x).cells.size n then (wr st k off (ρ x).cells.toList).map fun st => (undef, st) else none
    | _, _ => none
  | .makeSlice t l c => match elemB P t with
    | none => none
    | some e => match P.info? e, zeroB P e, ρ l, ρ c with
      | some i, some z, .int _ (.ofNat l), .int _ (.ofNat c) => bif Nat.ble l c && Nat.ble (Nat.mul c (Nat.add (Nat.add i.size i.bytes) 1)) 10000000 && Nat.beq z.cells.size i.size && ones z.cells.toList then
          (st.new (.cells (reps c z.cells.toList) e false)).map fun r => (.slice (some ⟨r.1, 0, none⟩) l c, r.2) else none
      | _, _, _, _ => none
  | .makeMap _ none => (st.new (.map [] 0)).map fun r => (.map (some r.1), r.2)
  | .insert t m k v => match ρ m, P.underlying t with
    | .map (some r), some (.map kt _) => match P.underlying kt, ρ k, st.get r with
      | some (.int _), .int a x, some (.map es c) => match mfind (.int a x) es with
        | some none => (st.put r (some (.map (es ++ [{ key := .int a x, val := ρ v, born := c }]) (c + 1)))).map fun st => (undef, st)
        | _ => none
      | _, _, _ => none
    | _, _ => none
  | .lookup t m k true => match ρ m, P.underlying t with
    | .map (some r), some (.map kt e) => match P.underlying kt, ρ k, st.get r with
      | some (.int _), .int a x, some (.map es _) => match mfind (.int a x) es, zeroB P e with
        | some none, some z => some (.tuple #[z, .bool false], st)
        | some (some v), some _ => some (.tuple #[v, .bool true], st)
        | _, _ => none
      | _, _, _ => none
    | _, _ => none
  | .range t x => match ρ x, P.underlying t with
    | .string s, some .string => (st.new (.iter s 0)).map fun r => (.pointer (some ⟨r.1, 0, none⟩), r.2)
    | _, _ => none
  | .next x true => match ρ x with
    | .pointer (some ⟨k, 0, none⟩) => match st.get k with
      | some (.iter s pos) => bif Nat.blt pos s.size then
          (st.put k (some (.iter s (pos + (Utf8.decode s pos).2)))).map fun st => (.tuple #[.bool true, .int .i64 pos, .int .i32 (Utf8.decode s pos).1], st)
        else some (.tuple #[.bool false], st)
      | _ => none
    | _ => none
  | .call c => match c.callee with
    | .builtin b => bi P b c.argTypes.toList o.type (c.args.toList.map ρ) st
    | .value f => callV R (ρ f) (c.args.toList.map ρ) st
    | _ => none
  | _ => none
noncomputable def exec (P : Program) (R : Rec) (ρ : Operand → Value) (o : Oper) (st : St) : Option (Value × St) := bif pureK o then (execP P ρ o).map fun v => (v, st) else execH P R ρ o st
/-- is the guard met? -/
noncomputable def guardB (ops : Array Oper) (f : Fr) (o : Oper) : Bool := match o.guard with
  | none => true
  | some (k, want) => match wrOf ops k with
    | some d => match f.get d with | .bool b => bif b then want else !want | _ => false
    | none => false
noncomputable def seqB (P : Program) (R : Rec) (ops : Array Oper) : List Oper → Fr → St → Option (Fr × St)
  | [], fr, st => some (fr, st)
  | o :: l, fr, st => bif guardB ops fr o then
      match exec P R fr.ev o st with
      | some r => match fr.put o.dst r.1 with | some fr => seqB P R ops l fr r.2 | none => none
      | none => none
    else match fr.put o.dst undef with | some fr => seqB P R ops l fr st | none => none
/-- what stands ahead of each operation, as a mask -/
def maskOf (A : List Nat) (es : List Edge) : Nat := es.foldr (fun e m => bif Region.binds .any e then Nat.lor (Nat.lor m (Nat.shiftLeft 1 e.on)) (A.getD e.on 0) else m) 0
def ancs : List Oper → List Nat → List Nat
  | [], A => A
  | o :: l, A => ancs l (A ++ [maskOf A o.after.toList])
def bitL (A : List Nat) (i k : Nat) : Bool := Nat.testBit (A.getD i 0) k
def aheadB (A : List Nat) (i k : Nat) : Bool := bif Nat.blt k i then bitL A i k else bitL A k i
/-- an operation that each other that looks at memory stands ahead of, or behind -/
def wrB (ops : Array Oper) (A : List Nat) (i : Nat) : Bool := (List.range ops.size).all fun k => Nat.beq k i || aheadB A i k || (match ops[k]? with | some o => pureK o | none => true)
def wrs (ops : Array Oper) (A : List Nat) : List Bool := (List.range ops.size).map fun i => wrB ops A i
def readsA (ops : Array Oper) (A : List Nat) : Bool := (List.range ops.size).all fun i => match ops[i]? with
  | some o => (o.looksAt ops).all fun s => (List.range ops.size).all fun j => (match wrOf ops j with | some d => !(Nat.beq d s) | none => true) || (bif Nat.beq i j then Nat.beq 0 0 else aheadB A i j)
  | none => true
def okOps (ng : Nat) (ops : Array Oper) : Bool := ops.toList.all fun o => o.op.operands.toList.all (okOpd ng)
def okR (ng : Nat) (ops : Array Oper) : Bool := backB ops && uniqB ops ops.size && readsA ops (ancs ops.toList []) && okOps ng ops
def wrIx (ops : Array Oper) (s : Tmp) : Option Nat := (List.range ops.size).find? fun j => match wrOf ops j with | some d => Nat.beq d s | none => false
/-- the block of a place whose block is known ahead of the region -/
noncomputable def baseB (ops : Array Oper) (fr : Fr) : Nat → Tmp → Option Nat
  | 0, _ => none
  | n + 1, s => match wrIx ops s with
    | none => match fr.get s with | .pointer (some ⟨b, _, none⟩) => some b | _ => none
    | some j => match ops[j]? with
      | some o => match o.op with
        | .move (.tmp x) => baseB ops fr n x
        | .nilCheck (.tmp x) => baseB ops fr n x
        | .fieldAddr _ (.tmp x) _ => baseB ops fr n x
        | _ => none
      | none => none
/-- stores into blocks that are known ahead of the region -/
noncomputable def psts (ops : Array Oper) (W : List Bool) (fr : Fr) : List Nat → List (Nat × Nat)
  | [] => []
  | i :: l => match (bif W.getD i false then none else match ops[i]? with | some o => (match o.op with | .store _ (.tmp s) _ => baseB ops fr 10 s | _ => none) | none => none) with
    | some b => (i, b) :: psts ops W fr l
    | none => psts ops W fr l
def userCall (o : Oper) : Bool := match o.op with | .call c => (match c.callee with | .builtin _ => false | _ => true) | _ => false
def mayPut (o : Oper) : Bool := match o.op with | .store .. => true | .call c => (match c.callee with | .builtin .append => true | .builtin .copy => true | _ => false) | _ => false
/-- the block that an operation writes, by a run in the text's order -/
noncomputable def putAt (ρ : Operand → Value) (o : Oper) : Option Nat := match o.op with
  | .store _ x _ => match ρ x with | .pointer (some ⟨b, _, none⟩) => some b | _ => none
  | .call c => match c.callee with
    | .builtin .append | .builtin .copy => match c.args.toList.map ρ with | .slice (some ⟨b, _, _⟩) _ _ :: _ => some b | _ => none
    | _ => none
  | _ => none
noncomputable def pass1 (P : Program) (R : Rec) (ops : Array Oper) (W : List Bool) (nx : Nat) : List Oper → Nat → Fr → St → List (Nat × Nat)
  | [], _, _, _ => []
  | o :: l, i, fr, st => bif guardB ops fr o then
      match exec P R fr.ev o st with
      | some r => match fr.put o.dst r.1 with
        | some fr' => match (bif W.getD i false then none else putAt fr.ev o) with
          | some b => bif Nat.blt b nx then (i, b) :: pass1 P R ops W nx l (Nat.succ i) fr' r.2 else pass1 P R ops W nx l (Nat.succ i) fr' r.2
          | none => pass1 P R ops W nx l (Nat.succ i) fr' r.2
        | none => []
      | none => []
    else match fr.put o.dst undef with | some fr => pass1 P R ops W nx l (Nat.succ i) fr st | none => []
/-- which operations write, and into what: found by any way, for it is looked at again -/
noncomputable def putsB (P : Program) (R : Rec) (ops : Array Oper) (W : List Bool) (fr : Fr) (st : St) : List (Nat × Nat) :=
  bif (List.range ops.size).any fun i => !(W.getD i false) && (match ops[i]? with | some o => mayPut o | none => false) then
    (bif ops.toList.any userCall then psts ops W fr (List.range ops.size) else pass1 P R ops W st.next ops.toList 0 fr st) else []
/-- what operation i does not see: what was made by those that stand neither ahead nor behind, and the blocks into which such store -/
def hidOf (A : List Nat) (i : Nat) (rs : List (Nat × Nat × Nat)) (ps : List (Nat × Nat)) : List (Nat × Nat) :=
  (rs.filterMap fun r => bif bitL A i r.1 then none else some (r.2.1, r.2.2)) ++ (ps.filterMap fun p => bif Nat.beq p.1 i || aheadB A i p.1 then none else some (p.2, Nat.succ p.2))
def oneOf (i : Nat) (ps : List (Nat × Nat)) : Nat := match ps with
  | [] => big
  | (k, b) :: l => bif Nat.beq k i then b else oneOf i l
/-- a region that draws its order; rs: what each made -/
noncomputable def anyB (P : Program) (R : Rec) (ops : Array Oper) (A : List Nat) (W : List Bool) (ps : List (Nat × Nat)) : List Oper → Nat → List (Nat × Nat × Nat) → Fr → St → Option (Fr × St)
  | [], _, _, fr, st => some (fr, st)
  | o :: l, i, rs, fr, st =>
    bif guardB ops fr o then
      bif pureK o then match execP P fr.ev o with
        | some v => match fr.put o.dst v with | some fr => anyB P R ops A W ps l (Nat.succ i) rs fr st | none => none
        | none => none
      else match execH P R fr.ev o (bif W.getD i false then st else { st with lim := st.next, one := oneOf i ps, hid := hidOf A i rs ps ++ st.hid }) with
        | some r => match fr.put o.dst r.1 with | some fr => anyB P R ops A W ps l (Nat.succ i) ((i, st.next, r.2.next) :: rs) fr { r.2 with lim := st.lim, one := st.one, hid := st.hid } | none => none
        | none => none
    else match fr.put o.dst undef with | some fr => anyB P R ops A W ps l (Nat.succ i) rs fr st | none => none
/-- these blocks may be written, and are apart -/
def apartB (lim one next : Nat) : List (Nat × Nat) → Bool
  | [] => true
  | (_, b) :: l => (Nat.ble lim b || Nat.beq b one) && Nat.blt b next && (l.all fun q => !(Nat.beq q.2 b)) && apartB lim one next l
noncomputable def regB (P : Program) (R : Rec) (ops : Array Oper) (draw : Bool) (fr : Fr) (st : St) : Option (Fr × St) :=
  bif draw then (bif okR st.ng ops then (match putsB P R ops (wrs ops (ancs ops.toList [])) fr st with | ps => bif apartB st.lim st.one st.next ps then anyB P R ops (ancs ops.toList []) (wrs ops (ancs ops.toList [])) ps ops.toList 0 [] fr st else none) else none) else (bif okOps st.ng ops then seqB P R ops ops.toList fr st else none)
def entersB (P : Program) : Value → Bool
  | .func (.func g) _ _ => match P.funcs[g]? with | some fn => fn.body.isSome && !(fn.name == "runtime.NumGoroutine") | none => false
  | _ => false
noncomputable def stepCode (P : Program) (R : Rec) (c : Code) (fr : Fr) (st : St) : Option (Exit × Fr × St) := match c with
  | .skip => some (.normal, fr, st)
  | .label _ => some (.normal, fr, st)
  | .region _ ops draw => (regB P R ops draw fr st).map fun r => (.normal, r.1, r.2)
  | .seq a b => match R.code a fr st with
    | some (.normal, fr, st) => R.code b fr st
    | r => r
  | .cond c a b => bif okOpd st.ng c then (match fr.ev c with | .bool t => bif t then R.code a fr st else R.code b fr st | _ => none) else none
  | .block id b => match R.code b fr st with
    | some (.exit k, fr, st) => bif Nat.beq k id then some (.normal, fr, st) else some (.exit k, fr, st)
    | r => r
  | .loop b => match R.code b fr st with
    | some (.normal, fr, st) => R.code c fr st
    | r => r
  | .exit id => some (.exit id, fr, st)
  | .goto l => some (.goto l, fr, st)
  | .ret => some (.ret, fr, st)
  | .scope b => match fr.round with | none => R.back b b fr st | some _ => none
  | .rangeFunc f ps asg body => bif okOpd st.ng f && entersB P (fr.ev f) then
      match (show Option (Nat × List Nat × St) from match fr.round with
        | some l => (match st.get l with | some (.loop _ _ _ _ _ _ _ d) => some (d, ([] : List Nat), st) | _ => none)
        | none => (st.new (.dfr true)).map fun r => (r.1, [r.1], r.2)) with
      | none => none
      | some (d, mk, st) => match st.new (.loop .ready none fr.t fr.m ps asg body d) with
        | none => none
        | some (l, st) => match callV R (fr.ev f) [.func (.yield l) #[] #[]] st with
          | none => none
          | some (_, st) => match st.get l with
            | some (.loop s pend t m ps asg body d) => match s with
              | .busy => none
              | _ => match st.put l (some (.loop .exhausted pend t m ps asg body d)) with
                | none => none
                | some st => match pend with
                  | none => some (.normal, { fr with marks := mk ++ fr.marks }, st)
                  | some .ret => some (.ret, { fr with marks := mk ++ fr.marks }, st)
                  | some (.exit k) => some (.exit k, { fr with marks := mk ++ fr.marks }, st)
                  | some _ => none
            | _ => none
    else none
  | .refuse _ => none
noncomputable def putAll : List Value → Nat → Tr Value → Tr Value
  | [], _, t => t
  | v :: l, i, t => putAll l (Nat.succ i) (t.set 24 i (some v))
noncomputable def putPar (m : Nat) : List (Tmp × Value) → Tr Value → Option (Tr Value)
  | [], t => some t
  | (d, v) :: l, t => bif Nat.blt d m then putPar m l (t.set 24 d (some v)) else none
noncomputable def takeMarks : List Nat → St → Option St
  | [], st => some st
  | d :: l, st => match st.get d with
    | some (.dfr true) => match st.put d (some (.dfr false)) with | some st => takeMarks l st | none => none
    | _ => none
noncomputable def resB (P : Program) (st : St) (fr : Fr) : List ResultVar → Option (List Value)
  | [] => some []
  | .tmp t :: l => match resB P st fr l with | some vs => some (fr.get t :: vs) | none => none
  | .cell a t :: l => match fr.get a with
    | .pointer (some ⟨k, off, none⟩) => match ld P st t k off, resB P st fr l with | some v, some vs => some (v :: vs) | _, _ => none
    | _ => none
/-- what is known of some functions without a walk -/
abbrev Orc := FuncId → List Value → St → Option (Value × St)
noncomputable def stepCall (P : Program) (O : Orc) (R : Rec) (f : FuncId) (args : List Value) (st : St) : Option (Value × St) := match O f args st with
 | some r => some r
 | none => match P.funcs[f]? with
  | none => none
  | some fn => bif fn.name == "runtime.NumGoroutine" then none else match fn.body with
    | none => bif pls args then (match pv P (callFunc f args.toArray) with | some (.value v) => bif pl v then some (v, st) else none | _ => none) else none
    | some c => bif Nat.ble args.length fn.ntmps && Nat.ble fn.ntmps big then
      match R.code c ⟨putAll args 0 .nil, fn.ntmps, [], none⟩ st with
      | some (e, fr, st) => match e with
        | .normal | .ret => match takeMarks fr.marks st with
          | none => none
          | some st => match resB P st fr fn.results.toList with
            | some [v] => some (v, st)
            | some vs => some (.tuple vs.toArray, st)
            | none => none
        | _ => none
      | none => none else none
noncomputable def stepYield (P : Program) (R : Rec) (l : Nat) (args : List Value) (st : St) : Option (Value × St) := match st.get l with
  | some (.loop .ready pend t m ps asg body d) => bif Nat.beq args.length ps.size then match putPar m (ps.toList.zip args) t with
    | none => none
    | some t' => match R.code asg ⟨t', m, [], some l⟩ st with
      | some (.normal, fr, st) => match st.get l with
        | some (.loop .ready pend t m ps asg body' d) => match st.put l (some (.loop .busy pend t m ps asg body' d)) with
          | none => none
          | some st => match R.code body fr st with
            | none => none
            | some (e, _, st) => match st.get l, (match e with | .normal => some none | .ret => some (some Code.ret) | .exit k => some (some (Code.exit k)) | _ => none) with
              | some (.loop _ _ t m ps asg body d), some jump => (st.put l (some (.loop (bif Option.isNone jump then .ready else .done) jump t m ps asg body d))).map fun st => (.bool (Option.isNone jump), st)
              | _, _ => none
        | _ => none
      | _ => none
    else none
  | _ => none
noncomputable def stepBack (R : Rec) (b c : Code) (fr : Fr) (st : St) : Option (Exit × Fr × St) := match R.code c fr st with
  | some (.goto l, fr, st) => (match findLabel b l with
    | some rest => R.back b rest fr st
    | none => some (.goto l, fr, st))
  | r => r
noncomputable def ev (P : Program) (O : Orc) (n : Nat) : Rec :=
  Nat.rec (motive := fun _ => Rec) ⟨fun _ _ _ => none, fun _ _ _ => none, fun _ _ _ => none, fun _ _ _ _ => none⟩ (fun _ R => ⟨stepCode P R, stepCall P O R, stepYield P R, stepBack R⟩) n
noncomputable def runB (P : Program) (O : Orc) (s : St) (f : FuncId) : Bool := match (ev P O 1000000).call f [] s with
  | some (.bool true, _) => true
  | _ => false
end Go.Proofs.YtbanjolokkghdaaGreatDoor
