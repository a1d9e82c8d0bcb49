/- Parts of the proof that follows: The laws of chapter 25: own. No condition. | Reference 25: ends, Total. No condition but that there is one at least, or that they are few. | The document's segments: Kind, Right walked. | The document's segments: Right, Points told. | Reference 25: Total. No condition but that they are few. -/
import Derived.Test.YtidfcoooccblaaaGreatTells15
set_option maxRecDepth 100000
set_option maxHeartbeats 8000000
set_option linter.unusedSimpArgs false
set_option linter.unusedVariables false
namespace Go.Proofs.YtidfcoooccblaaaGreat
open Go.RowKit
attribute [local simp] Oper.looksAt Op.operands Call.operands envOf Det GDet
theorem Tryz.infoSeg : (Tryz.prog.info? 98).map (fun i => (i.zero, i.size, i.bytes)) = some (some (.agg #[.int .i64 0, .slice none 0 0, .int .i64 0, .int .i64 0, .int .i64 0, .int .i64 0, .slice none 0 0, .int .i64 0]), 8, 96) := by kernel_rfl
theorem add_zero_map (p : Option Addr) : (Option.map (fun x : Addr => x) p) = p := by cases p <;> rfl
theorem flatSegs_len (l : List SegR) : (flatSegs l).length = l.length * 8 := by
 unfold flatSegs
 induction l with
 | nil => rfl
 | cons x l ih => rw [List.flatMap_cons, List.length_append, ih, segRA_len, List.length_cons]; omega
theorem flatSegs_one {l : List SegR} (u : Value) (h : u ∈ flatSegs l) : u.oneCell' = true := by
 unfold flatSegs at h
 obtain ⟨r, _, hu⟩ := List.mem_flatMap.1 h
 unfold segRA segA at hu
 simp at hu
 rcases hu with rfl | rfl | rfl | rfl | rfl | rfl | rfl | rfl <;> rfl
def ownG (s : SegT) : SegT := ⟨s.K, s.runs.take 300, s.A, s.R, s.n, s.d, s.raw.take 300, s.E⟩
theorem RunsIn.rex1 {w w' : World} {p : Option Addr} {l : List RunT} {g : Nat} {L : List Nat} (h : RunsIn w p l) (hL : ∀ x, x ∈ L -> x <= g) (hg : ∀ a, p = some a -> g < a.block) (hr : Rex L w w') : RunsIn w' p l := ⟨fun i r hi => by
 obtain ⟨b, o, e, h1, h2, h3⟩ := h.at' i r hi
 have hb := hg _ e
 have key : ∀ z v, w.cell? ⟨b, z, none⟩ = some v -> w'.cell? ⟨b, z, none⟩ = some v := fun z v hv => (World.cell?_of_block (hr.block b (cell_lt hv) (fun hx => by have := hL _ hx; simp at hb; omega))).trans hv
 exact ⟨b, o, e, key _ _ h1, key _ _ h2, key _ _ h3⟩⟩
theorem IntsIn.rex1 {w w' : World} {p : Option Addr} {l : List Int} {g : Nat} {L : List Nat} (h : IntsIn w p l) (hL : ∀ x, x ∈ L -> x <= g) (hg : ∀ a, p = some a -> g < a.block) (hr : Rex L w w') : IntsIn w' p l := ⟨fun i r hi => by
 obtain ⟨b, o, e, h1⟩ := h.at' i r hi
 have hb := hg _ e
 exact ⟨b, o, e, (World.cell?_of_block (hr.block b (cell_lt h1) (fun hx => by have := hL _ hx; simp at hb; omega))).trans h1⟩⟩
structure OwnSeg (W : World) (g : Nat) (r0 r : SegR) : Prop where
 says : r.s = ownG r0.s
 runs : RunsIn W r.p r.s.runs
 raw : IntsIn W r.q r.s.raw
 capV : r.s.raw.length <= r.vc
 farR : ∀ a, r.p = some a -> g < a.block
 farV : ∀ a, r.q = some a -> g < a.block
theorem OwnSeg.rex {W W' : World} {g : Nat} {r0 r : SegR} {L : List Nat} (h : OwnSeg W g r0 r) (hL : ∀ x, x ∈ L -> x <= g) (hr : Rex L W W') : OwnSeg W' g r0 r := ⟨h.says, h.runs.rex1 hL h.farR hr, h.raw.rex1 hL h.farV hr, h.capV, h.farR, h.farV⟩
structure OwnTo (W : World) (g : Nat) (rows R : List SegR) (i : Nat) : Prop where
 len : R.length = rows.length
 rest : ∀ k, i <= k -> R[k]? = rows[k]?
 own : ∀ k, k < i -> ∀ r, R[k]? = some r -> ∃ r0, rows[k]? = some r0 /\ OwnSeg W g r0 r
theorem OwnTo.start (W : World) (g : Nat) (rows : List SegR) : OwnTo W g rows rows 0 := ⟨rfl, fun _ _ => rfl, fun k h => by omega⟩
theorem OwnTo.rex {W W' : World} {g i : Nat} {rows R : List SegR} {L : List Nat} (h : OwnTo W g rows R i) (hL : ∀ x, x ∈ L -> x <= g) (hr : Rex L W W') : OwnTo W' g rows R i := ⟨h.len, h.rest, fun k hk r hR => by
 obtain ⟨r0, h1, h2⟩ := h.own k hk r hR
 exact ⟨r0, h1, h2.rex hL hr⟩⟩
theorem OwnTo.step {W : World} {g i : Nat} {rows R : List SegR} {r0 r1 : SegR} (h : OwnTo W g rows R i) (h0 : rows[i]? = some r0) (h1 : OwnSeg W g r0 r1) : OwnTo W g rows (R.set i r1) (i + 1) := ⟨by rw [List.length_set]; exact h.len, fun k hk => by rw [List.getElem?_set_ne (by omega)]; exact h.rest k (by omega), fun k hk r hR => by
 rw [List.getElem?_set] at hR
 split at hR
 ·rename_i e
  subst e
  split at hR
  ·injection hR with hR
   subst hR
   exact ⟨r0, h0, h1⟩
  ·cases hR
 ·exact h.own k (by omega) r hR⟩
theorem segRA_runs (r : SegR) (l : List RunT) (p : Option Addr) (c : Nat) : segRA ⟨⟨r.s.K, l, r.s.A, r.s.R, r.s.n, r.s.d, r.s.raw, r.s.E⟩, p, r.q, c, r.vc⟩ = (segRA r).setIfInBounds 1 (.slice p l.length c) := rfl
theorem segRA_raw (r : SegR) (l : List Int) (q : Option Addr) (c : Nat) : segRA ⟨⟨r.s.K, r.s.runs, r.s.A, r.s.R, r.s.n, r.s.d, l, r.s.E⟩, r.p, q, r.cap, c⟩ = (segRA r).setIfInBounds 6 (.slice q l.length c) := rfl
theorem own_segs {W W' : World} {g i : Nat} {rows R : List SegR} {cur : Array Value} {L : List Nat} (hb : Blk W' g cur 98) (hSC : SegCells cur R) (h : OwnTo W g rows R i) (hi : rows.length <= i) (hL : ∀ x, x ∈ L -> x <= g) (hr : Rex L W W') : SegsIn W' (some ⟨g, 0, none⟩) (rows.map fun r => ownG r.s) := ⟨fun k s hs => by
 obtain ⟨r0, h0, rfl⟩ : ∃ r0, rows[k]? = some r0 /\ ownG r0.s = s := by simpa using hs
 have hk : k < rows.length := (List.getElem?_eq_some_iff.1 h0).1
 obtain ⟨r, hR⟩ : ∃ r, R[k]? = some r := ⟨_, List.getElem?_eq_getElem (by rw [h.len]; exact hk)⟩
 obtain ⟨r0', h0', ow⟩ := h.own k (by omega) r hR
 rw [h0] at h0'
 injection h0' with h0'
 subst h0'
 have ow' := ow.rex hL hr
 refine ⟨g, 0, r.p, r.q, r.cap, r.vc, rfl, fun j v hv => ?_, ?_, ?_⟩
 ·rw [show 0 + k * 8 + j = k * 8 + j by omega]
  rw [<- ow'.says] at hv
  exact (hb.cell _).trans (hSC k r hR j v hv)
 ·rw [<- ow'.says]
  exact ⟨ow'.runs, ow'.raw, by rw [ow'.says]; show (r0.s.runs.take 300).length <= 300; rw [List.length_take]; omega, by rw [ow'.says]; show (r0.s.raw.take 300).length <= 300; rw [List.length_take]; omega⟩
 ·rw [<- ow'.says]
  exact ow'.capV⟩
theorem Tryz.infoPt : (Tryz.prog.info? 91).map (fun i => (i.zero, i.size, i.bytes)) = some (some (.agg #[.int .i64 0, .int .i64 0]), 2, 16) := by kernel_rfl
theorem flatPts_len9 : ∀ l : List (Int × Int), (flatPts l).length = l.length * 2
 | [] => rfl
 | x :: l => by
  rw [show flatPts (x :: l) = [.int .i64 x.1, .int .i64 x.2] ++ flatPts l from rfl, List.length_append, flatPts_len9 l]
  simp only [List.length_cons, List.length_nil]
  omega
theorem flatPts_one9 : ∀ (l : List (Int × Int)) (u : Value), u ∈ flatPts l -> u.oneCell' = true
 | [], u, h => by simp [flatPts] at h
 | x :: l, u, h => by
  rw [show flatPts (x :: l) = [.int .i64 x.1, .int .i64 x.2] ++ flatPts l from rfl] at h
  simp only [List.mem_append, List.mem_cons, List.not_mem_nil, or_false] at h
  rcases h with (rfl | rfl) | h
  ·rfl
  ·rfl
  ·exact flatPts_one9 l u h
theorem flatPts_flat : ∀ l : List (Int × Int), flatPts l = l.flatMap fun x => [.int .i64 x.1, .int .i64 x.2]
 | [] => rfl
 | x :: l => by rw [List.flatMap_cons, <- flatPts_flat l]; rfl
theorem pts_flat9 {w : World} {a : Addr} {l : List (Int × Int)} (h : PtsIn w (some a) l) (j : Nat) (u : Value) (hu : (flatPts l)[j]? = some u) : w.cell? (a.add j) = some u := by
 rw [flatPts_flat] at hu
 obtain ⟨i, x, k, h1, h2, rfl, h3⟩ := flat_of _ 2 (by omega) (fun _ => rfl) l j u hu
 obtain ⟨b, o, e, c0, c1⟩ := h.at' i x h1
 injection e with e
 subst e
 rw [show (⟨b, o, none⟩ : Addr).add (i * 2 + k) = ⟨b, o + i * 2 + k, none⟩ by unfold Addr.add; split <;> simp_all <;> omega]
 match k, h2, h3 with
 | 0, _, h3 => simp at h3; subst h3; exact c0
 | 1, _, h3 => simp at h3; subst h3; exact c1
theorem PtsIn.take9 {w : World} {p : Option Addr} {l : List (Int × Int)} (h : PtsIn w p l) (k : Nat) : PtsIn w p (l.take k) := ⟨fun i r hr => h.at' i r (by
 rw [List.getElem?_take] at hr
 split at hr
 ·exact hr
 ·cases hr)⟩
def ownRel (w : World) (nm : ByteArray) (ep fl la sc : Int) (po : Option Addr) (co np : Nat) (rows : List SegR) (M gS capS : Nat) (a' : Act) (W : World) : Prop :=
 Below w.heap.size w W /\ Blk W w.heap.size #[.string nm, .int .i64 ep, .int .i64 fl, .int .i64 la, .int .i64 sc, .slice (some ⟨gS, 0, none⟩) M capS, .slice po np co] 25 /\ Blk W (w.heap.size + 1) #[.string .empty, .int .i64 0, .int .i64 0, .int .i64 0, .int .i64 0, .slice none 0 0, .slice none 0 0] 25 /\ ∃ (i : Nat) (cur : Array Value) (R : List SegR), Blk W gS cur 98 /\ SegCells cur R /\ OwnTo W gS rows R i /\ (∃ u : Nat -> Value, a' = { tmps := #[u 0, .pointer (some ⟨w.heap.size, 0, none⟩), .pointer (some ⟨w.heap.size + 1, 0, none⟩), u 3, u 4, u 5, u 6, u 7, u 8, u 9, u 10, u 11, u 12, u 13, u 14, u 15, .slice (some ⟨gS, 0, none⟩) M capS, .int .i64 (M : Int), .int .i64 (i : Int), u 19, u 20, u 21, u 22, u 23, u 24, u 25, u 26, u 27, u 28, u 29, u 30, u 31, u 32, u 33, u 34, u 35, u 36, u 37, u 38, u 39, u 40, u 41, u 42, u 43, u 44, u 45, u 46, u 47, u 48, u 49, u 50, u 51, u 52, u 53, u 54, u 55, u 56, u 57, u 58, u 59, u 60, u 61, u 62], defers := [] }) /\ i <= M
theorem own_w (nm : ByteArray) (ep fl la sc : Int) (ps po : Option Addr) (cs co : Nat) (rows : List SegR) (pts : List (Int × Int)) (w : World) (M N : Nat)
  (hsegs : SegsCame w ps rows) (hpts : PtsIn w po pts) (hnil : ps = none -> rows.length = 0 /\ cs = 0) (hnilP : po = none -> pts.length = 0 /\ co = 0) (hcap : rows.length <= cs) (hcapP : pts.length <= co)
  (hM : M <= 60) (hMr : M <= rows.length) (EM : Hid ((if (60 : Int) < (rows.length : Int) then (60 : Int) else rows.length) = (M : Int))) (hMc : (M : Int) <= cs) (hM0 : 0 <= (M : Int))
  (hN : N <= 60) (hNr : N <= pts.length) (EN : Hid ((if (60 : Int) < (pts.length : Int) then (60 : Int) else pts.length) = (N : Int))) (hNc : (N : Int) <= co) (hN0 : 0 <= (N : Int)) :
  Calls Tryz.prog 12 #[.agg #[.string nm, .int .i64 ep, .int .i64 fl, .int .i64 la, .int .i64 sc, .slice ps rows.length cs, .slice po pts.length co]] w fun e w' => ∃ gS capS gP capP, e = .returned (.agg #[.string nm, .int .i64 ep, .int .i64 fl, .int .i64 la, .int .i64 sc, .slice (some ⟨gS, 0, none⟩) M capS, .slice (some ⟨gP, 0, none⟩) N capP]) /\ Below w.heap.size w w' /\ SegsIn w' (some ⟨gS, 0, none⟩) ((rows.take M).map fun r => ownG r.s) /\ PtsIn w' (some ⟨gP, 0, none⟩) (pts.take N) := by
 go_enter Tryz.func12, Tryz.ntmps12
 go_upto_region 1 with (fail)
 refine wp_facts (fun W' => Below w.heap.size w W' /\ Blk W' w.heap.size #[.string nm, .int .i64 ep, .int .i64 fl, .int .i64 la, .int .i64 sc, .slice ps rows.length cs, .slice po pts.length co] 25 /\ Blk W' (w.heap.size + 1) #[.string .empty, .int .i64 0, .int .i64 0, .int .i64 0, .int .i64 0, .slice none 0 0, .slice none 0 0] 25) ⟨by exact belowAny, by exact blkAny2, by exact blkAny2⟩ ?_
 rintro W1 ⟨hW, b1, b2⟩
 have z2 := hW.size
 have z3 := b1.lt
 have z4 := b2.lt
 refine wp_region_sq 10 63 [] (fun W' => Rex [] W1 W' /\ Blk W' w.heap.size #[.string nm, .int .i64 ep, .int .i64 fl, .int .i64 la, .int .i64 sc, .slice ps rows.length cs, .slice po pts.length co] 25 /\ Blk W' (w.heap.size + 1) #[.string .empty, .int .i64 0, .int .i64 0, .int .i64 0, .int .i64 0, .slice none 0 0, .slice none 0 0] 25) (by kernel_rfl) rfl ⟨(Rex.refl _ _), b1, b2⟩ (fun w w' ⟨h0, h1, h2⟩ hr => ⟨h0.trans hr, h1.rex hr (by simp <;> omega), h2.rex hr (by simp <;> omega)⟩) ?_
 apply nd_mem (MadeV W1.heap.size 98) (hg := rfl) (hal := rfl)
 ·exact MadeV.closed _ _
 ·intro a' W' hC hE
  exact ⟨.slice (some ⟨W'.heap.size, 0, none⟩) 0 0, W'.alloc (.cells #[] 98), by kernel_rfl, (Below.refl _ _).alloc (Nat.le_refl _) _, W'.heap.size, rfl, hC.1.size, Blk.new' rfl⟩
 iterate 5
  apply nd_det (hg := rfl) (hal := rfl)
  ·intro a W' hC hE
   obtain ⟨_, k1, k2⟩ := hC
   have k1 := k1.cell
   first
    | (simp at hE; simp [go_sem, Act.eval, IntWalk.i64_left, hE, k1, k2]; try rfl)
    | (clear hE; simp [go_sem, Act.eval, IntWalk.i64_left, k1, k2]; try rfl)
 apply nd_det (.int .i64 ((M : Nat) : Int)) (hg := rfl) (hal := rfl)
 ·intro a' W' hC hE
  simp at hE
  simp [go_sem, Act.eval, hE, EM.out]
 apply nd_det (.slice ps M cs) (hg := rfl) (hal := rfl)
 ·intro a' W' hC hE
  simp at hE
  simp [go_sem, Act.eval, hE, hMc, hM0, add_zero_map]
 apply nd_mem (AppV W1.heap.size 98 M (M * 8) (flatSegs (rows.take M))) (hg := rfl) (hal := rfl)
 ·exact AppV.closed _ _ _ _ _
 ·intro a' W' hC hE
  simp at hE
  obtain ⟨⟨g9, hv9, hgB9, hgb9⟩, hx9⟩ := hE
  obtain ⟨i9, hi9, hz0, hz1, hz2⟩ := info_parts Tryz.infoSeg
  obtain ⟨v9, w9, hr9, hB9, g8, c8, cur8, e8, h81, h82, h83, h84, h85⟩ := app_own (P := Tryz.prog) (m := M) (p := ps) (c := cs) (news := (flatSegs (rows.take M))) 22 22 98 i9 _ 8 96 (by kernel_rfl) hi9 hz0 hz1 hz2 rfl (by omega) hgb9 (fun e => by have := hnil e; omega) (by rw [flatSegs_len, List.length_take]; omega) (fun a ha j u hu => (hsegs.below (hW.trans (hC.1.of_priv hW.size))).take M |>.flat a ha j u hu) (fun u hu => flatSegs_one u hu) (by omega) (by omega)
  refine ⟨v9, w9, ?_, hB9, g8, c8, cur8, e8, by omega, h82, h83, h84, h85⟩
  simp [execOp, resolve, invoke, builtin, Act.eval, hx9, hv9, hr9, Result.andThen]
 iterate 1
  apply nd_det (hg := rfl) (hal := rfl)
  ·intro a W' hC hE
   obtain ⟨_, k1, k2⟩ := hC
   have k1 := k1.cell
   first
    | (simp at hE; simp [go_sem, Act.eval, IntWalk.i64_left, hE, k1, k2]; try rfl)
    | (clear hE; simp [go_sem, Act.eval, IntWalk.i64_left, k1, k2]; try rfl)
 rintro W5 ⟨hR, d1, d2⟩
 simp only [ndFinR, Det, forall_eq]
 intros
 repeat (rename GDet _ _ _ _ => hgd; clear hgd)
 simp only [Act.put, List.setIfInBounds_toArray, List.set_cons_zero, List.set_cons_succ, List.drop_succ_cons, List.drop_zero]
 replace hW := hW.trans (hR.of_priv hW.size)
 clear hR
 try clear b1 b2
 have b1 := d1
 clear d1
 have b2 := d2
 clear d2
 rename AppV _ _ _ _ _ _ _ => ha
 obtain ⟨gS, capS, curS, rfl, hgS0, b3, hc3, hs3, ht3⟩ := ha
 rename MadeV _ _ _ _ => hm
 clear hm
 have hgS : w.heap.size + 1 < gS := by omega
 have y3 := b3.lt
 have k1 := b1.cell
 have f1 := b1.frozen
 have k2 := b2.cell
 have f2 := b2.frozen
 have k3 := b3.cell
 have f3 := b3.frozen
 go_wp2
 refine wp_loop (ownRel w nm ep fl la sc po co pts.length (rows.take M) M gS capS) (fun a' _ => M - (intAt (a'.tmps.getD 18 undef)).toNat) ?_ ?_
 ·have hl9 : (rows.take M).length = M := by rw [List.length_take]; omega
  exact ⟨belowAny, blkAny2, blkAny2, 0, curS, rows.take M, blkAny2, segCells_of ht3 hl9, OwnTo.start _ _ _, frame_ex rfl, Nat.zero_le _⟩
 clear hgS0 hc3 hs3 ht3 b1 b2 b3 hW k1 f1 k2 f2 k3 f3
 rintro a' W ⟨hW0, b1, b2, i, cur, R, b3, hSC, hOT, ⟨u, rfl⟩, hi'⟩
 have hz := hW0.size
 have zb1 := b1.lt
 have zb2 := b2.lt
 have zb3 := b3.lt
 rcases Nat.lt_or_ge i M with hiM | hiM
 ·have hlen9 : (rows.take M).length = M := by rw [List.length_take]; omega
  obtain ⟨r0, hr0⟩ : ∃ r, (rows.take M)[i]? = some r := ⟨_, List.getElem?_eq_getElem (by omega)⟩
  have hR0 : R[i]? = some r0 := (hOT.rest i (Nat.le_refl _)).trans hr0
  obtain ⟨b, o, _, _, hcm⟩ := (hsegs.take M) i r0 hr0
  have hnR := hcm.nilR
  have hnV := hcm.nilV
  obtain ⟨K1, hK1⟩ : ∃ K, (r0.s.runs.take 300).length = K := ⟨_, rfl⟩
  obtain ⟨K2, hK2⟩ : ∃ K, (r0.s.raw.take 300).length = K := ⟨_, rfl⟩
  have lK1 := hK1
  have lK2 := hK2
  rw [List.length_take] at lK1 lK2
  have EK1 := Lib.hid (show (if (300 : Int) < (r0.s.runs.length : Int) then (300 : Int) else r0.s.runs.length) = (K1 : Int) by split <;> omega)
  have EK2 := Lib.hid (show (if (300 : Int) < (r0.s.raw.length : Int) then (300 : Int) else r0.s.raw.length) = (K2 : Int) by split <;> omega)
  have hcR := hcm.capR
  have hcV := hcm.capV
  have hK1c : (K1 : Int) <= r0.cap := by omega
  have hK10 : (0 : Int) <= K1 := by omega
  have hK2c : (K2 : Int) <= r0.vc := by omega
  have hK20 : (0 : Int) <= K2 := by omega
  replace hnR : r0.p = none -> r0.s.runs.length = 0 /\ r0.cap = 0 := fun e => ⟨by rw [(hnR e).1]; rfl, (hnR e).2⟩
  replace hnV : r0.q = none -> r0.s.raw.length = 0 /\ r0.vc = 0 := fun e => ⟨by rw [(hnV e).1]; rfl, (hnV e).2⟩
  have hrun : ∀ W', Below w.heap.size w W' -> ∀ a, r0.p = some a -> ∀ (j : Nat) u, (flatCells (r0.s.runs.take 300))[j]? = some u -> W'.cell? (a.add j) = some u := fun W' hB a ha j u hu => by
   have h := (hcm.runs.below hB).take 300
   rw [ha] at h
   exact h.flat j u hu
  have hraw : ∀ W', Below w.heap.size w W' -> ∀ a, r0.q = some a -> ∀ (j : Nat) u, ((r0.s.raw.take 300).map (Value.int .i64))[j]? = some u -> W'.cell? (a.add j) = some u := fun W' hB a ha j u hu => by
   have h := (hcm.raw.below hB).take 300
   rw [ha] at h
   exact ints_flat h j u hu
  replace hK1 := Lib.hid hK1
  replace hK2 := Lib.hid hK2
  clear hcm hlen9 EM
  have k1 := b1.cell
  have f1 := b1.frozen
  have k2 := b2.cell
  have f2 := b2.frozen
  have k3 := b3.cell
  have f3 := b3.frozen
  have q0 : W.cell? ⟨gS, i * 8, none⟩ = some (.int .i64 r0.s.K) := (b3.cell _).trans (hSC i r0 hR0 0 _ rfl)
  have q1 : W.cell? ⟨gS, i * 8 + 1, none⟩ = some (.slice r0.p r0.s.runs.length r0.cap) := (b3.cell _).trans (hSC i r0 hR0 1 _ rfl)
  have q2 : W.cell? ⟨gS, i * 8 + 2, none⟩ = some (.int .i64 r0.s.A) := (b3.cell _).trans (hSC i r0 hR0 2 _ rfl)
  have q3 : W.cell? ⟨gS, i * 8 + 3, none⟩ = some (.int .i64 r0.s.R) := (b3.cell _).trans (hSC i r0 hR0 3 _ rfl)
  have q4 : W.cell? ⟨gS, i * 8 + 4, none⟩ = some (.int .i64 r0.s.n) := (b3.cell _).trans (hSC i r0 hR0 4 _ rfl)
  have q5 : W.cell? ⟨gS, i * 8 + 5, none⟩ = some (.int .i64 r0.s.d) := (b3.cell _).trans (hSC i r0 hR0 5 _ rfl)
  have q6 : W.cell? ⟨gS, i * 8 + 6, none⟩ = some (.slice r0.q r0.s.raw.length r0.vc) := (b3.cell _).trans (hSC i r0 hR0 6 _ rfl)
  have q7 : W.cell? ⟨gS, i * 8 + 7, none⟩ = some (.int .i64 r0.s.E) := (b3.cell _).trans (hSC i r0 hR0 7 _ rfl)
  clear k3 f3
  go_upto_region 5 with (fail)
  clear q0 q1 q2 q3 q4 q5 q6 q7
  clear k1 f1 k2 f2
  refine wp_facts (fun W' => Rex [gS] W W' /\ Blk W' w.heap.size #[.string nm, .int .i64 ep, .int .i64 fl, .int .i64 la, .int .i64 sc, .slice (some ⟨gS, 0, none⟩) M capS, .slice po pts.length co] 25 /\ Blk W' (w.heap.size + 1) #[.string .empty, .int .i64 0, .int .i64 0, .int .i64 0, .int .i64 0, .slice none 0 0, .slice none 0 0] 25 /\ Blk W' gS cur 98 /\ Blk W' W.heap.size #[.int .i64 r0.s.K, .slice r0.p r0.s.runs.length r0.cap, .int .i64 r0.s.A, .int .i64 r0.s.R, .int .i64 r0.s.n, .int .i64 r0.s.d, .slice r0.q r0.s.raw.length r0.vc, .int .i64 r0.s.E] 98) ⟨by exact rexAny, by exact blkAny2, by exact blkAny2, by exact blkAny2, by exact blkAny2⟩ ?_
  clear b1 b2 b3
  rintro W21 ⟨hW, b1, b2, b3, b4⟩
  have z22 := hW.size
  have z23 := b1.lt
  have z24 := b2.lt
  have z25 := b3.lt
  have z26 := b4.lt
  refine wp_region_nd 14 63 [] (fun W' => Rex [] W21 W' /\ Blk W' w.heap.size #[.string nm, .int .i64 ep, .int .i64 fl, .int .i64 la, .int .i64 sc, .slice (some ⟨gS, 0, none⟩) M capS, .slice po pts.length co] 25 /\ Blk W' (w.heap.size + 1) #[.string .empty, .int .i64 0, .int .i64 0, .int .i64 0, .int .i64 0, .slice none 0 0, .slice none 0 0] 25 /\ Blk W' gS cur 98 /\ Blk W' W.heap.size #[.int .i64 r0.s.K, .slice r0.p r0.s.runs.length r0.cap, .int .i64 r0.s.A, .int .i64 r0.s.R, .int .i64 r0.s.n, .int .i64 r0.s.d, .slice r0.q r0.s.raw.length r0.vc, .int .i64 r0.s.E] 98) mixed (by kernel_rfl) rfl ⟨(Rex.refl _ _).drew, b1, b2, b3, b4⟩ (fun w w' ⟨h0, h1, h2, h3, h4⟩ hr => ⟨h0.trans hr, h1.rex hr (by simp <;> omega), h2.rex hr (by simp <;> omega), h3.rex hr (by simp <;> omega), h4.rex hr (by simp <;> omega)⟩) (fun c a d v w h => by cases d <;> exact h) ?_
  iterate 3
   apply nd_det (hg := rfl) (hal := rfl)
   ·intro a W' hC hE
    obtain ⟨_, k1, k2, k3, k4⟩ := hC
    have k1 := k1.cell
    have k4 := k4.cell
    first
     | (simp at hE; simp [go_sem, Act.eval, IntWalk.i64_left, hE, k1, k2, k3, k4, hiM]; try rfl)
     | (clear hE; simp [go_sem, Act.eval, IntWalk.i64_left, k1, k2, k3, k4, hiM]; try rfl)
  apply nd_mem (MadeV W21.heap.size 144) (hg := rfl) (hal := rfl)
  ·exact MadeV.closed _ _
  ·intro a' W' hC hE
   exact ⟨.slice (some ⟨W'.heap.size, 0, none⟩) 0 0, W'.alloc (.cells #[] 144), by kernel_rfl, (Below.refl _ _).alloc (Nat.le_refl _) _, W'.heap.size, rfl, hC.1.size, Blk.new' rfl⟩
  iterate 5
   apply nd_det (hg := rfl) (hal := rfl)
   ·intro a W' hC hE
    obtain ⟨_, k1, k2, k3, k4⟩ := hC
    have k1 := k1.cell
    have k4 := k4.cell
    first
     | (simp at hE; simp [go_sem, Act.eval, IntWalk.i64_left, hE, k1, k2, k3, k4, hiM]; try rfl)
     | (clear hE; simp [go_sem, Act.eval, IntWalk.i64_left, k1, k2, k3, k4, hiM]; try rfl)
  apply nd_det (.int .i64 ((K1 : Nat) : Int)) (hg := rfl) (hal := rfl)
  ·intro a' W' hC hE
   simp at hE
   simp [go_sem, Act.eval, hE, EK1.out]
  apply nd_det (.slice r0.p K1 r0.cap) (hg := rfl) (hal := rfl)
  ·intro a' W' hC hE
   simp at hE
   simp [go_sem, Act.eval, hE, hK1c, hK10, add_zero_map]
  apply nd_mem (AppV W21.heap.size 144 K1 (K1 * 3) (flatCells (r0.s.runs.take 300))) (hg := rfl) (hal := rfl)
  ·exact AppV.closed _ _ _ _ _
  ·intro a' W' hC hE
   simp at hE
   obtain ⟨⟨g9, hv9, hgB9, hgb9⟩, hx9⟩ := hE
   obtain ⟨i9, hi9, hz0, hz1, hz2⟩ := info_parts Tryz.infoRun
   obtain ⟨v9, w9, hr9, hB9, g8, c8, cur8, e8, h81, h82, h83, h84, h85⟩ := app_own (P := Tryz.prog) (m := K1) (p := r0.p) (c := r0.cap) (news := (flatCells (r0.s.runs.take 300))) 93 93 144 i9 _ 3 24 (by kernel_rfl) hi9 hz0 hz1 hz2 rfl (by omega) hgb9 (fun e => by have := hnR e; omega) (by rw [length_flatCells, hK1.out]) (fun a ha j u hu => hrun _ ((hW0.trans (hW.of_priv hz)).trans (hC.1.of_priv (Nat.le_trans hz hW.size))) a ha j u hu) (fun v hv => by obtain ⟨x, rfl⟩ := flat_mem _ v hv; rfl) (by omega) (by omega)
   refine ⟨v9, w9, ?_, hB9, g8, c8, cur8, e8, by omega, h82, h83, h84, h85⟩
   simp [execOp, resolve, invoke, builtin, Act.eval, hx9, hv9, hr9, Result.andThen]
  iterate 2
   apply nd_det (hg := rfl) (hal := rfl)
   ·intro a W' hC hE
    obtain ⟨_, k1, k2, k3, k4⟩ := hC
    have k1 := k1.cell
    have k4 := k4.cell
    first
     | (simp at hE; simp [go_sem, Act.eval, IntWalk.i64_left, hE, k1, k2, k3, k4, hiM]; try rfl)
     | (clear hE; simp [go_sem, Act.eval, IntWalk.i64_left, k1, k2, k3, k4, hiM]; try rfl)
  rintro W27 ⟨hR, d1, d2, d3, d4⟩
  simp only [ndFinR, Det, forall_eq]
  intros
  repeat (rename GDet _ _ _ _ => hgd; clear hgd)
  simp only [Act.put, List.setIfInBounds_toArray, List.set_cons_zero, List.set_cons_succ, List.drop_succ_cons, List.drop_zero]
  replace hW := hW.trans (hR.more (by simp))
  clear hR
  try clear b1 b2 b3 b4
  have b1 := d1
  clear d1
  have b2 := d2
  clear d2
  have b3 := d3
  clear d3
  have b4 := d4
  clear d4
  rename AppV _ _ _ _ _ _ _ => ha
  obtain ⟨g5, c5, cur5, rfl, hg5, b5, hc5, hs5, ht5⟩ := ha
  rename MadeV _ _ _ _ => hm
  clear hm
  have y5 := b5.lt
  replace ht5 := Lib.hid ht5
  replace hc5 := Lib.hid hc5
  have k1 := b1.cell
  have f1 := b1.frozen
  have k2 := b2.cell
  have f2 := b2.frozen
  have k3 := b3.cell
  have f3 := b3.frozen
  have k4 := b4.cell
  have f4 := b4.frozen
  have k5 := b5.cell
  have f5 := b5.frozen
  have x1 : cur[i * 8 + 1]? = some (.slice r0.p r0.s.runs.length r0.cap) := hSC i r0 hR0 1 _ rfl
  go_upto_region 6 with (fail)
  clear x1
  clear k1 f1 k2 f2 k3 f3 k4 f4 k5 f5
  refine wp_facts (fun W' => Rex [gS] W W' /\ Blk W' w.heap.size #[.string nm, .int .i64 ep, .int .i64 fl, .int .i64 la, .int .i64 sc, .slice (some ⟨gS, 0, none⟩) M capS, .slice po pts.length co] 25 /\ Blk W' (w.heap.size + 1) #[.string .empty, .int .i64 0, .int .i64 0, .int .i64 0, .int .i64 0, .slice none 0 0, .slice none 0 0] 25 /\ Blk W' gS (cur.setIfInBounds (i * 8 + 1) (.slice (some ⟨g5, 0, none⟩) K1 c5)) 98 /\ Blk W' W.heap.size #[.int .i64 r0.s.K, .slice r0.p r0.s.runs.length r0.cap, .int .i64 r0.s.A, .int .i64 r0.s.R, .int .i64 r0.s.n, .int .i64 r0.s.d, .slice r0.q r0.s.raw.length r0.vc, .int .i64 r0.s.E] 98 /\ Blk W' g5 cur5 144) ⟨by exact rexAny, by exact blkAny2, by exact blkAny2, by exact blkAny2, by exact blkAny2, by exact blkAny2⟩ ?_
  clear b1 b2 b3 b4 b5 hW
  rintro W28 ⟨hW, b1, b2, b3, b4, b5⟩
  have z29 := hW.size
  have z30 := b1.lt
  have z31 := b2.lt
  have z32 := b3.lt
  have z33 := b4.lt
  have z34 := b5.lt
  refine wp_region_nd 14 63 [] (fun W' => Rex [] W28 W' /\ Blk W' w.heap.size #[.string nm, .int .i64 ep, .int .i64 fl, .int .i64 la, .int .i64 sc, .slice (some ⟨gS, 0, none⟩) M capS, .slice po pts.length co] 25 /\ Blk W' (w.heap.size + 1) #[.string .empty, .int .i64 0, .int .i64 0, .int .i64 0, .int .i64 0, .slice none 0 0, .slice none 0 0] 25 /\ Blk W' gS (cur.setIfInBounds (i * 8 + 1) (.slice (some ⟨g5, 0, none⟩) K1 c5)) 98 /\ Blk W' W.heap.size #[.int .i64 r0.s.K, .slice r0.p r0.s.runs.length r0.cap, .int .i64 r0.s.A, .int .i64 r0.s.R, .int .i64 r0.s.n, .int .i64 r0.s.d, .slice r0.q r0.s.raw.length r0.vc, .int .i64 r0.s.E] 98 /\ Blk W' g5 cur5 144) mixed (by kernel_rfl) rfl ⟨(Rex.refl _ _).drew, b1, b2, b3, b4, b5⟩ (fun w w' ⟨h0, h1, h2, h3, h4, h5⟩ hr => ⟨h0.trans hr, h1.rex hr (by simp <;> omega), h2.rex hr (by simp <;> omega), h3.rex hr (by simp <;> omega), h4.rex hr (by simp <;> omega), h5.rex hr (by simp <;> omega)⟩) (fun c a d v w h => by cases d <;> exact h) ?_
  iterate 3
   apply nd_det (hg := rfl) (hal := rfl)
   ·intro a W' hC hE
    obtain ⟨_, k1, k2, k3, k4, k5⟩ := hC
    have k1 := k1.cell
    have k4 := k4.cell
    first
     | (simp at hE; simp [go_sem, Act.eval, IntWalk.i64_left, hE, k1, k2, k3, k4, k5, hiM]; try rfl)
     | (clear hE; simp [go_sem, Act.eval, IntWalk.i64_left, k1, k2, k3, k4, k5, hiM]; try rfl)
  apply nd_mem (MadeV W28.heap.size 2) (hg := rfl) (hal := rfl)
  ·exact MadeV.closed _ _
  ·intro a' W' hC hE
   exact ⟨.slice (some ⟨W'.heap.size, 0, none⟩) 0 0, W'.alloc (.cells #[] 2), by kernel_rfl, (Below.refl _ _).alloc (Nat.le_refl _) _, W'.heap.size, rfl, hC.1.size, Blk.new' rfl⟩
  iterate 5
   apply nd_det (hg := rfl) (hal := rfl)
   ·intro a W' hC hE
    obtain ⟨_, k1, k2, k3, k4, k5⟩ := hC
    have k1 := k1.cell
    have k4 := k4.cell
    first
     | (simp at hE; simp [go_sem, Act.eval, IntWalk.i64_left, hE, k1, k2, k3, k4, k5, hiM]; try rfl)
     | (clear hE; simp [go_sem, Act.eval, IntWalk.i64_left, k1, k2, k3, k4, k5, hiM]; try rfl)
  apply nd_det (.int .i64 ((K2 : Nat) : Int)) (hg := rfl) (hal := rfl)
  ·intro a' W' hC hE
   simp at hE
   simp [go_sem, Act.eval, hE, EK2.out]
  apply nd_det (.slice r0.q K2 r0.vc) (hg := rfl) (hal := rfl)
  ·intro a' W' hC hE
   simp at hE
   simp [go_sem, Act.eval, hE, hK2c, hK20, add_zero_map]
  apply nd_mem (AppV W28.heap.size 2 K2 (K2 * 1) ((r0.s.raw.take 300).map (Value.int .i64))) (hg := rfl) (hal := rfl)
  ·exact AppV.closed _ _ _ _ _
  ·intro a' W' hC hE
   simp at hE
   obtain ⟨⟨g9, hv9, hgB9, hgb9⟩, hx9⟩ := hE
   obtain ⟨i9, hi9, hz0, hz1, hz2⟩ := info_parts Tryz.infoInt
   obtain ⟨v9, w9, hr9, hB9, g8, c8, cur8, e8, h81, h82, h83, h84, h85⟩ := app_own (P := Tryz.prog) (m := K2) (p := r0.q) (c := r0.vc) (news := ((r0.s.raw.take 300).map (Value.int .i64))) 96 96 2 i9 _ 1 8 (by kernel_rfl) hi9 hz0 hz1 hz2 rfl (by omega) hgb9 (fun e => by have := hnV e; omega) (by rw [List.length_map, hK2.out]; omega) (fun a ha j u hu => hraw _ ((hW0.trans (hW.of_priv hz)).trans (hC.1.of_priv (Nat.le_trans hz hW.size))) a ha j u hu) (fun v hv => by simp only [List.mem_map] at hv; obtain ⟨x, _, rfl⟩ := hv; rfl) (by omega) (by omega)
   refine ⟨v9, w9, ?_, hB9, g8, c8, cur8, e8, by omega, h82, h83, h84, h85⟩
   simp [execOp, resolve, invoke, builtin, Act.eval, hx9, hv9, hr9, Result.andThen]
  iterate 2
   apply nd_det (hg := rfl) (hal := rfl)
   ·intro a W' hC hE
    obtain ⟨_, k1, k2, k3, k4, k5⟩ := hC
    have k1 := k1.cell
    have k4 := k4.cell
    first
     | (simp at hE; simp [go_sem, Act.eval, IntWalk.i64_left, hE, k1, k2, k3, k4, k5, hiM]; try rfl)
     | (clear hE; simp [go_sem, Act.eval, IntWalk.i64_left, k1, k2, k3, k4, k5, hiM]; try rfl)
  rintro W35 ⟨hR, d1, d2, d3, d4, d5⟩
  simp only [ndFinR, Det, forall_eq]
  intros
  repeat (rename GDet _ _ _ _ => hgd; clear hgd)
  simp only [Act.put, List.setIfInBounds_toArray, List.set_cons_zero, List.set_cons_succ, List.drop_succ_cons, List.drop_zero]
  replace hW := hW.trans (hR.more (by simp))
  clear hR
  try clear b1 b2 b3 b4 b5
  have b1 := d1
  clear d1
  have b2 := d2
  clear d2
  have b3 := d3
  clear d3
  have b4 := d4
  clear d4
  have b5 := d5
  clear d5
  rename AppV _ _ _ _ _ _ _ => ha
  obtain ⟨g6, c6, cur6, rfl, hg6, b6, hc6, hs6, ht6⟩ := ha
  rename MadeV _ _ _ _ => hm
  clear hm
  have y6 := b6.lt
  replace ht6 := Lib.hid ht6
  replace hc6 := Lib.hid hc6
  have k1 := b1.cell
  have f1 := b1.frozen
  have k2 := b2.cell
  have f2 := b2.frozen
  have k3 := b3.cell
  have f3 := b3.frozen
  have k4 := b4.cell
  have f4 := b4.frozen
  have k5 := b5.cell
  have f5 := b5.frozen
  have k6 := b6.cell
  have f6 := b6.frozen
  have x1 : (cur.setIfInBounds (i * 8 + 1) (.slice (some ⟨g5, 0, none⟩) K1 c5))[i * 8 + 6]? = some (.slice r0.q r0.s.raw.length r0.vc) := by rw [Array.getElem?_setIfInBounds, if_neg (by omega)]; exact hSC i r0 hR0 6 _ rfl
  go_upto_region 7 with (fail)
  clear x1
  clear k1 f1 k2 f2 k3 f3 k4 f4 k5 f5 k6 f6
  refine wp_facts (fun W' => Rex [gS] W W' /\ Blk W' w.heap.size #[.string nm, .int .i64 ep, .int .i64 fl, .int .i64 la, .int .i64 sc, .slice (some ⟨gS, 0, none⟩) M capS, .slice po pts.length co] 25 /\ Blk W' (w.heap.size + 1) #[.string .empty, .int .i64 0, .int .i64 0, .int .i64 0, .int .i64 0, .slice none 0 0, .slice none 0 0] 25 /\ Blk W' gS ((cur.setIfInBounds (i * 8 + 1) (.slice (some ⟨g5, 0, none⟩) K1 c5)).setIfInBounds (i * 8 + 6) (.slice (some ⟨g6, 0, none⟩) K2 c6)) 98 /\ Blk W' W.heap.size #[.int .i64 r0.s.K, .slice r0.p r0.s.runs.length r0.cap, .int .i64 r0.s.A, .int .i64 r0.s.R, .int .i64 r0.s.n, .int .i64 r0.s.d, .slice r0.q r0.s.raw.length r0.vc, .int .i64 r0.s.E] 98 /\ Blk W' g5 cur5 144 /\ Blk W' g6 cur6 2) ⟨by exact rexAny, by exact blkAny2, by exact blkAny2, by exact blkAny2, by exact blkAny2, by exact blkAny2, by exact blkAny2⟩ ?_
  clear b1 b2 b3 b4 b5 b6 hW
  rintro W36 ⟨hW, b1, b2, b3, b4, b5, b6⟩
  have z37 := hW.size
  have z38 := b1.lt
  have z39 := b2.lt
  have z40 := b3.lt
  have z41 := b4.lt
  have z42 := b5.lt
  have z43 := b6.lt
  go_wp2
  refine ⟨?_, by simp [intAt]; omega⟩
  have e1 := segRA_runs r0 (r0.s.runs.take 300) (some ⟨g5, 0, none⟩) c5
  rw [hK1.out] at e1
  have s1 := hSC.set hR0 (by omega : 1 < 8) e1
  have e2 := segRA_raw ⟨⟨r0.s.K, r0.s.runs.take 300, r0.s.A, r0.s.R, r0.s.n, r0.s.d, r0.s.raw, r0.s.E⟩, some ⟨g5, 0, none⟩, r0.q, c5, r0.vc⟩ (r0.s.raw.take 300) (some ⟨g6, 0, none⟩) c6
  rw [hK2.out] at e2
  have hR1 := List.getElem?_set_self (l := R) (i := i) (a := (⟨⟨r0.s.K, r0.s.runs.take 300, r0.s.A, r0.s.R, r0.s.n, r0.s.d, r0.s.raw, r0.s.E⟩, some ⟨g5, 0, none⟩, r0.q, c5, r0.vc⟩ : SegR)) (List.getElem?_eq_some_iff.1 hR0).1
  have s2 := s1.set hR1 (by omega : 6 < 8) e2
  rw [List.set_set] at s2
  have ow : OwnSeg W36 gS r0 ⟨⟨r0.s.K, r0.s.runs.take 300, r0.s.A, r0.s.R, r0.s.n, r0.s.d, r0.s.raw.take 300, r0.s.E⟩, some ⟨g5, 0, none⟩, some ⟨g6, 0, none⟩, c5, c6⟩ := ⟨rfl, cloneRun_in b5 ht5.out, cloneInt_in b6 ht6.out, by show (r0.s.raw.take 300).length <= c6; rw [hK2.out]; exact hc6.out, fun a e => by cases e; show gS < g5; omega, fun a e => by cases e; show gS < g6; omega⟩
  exact ⟨hW0.trans (hW.of_priv hz), b1, b2, i + 1, _, _, b3, s2, (hOT.rex (by simp) hW).step hr0 ow, frame_ex rfl, by omega⟩
 ·have hlen9 : (rows.take M).length = M := by rw [List.length_take]; omega
  have hpt9 : ∀ W', Below w.heap.size w W' -> ∀ a, po = some a -> ∀ (j : Nat) u, (flatPts (pts.take N))[j]? = some u -> W'.cell? (a.add j) = some u := fun W' hB a ha j u hu => by
   have h := (hpts.below hB).take9 N
   rw [ha] at h
   exact pts_flat9 h j u hu
  have k1 := b1.cell
  have f1 := b1.frozen
  have k2 := b2.cell
  have f2 := b2.frozen
  have k3 := b3.cell
  have f3 := b3.frozen
  go_upto_region 8 with (fail)
  clear k1 f1 k2 f2 k3 f3
  refine wp_facts (fun W' => Rex [w.heap.size, w.heap.size + 1] W W' /\ Blk W' w.heap.size #[.string nm, .int .i64 ep, .int .i64 fl, .int .i64 la, .int .i64 sc, .slice (some ⟨gS, 0, none⟩) M capS, .slice po pts.length co] 25 /\ Blk W' (w.heap.size + 1) #[.string .empty, .int .i64 0, .int .i64 0, .int .i64 0, .int .i64 0, .slice none 0 0, .slice none 0 0] 25 /\ Blk W' gS cur 98) ⟨by exact rexAny, by exact blkAny2, by exact blkAny2, by exact blkAny2⟩ ?_
  clear b1 b2 b3
  rintro W21 ⟨hW, b1, b2, b3⟩
  have z22 := hW.size
  have z23 := b1.lt
  have z24 := b2.lt
  have z25 := b3.lt
  refine wp_region_sq 10 63 [] (fun W' => Rex [] W21 W' /\ Blk W' w.heap.size #[.string nm, .int .i64 ep, .int .i64 fl, .int .i64 la, .int .i64 sc, .slice (some ⟨gS, 0, none⟩) M capS, .slice po pts.length co] 25 /\ Blk W' (w.heap.size + 1) #[.string .empty, .int .i64 0, .int .i64 0, .int .i64 0, .int .i64 0, .slice none 0 0, .slice none 0 0] 25 /\ Blk W' gS cur 98) (by kernel_rfl) rfl ⟨(Rex.refl _ _), b1, b2, b3⟩ (fun w w' ⟨h0, h1, h2, h3⟩ hr => ⟨h0.trans hr, h1.rex hr (by simp <;> omega), h2.rex hr (by simp <;> omega), h3.rex hr (by simp <;> omega)⟩) ?_
  apply nd_mem (MadeV W21.heap.size 91) (hg := rfl) (hal := rfl)
  ·exact MadeV.closed _ _
  ·intro a' W' hC hE
   exact ⟨.slice (some ⟨W'.heap.size, 0, none⟩) 0 0, W'.alloc (.cells #[] 91), by kernel_rfl, (Below.refl _ _).alloc (Nat.le_refl _) _, W'.heap.size, rfl, hC.1.size, Blk.new' rfl⟩
  iterate 5
   apply nd_det (hg := rfl) (hal := rfl)
   ·intro a W' hC hE
    obtain ⟨_, k1, k2, k3⟩ := hC
    have k1 := k1.cell
    first
     | (simp at hE; simp [go_sem, Act.eval, IntWalk.i64_left, hE, k1, k2, k3]; try rfl)
     | (clear hE; simp [go_sem, Act.eval, IntWalk.i64_left, k1, k2, k3]; try rfl)
  apply nd_det (.int .i64 ((N : Nat) : Int)) (hg := rfl) (hal := rfl)
  ·intro a' W' hC hE
   simp at hE
   simp [go_sem, Act.eval, hE, EN.out]
  apply nd_det (.slice po N co) (hg := rfl) (hal := rfl)
  ·intro a' W' hC hE
   simp at hE
   simp [go_sem, Act.eval, hE, hNc, hN0, add_zero_map]
  apply nd_mem (AppV W21.heap.size 91 N (N * 2) (flatPts (pts.take N))) (hg := rfl) (hal := rfl)
  ·exact AppV.closed _ _ _ _ _
  ·intro a' W' hC hE
   simp at hE
   obtain ⟨⟨g9, hv9, hgB9, hgb9⟩, hx9⟩ := hE
   obtain ⟨i9, hi9, hz0, hz1, hz2⟩ := info_parts Tryz.infoPt
   obtain ⟨v9, w9, hr9, hB9, g8, c8, cur8, e8, h81, h82, h83, h84, h85⟩ := app_own (P := Tryz.prog) (m := N) (p := po) (c := co) (news := (flatPts (pts.take N))) 23 23 91 i9 _ 2 16 (by kernel_rfl) hi9 hz0 hz1 hz2 rfl (by omega) hgb9 (fun e => by have := hnilP e; omega) (by rw [flatPts_len9, List.length_take]; omega) (fun a ha j u hu => hpt9 _ ((hW0.trans (hW.of_priv hz)).trans (hC.1.of_priv (Nat.le_trans hz hW.size))) a ha j u hu) (fun u hu => flatPts_one9 _ u hu) (by omega) (by omega)
   refine ⟨v9, w9, ?_, hB9, g8, c8, cur8, e8, by omega, h82, h83, h84, h85⟩
   simp [execOp, resolve, invoke, builtin, Act.eval, hx9, hv9, hr9, Result.andThen]
  iterate 1
   apply nd_det (hg := rfl) (hal := rfl)
   ·intro a W' hC hE
    obtain ⟨_, k1, k2, k3⟩ := hC
    have k1 := k1.cell
    first
     | (simp at hE; simp [go_sem, Act.eval, IntWalk.i64_left, hE, k1, k2, k3]; try rfl)
     | (clear hE; simp [go_sem, Act.eval, IntWalk.i64_left, k1, k2, k3]; try rfl)
  rintro W26 ⟨hR, d1, d2, d3⟩
  simp only [ndFinR, Det, forall_eq]
  intros
  repeat (rename GDet _ _ _ _ => hgd; clear hgd)
  simp only [Act.put, List.setIfInBounds_toArray, List.set_cons_zero, List.set_cons_succ, List.drop_succ_cons, List.drop_zero]
  replace hW := hW.trans (hR.more (by simp))
  clear hR
  try clear b1 b2 b3
  have b1 := d1
  clear d1
  have b2 := d2
  clear d2
  have b3 := d3
  clear d3
  rename AppV _ _ _ _ _ _ _ => ha
  obtain ⟨gP, capP, curP, rfl, hgP, b4, hcP, hsP, htP⟩ := ha
  rename MadeV _ _ _ _ => hm
  clear hm
  have y4 := b4.lt
  replace htP := Lib.hid htP
  have k1 := b1.cell
  have f1 := b1.frozen
  have k2 := b2.cell
  have f2 := b2.frozen
  have k3 := b3.cell
  have f3 := b3.frozen
  have k4 := b4.cell
  have f4 := b4.frozen
  go_upto_region 9 with (fail)
  clear k1 f1 k2 f2 k3 f3 k4 f4
  refine wp_facts (fun W' => Rex [w.heap.size, w.heap.size + 1] W W' /\ Blk W' w.heap.size #[.string nm, .int .i64 ep, .int .i64 fl, .int .i64 la, .int .i64 sc, .slice (some ⟨gS, 0, none⟩) M capS, .slice (some ⟨gP, 0, none⟩) N capP] 25 /\ Blk W' (w.heap.size + 1) #[.string .empty, .int .i64 0, .int .i64 0, .int .i64 0, .int .i64 0, .slice none 0 0, .slice none 0 0] 25 /\ Blk W' gS cur 98 /\ Blk W' gP curP 91) ⟨by exact rexAny, by exact blkAny2, by exact blkAny2, by exact blkAny2, by exact blkAny2⟩ ?_
  clear b1 b2 b3 b4 hW
  rintro W27 ⟨hW, b1, b2, b3, b4⟩
  have z28 := hW.size
  have z29 := b1.lt
  have z30 := b2.lt
  have z31 := b3.lt
  have z32 := b4.lt
  have k1 := b1.cell
  have f1 := b1.frozen
  have k2 := b2.cell
  have f2 := b2.frozen
  have k3 := b3.cell
  have f3 := b3.frozen
  have k4 := b4.cell
  have f4 := b4.frozen
  go_wp2
  have d2 : Blk (((((((W27.setCell ⟨w.heap.size + 1, 0, none⟩ (.string nm)).setCell ⟨w.heap.size + 1, 1, none⟩ (.int .i64 ep)).setCell ⟨w.heap.size + 1, 2, none⟩ (.int .i64 fl)).setCell ⟨w.heap.size + 1, 3, none⟩ (.int .i64 la)).setCell ⟨w.heap.size + 1, 4, none⟩ (.int .i64 sc)).setCell ⟨w.heap.size + 1, 5, none⟩ (.slice (some ⟨gS, 0, none⟩) M capS)).setCell ⟨w.heap.size + 1, 6, none⟩ (.slice (some ⟨gP, 0, none⟩) N capP)) (w.heap.size + 1) #[.string nm, .int .i64 ep, .int .i64 fl, .int .i64 la, .int .i64 sc, .slice (some ⟨gS, 0, none⟩) M capS, .slice (some ⟨gP, 0, none⟩) N capP] 25 := blkAny2
  have d3 : Blk (((((((W27.setCell ⟨w.heap.size + 1, 0, none⟩ (.string nm)).setCell ⟨w.heap.size + 1, 1, none⟩ (.int .i64 ep)).setCell ⟨w.heap.size + 1, 2, none⟩ (.int .i64 fl)).setCell ⟨w.heap.size + 1, 3, none⟩ (.int .i64 la)).setCell ⟨w.heap.size + 1, 4, none⟩ (.int .i64 sc)).setCell ⟨w.heap.size + 1, 5, none⟩ (.slice (some ⟨gS, 0, none⟩) M capS)).setCell ⟨w.heap.size + 1, 6, none⟩ (.slice (some ⟨gP, 0, none⟩) N capP)) gS cur 98 := blkAny2
  have d4 : Blk (((((((W27.setCell ⟨w.heap.size + 1, 0, none⟩ (.string nm)).setCell ⟨w.heap.size + 1, 1, none⟩ (.int .i64 ep)).setCell ⟨w.heap.size + 1, 2, none⟩ (.int .i64 fl)).setCell ⟨w.heap.size + 1, 3, none⟩ (.int .i64 la)).setCell ⟨w.heap.size + 1, 4, none⟩ (.int .i64 sc)).setCell ⟨w.heap.size + 1, 5, none⟩ (.slice (some ⟨gS, 0, none⟩) M capS)).setCell ⟨w.heap.size + 1, 6, none⟩ (.slice (some ⟨gP, 0, none⟩) N capP)) gP curP 91 := blkAny2
  have hR9 : Rex [w.heap.size, w.heap.size + 1] W (((((((W27.setCell ⟨w.heap.size + 1, 0, none⟩ (.string nm)).setCell ⟨w.heap.size + 1, 1, none⟩ (.int .i64 ep)).setCell ⟨w.heap.size + 1, 2, none⟩ (.int .i64 fl)).setCell ⟨w.heap.size + 1, 3, none⟩ (.int .i64 la)).setCell ⟨w.heap.size + 1, 4, none⟩ (.int .i64 sc)).setCell ⟨w.heap.size + 1, 5, none⟩ (.slice (some ⟨gS, 0, none⟩) M capS)).setCell ⟨w.heap.size + 1, 6, none⟩ (.slice (some ⟨gP, 0, none⟩) N capP)) := (((((((hW.setOwn b2 (by simp) 0 _).setOwn (b2.set 0 _) (by simp) 1 _).setOwn ((b2.set 0 _).set 1 _) (by simp) 2 _).setOwn (((b2.set 0 _).set 1 _).set 2 _) (by simp) 3 _).setOwn ((((b2.set 0 _).set 1 _).set 2 _).set 3 _) (by simp) 4 _).setOwn (((((b2.set 0 _).set 1 _).set 2 _).set 3 _).set 4 _) (by simp) 5 _).setOwn ((((((b2.set 0 _).set 1 _).set 2 _).set 3 _).set 4 _).set 5 _) (by simp) 6 _)
  obtain ⟨W9, hW9⟩ : ∃ W9, W9 = (((((((W27.setCell ⟨w.heap.size + 1, 0, none⟩ (.string nm)).setCell ⟨w.heap.size + 1, 1, none⟩ (.int .i64 ep)).setCell ⟨w.heap.size + 1, 2, none⟩ (.int .i64 fl)).setCell ⟨w.heap.size + 1, 3, none⟩ (.int .i64 la)).setCell ⟨w.heap.size + 1, 4, none⟩ (.int .i64 sc)).setCell ⟨w.heap.size + 1, 5, none⟩ (.slice (some ⟨gS, 0, none⟩) M capS)).setCell ⟨w.heap.size + 1, 6, none⟩ (.slice (some ⟨gP, 0, none⟩) N capP)) := ⟨_, rfl⟩
  rw [<- hW9] at d2 d3 d4 hR9 ⊢
  clear hW9 b1 b2 b3 b4 hW k1 f1 k2 f2 k3 f3 k4 f4
  have k2 := d2.cell
  have f2 := d2.frozen
  have y_2 := d2.lt
  refine bodyPost_ret (v := .agg #[.string nm, .int .i64 ep, .int .i64 fl, .int .i64 la, .int .i64 sc, .slice (some ⟨gS, 0, none⟩) M capS, .slice (some ⟨gP, 0, none⟩) N capP]) (by simp [results, Tryz.results12, go_sem, k2, f2, y_2]) rfl ⟨gS, capS, gP, capP, rfl, hW0.trans (hR9.of_priv hz), own_segs d3 hSC hOT (by omega) (L := [w.heap.size, w.heap.size + 1]) (by simp; omega) hR9, pts_in (n := N * 2) d4 htP.out⟩
end Go.Proofs.YtidfcoooccblaaaGreat
namespace Go.Proofs.YtidfcoooccblaaaGreat
open Go.RowKit
def IntsF (w : World) (p : Option Addr) (l : List Int) : Prop := IntsIn w p l
theorem IntsF.rex {L : List Nat} {w w' : World} {p : Option Addr} {l : List Int} (h : IntsF w p l) (hr : Rex L w w') (hL : L = []) : IntsF w' p l := by subst hL; exact IntsIn.below h hr.below
def enRel (w : World) (p : Option Addr) (l : List Int) (cap : Nat) (x0 : Int) (a' : Act) (W : World) : Prop :=
 Below w.heap.size w W /\ ∃ i : Nat, (∃ u : Nat -> Value, a' = { tmps := #[.slice p l.length cap, u 1, u 2, u 3, .int .i64 (minL (x0 :: l.take i)), .int .i64 (maxL (x0 :: l.take i)), .int .i64 (i : Int), u 7, u 8, u 9, u 10, u 11, u 12, u 13, u 14, u 15, u 16, u 17, u 18, u 19, u 20, u 21, u 22, u 23, u 24, u 25, u 26, u 27, u 28, u 29, u 30, u 31, u 32, u 33, u 34, u 35, u 36, u 37, u 38, u 39, u 40], defers := [] }) /\ i <= l.length
def OV (B : Nat) (T : List Int) : Spec := fun v w => OwnR w B 2 1 v T.length (T.map (Value.int .i64))
theorem OV.closed (B : Nat) (T : List Int) : Closed [] (OV B T) := fun _ _ _ hr h => OwnR.rex h hr rfl
def kindR (R n : Int) : Int := if n = 0 then 1 else if R = 0 then 2 else 3
theorem line_first {A R n d : Int} (h : isLine A R n d = true) (hn : n = 0) : R = 0 := by
 unfold isLine at h
 simp only [Bool.and_eq_true, decide_eq_true_eq] at h
 obtain ⟨⟨⟨⟨_, hs⟩, hg⟩, h0⟩, h1⟩ := h
 have := isSlope_bd hs
 subst hn
 unfold gcdI at hg
 simp at hg
 omega
theorem ends_iff {s : SegT} (hl : RunsOk s.runs) (hi : isLine s.A s.R s.n s.d = true) : endsOk s.A s.R s.n s.d 0 (lastT s.runs - firstT s.runs) = ((timesL s.runs).map (valAt s)).all isBack := by
 rw [Bool.eq_iff_iff]
 constructor
 ·intro h
  have hL : LineSeg s := ⟨hl, isLine_ok.1 hi, h⟩
  rw [List.all_eq_true]
  intro y hy
  obtain ⟨t, ht, rfl⟩ := List.mem_map.1 hy
  have := mem_times hl ht
  exact hL.back this.1 this.2.1
 ·intro h
  rw [List.all_eq_true] at h
  have hc := cnt_pos hl
  have key : ∀ i : Int, 0 <= i -> i < cnt s.runs -> isBack (valAt s (atV s.runs i)) = true := by
   intro i h0 h1
   obtain ⟨v, _, hm, e, _⟩ := atL_some hl h0 h1
   rw [e]
   exact h _ (List.mem_map_of_mem hm)
  have a := key 0 (by omega) (by omega)
  have b := key (cnt s.runs - 1) (by omega) (by omega)
  unfold endsOk
  unfold valAt firstT at a b
  rw [show atV s.runs 0 - atV s.runs 0 = 0 by omega] at a
  rw [Bool.and_eq_true]
  exact ⟨a, b⟩
theorem vals_line {s : SegT} (hK : s.K ≠ 4) : vals s = (timesL s.runs).map (valAt s) := by unfold vals; rw [if_neg hK]
theorem vals_raw {s : SegT} (hK : s.K = 4) : vals s = s.raw := by unfold vals; rw [if_pos hK]
theorem kindB_line {s : SegT} (hl : RunsOk s.runs) (hK : s.K ≠ 4) : kindB s = (!(decide (0 < s.raw.length) || !isLine s.A s.R s.n s.d || s.K != kindR s.R s.n) && (vals s).all isBack) := by
 rw [vals_line hK]
 unfold kindB lineIsB
 cases hi : isLine s.A s.R s.n s.d with
 | false => simp [hK]
 | true =>
  rw [<- ends_iff hl hi]
  generalize endsOk s.A s.R s.n s.d 0 (lastT s.runs - firstT s.runs) = e
  have hr : s.raw.isEmpty = !decide (0 < s.raw.length) := by cases s.raw <;> simp
  rw [hr]
  unfold kindR
  by_cases h1 : s.n = 0
  ·have h2 := line_first hi h1
   by_cases k1 : s.K = 1
   ·simp [h1, k1, Bool.and_comm]
   ·by_cases k2 : s.K = 2
    ·simp [h1, k2]
    ·by_cases k3 : s.K = 3
     ·simp [h1, h2, k3]
     ·simp [h1, k1, k2, k3, hK]
  ·by_cases h2 : s.R = 0
   ·by_cases k1 : s.K = 1
    ·simp [h1, h2, k1]
    ·by_cases k2 : s.K = 2
     ·simp [h1, h2, k2, Bool.and_comm]
     ·by_cases k3 : s.K = 3
      ·simp [h1, h2, k3]
      ·simp [h1, h2, k1, k2, k3, hK]
   ·by_cases k1 : s.K = 1
    ·simp [h1, h2, k1]
    ·by_cases k2 : s.K = 2
     ·simp [h1, h2, k2]
     ·by_cases k3 : s.K = 3
      ·simp [h1, h2, k3, Bool.and_comm]
      ·simp [h1, h2, k1, k2, k3, hK]
theorem kindB_raw {s : SegT} (hK : s.K = 4) : kindB s = (lineZ s.A s.R s.n s.d && (s.raw.length : Int) == cnt s.runs && (vals s).all isBack) := by
 rw [vals_raw hK]
 unfold kindB
 simp [hK]
theorem c_refTimes {p : Option Addr} {cap : Nat} {l : List RunT} {w : World} (hl : RunsOk l) (h : RunsIn w p l) (hlen : l.length <= 300) : ∀ W, Below w.heap.size w W -> Calls Tryz.prog 85 #[.slice p l.length cap] W fun e w' => ∃ v, e = .returned v /\ OwnR w' W.heap.size 2 1 v (timesL l).length ((timesL l).map (Value.int .i64)) /\ Below W.heap.size W w' := by
 intro W hW
 have := reftimes_w p cap l W (h.below hW) (by omega)
 rw [times_ok hl] at this
 exact this
def PtsDom (s : SegT) : Prop := (s.K = 4 /\ (s.raw.length : Int) = cnt s.runs) ∨ (s.K ≠ 4 /\ isLine s.A s.R s.n s.d = true)
theorem length_tl {l : List RunT} (hl : RunsOk l) : 1 <= (timesL l).length /\ (timesL l).length <= 256 := by
 have h1 := length_times hl
 have h2 := cnt_pos hl
 omega
theorem c_refPts (s : SegT) (p q : Option Addr) (cap vc : Nat) (w : World) (h : SegIn w s p q) (hl : RunsOk s.runs) (hd : PtsDom s) :
  Calls Tryz.prog 62 #[.agg (segA s p q cap vc)] w (PtsPost w (timesL s.runs) (vals s)) := by
 have ht := length_times hl
 have h256 := length_tl hl
 have c1 := fun (W : World) (hW : Below w.heap.size w W) => c_refTimes (cap := cap) hl h.runs h.fewR W hW
 rcases hd with ⟨hK, hr⟩ | ⟨hK, hi⟩
 ·rw [vals_raw hK]
  obtain ⟨b, o, e, _⟩ := h.raw.at' 0 _ (List.getElem?_eq_getElem (show 0 < s.raw.length by omega))
  have hraw := h.raw
  rw [e] at hraw
  have := pts_raw s.A s.R s.n s.d s.E p s.runs.length cap b o vc (timesL s.runs) s.raw w ⟨hraw⟩ (by omega) h256.1 h256.2 c1
  unfold segA
  rw [hK, e]
  exact this
 ·rw [vals_line hK]
  have hx0 : (timesL s.runs)[0]? = some (firstT s.runs) := at_times hl (k := 0) (by omega)
  have hv : ∀ (i : Nat) (x y : Int), (timesL s.runs)[i]? = some x -> ((timesL s.runs).map (valAt s))[i]? = some y -> 0 <= x - firstT s.runs /\ x - firstT s.runs <= 281474976710656 /\ y = lineVal s.A s.R s.n s.d (x - firstT s.runs) := by
   intro i x y hx hy
   rw [List.getElem?_map, hx] at hy
   have hm := mem_times hl (List.mem_of_getElem? hx)
   have hf := first_in hl
   simp at hy
   exact ⟨by omega, by omega, by rw [<- hy]; rfl⟩
  refine pts_line s.K s.A s.R s.n s.d s.E (firstT s.runs) p q s.runs.length cap s.raw.length vc (timesL s.runs) _ w (by simp [hK]) (by simp) h256.1 h256.2 hx0 (fun x hx => by have := mem_times hl hx; omega) c1 ?_ ?_
  ·intro W i x y hx hy hb
   obtain ⟨a1, a2, rfl⟩ := hv i x y hx hy
   exact c_rat_yes hi a1 a2 hb W
  ·intro W i x y hx hy hb
   obtain ⟨a1, a2, rfl⟩ := hv i x y hx hy
   exact c_rat_no hi a1 a2 hb W
theorem ptsDom_of {s : SegT} (hs : segB s = true) : PtsDom s := by
 have hl := segB_runs hs
 have hk := segB_kind hs
 by_cases hK : s.K = 4
 ·rw [kindB_raw hK] at hk
  simp only [Bool.and_eq_true, beq_iff_eq] at hk
  exact .inl ⟨hK, hk.1.2⟩
 ·rw [kindB_line hl hK] at hk
  refine .inr ⟨hK, ?_⟩
  cases hi : isLine s.A s.R s.n s.d with
  | true => rfl
  | false => rw [hi] at hk; simp at hk
theorem vals_all {s : SegT} (hs : segB s = true) : (vals s).all isBack = true := by
 have hl := segB_runs hs
 have hk := segB_kind hs
 by_cases hK : s.K = 4
 ·rw [kindB_raw hK] at hk
  simp only [Bool.and_eq_true] at hk
  exact hk.2
 ·rw [kindB_line hl hK] at hk
  simp only [Bool.and_eq_true] at hk
  exact hk.2
theorem c_refPoints (s : SegT) (p q : Option Addr) (cap vc : Nat) (w : World) (h : SegIn w s p q) (hs : segB s = true) :
  Calls Tryz.prog 62 #[.agg (segA s p q cap vc)] w fun e w' => ∃ v, e = .returned (.tuple #[v, .bool true]) /\ OwnR w' w.heap.size 91 2 v (ptsL s).length (flatPts (ptsL s)) /\ Below w.heap.size w w' := by
 have hl := segB_runs hs
 refine (c_refPts s p q cap vc w h hl (ptsDom_of hs)).mono ?_
 rintro e w' ⟨hB, ⟨_, v, rfl, hv⟩ | ⟨h1, _⟩⟩
 ·refine ⟨v, rfl, ?_, hB⟩
  rw [show (ptsL s).length = (timesL s.runs).length by have a := length_pts hs; have b := length_times hl; omega]
  exact hv
 ·rw [vals_all hs] at h1; cases h1
def toRel (w : World) (gs : Nat) (p : Option Addr) (cap : Nat) (l : List Int) (a' : Act) (W : World) : Prop :=
 Below w.heap.size w W /\ ∃ (i : Nat) (S : Int) (ps : Option Addr) (ls cs : Nat), (∃ u : Nat -> Value, a' = { tmps := #[.slice p l.length cap, u 1, .pointer (some ⟨w.heap.size, 0, none⟩), .pointer (some ⟨gs, 0, none⟩), .int .i64 (i : Int), u 5, u 6, u 7, u 8, u 9, u 10, u 11, u 12, u 13, u 14, u 15, u 16, u 17, u 18, u 19], defers := [] }) /\ S = lsum (l.take i) /\ i <= l.length /\ Blk W w.heap.size #[.bool false, .slice none 0 0] 132 /\ Blk W gs #[.bool (decide (S < 0)), .slice ps ls cs] 132 /\ Bits W (.slice ps ls cs) S.natAbs
end Go.Proofs.YtidfcoooccblaaaGreat
