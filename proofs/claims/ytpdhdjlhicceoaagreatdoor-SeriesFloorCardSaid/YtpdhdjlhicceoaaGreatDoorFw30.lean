/- Parts of the proof that follows: The laws of chapter 24: own; all that it makes begins where its block does. No condition. | The laws of chapter 25: AnswerParted's walks. No condition. | The laws of chapter 25: AnswerParted, at every series. No condition. | The laws of chapter 26: own, of every series. No condition. | The laws of chapter 24: own, of every series; all that it makes begins where its block does. No condition. -/
import Derived.Test.YtpdhdjlhicceoaaGreatDoorFw29
set_option linter.unusedSimpArgs false
set_option linter.unusedVariables false
namespace Go.Proofs.YtpdhdjlhicceoaaGreatDoor
open Go.RowKit
structure OwnSegD (W : World) (g : Nat) (r0 r : SegR) : Prop where
  says : r.s = ownK r0.s
  runs : RunsIn W r.p r.s.runs
  raw : IntsIn W r.q r.s.raw
  capV : r.s.raw.length ≤ r.vc
  farR : ∀ a, r.p = some a → g < a.block ∧ a.off = 0
  farV : ∀ a, r.q = some a → g < a.block ∧ a.off = 0
theorem OwnSegD.rex {W W' : World} {g : Nat} {r0 r : SegR} {L : List Nat} (h : OwnSegD W g r0 r) (hL : ∀ x, x ∈ L → x ≤ g) (hr : Rex L W W') : OwnSegD W' g r0 r := ⟨h.says, h.runs.rex1 hL (fun a e => (h.farR a e).1) hr, h.raw.rex1 hL (fun a e => (h.farV a e).1) hr, h.capV, h.farR, h.farV⟩
structure OwnToD (W : World) (g : Nat) (rows R : List SegR) (i : Nat) : Prop where
  len : R.length = rows.length
  rest : ∀ k, i ≤ k → R[k]? = rows[k]?
  own : ∀ k, k < i → ∀ r, R[k]? = some r → ∃ r0, rows[k]? = some r0 ∧ OwnSegD W g r0 r
theorem OwnToD.start (W : World) (g : Nat) (rows : List SegR) : OwnToD W g rows rows 0 := ⟨rfl, fun _ _ => rfl, fun k h => by omega⟩
theorem OwnToD.rex {W W' : World} {g i : Nat} {rows R : List SegR} {L : List Nat} (h : OwnToD W g rows R i) (hL : ∀ x, x ∈ L → x ≤ g) (hr : Rex L W W') : OwnToD W' g rows R i := ⟨h.len, h.rest, fun k hk r hR => by
  obtain ⟨r0, h1, h2⟩ := h.own k hk r hR
  exact ⟨r0, h1, h2.rex hL hr⟩⟩
theorem OwnToD.step {W : World} {g i : Nat} {rows R : List SegR} {r0 r1 : SegR} (h : OwnToD W g rows R i) (h0 : rows[i]? = some r0) (h1 : OwnSegD W g r0 r1) : OwnToD W g rows (R.set i r1) (i + 1) := ⟨by rw [List.length_set]; exact h.len, fun k hk => by rw [List.getElem?_set_ne (by omega)]; exact h.rest k (by omega), fun k hk r hR => by
  rw [List.getElem?_set] at hR
  split at hR
  · rename_i e
    subst e
    split at hR
    · injection hR with hR
      subst hR
      exact ⟨r0, h0, h1⟩
    · cases hR
  · exact h.own k (by omega) r hR⟩
def Off0 (p : Option Addr) : Prop := ∀ a, p = some a → a.off = 0
/-- Segments in a block, from its begin; what they have begins where its block does. -/
structure SegsIn0 (w : World) (g : Nat) (l : List SegT) : Prop where
  at' : ∀ (i : Nat) (s : SegT), l[i]? = some s → ∃ p' q' cap vc, (∀ j v, (segA s p' q' cap vc)[j]? = some v → w.cell? ⟨g, i * 8 + j, none⟩ = some v) ∧ SegIn w s p' q' ∧ s.raw.length ≤ vc ∧ Off0 p' ∧ Off0 q'
theorem SegsIn0.segs {w : World} {g : Nat} {l : List SegT} (h : SegsIn0 w g l) : SegsIn w (some ⟨g, 0, none⟩) l := ⟨fun i s hs => by
  obtain ⟨p', q', cap, vc, h1, h2, h3, _⟩ := h.at' i s hs
  exact ⟨g, 0, p', q', cap, vc, rfl, fun j v hv => by rw [show 0 + i * 8 + j = i * 8 + j by omega]; exact h1 j v hv, h2, h3⟩⟩
theorem PtRow.off {w : World} {B : Nat} {p : Option Addr} {l : List (Int × Int)} (h : PtRow w B p l) : Off0 p := fun a e => by
  rcases h.at' with ⟨h1, _⟩ | ⟨g, cur, k, h1, _⟩
  · rw [h1] at e; cases e
  · rw [h1] at e; injection e with e; rw [← e]
theorem own_segsD {W W' : World} {g i : Nat} {rows R : List SegR} {cur : Array Value} {L : List Nat} (hb : Blk W' g cur 49) (hSC : SegCells cur R) (h : OwnToD W g rows R i) (hi : rows.length ≤ i) (hL : ∀ x, x ∈ L → x ≤ g) (hr : Rex L W W') : SegsIn0 W' g (rows.map fun r => ownK r.s) := ⟨fun k s hs => by
  obtain ⟨r0, h0, rfl⟩ : ∃ r0, rows[k]? = some r0 ∧ ownK r0.s = s := by simpa using hs
  have hk : k < rows.length := (List.getElem?_eq_some_iff.1 h0).1
  obtain ⟨r, hR⟩ : ∃ r, R[k]? = some r := ⟨_, List.getElem?_eq_getElem (by rw [h.len]; exact hk)⟩
  obtain ⟨r0', h0', ow⟩ := h.own k (by omega) r hR
  rw [h0] at h0'
  injection h0' with h0'
  subst h0'
  have ow' := ow.rex hL hr
  refine ⟨r.p, r.q, r.cap, r.vc, fun j v hv => ?_, ?_, ?_, fun a e => (ow'.farR a e).2, fun a e => (ow'.farV a e).2⟩
  · rw [← ow'.says] at hv
    exact (hb.cell _).trans (hSC k r hR j v hv)
  · rw [← ow'.says]
    exact ⟨ow'.runs, ow'.raw, by rw [ow'.says]; show (r0.s.runs.take 257).length ≤ 300; rw [List.length_take]; omega, by rw [ow'.says]; show (r0.s.raw.take 257).length ≤ 300; rw [List.length_take]; omega⟩
  · rw [← ow'.says]
    exact ow'.capV⟩

def RunD (B K : Nat) (l : List RunT) : Spec := fun v w => ∃ p c, v = .slice p K c ∧ RunsIn w p l ∧ K ≤ c ∧ ∀ a, p = some a → B ≤ a.block ∧ a.off = 0
theorem RunD.closed (B K : Nat) (l : List RunT) : Closed [] (RunD B K l) := fun _ _ _ hr ⟨p, c, e, h, h2⟩ => ⟨p, c, e, h.rex hr rfl, h2⟩
def IntD (B K : Nat) (l : List Int) : Spec := fun v w => ∃ p c, v = .slice p K c ∧ IntsIn w p l ∧ K ≤ c ∧ ∀ a, p = some a → B ≤ a.block ∧ a.off = 0
theorem IntD.closed (B K : Nat) (l : List Int) : Closed [] (IntD B K l) := fun _ _ _ hr ⟨p, c, e, h, h2⟩ => ⟨p, c, e, h.below hr.below, h2⟩
theorem RunD.closedL (B K : Nat) (l : List RunT) {L : List Nat} (hL : ∀ x, x ∈ L → x < B) : Closed L (RunD B K l) := fun v w w' hr ⟨p, c, e, h, h2, h3⟩ => ⟨p, c, e, ⟨fun i r hi => by
  obtain ⟨b, o, e1, q0, q1, q2⟩ := h.at' i r hi
  have hb := (h3 _ e1).1
  have key : ∀ z v, w.cell? ⟨b, z, none⟩ = some v → w'.cell? ⟨b, z, none⟩ = some v := fun z v hv => (World.cell?_of_block (hr.block b (cell_lt hv) (fun hx => by have := hL _ hx; simp at hb; omega))).trans hv
  exact ⟨b, o, e1, key _ _ q0, key _ _ q1, key _ _ q2⟩⟩, h2, h3⟩
theorem IntD.closedL (B K : Nat) (l : List Int) {L : List Nat} (hL : ∀ x, x ∈ L → x < B) : Closed L (IntD B K l) := fun v w w' hr ⟨p, c, e, h, h2, h3⟩ => ⟨p, c, e, ⟨fun i r hi => by
  obtain ⟨b, o, e1, q0⟩ := h.at' i r hi
  have hb := (h3 _ e1).1
  exact ⟨b, o, e1, (World.cell?_of_block (hr.block b (cell_lt q0) (fun hx => by have := hL _ hx; simp at hb; omega))).trans q0⟩⟩, h2, h3⟩
def own24RelD (w : World) (nm9 : ByteArray) (ep fl la sc : Int) (pP : Option Addr) (capP N : Nat) (rows : List SegR) (pts : List (Int × Int)) (M gS capS : Nat) (a' : Act) (W : World) : Prop :=
  Below w.heap.size w W ∧ Blk W w.heap.size #[.string nm9, .int .i64 ep, .int .i64 fl, .int .i64 la, .int .i64 sc, .slice (some ⟨gS, 0, none⟩) M capS, .slice pP N capP] 26 ∧ Blk W (w.heap.size + 1) #[.string .empty, .int .i64 0, .int .i64 0, .int .i64 0, .int .i64 0, .slice none 0 0, .slice none 0 0] 26 ∧ PtRow W (w.heap.size + 1 + 1) pP pts ∧ ∃ (i : Nat) (cur : Array Value) (R : List SegR), Blk W gS cur 49 ∧ SegCells cur R ∧ OwnToD W gS rows R i ∧ (∃ u : Nat → Value, a' = { tmps := #[u 0, .pointer (some ⟨w.heap.size, 0, none⟩), .pointer (some ⟨w.heap.size + 1, 0, none⟩), u 3, u 4, u 5, u 6, u 7, u 8, u 9, u 10, u 11, u 12, u 13, u 14, u 15, u 16, u 17, u 18, u 19, u 20, u 21, u 22, u 23, u 24, u 25, u 26, u 27, u 28, u 29, u 30, u 31, .slice (some ⟨gS, 0, none⟩) M capS, .int .i64 (M : Int), .int .i64 (i : Int), u 35, u 36, u 37, u 38, u 39, u 40, u 41, u 42, u 43, u 44, u 45, u 46, u 47, u 48, u 49, u 50, u 51, u 52, u 53, u 54, u 55, u 56, u 57, u 58, u 59, u 60, u 61, u 62, u 63, u 64, u 65, u 66], defers := [] }) ∧ i ≤ M
set_option maxRecDepth 100000 in
set_option maxHeartbeats 2000000 in
theorem own24D_w (nm : ByteArray) (ep fl la sc : Int) (ad : Addr) (po : Option Addr) (cs co : Nat) (rows : List SegR) (pts : List (Int × Int)) (w : World) (M N : Nat)
    (hsegs : SegsCame w (some ad) rows) (hpts : PtsIn w po pts) (hnilP : po = none → pts.length = 0 ∧ co = 0) (hcap : rows.length ≤ cs) (hcapP : pts.length ≤ co)
    (hM : M ≤ 12) (hMr : M ≤ rows.length) (EM : Hid ((if (12 : Int) < (rows.length : Int) then (12 : Int) else rows.length) = (M : Int))) (hMc : (M : Int) ≤ cs) (hM0 : 0 ≤ (M : Int))
    (hN : N ≤ 40) (hNr : N ≤ pts.length) (EN : Hid ((if (40 : Int) < (pts.length : Int) then (40 : Int) else pts.length) = (N : Int))) (hNc : (N : Int) ≤ co) (hN0 : 0 ≤ (N : Int)) (nm9 : ByteArray) (hnm : Hid ((nm.extract 0 (mn (nm.size : Int) 20).toNat) = nm9)) :
    Calls Tryz.prog 15 #[.agg #[.string nm, .int .i64 ep, .int .i64 fl, .int .i64 la, .int .i64 sc, .slice (some ad) rows.length cs, .slice po pts.length co]] w fun e w' => ∃ gS capS pP capP, e = .returned (.agg #[.string nm9, .int .i64 ep, .int .i64 fl, .int .i64 la, .int .i64 sc, .slice (some ⟨gS, 0, none⟩) M capS, .slice pP N capP]) ∧ Below w.heap.size w w' ∧ Lasts w.heap.size w' fun W => SegsIn0 W gS ((rows.take M).map fun r => ownK r.s) ∧ PtsIn W pP (pts.take N) ∧ Off0 pP := by
  have cS := Lib.hid (fun W B (hW : Below w.heap.size w W) (hBW : B ≤ W.heap.size) => (show Calls Tryz.prog 43 #[.slice (some ad) M cs] W fun e w' => ∃ v, e = .returned v ∧ Below W.heap.size W w' ∧ RowS B 49 M (M * 8) (flatSegs (rows.take M)) v w' from by
    have hl : (rows.take M).length = M := by rw [List.length_take]; omega
    have t := cloneSeg_some ad cs (rows.take M) W (by omega) ((hsegs.take M).below hW)
    rw [hl] at t
    refine t.mono ?_
    rintro e w' ⟨v, rfl, hB, g, c, cur, rfl, hg, h⟩
    exact ⟨_, rfl, hB, g, c, cur, rfl, Nat.le_trans hBW hg, h⟩))
  have cQ := Lib.hid (fun W B (hW : Below w.heap.size w W) (hBW : B ≤ W.heap.size) => (show Calls Tryz.prog 44 #[.slice po N co] W fun e w' => ∃ v, e = .returned v ∧ Below W.heap.size W w' ∧ PtS B N (pts.take N) v w' from by
    have hl : (pts.take N).length = N := by rw [List.length_take]; omega
    cases hpo : po with
    | none =>
      obtain ⟨h1, h2⟩ := hnilP hpo
      obtain rfl : N = 0 := by omega
      subst h2
      refine (clonePt_nil W).mono ?_
      rintro e w' ⟨rfl, hB⟩
      exact ⟨_, rfl, hB, .inl ⟨rfl, rfl, rfl⟩⟩
    | some a9 =>
      have t := clonePt_some a9 co (pts.take N) W (by omega) (hpo ▸ (hpts.take9 N).below hW)
      rw [hl] at t
      refine t.mono ?_
      rintro e w' ⟨v, rfl, hB, g, c, cur, rfl, hg, h⟩
      exact ⟨_, rfl, hB, .inr ⟨g, c, cur, rfl, Nat.le_trans hBW hg, h⟩⟩))
  go_enter Tryz.func15, Tryz.ntmps15
  have hmin : ∀ ts t x y w, (Builtin.min_ ts t #[.int .i64 x, .int .i64 y]).run Tryz.prog w = .ok (.int .i64 (mn x y)) w := fun ts t x y w => by simp [Builtin.min_, Builtin.min2, mn]
  have hm0 := mn_spec (nm.size : Int) 20
  have hm1 : 0 ≤ mn (nm.size : Int) 20 := by omega
  have hm2 : mn (nm.size : Int) 20 ≤ (nm.size : Int) := hm0.1
  clear hm0
  go_upto_region 2 with (fail)
  refine wp_cutB w (Bc w.heap.size #[.string (nm.extract 0 (mn (nm.size : Int) 20).toNat), .int .i64 ep, .int .i64 fl, .int .i64 la, .int .i64 sc, .slice (some ad) rows.length cs, .slice po pts.length co] 26 <| Bc (w.heap.size + 1) #[.string .empty, .int .i64 0, .int .i64 0, .int .i64 0, .int .i64 0, .slice none 0 0, .slice none 0 0] 26 <| Bz) ?_
  rintro W1 hW z2 ⟨⟨b1, yb1, k1, f1⟩, ⟨b2, yb2, k2, f2⟩, -⟩
  clear hmin hm1 hm2
  rw [hnm.out] at b1
  go_upto_region 2 with (fail)
  clear k1 f1 k2 f2
  refine wp_cutB w (Bc w.heap.size #[.string nm9, .int .i64 ep, .int .i64 fl, .int .i64 la, .int .i64 sc, .slice (some ad) rows.length cs, .slice po pts.length co] 26 <| Bc (w.heap.size + 1) #[.string .empty, .int .i64 0, .int .i64 0, .int .i64 0, .int .i64 0, .slice none 0 0, .slice none 0 0] 26 <| Bz) ?_
  clear b1 b2 hW
  rintro W3 hW z4 hL
  obtain ⟨⟨b1, yb1, k1, f1⟩, ⟨b2, yb2, k2, f2⟩, -⟩ := id hL
  clear k1 f1 k2 f2
  refine wp_regD 17 67 hW hL ?_
  iterate 5 refine dA ?_
  apply nd_det (.int .i64 ((M : Nat) : Int)) (hg := rfl) (hal := rfl)
  · intro a' W' hC hE
    simp [Oper.looksAt, Op.operands, Call.operands, envOf, Det] at hE
    simp [go_sem, Act.eval, hE, EM.out]
  apply nd_det (.slice (some ad) M cs) (hg := rfl) (hal := rfl)
  · intro a' W' hC hE
    simp [Oper.looksAt, Op.operands, Call.operands, envOf, Det] at hE
    simp [go_sem, Act.eval, hE, hMc, hM0, add_zero_map]
  apply nd_call (RowS W3.heap.size 49 M (M * 8) (flatSegs (rows.take M))) (hg := rfl) (hal := rfl)
  · exact RowS.closed _ _ _ _ _
  · intro a' W' hC hE
    simp [Oper.looksAt, Op.operands, Call.operands, envOf, Det] at hE
    refine ⟨_, _, ?_, (cS.out W' W3.heap.size (hW.trans (hC.1.of_priv hW.size)) hC.1.size).mono ?_⟩
    · simp [go_sem, Act.eval, hE]
      try rfl
    · rintro e w' ⟨v, rfl, hB, hv⟩
      exact ⟨v, rfl, hB, hv⟩
  iterate 5 refine dA ?_
  apply nd_det (.int .i64 ((N : Nat) : Int)) (hg := rfl) (hal := rfl)
  · intro a' W' hC hE
    simp [Oper.looksAt, Op.operands, Call.operands, envOf, Det] at hE
    simp [go_sem, Act.eval, hE, EN.out]
  apply nd_det (.slice po N co) (hg := rfl) (hal := rfl)
  · intro a' W' hC hE
    simp [Oper.looksAt, Op.operands, Call.operands, envOf, Det] at hE
    simp [go_sem, Act.eval, hE, hNc, hN0, add_zero_map]
  apply nd_call (PtS W3.heap.size N (pts.take N)) (hg := rfl) (hal := rfl)
  · exact PtS.closed _ _ _
  · intro a' W' hC hE
    simp [Oper.looksAt, Op.operands, Call.operands, envOf, Det] at hE
    refine ⟨_, _, ?_, (cQ.out W' W3.heap.size (hW.trans (hC.1.of_priv hW.size)) hC.1.size).mono ?_⟩
    · simp [go_sem, Act.eval, hE]
      try rfl
    · rintro e w' ⟨v, rfl, hB, hv⟩
      exact ⟨v, rfl, hB, hv⟩
  refine dA ?_
  clear hW hL b1 b2
  rintro W5 hW z6 hL
  simp only [ndR]
  intros
  simp only [ndS]
  obtain ⟨⟨b1, yb1, k1, f1⟩, ⟨b2, yb2, k2, f2⟩, -⟩ := hL
  have z7 := hW.size
  rename RowS _ _ _ _ _ _ _ => hs
  obtain ⟨gS, capS, curS, rfl, hgS0, b3, hcS, htS⟩ := hs
  rename PtS _ _ _ _ _ => hp
  obtain ⟨pP, capP, rfl, hP, hcP⟩ := hp.form
  clear hp
  have hgS : w.heap.size + 1 < gS := by omega
  have y3 := b3.lt
  replace htS := Lib.hid htS
  have k3 := b3.cell
  have f3 := b3.frozen
  go_upto_region 3 with (fail)
  clear k1 f1 k2 f2 k3 f3
  refine wp_cutB w (Bc w.heap.size #[.string nm9, .int .i64 ep, .int .i64 fl, .int .i64 la, .int .i64 sc, .slice (some ⟨gS, 0, none⟩) M capS, .slice pP N capP] 26 <| Bc (w.heap.size + 1) #[.string .empty, .int .i64 0, .int .i64 0, .int .i64 0, .int .i64 0, .slice none 0 0, .slice none 0 0] 26 <| Bc gS curS 49 <| Rc (fun W' => PtRow W' (w.heap.size + 1 + 1) pP (pts.take N)) <| Bz) ?_ (hI := by exact belowAny) (hR := (Bc.mk (by exact blkAny2) <| Bc.mk (by exact blkAny2) <| Bc.mk (by exact blkAny2) <| Rc.mk (by exact ((hP.mono (by omega)).setO (by omega) _ _).setO (by omega) _ _) <| trivial))
  clear b1 b2 b3 hW
  rintro W8 hW z9 ⟨⟨b1, yb1, k1, f1⟩, ⟨b2, yb2, k2, f2⟩, ⟨b3, yb3, k3, f3⟩, b4, -⟩
  have hP := b4
  clear b4
  go_wp2
  refine wp_loop (own24RelD w nm9 ep fl la sc pP capP N (rows.take M) (pts.take N) M gS capS) (fun a' _ => M - (intAt (a'.tmps.getD 34 undef)).toNat) ?_ ?_
  · have hl9 : (rows.take M).length = M := by rw [List.length_take]; omega
    exact ⟨belowAny, b1, b2, hP, 0, curS, rows.take M, b3, segCells_of htS.out hl9, OwnToD.start _ _ _, frame_ex rfl, Nat.zero_le _⟩
  clear hgS0 hcS htS hP b1 b2 b3 hW cS cQ hcP k1 f1 k2 f2 k3 f3
  rintro a' W ⟨hW0, b1, b2, hP, i, cur, R, b3, hSC, hOT, ⟨u, rfl⟩, hi'⟩
  have hz := hW0.size
  have zb1 := b1.lt
  have zb2 := b2.lt
  have zb3 := b3.lt
  rcases Nat.lt_or_ge i M with hiM | hiM
  · have hlen9 : (rows.take M).length = M := by rw [List.length_take]; omega
    obtain ⟨r0, hr0⟩ : ∃ r, (rows.take M)[i]? = some r := ⟨_, List.getElem?_eq_getElem (by omega)⟩
    have hR0 : R[i]? = some r0 := (hOT.rest i (Nat.le_refl _)).trans hr0
    obtain ⟨b, o, _, _, hcm⟩ := (hsegs.take M) i r0 hr0
    have hnR := hcm.nilR
    have hnV := hcm.nilV
    obtain ⟨K1, hK1⟩ : ∃ K, (r0.s.runs.take 257).length = K := ⟨_, rfl⟩
    obtain ⟨K2, hK2⟩ : ∃ K, (r0.s.raw.take 257).length = K := ⟨_, rfl⟩
    have lK1 := hK1
    have lK2 := hK2
    rw [List.length_take] at lK1 lK2
    have EK1 := Lib.hid (show (if (257 : Int) < (r0.s.runs.length : Int) then (257 : Int) else r0.s.runs.length) = (K1 : Int) by split <;> omega)
    have EK2 := Lib.hid (show (if (257 : Int) < (r0.s.raw.length : Int) then (257 : Int) else r0.s.raw.length) = (K2 : Int) by split <;> omega)
    have hcR := hcm.capR
    have hcV := hcm.capV
    have hK1c : (K1 : Int) ≤ r0.cap := by omega
    have hK10 : (0 : Int) ≤ K1 := by omega
    have hK2c : (K2 : Int) ≤ r0.vc := by omega
    have hK20 : (0 : Int) ≤ K2 := by omega
    have cR := Lib.hid (fun W' B (hW' : Below w.heap.size w W') (hB : B ≤ W'.heap.size) => (show Calls Tryz.prog 45 #[.slice r0.p K1 r0.cap] W' fun e w' => ∃ v, e = .returned v ∧ Below W'.heap.size W' w' ∧ RunD B K1 (r0.s.runs.take 257) v w' from by
      have t := c_CloneRun0 r0.p r0.cap (r0.s.runs.take 257) W' (by omega) ((hcm.runs.below hW').take 257) (fun e => ⟨by rw [(hnR e).1]; rfl, (hnR e).2⟩)
      rw [hK1] at t
      refine t.mono ?_
      rintro e w' ⟨p', c', rfl, hB', h1, h2, h3⟩
      rw [hK1] at h2 ⊢
      exact ⟨_, rfl, hB', p', c', rfl, h1, h2, fun a e => ⟨Nat.le_trans hB (h3 a e).1, (h3 a e).2⟩⟩))
    have cI := Lib.hid (fun W' B (hW' : Below w.heap.size w W') (hB : B ≤ W'.heap.size) => (show Calls Tryz.prog 46 #[.slice r0.q K2 r0.vc] W' fun e w' => ∃ v, e = .returned v ∧ Below W'.heap.size W' w' ∧ IntD B K2 (r0.s.raw.take 257) v w' from by
      have t := c_CloneInt0 r0.q r0.vc (r0.s.raw.take 257) W' (by omega) ((hcm.raw.below hW').take 257) (fun e => ⟨by rw [(hnV e).1]; rfl, (hnV e).2⟩)
      rw [hK2] at t
      refine t.mono ?_
      rintro e w' ⟨p', c', rfl, hB', h1, h2, h3⟩
      rw [hK2] at h2 ⊢
      exact ⟨_, rfl, hB', p', c', rfl, h1, h2, fun a e => ⟨Nat.le_trans hB (h3 a e).1, (h3 a e).2⟩⟩))
    replace hK1 := Lib.hid hK1
    replace hK2 := Lib.hid hK2
    clear hcm hlen9 EM
    have hPX := Lib.hid (fun Wx (hx : Rex [gS] W Wx) => hP.rex b3 hx)
    clear hP
    have k1 := b1.cell
    have f1 := b1.frozen
    have k2 := b2.cell
    have f2 := b2.frozen
    have k3 := b3.cell
    have f3 := b3.frozen
    have q0 : W.cell? ⟨gS, i * 8, none⟩ = some (.int .i64 r0.s.K) := (b3.cell _).trans (hSC i r0 hR0 0 _ rfl)
    have q1 : W.cell? ⟨gS, i * 8 + 1, none⟩ = some (.slice r0.p r0.s.runs.length r0.cap) := (b3.cell _).trans (hSC i r0 hR0 1 _ rfl)
    have q2 : W.cell? ⟨gS, i * 8 + 2, none⟩ = some (.int .i64 r0.s.A) := (b3.cell _).trans (hSC i r0 hR0 2 _ rfl)
    have q3 : W.cell? ⟨gS, i * 8 + 3, none⟩ = some (.int .i64 r0.s.R) := (b3.cell _).trans (hSC i r0 hR0 3 _ rfl)
    have q4 : W.cell? ⟨gS, i * 8 + 4, none⟩ = some (.int .i64 r0.s.n) := (b3.cell _).trans (hSC i r0 hR0 4 _ rfl)
    have q5 : W.cell? ⟨gS, i * 8 + 5, none⟩ = some (.int .i64 r0.s.d) := (b3.cell _).trans (hSC i r0 hR0 5 _ rfl)
    have q6 : W.cell? ⟨gS, i * 8 + 6, none⟩ = some (.slice r0.q r0.s.raw.length r0.vc) := (b3.cell _).trans (hSC i r0 hR0 6 _ rfl)
    have q7 : W.cell? ⟨gS, i * 8 + 7, none⟩ = some (.int .i64 r0.s.E) := (b3.cell _).trans (hSC i r0 hR0 7 _ rfl)
    clear k3 f3
    go_upto_region 6 with (fail)
    clear q0 q1 q2 q3 q4 q5 q6 q7
    clear k1 f1 k2 f2
    refine wp_cutX [gS] W (Bc w.heap.size #[.string nm9, .int .i64 ep, .int .i64 fl, .int .i64 la, .int .i64 sc, .slice (some ⟨gS, 0, none⟩) M capS, .slice pP N capP] 26 <| Bc (w.heap.size + 1) #[.string .empty, .int .i64 0, .int .i64 0, .int .i64 0, .int .i64 0, .slice none 0 0, .slice none 0 0] 26 <| Bc gS cur 49 <| Bc W.heap.size #[.int .i64 r0.s.K, .slice r0.p r0.s.runs.length r0.cap, .int .i64 r0.s.A, .int .i64 r0.s.R, .int .i64 r0.s.n, .int .i64 r0.s.d, .slice r0.q r0.s.raw.length r0.vc, .int .i64 r0.s.E] 49 <| Bz) ?_
    clear b1 b2 b3
    rintro W21 hW z22 ⟨⟨b1, yb1, k1, f1⟩, ⟨b2, yb2, k2, f2⟩, ⟨b3, yb3, k3, f3⟩, ⟨b4, yb4, k4, f4⟩, -⟩
    refine wp_region_ndS 24 67 gS (fun W' => Rex [gS] W21 W' ∧ Blk W' w.heap.size #[.string nm9, .int .i64 ep, .int .i64 fl, .int .i64 la, .int .i64 sc, .slice (some ⟨gS, 0, none⟩) M capS, .slice pP N capP] 26 ∧ Blk W' W.heap.size #[.int .i64 r0.s.K, .slice r0.p r0.s.runs.length r0.cap, .int .i64 r0.s.A, .int .i64 r0.s.R, .int .i64 r0.s.n, .int .i64 r0.s.d, .slice r0.q r0.s.raw.length r0.vc, .int .i64 r0.s.E] 49 ∧ Blk W' (w.heap.size + 1) #[.string .empty, .int .i64 0, .int .i64 0, .int .i64 0, .int .i64 0, .slice none 0 0, .slice none 0 0] 26 ∧ (Blk W' gS cur 49 ∨ ∃ v, RunD W21.heap.size K1 (r0.s.runs.take 257) v W' ∧ Blk W' gS (cur.setIfInBounds (i * 8 + 1) v) 49)) mixed (by kernel_rfl) rfl ⟨(Rex.refl _ _).drew, b1, b4, b2, .inl b3⟩ (fun w w' ⟨h0, h1, h2, h4, h3⟩ hr => ⟨h0.trans (hr.more (by simp)), h1.rex hr (by simp), h2.rex hr (by simp), h4.rex hr (by simp), h3.elim (fun h => .inl (h.rex hr (by simp))) (fun ⟨v, hv, h⟩ => .inr ⟨v, RunD.closed _ _ _ _ _ _ hr hv, h.rex hr (by simp)⟩)⟩) (fun c a d v w h => by cases d <;> exact h) _ rfl ?_
    iterate 11
      apply nd_det (hg := rfl) (hal := rfl)
      · intro a W' hC hE
        obtain ⟨_, k1, k2, k3, k4⟩ := hC
        have k1 := k1.cell
        have k2 := k2.cell
        first
          | (simp [Oper.looksAt, Op.operands, Call.operands, envOf, Det] at hE; simp [go_sem, Act.eval, IntWalk.i64_left, hE, k1, k2, k3, k4, hiM]; try rfl)
          | (clear hE; simp [go_sem, Act.eval, IntWalk.i64_left, k1, k2, k3, k4, hiM]; try rfl)
    apply nd_det (.int .i64 ((K1 : Nat) : Int)) (hg := rfl) (hal := rfl)
    · intro a' W' hC hE
      simp [Oper.looksAt, Op.operands, Call.operands, envOf, Det] at hE
      simp [go_sem, Act.eval, hE, EK1.out]
    apply nd_det (.slice r0.p K1 r0.cap) (hg := rfl) (hal := rfl)
    · intro a' W' hC hE
      simp [Oper.looksAt, Op.operands, Call.operands, envOf, Det] at hE
      simp [go_sem, Act.eval, hE, hK1c, hK10, add_zero_map]
    apply nd_call (RunD W21.heap.size K1 (r0.s.runs.take 257)) (hg := rfl) (hal := rfl)
    · exact RunD.closedL _ _ _ (by simp [others] <;> omega)
    · intro a' W' hC hE
      simp [Oper.looksAt, Op.operands, Call.operands, envOf, Det] at hE
      refine ⟨_, _, ?_, (cR.out W' W21.heap.size ((hW0.trans (hW.of_priv hz)).trans (hC.1.of_priv (Nat.le_trans hz hW.size) (by simp; omega))) hC.1.size).mono ?_⟩
      · simp [go_sem, Act.eval, hE]
        try rfl
      · rintro e w' ⟨v, rfl, hB, hv⟩
        exact ⟨v, rfl, hB, hv⟩
    iterate 5
      apply nd_det (hg := rfl) (hal := rfl)
      · intro a W' hC hE
        obtain ⟨_, k1, k2, k3, k4⟩ := hC
        have k1 := k1.cell
        have k2 := k2.cell
        first
          | (simp [Oper.looksAt, Op.operands, Call.operands, envOf, Det] at hE; simp [go_sem, Act.eval, IntWalk.i64_left, hE, k1, k2, k3, k4, hiM]; try rfl)
          | (clear hE; simp [go_sem, Act.eval, IntWalk.i64_left, k1, k2, k3, k4, hiM]; try rfl)
    apply nd_det (.int .i64 ((K2 : Nat) : Int)) (hg := rfl) (hal := rfl)
    · intro a' W' hC hE
      simp [Oper.looksAt, Op.operands, Call.operands, envOf, Det] at hE
      simp [go_sem, Act.eval, hE, EK2.out]
    apply nd_det (.slice r0.q K2 r0.vc) (hg := rfl) (hal := rfl)
    · intro a' W' hC hE
      simp [Oper.looksAt, Op.operands, Call.operands, envOf, Det] at hE
      simp [go_sem, Act.eval, hE, hK2c, hK20, add_zero_map]
    apply nd_call (IntD W21.heap.size K2 (r0.s.raw.take 257)) (hg := rfl) (hal := rfl)
    · exact IntD.closedL _ _ _ (by simp [others] <;> omega)
    · intro a' W' hC hE
      simp [Oper.looksAt, Op.operands, Call.operands, envOf, Det] at hE
      refine ⟨_, _, ?_, (cI.out W' W21.heap.size ((hW0.trans (hW.of_priv hz)).trans (hC.1.of_priv (Nat.le_trans hz hW.size) (by simp; omega))) hC.1.size).mono ?_⟩
      · simp [go_sem, Act.eval, hE]
        try rfl
      · rintro e w' ⟨v, rfl, hB, hv⟩
        exact ⟨v, rfl, hB, hv⟩
    iterate 2
      apply nd_det (hg := rfl) (hal := rfl)
      · intro a W' hC hE
        obtain ⟨_, k1, k2, k3, k4⟩ := hC
        have k1 := k1.cell
        have k2 := k2.cell
        first
          | (simp [Oper.looksAt, Op.operands, Call.operands, envOf, Det] at hE; simp [go_sem, Act.eval, IntWalk.i64_left, hE, k1, k2, k3, k4, hiM]; try rfl)
          | (clear hE; simp [go_sem, Act.eval, IntWalk.i64_left, k1, k2, k3, k4, hiM]; try rfl)
    refine ⟨fun _ W' => Rex [gS] W21 W' ∧ Blk W' w.heap.size #[.string nm9, .int .i64 ep, .int .i64 fl, .int .i64 la, .int .i64 sc, .slice (some ⟨gS, 0, none⟩) M capS, .slice pP N capP] 26 ∧ Blk W' W.heap.size #[.int .i64 r0.s.K, .slice r0.p r0.s.runs.length r0.cap, .int .i64 r0.s.A, .int .i64 r0.s.R, .int .i64 r0.s.n, .int .i64 r0.s.d, .slice r0.q r0.s.raw.length r0.vc, .int .i64 r0.s.E] 49 ∧ Blk W' (w.heap.size + 1) #[.string .empty, .int .i64 0, .int .i64 0, .int .i64 0, .int .i64 0, .slice none 0 0, .slice none 0 0] 26 ∧ ∃ v, RunD W21.heap.size K1 (r0.s.runs.take 257) v W' ∧ Blk W' gS (cur.setIfInBounds (i * 8 + 1) v) 49, fun _ w w' hr ⟨h0, h1, h2, h4, v, hv, h⟩ => ⟨h0.trans (hr.more (by simp)), h1.rex hr (by simp), h2.rex hr (by simp), h4.rex hr (by simp), v, RunD.closed _ _ _ _ _ _ hr hv, h.rex hr (by simp)⟩, ?_, fun _ w ⟨h0, h1, h2, h4, h⟩ => ⟨h0, h1, h2, h4, .inr h⟩, ?_⟩
    · intro a' W' hC hE
      refine ⟨fun _ => ?_, fun e => by rw [wanted_none (by rfl)] at e; cases e⟩
      simp [Oper.looksAt, Op.operands, Call.operands, envOf, Det] at hE
      obtain ⟨hp, p1, c1, hv, hr1⟩ := hE
      obtain ⟨h0, h1, h2, h4, h3⟩ := hC
      obtain ⟨x9, hx9⟩ : ∃ x, cur[i * 8 + 1]? = some x := ⟨_, hSC i r0 hR0 1 _ rfl⟩
      have hlt9 := (Array.getElem?_eq_some_iff.1 hx9).1
      obtain ⟨cur', hb', hs', x8, hx8⟩ : ∃ cur' : Array Value, Blk W' gS cur' 49 ∧ cur'.setIfInBounds (i * 8 + 1) (.slice p1 K1 c1) = cur.setIfInBounds (i * 8 + 1) (.slice p1 K1 c1) ∧ ∃ x, cur'[i * 8 + 1]? = some x := by
        rcases h3 with h | ⟨v, hv', h⟩
        · exact ⟨cur, h, rfl, x9, hx9⟩
        · exact ⟨_, h, by rw [Array.setIfInBounds_setIfInBounds], v, by rw [Array.getElem?_setIfInBounds, if_pos rfl, if_pos hlt9]⟩
      have hcl := RunD.closedL W21.heap.size K1 (r0.s.runs.take 257) (L := [gS]) (by simp; omega)
      have hRx : Rex [gS] W' (W'.setCell ⟨gS, i * 8 + 1, none⟩ (.slice p1 K1 c1)) := Rex.setOwn (Rex.refl _ _) hb' (by simp) _ _
      have hc8 : W'.cell? ⟨gS, i * 8 + 1, none⟩ = some x8 := (hb'.cell _).trans hx8
      have hf8 := hb'.frozen (i * 8 + 1)
      have hset := hb'.set (i * 8 + 1) (.slice p1 K1 c1)
      rw [hs'] at hset
      suffices hrun : (execOp a'.eval _).run Tryz.prog W' = .ok .skip (W'.setCell ⟨gS, i * 8 + 1, none⟩ (.slice p1 K1 c1)) by
        rw [hrun]
        exact ⟨hRx, ⟨h0.trans hRx, h1.rex hRx (by simp; omega), h2.rex hRx (by simp; omega), h4.rex hRx (by simp; omega), _, hcl _ _ _ hRx ⟨p1, c1, rfl, hr1⟩, hset⟩, rfl⟩
      simp [execOp, go_sem, Act.eval, hp, hv, hc8, hf8]
    · rintro W2 ⟨hR, d1, d2, d4, -⟩
      simp only [ndFinR, Det, forall_eq]
      intros
      simp only [Act.put, List.setIfInBounds_toArray, List.set_cons_zero, List.set_cons_succ, List.drop_succ_cons, List.drop_zero]
      rename IntD _ _ _ _ _ => hI
      obtain ⟨p6, c6, rfl, hI6, hc6, hg6⟩ := hI
      obtain ⟨-, -, -, -, v5, ⟨p5, c5, rfl, hR5, hc5, hg5⟩, d3⟩ := ‹Rex [gS] W21 W2 ∧ _ ∧ _ ∧ _ ∧ _›
      replace hW := hW.trans hR
      clear hR b1 b2 b3 b4
      have b1 := d1
      have b2 := d4
      have b3 := d3
      clear d1 d2 d3 d4
      replace hc5 := Lib.hid hc5
      replace hc6 := Lib.hid hc6
      have z61 := hW.size
      have z62 := b1.lt
      have z63 := b2.lt
      have z64 := b3.lt
      have k1 := b1.cell
      have f1 := b1.frozen
      have k2 := b2.cell
      have f2 := b2.frozen
      have k3 := b3.cell
      have f3 := b3.frozen
      have x1 : (cur.setIfInBounds (i * 8 + 1) (.slice p5 K1 c5))[i * 8 + 6]? = some (.slice r0.q r0.s.raw.length r0.vc) := by rw [Array.getElem?_setIfInBounds, if_neg (by omega)]; exact hSC i r0 hR0 6 _ rfl
      have hRx9 : Rex [gS] W2 (W2.setCell ⟨gS, i * 8 + 6, none⟩ (.slice p6 K2 c6)) := Rex.setOwn (Rex.refl _ _) b3 (by simp) _ _
      go_upto_region 7 with (fail)
      clear x1
      clear k1 f1 k2 f2 k3 f3
      refine wp_cutX [gS] W (Bc w.heap.size #[.string nm9, .int .i64 ep, .int .i64 fl, .int .i64 la, .int .i64 sc, .slice (some ⟨gS, 0, none⟩) M capS, .slice pP N capP] 26 <| Bc (w.heap.size + 1) #[.string .empty, .int .i64 0, .int .i64 0, .int .i64 0, .int .i64 0, .slice none 0 0, .slice none 0 0] 26 <| Bc gS ((cur.setIfInBounds (i * 8 + 1) (.slice p5 K1 c5)).setIfInBounds (i * 8 + 6) (.slice p6 K2 c6)) 49 <| Rc (fun W' => RunsIn W' p5 (r0.s.runs.take 257)) <| Rc (fun W' => IntsIn W' p6 (r0.s.raw.take 257)) <| Bz) ?_ (hI := by exact rexAny) (hR := (Bc.mk (by exact blkAny2) <| Bc.mk (by exact blkAny2) <| Bc.mk (by exact blkAny2) <| Rc.mk (by exact hR5.rex1 (L := [gS]) (g := gS) (by simp) (fun a e => by have := hg5 a e; omega) hRx9) <| Rc.mk (by exact hI6.rex1 (L := [gS]) (g := gS) (by simp) (fun a e => by have := hg6 a e; omega) hRx9) <| trivial))
      clear b1 b2 b3 hW
      rintro W65 hW z66 ⟨⟨b1, yb1, k1, f1⟩, ⟨b2, yb2, k2, f2⟩, ⟨b3, yb3, k3, f3⟩, b4, b5, -⟩
      clear hRx9 hR5 hI6
      go_wp2
      refine ⟨?_, by simp [intAt]; omega⟩
      have e1 := segRA_runs r0 (r0.s.runs.take 257) p5 c5
      rw [hK1.out] at e1
      have s1 := hSC.set hR0 (by omega : 1 < 8) e1
      have e2 := segRA_raw ⟨⟨r0.s.K, r0.s.runs.take 257, r0.s.A, r0.s.R, r0.s.n, r0.s.d, r0.s.raw, r0.s.E⟩, p5, r0.q, c5, r0.vc⟩ (r0.s.raw.take 257) p6 c6
      rw [hK2.out] at e2
      have hR1 := List.getElem?_set_self (l := R) (i := i) (a := (⟨⟨r0.s.K, r0.s.runs.take 257, r0.s.A, r0.s.R, r0.s.n, r0.s.d, r0.s.raw, r0.s.E⟩, p5, r0.q, c5, r0.vc⟩ : SegR)) (List.getElem?_eq_some_iff.1 hR0).1
      have s2 := s1.set hR1 (by omega : 6 < 8) e2
      rw [List.set_set] at s2
      have ow : OwnSegD W65 gS r0 ⟨⟨r0.s.K, r0.s.runs.take 257, r0.s.A, r0.s.R, r0.s.n, r0.s.d, r0.s.raw.take 257, r0.s.E⟩, p5, p6, c5, c6⟩ := ⟨rfl, b4, b5, by show (r0.s.raw.take 257).length ≤ c6; rw [hK2.out]; exact hc6.out, fun a e => by have := hg5 a e; omega, fun a e => by have := hg6 a e; omega⟩
      exact ⟨hW0.trans (hW.of_priv hz), b1, b2, hPX.out _ hW, i + 1, _, _, b3, s2, (hOT.rex (by simp) hW).step hr0 ow, frame_ex rfl, by omega⟩
  · have hlen9 : (rows.take M).length = M := by rw [List.length_take]; omega
    have k1 := b1.cell
    have f1 := b1.frozen
    have k2 := b2.cell
    have f2 := b2.frozen
    have k3 := b3.cell
    have f3 := b3.frozen
    go_wp2
    have d2 : Blk (((((((W.setCell ⟨w.heap.size + 1, 0, none⟩ (.string nm9)).setCell ⟨w.heap.size + 1, 1, none⟩ (.int .i64 ep)).setCell ⟨w.heap.size + 1, 2, none⟩ (.int .i64 fl)).setCell ⟨w.heap.size + 1, 3, none⟩ (.int .i64 la)).setCell ⟨w.heap.size + 1, 4, none⟩ (.int .i64 sc)).setCell ⟨w.heap.size + 1, 5, none⟩ (.slice (some ⟨gS, 0, none⟩) M capS)).setCell ⟨w.heap.size + 1, 6, none⟩ (.slice pP N capP)) (w.heap.size + 1) #[.string nm9, .int .i64 ep, .int .i64 fl, .int .i64 la, .int .i64 sc, .slice (some ⟨gS, 0, none⟩) M capS, .slice pP N capP] 26 := blkAny2
    have d3 : Blk (((((((W.setCell ⟨w.heap.size + 1, 0, none⟩ (.string nm9)).setCell ⟨w.heap.size + 1, 1, none⟩ (.int .i64 ep)).setCell ⟨w.heap.size + 1, 2, none⟩ (.int .i64 fl)).setCell ⟨w.heap.size + 1, 3, none⟩ (.int .i64 la)).setCell ⟨w.heap.size + 1, 4, none⟩ (.int .i64 sc)).setCell ⟨w.heap.size + 1, 5, none⟩ (.slice (some ⟨gS, 0, none⟩) M capS)).setCell ⟨w.heap.size + 1, 6, none⟩ (.slice pP N capP)) gS cur 49 := blkAny2
    have hR9 : Rex [w.heap.size + 1] W (((((((W.setCell ⟨w.heap.size + 1, 0, none⟩ (.string nm9)).setCell ⟨w.heap.size + 1, 1, none⟩ (.int .i64 ep)).setCell ⟨w.heap.size + 1, 2, none⟩ (.int .i64 fl)).setCell ⟨w.heap.size + 1, 3, none⟩ (.int .i64 la)).setCell ⟨w.heap.size + 1, 4, none⟩ (.int .i64 sc)).setCell ⟨w.heap.size + 1, 5, none⟩ (.slice (some ⟨gS, 0, none⟩) M capS)).setCell ⟨w.heap.size + 1, 6, none⟩ (.slice pP N capP)) := ((((((((Rex.refl [w.heap.size + 1] W).setOwn b2 (by simp) 0 _).setOwn (b2.set 0 _) (by simp) 1 _).setOwn ((b2.set 0 _).set 1 _) (by simp) 2 _).setOwn (((b2.set 0 _).set 1 _).set 2 _) (by simp) 3 _).setOwn ((((b2.set 0 _).set 1 _).set 2 _).set 3 _) (by simp) 4 _).setOwn (((((b2.set 0 _).set 1 _).set 2 _).set 3 _).set 4 _) (by simp) 5 _).setOwn ((((((b2.set 0 _).set 1 _).set 2 _).set 3 _).set 4 _).set 5 _) (by simp) 6 _)
    have hP9 : PtRow (((((((W.setCell ⟨w.heap.size + 1, 0, none⟩ (.string nm9)).setCell ⟨w.heap.size + 1, 1, none⟩ (.int .i64 ep)).setCell ⟨w.heap.size + 1, 2, none⟩ (.int .i64 fl)).setCell ⟨w.heap.size + 1, 3, none⟩ (.int .i64 la)).setCell ⟨w.heap.size + 1, 4, none⟩ (.int .i64 sc)).setCell ⟨w.heap.size + 1, 5, none⟩ (.slice (some ⟨gS, 0, none⟩) M capS)).setCell ⟨w.heap.size + 1, 6, none⟩ (.slice pP N capP)) (w.heap.size + 1 + 1) pP (pts.take N) := (((((((hP.setO (by omega) 0 _).setO (by omega) 1 _).setO (by omega) 2 _).setO (by omega) 3 _).setO (by omega) 4 _).setO (by omega) 5 _).setO (by omega) 6 _)
    obtain ⟨W9, hW9⟩ : ∃ W9, W9 = (((((((W.setCell ⟨w.heap.size + 1, 0, none⟩ (.string nm9)).setCell ⟨w.heap.size + 1, 1, none⟩ (.int .i64 ep)).setCell ⟨w.heap.size + 1, 2, none⟩ (.int .i64 fl)).setCell ⟨w.heap.size + 1, 3, none⟩ (.int .i64 la)).setCell ⟨w.heap.size + 1, 4, none⟩ (.int .i64 sc)).setCell ⟨w.heap.size + 1, 5, none⟩ (.slice (some ⟨gS, 0, none⟩) M capS)).setCell ⟨w.heap.size + 1, 6, none⟩ (.slice pP N capP)) := ⟨_, rfl⟩
    rw [← hW9] at d2 d3 hR9 hP9 ⊢
    clear hW9 b1 b2 b3 hP k1 f1 k2 f2 k3 f3
    have k2 := d2.cell
    have f2 := d2.frozen
    have y_2 := d2.lt
    refine bodyPost_ret (v := .agg #[.string nm9, .int .i64 ep, .int .i64 fl, .int .i64 la, .int .i64 sc, .slice (some ⟨gS, 0, none⟩) M capS, .slice pP N capP]) (by simp [results, Tryz.results15, go_sem, k2, f2, y_2]) rfl ⟨gS, capS, pP, capP, rfl, hW0.trans (hR9.of_priv hz), fun L Wx hL hr => ⟨own_segsD (d3.rex hr (fun hm => by have := hL _ hm; omega)) hSC hOT (by omega) (L := (w.heap.size + 1) :: L) (by intro x hx; rcases List.mem_cons.1 hx with rfl | hx; omega; have := hL x hx; omega) ((hR9.more (by simp)).trans (hr.more fun x hx => List.mem_cons_of_mem _ hx)), (hP9.low (fun x hx => by have := hL x hx; omega) hr).pts, (hP9.low (fun x hx => by have := hL x hx; omega) hr).off⟩⟩
set_option maxRecDepth 100000 in
set_option maxHeartbeats 2000000 in
theorem own24nD_w (nm : ByteArray) (ep fl la sc : Int) (po : Option Addr) (co : Nat) (pts : List (Int × Int)) (w : World) (N : Nat)
    (hpts : PtsIn w po pts) (hnilP : po = none → pts.length = 0 ∧ co = 0) (hcapP : pts.length ≤ co)
    (hN : N ≤ 40) (hNr : N ≤ pts.length) (EN : Hid ((if (40 : Int) < (pts.length : Int) then (40 : Int) else pts.length) = (N : Int))) (hNc : (N : Int) ≤ co) (hN0 : 0 ≤ (N : Int)) (nm9 : ByteArray) (hnm : Hid ((nm.extract 0 (mn (nm.size : Int) 20).toNat) = nm9)) :
    Calls Tryz.prog 15 #[.agg #[.string nm, .int .i64 ep, .int .i64 fl, .int .i64 la, .int .i64 sc, .slice none 0 0, .slice po pts.length co]] w fun e w' => ∃ pP capP, e = .returned (.agg #[.string nm9, .int .i64 ep, .int .i64 fl, .int .i64 la, .int .i64 sc, .slice none 0 0, .slice pP N capP]) ∧ Below w.heap.size w w' ∧ Lasts w.heap.size w' fun W => PtsIn W pP (pts.take N) ∧ Off0 pP := by
  have cQ := Lib.hid (fun W B (hW : Below w.heap.size w W) (hBW : B ≤ W.heap.size) => (show Calls Tryz.prog 44 #[.slice po N co] W fun e w' => ∃ v, e = .returned v ∧ Below W.heap.size W w' ∧ PtS B N (pts.take N) v w' from by
    have hl : (pts.take N).length = N := by rw [List.length_take]; omega
    cases hpo : po with
    | none =>
      obtain ⟨h1, h2⟩ := hnilP hpo
      obtain rfl : N = 0 := by omega
      subst h2
      refine (clonePt_nil W).mono ?_
      rintro e w' ⟨rfl, hB⟩
      exact ⟨_, rfl, hB, .inl ⟨rfl, rfl, rfl⟩⟩
    | some a9 =>
      have t := clonePt_some a9 co (pts.take N) W (by omega) (hpo ▸ (hpts.take9 N).below hW)
      rw [hl] at t
      refine t.mono ?_
      rintro e w' ⟨v, rfl, hB, g, c, cur, rfl, hg, h⟩
      exact ⟨_, rfl, hB, .inr ⟨g, c, cur, rfl, Nat.le_trans hBW hg, h⟩⟩))
  go_enter Tryz.func15, Tryz.ntmps15
  have hmin : ∀ ts t x y w, (Builtin.min_ ts t #[.int .i64 x, .int .i64 y]).run Tryz.prog w = .ok (.int .i64 (mn x y)) w := fun ts t x y w => by simp [Builtin.min_, Builtin.min2, mn]
  have hm0 := mn_spec (nm.size : Int) 20
  have hm1 : 0 ≤ mn (nm.size : Int) 20 := by omega
  have hm2 : mn (nm.size : Int) 20 ≤ (nm.size : Int) := hm0.1
  clear hm0
  go_upto_region 2 with (fail)
  refine wp_cutB w (Bc w.heap.size #[.string (nm.extract 0 (mn (nm.size : Int) 20).toNat), .int .i64 ep, .int .i64 fl, .int .i64 la, .int .i64 sc, .slice none 0 0, .slice po pts.length co] 26 <| Bc (w.heap.size + 1) #[.string .empty, .int .i64 0, .int .i64 0, .int .i64 0, .int .i64 0, .slice none 0 0, .slice none 0 0] 26 <| Bz) ?_
  rintro W1 hW z2 ⟨⟨b1, yb1, k1, f1⟩, ⟨b2, yb2, k2, f2⟩, -⟩
  clear hmin hm1 hm2
  rw [hnm.out] at b1
  go_upto_region 2 with (fail)
  clear k1 f1 k2 f2
  refine wp_cutB w (Bc w.heap.size #[.string nm9, .int .i64 ep, .int .i64 fl, .int .i64 la, .int .i64 sc, .slice none 0 0, .slice po pts.length co] 26 <| Bc (w.heap.size + 1) #[.string .empty, .int .i64 0, .int .i64 0, .int .i64 0, .int .i64 0, .slice none 0 0, .slice none 0 0] 26 <| Bz) ?_
  clear b1 b2 hW
  rintro W3 hW z4 hL
  obtain ⟨⟨b1, yb1, k1, f1⟩, ⟨b2, yb2, k2, f2⟩, -⟩ := id hL
  clear k1 f1 k2 f2
  refine wp_regD 17 67 hW hL ?_
  iterate 6 refine dA ?_
  apply nd_det (.slice none 0 0) (hg := rfl) (hal := rfl)
  · intro a' W' hC hE
    simp [Oper.looksAt, Op.operands, Call.operands, envOf, Det] at hE
    simp [go_sem, Act.eval, hE]
    try rfl
  refine cA (fun W' hC => cloneSeg_nil W') ?_
  iterate 5 refine dA ?_
  apply nd_det (.int .i64 ((N : Nat) : Int)) (hg := rfl) (hal := rfl)
  · intro a' W' hC hE
    simp [Oper.looksAt, Op.operands, Call.operands, envOf, Det] at hE
    simp [go_sem, Act.eval, hE, EN.out]
  apply nd_det (.slice po N co) (hg := rfl) (hal := rfl)
  · intro a' W' hC hE
    simp [Oper.looksAt, Op.operands, Call.operands, envOf, Det] at hE
    simp [go_sem, Act.eval, hE, hNc, hN0, add_zero_map]
  apply nd_call (PtS W3.heap.size N (pts.take N)) (hg := rfl) (hal := rfl)
  · exact PtS.closed _ _ _
  · intro a' W' hC hE
    simp [Oper.looksAt, Op.operands, Call.operands, envOf, Det] at hE
    refine ⟨_, _, ?_, (cQ.out W' W3.heap.size (hW.trans (hC.1.of_priv hW.size)) hC.1.size).mono ?_⟩
    · simp [go_sem, Act.eval, hE]
      try rfl
    · rintro e w' ⟨v, rfl, hB, hv⟩
      exact ⟨v, rfl, hB, hv⟩
  refine dA ?_
  clear hW hL b1 b2
  rintro W5 hW z6 hL
  simp only [ndR]
  intros
  simp only [ndS]
  obtain ⟨⟨b1, yb1, k1, f1⟩, ⟨b2, yb2, k2, f2⟩, -⟩ := hL
  have z7 := hW.size
  rename PtS _ _ _ _ _ => hp
  obtain ⟨pP, capP, rfl, hP, hcP⟩ := hp.form
  clear hp
  go_upto_region 3 with (fail)
  clear k1 f1 k2 f2
  refine wp_cutB w (Bc w.heap.size #[.string nm9, .int .i64 ep, .int .i64 fl, .int .i64 la, .int .i64 sc, .slice none 0 0, .slice pP N capP] 26 <| Bc (w.heap.size + 1) #[.string .empty, .int .i64 0, .int .i64 0, .int .i64 0, .int .i64 0, .slice none 0 0, .slice none 0 0] 26 <| Rc (fun W' => PtRow W' (w.heap.size + 1 + 1) pP (pts.take N)) <| Bz) ?_ (hI := by exact belowAny) (hR := (Bc.mk (by exact blkAny2) <| Bc.mk (by exact blkAny2) <| Rc.mk (by exact ((hP.mono (by omega)).setO (by omega) _ _).setO (by omega) _ _) <| trivial))
  clear b1 b2 hW
  rintro W8 hW z9 ⟨⟨b1, yb1, k1, f1⟩, ⟨b2, yb2, k2, f2⟩, b3, -⟩
  have hP := b3
  clear b3
  go_wp2
  refine wp_loop (ownNRel w nm9 ep fl la sc pP capP N (pts.take N)) (fun a' _ => 0) ?_ ?_
  · exact ⟨hW, b1, b2, hP, frame_ex rfl⟩
  clear b1 b2 hP hW k1 f1 k2 f2
  rintro a' W ⟨hW0, b1, b2, hP, ⟨u, rfl⟩⟩
  have hz := hW0.size
  have zb1 := b1.lt
  have zb2 := b2.lt
  have k1 := b1.cell
  have f1 := b1.frozen
  have k2 := b2.cell
  have f2 := b2.frozen
  go_wp2
  have d2 : Blk (((((((W.setCell ⟨w.heap.size + 1, 0, none⟩ (.string nm9)).setCell ⟨w.heap.size + 1, 1, none⟩ (.int .i64 ep)).setCell ⟨w.heap.size + 1, 2, none⟩ (.int .i64 fl)).setCell ⟨w.heap.size + 1, 3, none⟩ (.int .i64 la)).setCell ⟨w.heap.size + 1, 4, none⟩ (.int .i64 sc)).setCell ⟨w.heap.size + 1, 5, none⟩ (.slice none 0 0)).setCell ⟨w.heap.size + 1, 6, none⟩ (.slice pP N capP)) (w.heap.size + 1) #[.string nm9, .int .i64 ep, .int .i64 fl, .int .i64 la, .int .i64 sc, .slice none 0 0, .slice pP N capP] 26 := blkAny2
  have hR9 : Rex [w.heap.size + 1] W (((((((W.setCell ⟨w.heap.size + 1, 0, none⟩ (.string nm9)).setCell ⟨w.heap.size + 1, 1, none⟩ (.int .i64 ep)).setCell ⟨w.heap.size + 1, 2, none⟩ (.int .i64 fl)).setCell ⟨w.heap.size + 1, 3, none⟩ (.int .i64 la)).setCell ⟨w.heap.size + 1, 4, none⟩ (.int .i64 sc)).setCell ⟨w.heap.size + 1, 5, none⟩ (.slice none 0 0)).setCell ⟨w.heap.size + 1, 6, none⟩ (.slice pP N capP)) := ((((((((Rex.refl [w.heap.size + 1] W).setOwn b2 (by simp) 0 _).setOwn (b2.set 0 _) (by simp) 1 _).setOwn ((b2.set 0 _).set 1 _) (by simp) 2 _).setOwn (((b2.set 0 _).set 1 _).set 2 _) (by simp) 3 _).setOwn ((((b2.set 0 _).set 1 _).set 2 _).set 3 _) (by simp) 4 _).setOwn (((((b2.set 0 _).set 1 _).set 2 _).set 3 _).set 4 _) (by simp) 5 _).setOwn ((((((b2.set 0 _).set 1 _).set 2 _).set 3 _).set 4 _).set 5 _) (by simp) 6 _)
  have hP9 : PtRow (((((((W.setCell ⟨w.heap.size + 1, 0, none⟩ (.string nm9)).setCell ⟨w.heap.size + 1, 1, none⟩ (.int .i64 ep)).setCell ⟨w.heap.size + 1, 2, none⟩ (.int .i64 fl)).setCell ⟨w.heap.size + 1, 3, none⟩ (.int .i64 la)).setCell ⟨w.heap.size + 1, 4, none⟩ (.int .i64 sc)).setCell ⟨w.heap.size + 1, 5, none⟩ (.slice none 0 0)).setCell ⟨w.heap.size + 1, 6, none⟩ (.slice pP N capP)) (w.heap.size + 1 + 1) pP (pts.take N) := (((((((hP.setO (by omega) 0 _).setO (by omega) 1 _).setO (by omega) 2 _).setO (by omega) 3 _).setO (by omega) 4 _).setO (by omega) 5 _).setO (by omega) 6 _)
  obtain ⟨W9, hW9⟩ : ∃ W9, W9 = (((((((W.setCell ⟨w.heap.size + 1, 0, none⟩ (.string nm9)).setCell ⟨w.heap.size + 1, 1, none⟩ (.int .i64 ep)).setCell ⟨w.heap.size + 1, 2, none⟩ (.int .i64 fl)).setCell ⟨w.heap.size + 1, 3, none⟩ (.int .i64 la)).setCell ⟨w.heap.size + 1, 4, none⟩ (.int .i64 sc)).setCell ⟨w.heap.size + 1, 5, none⟩ (.slice none 0 0)).setCell ⟨w.heap.size + 1, 6, none⟩ (.slice pP N capP)) := ⟨_, rfl⟩
  rw [← hW9] at d2 hR9 hP9 ⊢
  clear hW9 b1 b2 hP k1 f1 k2 f2
  have k2 := d2.cell
  have f2 := d2.frozen
  have y_2 := d2.lt
  refine bodyPost_ret (v := .agg #[.string nm9, .int .i64 ep, .int .i64 fl, .int .i64 la, .int .i64 sc, .slice none 0 0, .slice pP N capP]) (by simp [results, Tryz.results15, go_sem, k2, f2, y_2]) rfl ⟨pP, capP, rfl, hW0.trans (hR9.of_priv hz), fun L Wx hL hr => ⟨(hP9.low (fun x hx => by have := hL x hx; omega) hr).pts, (hP9.low (fun x hx => by have := hL x hx; omega) hr).off⟩⟩
end Go.Proofs.YtpdhdjlhicceoaaGreatDoor
namespace Go.Proofs.YtpdhdjlhicceoaaGreatDoor
open Go.RowKit
end Go.Proofs.YtpdhdjlhicceoaaGreatDoor
namespace Go.Proofs.YtpdhdjlhicceoaaGreatDoor
open Go.RowKit
/-- What own leaves of a series. -/
def ownSer (nm : ByteArray) (ep fl la sc : Int) (rows : List SegR) (pts : List (Int × Int)) : SerT := ⟨nm, ep, fl, la, sc, (rows.take (min rows.length 60)).map fun r => ownG r.s, pts.take (min pts.length 60)⟩
/-- A series that came in. -/
structure SerCame (w : World) (ps po : Option Addr) (cs co : Nat) (rows : List SegR) (pts : List (Int × Int)) : Prop where
  segs : SegsCame w ps rows
  opn : PtsIn w po pts
  nilS : ps = none → rows.length = 0 ∧ cs = 0
  nilO : po = none → pts.length = 0 ∧ co = 0
  capS : rows.length ≤ cs
  capO : pts.length ≤ co
theorem SerCame.below {w w' : World} {ps po : Option Addr} {cs co : Nat} {rows : List SegR} {pts : List (Int × Int)} (h : SerCame w ps po cs co rows pts) (hb : Below w.heap.size w w') : SerCame w' ps po cs co rows pts := ⟨h.segs.below hb, h.opn.below hb, h.nilS, h.nilO, h.capS, h.capO⟩
end Go.Proofs.YtpdhdjlhicceoaaGreatDoor
namespace Go.Proofs.YtpdhdjlhicceoaaGreatDoor
open Go.RowKit
/-- What own leaves of a series. -/
def ownSer26 (nm : ByteArray) (ep fl la sc : Int) (rows : List SegR) (pts : List (Int × Int)) : SerT := ⟨nm.extract 0 (mn (nm.size : Int) 20).toNat, ep, fl, la, sc, (rows.take (min rows.length 12)).map fun r => ownK r.s, pts.take (min pts.length 40)⟩
end Go.Proofs.YtpdhdjlhicceoaaGreatDoor
namespace Go.Proofs.YtpdhdjlhicceoaaGreatDoor
open Go.RowKit
/-- A series all of whose parts begin where their blocks do. -/
structure SerO (w : World) (s : SerT) (pS pP : Option Addr) : Prop where
  inn : SerIn w s pS pP
  segs : (pS = none ∧ s.segs = []) ∨ ∃ g, pS = some ⟨g, 0, none⟩ ∧ SegsIn0 w g s.segs
  off : Off0 pP
theorem str_ne {w : World} {b g : Nat} {k : IntKind} {z : Int} (hz : ∃ s, w.cell? ⟨g, 0, none⟩ = some (.string s)) (h : w.cell? ⟨b, 0, none⟩ = some (.int k z)) : b ≠ g := by
  rintro rfl
  obtain ⟨s, hs⟩ := hz
  rw [hs] at h
  cases h
theorem cell_rexL {L : List Nat} {w w' : World} (hr : Rex L w w') {b z : Nat} {v : Value} (h : w.cell? ⟨b, z, none⟩ = some v) (hn : b ∉ L) : w'.cell? ⟨b, z, none⟩ = some v := (World.cell?_of_block (hr.block b (cell_lt h) hn)).trans h
/-- blocks that begin with a string -/
def StrL (w : World) (L : List Nat) : Prop := ∀ g, g ∈ L → ∃ s, w.cell? ⟨g, 0, none⟩ = some (.string s)
theorem StrL.out {w : World} {L : List Nat} (h : StrL w L) {b : Nat} {k : IntKind} {z : Int} (hc : w.cell? ⟨b, 0, none⟩ = some (.int k z)) : b ∉ L := fun hm => str_ne (h b hm) hc rfl
theorem RunsIn.rexS {L : List Nat} {w w' : World} {p : Option Addr} {l : List RunT} (h : RunsIn w p l) (h0 : Off0 p) (hz : StrL w L) (hr : Rex L w w') : RunsIn w' p l := ⟨fun i r hi => by
  obtain ⟨b, o, e, q0, q1, q2⟩ := h.at' i r hi
  have ho : o = 0 := h0 _ e
  subst ho
  obtain ⟨r0, hr0⟩ : ∃ r0, l[0]? = some r0 := ⟨_, List.getElem?_eq_getElem (by have := (List.getElem?_eq_some_iff.1 hi).1; omega)⟩
  obtain ⟨b', o', e', z0, _⟩ := h.at' 0 r0 hr0
  rw [e] at e'
  injection e' with e'; injection e' with eb eo _
  subst eb; subst eo
  have hn := hz.out (b := b) (by simpa using z0)
  exact ⟨b, 0, e, cell_rexL hr q0 hn, cell_rexL hr q1 hn, cell_rexL hr q2 hn⟩⟩
theorem IntsIn.rexS {L : List Nat} {w w' : World} {p : Option Addr} {l : List Int} (h : IntsIn w p l) (h0 : Off0 p) (hz : StrL w L) (hr : Rex L w w') : IntsIn w' p l := ⟨fun i r hi => by
  obtain ⟨b, o, e, q0⟩ := h.at' i r hi
  have ho : o = 0 := h0 _ e
  subst ho
  obtain ⟨r0, hr0⟩ : ∃ r0, l[0]? = some r0 := ⟨_, List.getElem?_eq_getElem (by have := (List.getElem?_eq_some_iff.1 hi).1; omega)⟩
  obtain ⟨b', o', e', z0⟩ := h.at' 0 r0 hr0
  rw [e] at e'
  injection e' with e'; injection e' with eb eo _
  subst eb; subst eo
  have hn := hz.out (b := b) (by simpa using z0)
  exact ⟨b, 0, e, cell_rexL hr q0 hn⟩⟩
theorem PtsIn.rexS {L : List Nat} {w w' : World} {p : Option Addr} {l : List (Int × Int)} (h : PtsIn w p l) (h0 : Off0 p) (hz : StrL w L) (hr : Rex L w w') : PtsIn w' p l := ⟨fun i r hi => by
  obtain ⟨b, o, e, q0, q1⟩ := h.at' i r hi
  have ho : o = 0 := h0 _ e
  subst ho
  obtain ⟨r0, hr0⟩ : ∃ r0, l[0]? = some r0 := ⟨_, List.getElem?_eq_getElem (by have := (List.getElem?_eq_some_iff.1 hi).1; omega)⟩
  obtain ⟨b', o', e', z0, _⟩ := h.at' 0 r0 hr0
  rw [e] at e'
  injection e' with e'; injection e' with eb eo _
  subst eb; subst eo
  have hn := hz.out (b := b) (by simpa using z0)
  exact ⟨b, 0, e, cell_rexL hr q0 hn, cell_rexL hr q1 hn⟩⟩
theorem SegsIn0.rexS {L : List Nat} {w w' : World} {g : Nat} {l : List SegT} (h : SegsIn0 w g l) (hz : StrL w L) (hr : Rex L w w') : SegsIn0 w' g l := ⟨fun i s hs => by
  obtain ⟨p', q', cap, vc, h1, h2, h3, h4, h5⟩ := h.at' i s hs
  obtain ⟨s0, hs0⟩ : ∃ s0, l[0]? = some s0 := ⟨_, List.getElem?_eq_getElem (by have := (List.getElem?_eq_some_iff.1 hs).1; omega)⟩
  obtain ⟨p0, q0, c0, v0, k1, _⟩ := h.at' 0 s0 hs0
  have hn := hz.out (b := g) (show w.cell? ⟨g, 0, none⟩ = some (.int .i64 s0.K) from k1 0 _ rfl)
  exact ⟨p', q', cap, vc, fun j v hv => cell_rexL hr (h1 j v hv) hn, ⟨h2.runs.rexS h4 hz hr, h2.raw.rexS h5 hz hr, h2.fewR, h2.fewV⟩, h3, h4, h5⟩⟩
/-- What is written into blocks that begin with a string, does not change a series. -/
theorem SerO.rexS {L : List Nat} {w w' : World} {s : SerT} {pS pP : Option Addr} (h : SerO w s pS pP) (hz : StrL w L) (hr : Rex L w w') : SerO w' s pS pP := by
  obtain ⟨⟨h1, h2, h3, h4⟩, hs, ho⟩ := h
  rcases hs with ⟨rfl, e⟩ | ⟨g, rfl, hg⟩
  · exact ⟨⟨⟨fun i x hx => by rw [e] at hx; simp at hx⟩, h2.rexS ho hz hr, h3, h4⟩, .inl ⟨rfl, e⟩, ho⟩
  · exact ⟨⟨(hg.rexS hz hr).segs, h2.rexS ho hz hr, h3, h4⟩, .inr ⟨g, rfl, hg.rexS hz hr⟩, ho⟩
theorem SerO.rex {L : List Nat} {w w' : World} {s : SerT} {pS pP : Option Addr} (h : SerO w s pS pP) (hr : Rex L w w') (hL : L = []) : SerO w' s pS pP := by
  subst hL
  exact h.rexS (L := []) (fun g hg => by cases hg) hr
theorem SerO.drew {w : World} {s : SerT} {pS pP : Option Addr} (h : SerO w s pS pP) : SerO w.drew s pS pP := h.rex (L := []) (Rex.refl _ _).drew rfl
theorem SerO.below {w w' : World} {s : SerT} {pS pP : Option Addr} (h : SerO w s pS pP) (hb : Below w.heap.size w w') : SerO w' s pS pP := h.rex (L := []) (Rex.of_below hb) rfl
theorem c_own24DL (nm : ByteArray) (ep fl la sc : Int) (ps po : Option Addr) (cs co : Nat) (rows : List SegR) (pts : List (Int × Int)) (w : World) (h : SerCame w ps po cs co rows pts) :
    Calls Tryz.prog 15 #[.agg #[.string nm, .int .i64 ep, .int .i64 fl, .int .i64 la, .int .i64 sc, .slice ps rows.length cs, .slice po pts.length co]] w fun e w' => ∃ pS capS pP capP, e = .returned (.agg (serA (ownSer26 nm ep fl la sc rows pts) pS capS pP capP)) ∧ Below w.heap.size w w' ∧ Lasts w.heap.size w' fun W => SerO W (ownSer26 nm ep fl la sc rows pts) pS pP := by
  have h1 := h.capS
  have h2 := h.capO
  have l1 : ((rows.take (min rows.length 12)).map fun r => ownK r.s).length = min rows.length 12 := by rw [List.length_map, List.length_take]; omega
  have l2 : (pts.take (min pts.length 40)).length = min pts.length 40 := by rw [List.length_take]; omega
  cases hps : ps with
  | none =>
    obtain ⟨e1, e2⟩ := h.nilS hps
    subst e2
    rw [e1]
    have e3 : rows = [] := List.length_eq_zero_iff.1 e1
    subst e3
    refine (own24nD_w nm ep fl la sc po co pts w (min pts.length 40) h.opn h.nilO h.capO (by omega) (by omega) (Lib.hid (by split <;> omega)) (by omega) (by omega) _ (Lib.hid rfl)).mono ?_
    rintro e w' ⟨pP, capP, rfl, hB, hP⟩
    refine ⟨none, 0, pP, capP, ?_, hB, fun L Wx hL hr => ⟨⟨⟨fun i s hs => by simp [ownSer26] at hs⟩, (hP L Wx hL hr).1, ?_, ?_⟩, .inl ⟨rfl, rfl⟩, (hP L Wx hL hr).2⟩⟩
    · unfold serA ownSer26
      simp only [l2]
      rfl
    · show ([] : List SegT).length ≤ 100
      decide
    · show (pts.take (min pts.length 40)).length ≤ 100
      omega
  | some ad =>
    subst hps
    refine (own24D_w nm ep fl la sc ad po cs co rows pts w (min rows.length 12) (min pts.length 40) h.segs h.opn h.nilO h.capS h.capO (by omega) (by omega) (Lib.hid (by split <;> omega)) (by omega) (by omega) (by omega) (by omega) (Lib.hid (by split <;> omega)) (by omega) (by omega) _ (Lib.hid rfl)).mono ?_
    rintro e w' ⟨gS, capS, pP, capP, rfl, hB, hS⟩
    refine ⟨_, capS, pP, capP, ?_, hB, fun L Wx hL hr => ⟨⟨(hS L Wx hL hr).1.segs, (hS L Wx hL hr).2.1, ?_, ?_⟩, .inr ⟨_, rfl, (hS L Wx hL hr).1⟩, (hS L Wx hL hr).2.2⟩⟩
    · unfold serA ownSer26
      simp only [l1, l2]
    · show ((rows.take (min rows.length 12)).map fun r => ownK r.s).length ≤ 100
      omega
    · show (pts.take (min pts.length 40)).length ≤ 100
      omega
theorem c_own24D (nm : ByteArray) (ep fl la sc : Int) (ps po : Option Addr) (cs co : Nat) (rows : List SegR) (pts : List (Int × Int)) (w : World) (h : SerCame w ps po cs co rows pts) :
    Calls Tryz.prog 15 #[.agg #[.string nm, .int .i64 ep, .int .i64 fl, .int .i64 la, .int .i64 sc, .slice ps rows.length cs, .slice po pts.length co]] w fun e w' => ∃ pS capS pP capP, e = .returned (.agg (serA (ownSer26 nm ep fl la sc rows pts) pS capS pP capP)) ∧ Below w.heap.size w w' ∧ SerO w' (ownSer26 nm ep fl la sc rows pts) pS pP :=
  (c_own24DL nm ep fl la sc ps po cs co rows pts w h).mono fun e w' ⟨pS, capS, pP, capP, h1, h2, h3⟩ => ⟨pS, capS, pP, capP, h1, h2, h3.now⟩
end Go.Proofs.YtpdhdjlhicceoaaGreatDoor
