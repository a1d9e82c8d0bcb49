/- Parts of the proof that follows: Layer model: points that come to a model in memory of its own. No condition. | slices.IndexFunc and DeleteFunc of points below a floor. No condition. | slices.DeleteFunc of points below a floor. No condition. | Layer model: what is below a floor is let go, of a model in memory of its own. No condition. | The laws of chapter 28: a model whose rows and points may be written into. No condition. | The references' numbers: Neg, Sub, Less; a guarded step that has a spec. | The document's models: a model without the raw series of a name. No condition. | The document's models: a model with a raw series in the place of its name. No condition. -/
import Derived.Test.YtdeghcgakkhbmaaGreatDo11
set_option linter.unusedSimpArgs false
set_option linter.unusedVariables false
namespace Go.Proofs.YtdeghcgakkhbmaaGreat
open Go.RowKit
theorem flatPts_append (a b : List (Int × Int)) : flatPts (a ++ b) = flatPts a ++ flatPts b := by rw [flatPts_flat, flatPts_flat, flatPts_flat, List.flatMap_append]
theorem flatRaws_setk : ∀ (l : List RawR) (i k : Nat) (x y : RawR) (v : Value), l[i]? = some x → k < 6 → (rawRA y).toList = (rawRA x).toList.set k v → (flatRaws l).set (i * 6 + k) v = flatRaws (l.set i y)
  | [], i, k, x, y, v, h, _, _ => by simp at h
  | z :: l, 0, k, x, y, v, h, hk, hy => by
    obtain rfl : z = x := by simpa using h
    have h1 : flatRaws (z :: l) = (rawRA z).toList ++ flatRaws l := by unfold flatRaws; rw [List.flatMap_cons]
    have h2 : flatRaws (y :: l) = (rawRA y).toList ++ flatRaws l := by unfold flatRaws; rw [List.flatMap_cons]
    rw [List.set_cons_zero, h1, h2, hy, Nat.zero_mul, Nat.zero_add, List.set_append_left _ _ (by rw [rawRA_len]; exact hk)]
  | z :: l, i + 1, k, x, y, v, h, hk, hy => by
    have h1 : flatRaws (z :: l) = (rawRA z).toList ++ flatRaws l := by unfold flatRaws; rw [List.flatMap_cons]
    have h2 : flatRaws (z :: l.set i y) = (rawRA z).toList ++ flatRaws (l.set i y) := by unfold flatRaws; rw [List.flatMap_cons]
    rw [List.set_cons_succ, h1, h2, List.set_append_right _ _ (by rw [rawRA_len]; omega), rawRA_len, show (i + 1) * 6 + k - 6 = i * 6 + k by omega, flatRaws_setk l i k x y v (by simpa using h) hk hy]
theorem grown_belowB {W w' : World} {B n s : Nat} {e : TypeId} {v : Value} {xs : List Value} (ho : W.ownsRow B e s v n xs) (hg : W.grownBy w' v.ownBlock) (hB : B ≤ W.heap.size) : Below B W w' := Below.grown (Below.refl B W) hg hB (fun k hk => (ho.lt k hk).1)
theorem PtRowsO.grown {W w' : World} {B i : Nat} {RL : List RawR} {x0 : RawR} (h : PtRowsO W B RL) (ha : ApartP RL) (tx : RL[i]? = some x0) (hgr : W.grownBy w' (Value.slice x0.p x0.r.pts.length x0.cap).ownBlock) (y : RawR) (hy : PtO w' B y.p y.cap y.r.pts) : PtRowsO w' B (RL.set i y) := ⟨fun x hx => by
  obtain ⟨k, hk⟩ := List.getElem?_of_mem hx
  rw [List.getElem?_set] at hk
  by_cases hik : i = k
  · rw [if_pos hik] at hk
    split at hk
    · obtain rfl := Option.some.inj hk
      exact hy
    · cases hk
  · rw [if_neg hik] at hk
    have h1 := h.at' x (List.mem_of_getElem? hk)
    refine ⟨h1.own.kept hgr ?_⟩
    cases hp : x.p with
    | none => exact .inl rfl
    | some a =>
      refine .inr ?_
      cases hq : x0.p with
      | none => simp [Value.ownBlock]
      | some b =>
        simp only [Value.ownBlock, ne_eq, Option.some.injEq]
        rcases Nat.lt_or_gt_of_ne hik with hlt | hgt
        · exact fun e => ha i k x0 x hlt tx hk b a hq hp e.symm
        · exact ha k i x x0 hgt hk tx a b hp hq⟩
set_option maxRecDepth 100000 in
set_option maxHeartbeats 2000000 in
theorem points_bad (g : Nat) (sv : Value) (x : MutT) (px : Option Addr) (cx : Nat) (w : World) (hg : Blk w g #[sv, .int .i64 x.kind, .string x.name, .int .i64 x.eps, .int .i64 x.floor, .int .i64 x.scale, .slice px x.pts.length cx] 98) (hb : Hid ((((x.pts.length : Int) == 0) || decide ((16 : Int) < (x.pts.length : Int))) = true)) :
    Calls Tryz.prog 49 #[.pointer (some ⟨g, 0, none⟩)] w fun e w' => e = .returned (.int .i64 2) ∧ Below w.heap.size w w' := by
  go_enter Tryz.func49, Tryz.ntmps49
  go_upto_region 1 with (fail)
  refine wp_cutB w (Bc g #[sv, .int .i64 x.kind, .string x.name, .int .i64 x.eps, .int .i64 x.floor, .int .i64 x.scale, .slice px x.pts.length cx] 98 <| Bz) ?_
  rintro W1 hW z2 hL
  refine wp_regS 16 76 hW hL ?_
  iterate 8 refine dA ?_
  iterate 7 refine gA ?_
  refine pO ?_
  clear hW hL
  rintro W3 hW z4 hL
  simp only [ndR]
  intros
  repeat (rename GDet _ _ _ _ => hgd; clear hgd)
  simp only [ndS]
  refine wpList_nil ?_
  obtain ⟨⟨b1, yb1, k1, f1⟩, -⟩ := hL
  rw [hb.out]
  go_wp2
  refine bodyPost_ret (by simp [results, Tryz.results49, go_sem, k1, f1, yb1]) rfl ⟨rfl, by exact belowAny⟩
set_option maxRecDepth 100000 in
set_option maxHeartbeats 2000000 in
theorem points_none (g : Nat) (sv : Value) (x : MutT) (px : Option Addr) (cx : Nat) (iv : Int) (w : World) (hg : Blk w g #[sv, .int .i64 x.kind, .string x.name, .int .i64 x.eps, .int .i64 x.floor, .int .i64 x.scale, .slice px x.pts.length cx] 98) (hb : Hid ((((x.pts.length : Int) == 0) || decide ((16 : Int) < (x.pts.length : Int))) = false))
    (c1 : Hid (∀ W, Below w.heap.size w W → Calls Tryz.prog 75 #[.pointer (some ⟨g, 0, none⟩)] W fun e w' => e = .returned (.tuple #[.int .i64 iv, .bool false]) ∧ Below W.heap.size W w')) :
    Calls Tryz.prog 49 #[.pointer (some ⟨g, 0, none⟩)] w fun e w' => e = .returned (.int .i64 372) ∧ Below w.heap.size w w' := by
  go_enter Tryz.func49, Tryz.ntmps49
  go_upto_region 1 with (fail)
  refine wp_cutB w (Bc g #[sv, .int .i64 x.kind, .string x.name, .int .i64 x.eps, .int .i64 x.floor, .int .i64 x.scale, .slice px x.pts.length cx] 98 <| Bz) ?_
  rintro W1 hW z2 hL
  refine wp_regS 16 76 hW hL ?_
  iterate 8 refine dA ?_
  iterate 7 refine gA ?_
  refine pO ?_
  clear hW hL
  rintro W3 hW z4 hL
  simp only [ndR]
  intros
  repeat (rename GDet _ _ _ _ => hgd; clear hgd)
  simp only [ndS]
  refine wpList_nil ?_
  obtain ⟨⟨b1, yb1, k1, f1⟩, -⟩ := hL
  rw [hb.out]
  go_wp2_with fail
  refine (c1.out _ hW).mono ?_
  rintro e w5 ⟨rfl, hb5⟩
  have z6 := hb5.size
  try simp at z6
  clear k1 f1
  refine haveB w w5 (Bc g #[sv, .int .i64 x.kind, .string x.name, .int .i64 x.eps, .int .i64 x.floor, .int .i64 x.scale, .slice px x.pts.length cx] 98 <| Bz) ?_
  clear b1 hW
  rintro hW z7 ⟨⟨b1, yb1, k1, f1⟩, -⟩
  clear hb5
  go_wp2
  refine bodyPost_ret (by simp [results, Tryz.results49, go_sem, k1, f1, yb1]) rfl ⟨rfl, by exact belowAny⟩
set_option maxRecDepth 100000 in
set_option maxHeartbeats 2000000 in
theorem points_ref (g G n i : Nat) (x : MutT) (ad : Addr) (cx : Nat) (er : Int) (w : World) (hg : Blk w g #[.slice (some ⟨G, 0, none⟩) n n, .int .i64 x.kind, .string x.name, .int .i64 x.eps, .int .i64 x.floor, .int .i64 x.scale, .slice (some ad) x.pts.length cx] 98) (hin : i < n) (hn : n ≤ 100) (her : (er != 0) = true) (hb : Hid ((((x.pts.length : Int) == 0) || decide ((16 : Int) < (x.pts.length : Int))) = false))
    (c1 : Hid (∀ W, Below w.heap.size w W → Calls Tryz.prog 75 #[.pointer (some ⟨g, 0, none⟩)] W fun e w' => e = .returned (.tuple #[.int .i64 (i : Int), .bool true]) ∧ Below W.heap.size W w'))
    (c2 : Hid (∀ W, Below w.heap.size w W → Calls Tryz.prog 99 #[.pointer (some ⟨G, i * 6, none⟩), .slice (some ad) x.pts.length cx] W fun e w' => e = .returned (.int .i64 er) ∧ Below W.heap.size W w')) :
    Calls Tryz.prog 49 #[.pointer (some ⟨g, 0, none⟩)] w fun e w' => e = .returned (.int .i64 er) ∧ Below w.heap.size w w' := by
  go_enter Tryz.func49, Tryz.ntmps49
  go_upto_region 1 with (fail)
  refine wp_cutB w (Bc g #[.slice (some ⟨G, 0, none⟩) n n, .int .i64 x.kind, .string x.name, .int .i64 x.eps, .int .i64 x.floor, .int .i64 x.scale, .slice (some ad) x.pts.length cx] 98 <| Bz) ?_
  rintro W1 hW z2 hL
  refine wp_regS 16 76 hW hL ?_
  iterate 8 refine dA ?_
  iterate 7 refine gA ?_
  refine pO ?_
  clear hW hL
  rintro W3 hW z4 hL
  simp only [ndR]
  intros
  repeat (rename GDet _ _ _ _ => hgd; clear hgd)
  simp only [ndS]
  refine wpList_nil ?_
  obtain ⟨⟨b1, yb1, k1, f1⟩, -⟩ := hL
  rw [hb.out]
  go_wp2_with fail
  refine (c1.out _ hW).mono ?_
  rintro e w5 ⟨rfl, hb5⟩
  have z6 := hb5.size
  try simp at z6
  clear k1 f1
  refine haveB w w5 (Bc g #[.slice (some ⟨G, 0, none⟩) n n, .int .i64 x.kind, .string x.name, .int .i64 x.eps, .int .i64 x.floor, .int .i64 x.scale, .slice (some ad) x.pts.length cx] 98 <| Bz) ?_
  clear b1 hW
  rintro hW z7 ⟨⟨b1, yb1, k1, f1⟩, -⟩
  clear hb5
  go_wp2_with fail
  refine (c2.out _ hW).mono ?_
  rintro e w8 ⟨rfl, hb8⟩
  have z9 := hb8.size
  try simp at z9
  clear k1 f1
  refine haveB w w8 (Bc g #[.slice (some ⟨G, 0, none⟩) n n, .int .i64 x.kind, .string x.name, .int .i64 x.eps, .int .i64 x.floor, .int .i64 x.scale, .slice (some ad) x.pts.length cx] 98 <| Bz) ?_
  clear b1 hW
  rintro hW z10 ⟨⟨b1, yb1, k1, f1⟩, -⟩
  clear hb8
  go_wp2
  refine bodyPost_ret (by simp [results, Tryz.results49, go_sem, k1, f1, yb1]) rfl ⟨rfl, by exact belowAny⟩
set_option maxRecDepth 100000 in
set_option maxHeartbeats 2000000 in
theorem points_ok (B g G n i : Nat) (x : MutT) (ad : Addr) (cx : Nat) (RL : List RawR) (rows : List RawT) (r0 : RawT) (p0 : Option Addr) (c0 : Nat) (tl yl : Int) (w : World) (hg : Blk w g #[.slice (some ⟨G, 0, none⟩) n n, .int .i64 x.kind, .string x.name, .int .i64 x.eps, .int .i64 x.floor, .int .i64 x.scale, .slice (some ad) x.pts.length cx] 98) (hG : Blk w G (flatRaws RL).toArray 35) (hP : PtRowsO w B RL) (hap : ApartP RL) (hRL : Hid (RL.map (·.r) = rows)) (tx : RL[i]? = some ⟨r0, p0, c0⟩)
    (hxp : PtsIn w (some ad) x.pts) (hBg : B ≤ g) (hBG : B ≤ G) (hgG : g ≠ G) (hBs : B ≤ w.heap.size) (hin : i < n) (hn : n ≤ 100) (hnl : Hid (RL.length = n)) (hx0 : 1 ≤ x.pts.length) (hx1 : x.pts.length ≤ 16) (hx2 : r0.pts.length ≤ 2000) (hlast : Hid ((r0.pts ++ x.pts)[(r0.pts ++ x.pts).length - 1]? = some (tl, yl))) (hb : Hid ((((x.pts.length : Int) == 0) || decide ((16 : Int) < (x.pts.length : Int))) = false))
    (c1 : Hid (∀ W, Below w.heap.size w W → Calls Tryz.prog 75 #[.pointer (some ⟨g, 0, none⟩)] W fun e w' => e = .returned (.tuple #[.int .i64 (i : Int), .bool true]) ∧ Below W.heap.size W w'))
    (c2 : Hid (∀ W, Below w.heap.size w W → Calls Tryz.prog 99 #[.pointer (some ⟨G, i * 6, none⟩), .slice (some ad) x.pts.length cx] W fun e w' => e = .returned (.int .i64 0) ∧ Below W.heap.size W w')) :
    Calls Tryz.prog 49 #[.pointer (some ⟨g, 0, none⟩)] w fun e w' => e = .returned (.int .i64 0) ∧ DoneT w B g 0 (rows.set i ⟨r0.name, r0.eps, r0.floor, tl, r0.scale, r0.pts ++ x.pts⟩) w' := by
  obtain ⟨ip, hip, hpz0, hpz1, hpz2⟩ := info_parts Tryz.infoPt
  have hc0 : CellsP w G (i * 6) #[.string r0.name, .int .i64 r0.eps, .int .i64 r0.floor, .int .i64 r0.last, .int .i64 r0.scale, .slice p0 r0.pts.length c0] := ⟨fun j v hv => by rw [hG.cell, List.getElem?_toArray]; exact flatRaws_get RL i _ j v tx hv⟩
  go_enter Tryz.func49, Tryz.ntmps49
  go_upto_region 1 with (fail)
  refine wp_cutB w (Bc g #[.slice (some ⟨G, 0, none⟩) n n, .int .i64 x.kind, .string x.name, .int .i64 x.eps, .int .i64 x.floor, .int .i64 x.scale, .slice (some ad) x.pts.length cx] 98 <| Bz) ?_
  rintro W1 hW z2 hL
  refine wp_regS 16 76 hW hL ?_
  iterate 8 refine dA ?_
  iterate 7 refine gA ?_
  refine pO ?_
  clear hW hL
  rintro W3 hW z4 hL
  simp only [ndR]
  intros
  repeat (rename GDet _ _ _ _ => hgd; clear hgd)
  simp only [ndS]
  refine wpList_nil ?_
  obtain ⟨⟨b1, yb1, k1, f1⟩, -⟩ := hL
  rw [hb.out]
  go_wp2_with fail
  refine (c1.out _ hW).mono ?_
  rintro e w5 ⟨rfl, hb5⟩
  have z6 := hb5.size
  try simp at z6
  clear k1 f1
  refine haveB w w5 (Bc g #[.slice (some ⟨G, 0, none⟩) n n, .int .i64 x.kind, .string x.name, .int .i64 x.eps, .int .i64 x.floor, .int .i64 x.scale, .slice (some ad) x.pts.length cx] 98 <| Bz) ?_
  clear b1 hW
  rintro hW z7 ⟨⟨b1, yb1, k1, f1⟩, -⟩
  clear hb5
  go_wp2_with fail
  refine (c2.out _ hW).mono ?_
  rintro e w8 ⟨rfl, hb8⟩
  have z9 := hb8.size
  try simp at z9
  clear k1 f1
  refine haveB w w8 (Bc g #[.slice (some ⟨G, 0, none⟩) n n, .int .i64 x.kind, .string x.name, .int .i64 x.eps, .int .i64 x.floor, .int .i64 x.scale, .slice (some ad) x.pts.length cx] 98 <| Bz) ?_
  clear b1 hW
  rintro hW z10 ⟨⟨b1, yb1, k1, f1⟩, -⟩
  clear hb8
  go_upto_region 10 with (fail)
  clear k1 f1
  refine wp_cutB w (Bc g #[.slice (some ⟨G, 0, none⟩) n n, .int .i64 x.kind, .string x.name, .int .i64 x.eps, .int .i64 x.floor, .int .i64 x.scale, .slice (some ad) x.pts.length cx] 98 <| Rc (fun W' => CellsP W' G (i * 6) #[.string r0.name, .int .i64 r0.eps, .int .i64 r0.floor, .int .i64 r0.last, .int .i64 r0.scale, .slice p0 r0.pts.length c0]) <| Bz) ?_ (hI := by exact belowAny) (hR := (Bc.mk (by exact blkAny2) <| Rc.mk (by exact hc0.below (by exact belowAny)) <| trivial))
  clear b1 hW
  rintro W11 hW z12 hL
  obtain ⟨⟨b1, yb1, k1, f1⟩, b2, -⟩ := id hL
  clear k1 f1
  refine wp_regD 10 76 hW hL ?_
  iterate 10 refine dE (fun W' hC => (hC.2.2.1.at' 5 _ rfl)) ?_
  clear hW hL b1 b2
  rintro W13 hW z14 hL
  simp only [ndR]
  intros
  simp only [ndS]
  obtain ⟨⟨b1, yb1, k1, f1⟩, b2, -⟩ := hL
  have hO := ((hP.below hW).at' _ (List.mem_of_getElem? tx)).own
  have dG := hG.below hW
  have hzW := hW.size
  go_wp2_with (at_builtin; refine wpList_append_own _ rfl (.tmp 51) (.tmp 56) 33 rfl B 58 ip _ 2 16 (by kernel_rfl) hip hpz0 hpz1 hpz2 rfl (by omega) _ r0.pts.length (flatPts r0.pts) rfl hO ad x.pts.length cx (flatPts x.pts) rfl (flatPts_len9 _) (fun j u hu => pts_flat9 (hxp.below hW) j u hu) (fun v hv => flatPts_one9 _ v hv) (by simp [maxLen]; omega) (by omega) (by omega) ?_)
  intro v' w' hown hgr hvn
  rw [← flatPts_append, ← List.length_append] at hown
  obtain ⟨p', c', rfl, -, -, -, -⟩ := (OwnR.mk hown).form
  have d1 := Blk.grown0 b1 hO (by decide) hgr
  have d2 := Blk.grown0 dG hO (by decide) hgr
  have hBw : Below B w w' := (hW.mono hBs).trans (grown_belowB hO hgr (by omega))
  have hPr := ((hP.below hW).grown hap tx hgr ⟨⟨r0.name, r0.eps, r0.floor, r0.last, r0.scale, r0.pts ++ x.pts⟩, p', c'⟩ ⟨hown⟩).otherR d2 (u := .slice p' (r0.pts ++ x.pts).length c') (j := i * 6 + 5) (by decide)
  have d2' := d2.set2 (i := i * 6 + 5) (v := .slice p' (r0.pts ++ x.pts).length c') (cs' := (flatRaws (RL.set i ⟨⟨r0.name, r0.eps, r0.floor, r0.last, r0.scale, r0.pts ++ x.pts⟩, p', c'⟩)).toArray) (by rw [List.setIfInBounds_toArray]; exact congrArg List.toArray (flatRaws_setk RL i 5 _ _ _ tx (by omega) rfl))
  have d1' := d1.setO hgG (i * 6 + 5) (.slice p' (r0.pts ++ x.pts).length c')
  have hBw' : Below B w (w'.setCell ⟨G, i * 6 + 5, none⟩ (.slice p' (r0.pts ++ x.pts).length c')) := hBw.setCell (by simp; omega) _
  have hz9 := hgr.size
  have k5 : w'.cell? ⟨G, i * 6 + 5, none⟩ = some (.slice p0 r0.pts.length c0) := (d2.cell (i * 6 + 5)).trans (by rw [List.getElem?_toArray]; exact flatRaws_get RL i _ 5 _ tx rfl)
  have f5 := d2.frozen (i * 6 + 5)
  have yd1 := d1.lt
  have yd2 := d2.lt
  clear hown hgr hvn hO dG b1 b2 k1 f1 hW d1 d2 hBw
  obtain ⟨N, hN⟩ : ∃ N, (r0.pts ++ x.pts).length = N := ⟨_, rfl⟩
  simp only [hN] at hPr d2' d1' hBw' ⊢
  replace hN := Lib.hid hN
  have HH := Lib.hid (And.intro hPr (And.intro d2' (And.intro d1' hBw')))
  clear hPr d2' d1' hBw'
  go_upto_region 11 with (fail)
  clear k5 f5
  obtain ⟨hPr, d2', d1', hBw'⟩ := HH.out
  clear HH
  generalize World.setCell w' _ _ = w8 at hPr d2' d1' hBw' ⊢
  replace hN := hN.out
  have hN0 : 0 < N := by rw [← hN, List.length_append]; have := hx0; omega
  have hNm : N ≤ 3000 := by rw [← hN, List.length_append]; omega
  obtain ⟨gp, hpq, t0⟩ : ∃ gp, p' = some ⟨gp, 0, none⟩ ∧ w8.cell? ⟨gp, (N - 1) * 2, none⟩ = some (.int .i64 tl) := by
    have h1 := (hPr.at' _ (List.mem_of_getElem? (by rw [List.getElem?_set_self (List.getElem?_eq_some_iff.1 tx).1]))).row
    obtain ⟨b9, o9, e9, q9, -⟩ := h1.pts.at' _ _ hlast.out
    rcases h1.at' with ⟨e8, -⟩ | ⟨gp, cur, k, e8, -⟩
    · rw [e8] at e9; cases e9
    · rw [e8] at e9
      injection e9 with e9
      injection e9 with e91 e92 _
      refine ⟨gp, e8, ?_⟩
      rw [← e91, ← e92, Nat.zero_add, hN] at q9
      exact q9
  subst hpq
  have hE1 : wrap64 ((N : Int) - 1) = ((N - 1 : Nat) : Int) := by rw [wrap64_eq]; omega
  have hN1 : N - 1 < N := by omega
  have b1 := d1'
  have b2 := d2'
  have b3 : CellsP w8 G (i * 6) #[.string r0.name, .int .i64 r0.eps, .int .i64 r0.floor, .int .i64 r0.last, .int .i64 r0.scale, .slice (some ⟨gp, 0, none⟩) N c'] := ⟨fun j v hv => (b2.cell _).trans (by rw [List.getElem?_toArray]; exact flatRaws_get _ i _ j v (List.getElem?_set_self (List.getElem?_eq_some_iff.1 tx).1) (by rw [← hN] at hv; exact hv))⟩
  have b4 : CellsP w8 gp ((N - 1) * 2) #[.int .i64 tl] := ⟨fun j v hv => by
    match j, hv with
    | 0, hv => simp at hv; subst hv; exact t0⟩
  replace hPr := Lib.hid hPr
  replace hBw' := Lib.hid hBw'
  obtain ⟨RL1, hR1⟩ : ∃ l, l = RL.set i ⟨⟨r0.name, r0.eps, r0.floor, r0.last, r0.scale, r0.pts ++ x.pts⟩, some ⟨gp, 0, none⟩, c'⟩ := ⟨_, rfl⟩
  rw [← hR1] at hPr b2
  replace hR1 := Lib.hid hR1
  replace hN := Lib.hid hN
  clear d1' d2' t0
  refine wp_cutB w8 (Bc g #[.slice (some ⟨G, 0, none⟩) n n, .int .i64 x.kind, .string x.name, .int .i64 x.eps, .int .i64 x.floor, .int .i64 x.scale, .slice (some ad) x.pts.length cx] 98 <| Rc (fun W' => Blk W' G (flatRaws RL1).toArray 35) <| Rc (fun W' => CellsP W' G (i * 6) #[.string r0.name, .int .i64 r0.eps, .int .i64 r0.floor, .int .i64 r0.last, .int .i64 r0.scale, .slice (some ⟨gp, 0, none⟩) N c']) <| Rc (fun W' => CellsP W' gp ((N - 1) * 2) #[.int .i64 tl]) <| Bz) ?_ (hI := by exact belowAny) (hR := (Bc.mk (by exact blkAny2) <| Rc.mk (by exact b2) <| Rc.mk (by exact b3) <| Rc.mk (by exact b4) <| trivial))
  clear b1 b2 b3 b4
  rintro W201 hW z202 hL
  obtain ⟨⟨b1, yb1, k1, f1⟩, b2, b3, b4, -⟩ := id hL
  clear k1 f1
  refine wp_regD 14 76 hW hL ?_
  iterate 14 refine dE (fun W' hC => aI (hC.2.2.2.1.at' 5 _ rfl) (aI (hC.2.2.2.2.1.at' 0 _ rfl) (aI hE1 (aI hN1 (Nat.not_le.2 hN1))))) ?_
  clear hW hL b1 b2 b3 b4
  rintro W203 hW z204 hL
  simp only [ndR]
  intros
  simp only [ndS]
  obtain ⟨⟨b1, yb1, k1, f1⟩, b2, b3, b4, -⟩ := hL
  have q3 : W203.cell? ⟨G, i * 6 + 3, none⟩ = some (.int .i64 r0.last) := b3.at' 3 _ rfl
  have g3 := b2.frozen (i * 6 + 3)
  have hz99 := hW.size
  have hP9 := Lib.hid (hPr.out.below hW)
  have hB9 := Lib.hid (hBw'.out.trans (hW.mono (by have := hBw'.out.size; omega)))
  replace hW := Lib.hid hW
  go_wp2
  have e1 := b1.setO hgG (i * 6 + 3) (.int .i64 tl)
  have hl1 : RL1[i]? = some ⟨⟨r0.name, r0.eps, r0.floor, r0.last, r0.scale, r0.pts ++ x.pts⟩, some ⟨gp, 0, none⟩, c'⟩ := by rw [hR1.out]; exact List.getElem?_set_self (List.getElem?_eq_some_iff.1 tx).1
  have e2 := b2.set2 (i := i * 6 + 3) (v := .int .i64 tl) (cs' := (flatRaws (RL1.set i ⟨⟨r0.name, r0.eps, r0.floor, tl, r0.scale, r0.pts ++ x.pts⟩, some ⟨gp, 0, none⟩, c'⟩)).toArray) (by rw [List.setIfInBounds_toArray]; exact congrArg List.toArray (flatRaws_setk RL1 i 3 _ _ _ hl1 (by omega) rfl))
  have hlen : (RL1.set i ⟨⟨r0.name, r0.eps, r0.floor, tl, r0.scale, r0.pts ++ x.pts⟩, some ⟨gp, 0, none⟩, c'⟩).length = n := by rw [List.length_set, hR1.out, List.length_set, hnl.out]
  refine bodyPost_ret (v := .int .i64 0) (by simp [results, Tryz.results49, go_sem]) rfl ⟨rfl, hB9.out.setCell (by simp; omega) _, fun _ => ⟨_, e1.cell 0, ?_⟩⟩
  rw [show rows.set i ⟨r0.name, r0.eps, r0.floor, tl, r0.scale, r0.pts ++ x.pts⟩ = (RL1.set i ⟨⟨r0.name, r0.eps, r0.floor, tl, r0.scale, r0.pts ++ x.pts⟩, some ⟨gp, 0, none⟩, c'⟩).map (·.r) by rw [← hRL.out, hR1.out, List.set_set, List.map_set]]
  refine own_done e2 hBG hlen.symm (Nat.le_refl _) (by rw [List.size_toArray, flatRaws_len, hlen]) (by simp [maxLen]; omega) (by rw [List.toList_toArray, List.take_of_length_le (by rw [flatRaws_len, hlen]; exact Nat.le_refl _)]) ⟨fun z hz => ?_⟩
  rcases List.mem_or_eq_of_mem_set hz with h1 | h1
  · exact (hP9.out.at' z h1).other b2 (by decide)
  · rw [h1]
    exact (hP9.out.at' _ (List.mem_of_getElem? hl1)).other b2 (by decide)
end Go.Proofs.YtdeghcgakkhbmaaGreat
namespace Go.Proofs.YtdeghcgakkhbmaaGreat
open Go.RowKit
def keepL (fl : Int) (l : List (Int × Int)) : List (Int × Int) := l.filter fun q => decide (fl ≤ q.1)
set_option maxRecDepth 100000 in
set_option maxHeartbeats 2000000 in
theorem c_retain1 (t y fl : Int) (o6 : Nat) (w : World) (h6 : Blk w o6 #[.int .i64 fl] 2) : Calls Tryz.prog 101 #[.agg #[.int .i64 t, .int .i64 y], .pointer (some ⟨o6, 0, none⟩)] w fun e w' => e = .returned (.bool (decide (t < fl))) ∧ Below w.heap.size w w' := by
  go_enter Tryz.func101, Tryz.ntmps101
  go_upto_region 1 with (fail)
  refine wp_cutB w (Bc o6 #[.int .i64 fl] 2 <| Bc w.heap.size #[.int .i64 t, .int .i64 y] 58 <| Bz) ?_
  rintro W1 hW z2 hL
  refine wp_regS 5 8 hW hL ?_
  iterate 5 refine dA ?_
  clear hW hL
  rintro W3 hW z4 hL
  simp only [ndR]
  intros
  simp only [ndS]
  refine wpList_nil ?_
  obtain ⟨⟨b1, yb1, k1, f1⟩, ⟨b2, yb2, k2, f2⟩, -⟩ := hL
  go_wp2
  refine bodyPost_ret (by simp [results, Tryz.results101, go_sem, k1, f1, k2, f2, yb1, yb2]) rfl ⟨rfl, by exact belowAny⟩
def idpRel (w : World) (p : Option Addr) (cap : Nat) (l : List (Int × Int)) (o6 : Nat) (fl : Int) (a' : Act) (W : World) : Prop :=
  Below w.heap.size w W ∧ Blk W o6 #[.int .i64 fl] 2 ∧ ∃ i : Nat, (∃ u : Nat → Value, a' = { tmps := #[.slice p l.length cap, .func (.func 101) #[] #[.pointer (some ⟨o6, 0, none⟩)], u 2, u 3, .int .i64 0, u 5, .slice p l.length cap, .int .i64 (l.length : Int), .int .i64 (i : Int), u 9, u 10, u 11, u 12, u 13, u 14, u 15, u 16, u 17, u 18], defers := [] }) ∧ (l.take i).all (fun q => decide (fl ≤ q.1)) = true ∧ i ≤ l.length
set_option maxRecDepth 100000 in
set_option maxHeartbeats 2000000 in
theorem c_idxPts (p : Option Addr) (cap : Nat) (l : List (Int × Int)) (o6 : Nat) (fl : Int) (w : World) (h : PtsIn w p l) (h6 : Blk w o6 #[.int .i64 fl] 2) (hmx : l.length ≤ 3000) :
    Calls Tryz.prog 147 #[.slice p l.length cap, .func (.func 101) #[] #[.pointer (some ⟨o6, 0, none⟩)]] w fun e w' => ∃ iv : Int, e = .returned (.int .i64 iv) ∧ Below w.heap.size w w' ∧ ((iv = -1 ∧ l.all (fun q => decide (fl ≤ q.1)) = true) ∨ ∃ k : Nat, iv = (k : Int) ∧ k < l.length ∧ (l.take k).all (fun q => decide (fl ≤ q.1)) = true ∧ ∃ t y, l[k]? = some (t, y) ∧ t < fl) := by
  go_enter Tryz.func147, Tryz.ntmps147
  go_wp2
  refine wp_loop (idpRel w p cap l o6 fl) (fun a' _ => l.length - (intAt (a'.tmps.getD 8 undef)).toNat) ?_ ?_
  · unfold idpRel
    exact ⟨Below.refl _ _, h6, 0, frame_ex rfl, by simp, Nat.zero_le _⟩
  rintro a' W ⟨hW0, b1, i, ⟨u, rfl⟩, hall, hi'⟩
  have hz := hW0.size
  replace hall := Lib.hid hall
  rcases Nat.lt_or_ge i l.length with hlt | hge
  · obtain ⟨⟨t, y⟩, tr⟩ : ∃ x, l[i]? = some x := ⟨l[i]'(by omega), List.getElem?_eq_getElem (by omega)⟩
    obtain ⟨bp, op, rfl, q0, q1⟩ := (h.below hW0).at' i _ tr
    have c1 := Lib.hid (fun W (hb : Blk W o6 #[.int .i64 fl] 2) => c_retain1 t y fl o6 W hb)
    have hnx := Lib.hid (fun (e : fl ≤ t) => (show (l.take (i + 1)).all (fun q => decide (fl ≤ q.1)) = true by rw [List.take_add_one, tr, List.all_append, hall.out]; simp [e]))
    replace tr := Lib.hid tr
    by_cases hd : t < fl
    · have c1 := Lib.hid (fun W hb => decide_eq_true hd ▸ c1.out W hb)
      go_wp2_with fail
      refine (c1.out W b1).mono ?_
      rintro e w9 ⟨rfl, hB9⟩
      have d1 := b1.below hB9
      have e1 := hW0.trans (hB9.mono hz)
      clear hB9 q0 q1
      go_wp2
      go_ret
      exact ⟨_, rfl, e1, .inr ⟨i, rfl, hlt, hall.out, t, y, tr.out, hd⟩⟩
    · have c1 := Lib.hid (fun W hb => decide_eq_false hd ▸ c1.out W hb)
      replace hnx := Lib.hid (hnx.out (by omega))
      go_wp2_with fail
      refine (c1.out W b1).mono ?_
      rintro e w9 ⟨rfl, hB9⟩
      have d1 := b1.below hB9
      have e1 := hW0.trans (hB9.mono hz)
      clear hB9 q0 q1
      go_wp2
      rw [show (i : Int) + 1 = ((i + 1 : Nat) : Int) by omega]
      refine ⟨?_, by simp [intAt]; omega⟩
      unfold idpRel
      exact ⟨e1, d1, i + 1, frame_ex rfl, hnx.out, by omega⟩
  · obtain rfl : i = l.length := by omega
    go_wp2
    go_ret
    exact ⟨_, rfl, hW0, .inl ⟨rfl, by have := hall.out; rwa [List.take_length] at this⟩⟩
end Go.Proofs.YtdeghcgakkhbmaaGreat
namespace Go.Proofs.YtdeghcgakkhbmaaGreat
open Go.RowKit
theorem keepL_all {fl : Int} {l : List (Int × Int)} (h : l.all (fun q => decide (fl ≤ q.1)) = true) : keepL fl l = l := by
  unfold keepL
  rw [List.filter_eq_self]
  intro q hq
  exact List.all_eq_true.1 h q hq
theorem keepL_snoc (fl : Int) (l : List (Int × Int)) (t y : Int) : keepL fl (l ++ [(t, y)]) = if t < fl then keepL fl l else keepL fl l ++ [(t, y)] := by
  unfold keepL
  rw [List.filter_append]
  by_cases h : t < fl
  · rw [if_pos h]
    simp [List.filter_cons, show ¬fl ≤ t by omega]
  · rw [if_neg h]
    simp [List.filter_cons, show fl ≤ t by omega]
/-- So far gone through: what stays is at the begin of the block, the rest stands as it was. -/
structure DfInv (fl : Int) (c : Nat) (l : List (Int × Int)) (cur : Array Value) (i j : Nat) : Prop where
  size : cur.size = c * 2
  len : (keepL fl (l.take j)).length = i
  pre : cur.toList.take (i * 2) = flatPts (keepL fl (l.take j))
  rest : ∀ k t y, j ≤ k → l[k]? = some (t, y) → cur[k * 2]? = some (.int .i64 t) ∧ cur[k * 2 + 1]? = some (.int .i64 y)
theorem DfInv.del {fl : Int} {c : Nat} {l : List (Int × Int)} {cur : Array Value} {i j : Nat} {t y : Int} (h : DfInv fl c l cur i j) (hj : l[j]? = some (t, y)) (ht : t < fl) : DfInv fl c l cur i (j + 1) := by
  have e : keepL fl (l.take (j + 1)) = keepL fl (l.take j) := by rw [List.take_add_one, hj]; show keepL fl (l.take j ++ [(t, y)]) = _; rw [keepL_snoc, if_pos ht]
  exact ⟨h.size, by rw [e]; exact h.len, by rw [e]; exact h.pre, fun k t y hk => h.rest k t y (by omega)⟩
theorem take_two {c : Array Value} {n : Nat} {a b : Value} {L : List Value} (h : c.toList.take n = L) (hs : n + 2 ≤ c.size) : ((c.setIfInBounds n a).setIfInBounds (n + 1) b).toList.take (n + 2) = L ++ [a, b] := by
  rw [Array.toList_setIfInBounds, Array.toList_setIfInBounds]
  have hl : n + 2 ≤ c.toList.length := by rw [Array.length_toList]; exact hs
  apply List.ext_getElem?
  intro k
  have hL : L.length = n := by rw [← h, List.length_take]; omega
  rw [List.getElem?_take, List.getElem?_set, List.getElem?_set, List.length_set]
  rcases Nat.lt_trichotomy k n with h1 | h1 | h1
  · rw [if_pos (by omega), if_neg (by omega), if_neg (by omega), List.getElem?_append_left (by omega), ← h, List.getElem?_take, if_pos h1]
  · subst h1
    rw [if_pos (by omega), if_neg (by omega), if_pos rfl, if_pos (by omega), List.getElem?_append_right (by omega), hL, Nat.sub_self]
    rfl
  · by_cases h2 : k = n + 1
    · subst h2
      rw [if_pos (by omega), if_pos rfl, if_pos (by omega), List.getElem?_append_right (by omega), hL, show n + 1 - n = 1 by omega]
      rfl
    · rw [if_neg (by omega), List.getElem?_eq_none (by rw [List.length_append, hL]; simp; omega)]
theorem DfInv.keep {fl : Int} {c : Nat} {l : List (Int × Int)} {cur : Array Value} {i j : Nat} {t y : Int} (h : DfInv fl c l cur i j) (hj : l[j]? = some (t, y)) (ht : ¬t < fl) (hij : i < j) (hlc : l.length ≤ c) : DfInv fl c l ((cur.setIfInBounds (i * 2) (.int .i64 t)).setIfInBounds (i * 2 + 1) (.int .i64 y)) (i + 1) (j + 1) := by
  have e : keepL fl (l.take (j + 1)) = keepL fl (l.take j) ++ [(t, y)] := by rw [List.take_add_one, hj]; show keepL fl (l.take j ++ [(t, y)]) = _; rw [keepL_snoc, if_neg ht]
  have hjl := (List.getElem?_eq_some_iff.1 hj).1
  refine ⟨by simp [h.size], by rw [e, List.length_append, h.len]; rfl, ?_, fun k t' y' hk hr => ?_⟩
  · rw [e, flatPts_append, show (i + 1) * 2 = i * 2 + 2 by omega, take_two h.pre (by rw [h.size]; omega)]
    rfl
  · have h1 := h.rest k t' y' (by omega) hr
    rw [Array.getElem?_setIfInBounds, if_neg (by omega), Array.getElem?_setIfInBounds, if_neg (by omega), Array.getElem?_setIfInBounds, if_neg (by omega), Array.getElem?_setIfInBounds, if_neg (by omega)]
    exact h1
theorem flatPts_takeM : ∀ (l : List (Int × Int)) (M : Nat), (flatPts l).take (M * 2) = flatPts (l.take M)
  | [], M => by simp [flatPts]
  | x :: l, 0 => by simp [flatPts]
  | x :: l, M + 1 => by
    have h : flatPts (x :: l) = [.int .i64 x.1, .int .i64 x.2] ++ flatPts l := rfl
    have h2 : flatPts (x :: l.take M) = [.int .i64 x.1, .int .i64 x.2] ++ flatPts (l.take M) := rfl
    rw [h, List.take_succ_cons, h2, show (M + 1) * 2 = [(Value.int .i64 x.1), .int .i64 x.2].length + M * 2 by simp; omega, List.take_length_add_append, flatPts_takeM l M]
theorem zero_pt (w : World) : (zeroValue 58).run Tryz.prog w = .ok (.agg #[.int .i64 0, .int .i64 0]) w := by kernel_rfl
def zPt : Array Value := #[.int .i64 0, .int .i64 0]
theorem zPt_size (n : Nat) : (Builtin.zeroCells zPt n).toList.length = n * 2 := by rw [Array.length_toList, size_zeroCells]; rfl
theorem zPt_one (n : Nat) : ∀ v ∈ (Builtin.zeroCells zPt n).toList, v.oneCell' = true := by
  intro v hv
  unfold Builtin.zeroCells at hv
  simp only [Array.toList_map, List.mem_map] at hv
  obtain ⟨k, _, rfl⟩ := hv
  have hk : k % zPt.size < 2 := Nat.mod_lt _ (by decide)
  match h : k % zPt.size, hk with
  | 0, _ => rfl
  | 1, _ => rfl
def clrP (cur : Array Value) (i n : Nat) : Array Value := (cur.toList.take (i * 2) ++ (Builtin.zeroCells zPt n).toList ++ cur.toList.drop (i * 2 + (Builtin.zeroCells zPt n).toList.length)).toArray
theorem clrP_size (cur : Array Value) (i n : Nat) (h : i * 2 + n * 2 ≤ cur.size) : (clrP cur i n).size = cur.size := by
  have h2 := zPt_size n
  unfold clrP
  simp only [List.size_toArray, List.length_append, List.length_take, List.length_drop, h2]
  rw [Array.length_toList]
  omega
theorem clrP_take (cur : Array Value) (i n : Nat) (h : i * 2 ≤ cur.size) : (clrP cur i n).toList.take (i * 2) = cur.toList.take (i * 2) := by
  unfold clrP
  rw [List.append_assoc, List.take_append_of_le_length (by rw [List.length_take, Array.length_toList]; omega), List.take_take, Nat.min_self]
def dfRel (w : World) (gp c : Nat) (l : List (Int × Int)) (o6 : Nat) (fl : Int) (a' : Act) (W : World) : Prop :=
  Rex [gp] w W ∧ Blk W o6 #[.int .i64 fl] 2 ∧ ∃ (i j : Nat) (cur : Array Value), (∃ u : Nat → Value, a' = { tmps := #[.slice (some ⟨gp, 0, none⟩) l.length c, .func (.func 101) #[] #[.pointer (some ⟨o6, 0, none⟩)], u 2, u 3, .slice none 0 0, .int .i64 (i : Int), .int .i64 (j : Int), u 7, u 8, u 9, u 10, u 11, u 12, u 13, u 14, u 15, u 16, u 17, u 18, u 19, u 20, u 21, u 22, u 23, u 24, u 25, u 26, u 27, u 28, u 29, u 30, u 31, u 32, u 33, u 34, u 35, u 36, u 37, u 38, u 39, u 40, u 41], defers := [] }) ∧ Blk W gp cur 58 ∧ DfInv fl c l cur i j ∧ i < j ∧ j ≤ l.length
set_option maxRecDepth 100000 in
set_option maxHeartbeats 2000000 in
theorem c_delPts (B gp c : Nat) (l : List (Int × Int)) (o6 : Nat) (fl : Int) (w : World) (hO : PtO w B (some ⟨gp, 0, none⟩) c l) (h6 : Blk w o6 #[.int .i64 fl] 2) (hmx : l.length ≤ 3000) :
    Calls Tryz.prog 100 #[.slice (some ⟨gp, 0, none⟩) l.length c, .func (.func 101) #[] #[.pointer (some ⟨o6, 0, none⟩)]] w fun e w' => e = .returned (.slice (some ⟨gp, 0, none⟩) (keepL fl l).length c) ∧ Rex [gp] w w' ∧ PtO w' B (some ⟨gp, 0, none⟩) c (keepL fl l) := by
  have hpt := hO.row.pts
  obtain ⟨cu0, hBg, hb0, hnc, hcm, hs0, ht0⟩ : ∃ cur, B ≤ gp ∧ Blk w gp cur 58 ∧ l.length ≤ c ∧ c ≤ maxLen ∧ cur.size = c * 2 ∧ cur.toList.take (l.length * 2) = flatPts l := by
    rcases hO.own.2 with ⟨h1, _⟩ | ⟨g, c9, cur, h1, hg, hb, h2, h3, h4, h5⟩
    · injection h1 with h1 _ _; cases h1
    · injection h1 with h1 _ h6
      injection h1 with h1
      injection h1 with h1 _ _
      subst h1; subst h6
      exact ⟨cur, hg, hb, h2, h3, h4, h5⟩
  have hne : o6 ≠ gp := by
    rintro rfl
    have e1 : w.heap[o6]? = some (.cells #[.int .i64 fl] 2 (0, 0)) := h6
    have e2 : w.heap[o6]? = some (.cells cu0 58 (0, 0)) := hb0
    rw [e1] at e2
    injection e2 with e2
    injection e2 with _ e2 _
    revert e2
    decide
  have mk : ∀ (w' : World) (cur : Array Value) (L : List (Int × Int)), Blk w' gp cur 58 → cur.size = c * 2 → L.length ≤ c → cur.toList.take (L.length * 2) = flatPts L → PtO w' B (some ⟨gp, 0, none⟩) c L := fun w' cur L h1 h2 h3 h4 => ⟨flatPts_len9 L, .inr ⟨gp, c, cur, rfl, hBg, h1, h3, hcm, h2, h4⟩⟩
  replace mk := Lib.hid mk
  replace hcm := Lib.hid hcm
  go_enter Tryz.func100, Tryz.ntmps100
  go_wp2_with fail
  refine (c_idxPts (some ⟨gp, 0, none⟩) c l o6 fl w hpt h6 hmx).mono ?_
  rintro e w1 ⟨iv, rfl, hB1, hiv⟩
  rcases hiv with ⟨rfl, hall⟩ | ⟨k, rfl, hk, hall, t, y, hkt, htf⟩
  · have hkl := Lib.hid (keepL_all hall)
    have hR := Lib.hid (Rex.of_below (L := [gp]) hB1)
    have hb1 := Lib.hid (hb0.below hB1)
    clear hall hB1
    go_wp2
    go_ret
    exact ⟨by rw [hkl.out]; rfl, hR.out, by rw [hkl.out]; exact mk.out _ _ _ hb1.out hs0 hnc ht0⟩
  have hb1 := hb0.below hB1
  have h61 := h6.below hB1
  have hR := Rex.of_below (L := [gp]) hB1
  have hk0 : keepL fl (l.take k) = l.take k := keepL_all hall
  have hin : DfInv fl c l cu0 k (k + 1) := by
    have e : keepL fl (l.take (k + 1)) = l.take k := by rw [List.take_add_one, hkt]; show keepL fl (l.take k ++ [(t, y)]) = _; rw [keepL_snoc, if_pos htf, hk0]
    refine ⟨hs0, by rw [e, List.length_take]; omega, ?_, fun m t' y' hm hr => ?_⟩
    · rw [e, show cu0.toList.take (k * 2) = (cu0.toList.take (l.length * 2)).take (k * 2) by rw [List.take_take, Nat.min_eq_left (by omega)], ht0, flatPts_takeM]
    · have hml := (List.getElem?_eq_some_iff.1 hr).1
      have g : ∀ d v, d < 2 → (flatPts l)[m * 2 + d]? = some v → cu0[m * 2 + d]? = some v := fun d v hd hv => by
        rw [← ht0, List.getElem?_take, if_pos (by omega), Array.getElem?_toList] at hv
        exact hv
      rw [flatPts_flat] at g
      exact ⟨g 0 _ (by omega) (flat_to _ 2 (fun _ => rfl) l m _ 0 _ hr rfl), g 1 _ (by omega) (flat_to _ 2 (fun _ => rfl) l m _ 1 _ hr rfl)⟩
  have hne1 : (((k : Nat) : Int) == -1) = false := beq_eq_false_iff_ne.2 (by omega)
  replace hin := Lib.hid hin
  replace hb1 := Lib.hid hb1
  replace hR := Lib.hid hR
  clear hB1 hall hkt hk0 hb0 hs0 ht0 hpt hO h6
  go_wp2
  refine wp_loop (dfRel w gp c l o6 fl) (fun a' _ => l.length - (intAt (a'.tmps.getD 6 undef)).toNat) ?_ ?_
  · unfold dfRel
    exact ⟨hR.out, h61, k, k + 1, cu0, frame_ex rfl, hb1.out, hin.out, by omega, by omega⟩
  clear hR h61 hb1 hin hne1
  rintro a' W ⟨hR0, b1, i, j, cur, ⟨u, rfl⟩, hG, hinv, hij, hj'⟩
  have hz := hR0.size
  have yb1 := b1.lt
  have yG := hG.lt
  replace hinv := Lib.hid hinv
  rcases Nat.lt_or_ge j l.length with hlt | hge
  · obtain ⟨⟨t, y⟩, tr⟩ : ∃ x, l[j]? = some x := ⟨l[j]'(by omega), List.getElem?_eq_getElem (by omega)⟩
    have q0 := (hG.cell (j * 2)).trans (hinv.out.rest j t y (Nat.le_refl _) tr).1
    have q1 := (hG.cell (j * 2 + 1)).trans (hinv.out.rest j t y (Nat.le_refl _) tr).2
    have c1 := Lib.hid (fun W (hb : Blk W o6 #[.int .i64 fl] 2) => c_retain1 t y fl o6 W hb)
    have hx0 : ∃ v, cur[i * 2]? = some v := ⟨_, Array.getElem?_eq_getElem (by rw [hinv.out.size]; omega)⟩
    have hx1 : ∃ v, cur[i * 2 + 1]? = some v := ⟨_, Array.getElem?_eq_getElem (by rw [hinv.out.size]; omega)⟩
    obtain ⟨v0, hx0⟩ := hx0
    obtain ⟨v1, hx1⟩ := hx1
    replace hx0 := Lib.hid hx0
    replace hx1 := Lib.hid hx1
    by_cases hd : t < fl
    · have c1 := Lib.hid (fun W hb => decide_eq_true hd ▸ c1.out W hb)
      have hst := Lib.hid (hinv.out.del tr hd)
      clear tr hx0 hx1
      have b2 := hG
      clear hG
      have k1 := b1.cell
      have f1 := b1.frozen
      go_upto_region 8 with (fail)
      clear k1 f1
      refine wp_cutB W (Bc o6 #[.int .i64 fl] 2 <| Rc (fun W' => Blk W' gp cur 58) <| Bc W.heap.size #[.int .i64 t, .int .i64 y] 58 <| Bz) ?_ (hI := by exact belowAny) (hR := (Bc.mk (by exact blkAny2) <| Rc.mk (by first | exact b2 | exact b2.below (by exact belowAny)) <| Bc.mk (by exact blkAny2) <| trivial))
      clear b1 b2
      rintro W21 hW z22 ⟨⟨b1, yb1, k1, f1⟩, b2, ⟨b3, yb3, k3, f3⟩, -⟩
      clear q0 q1
      go_wp2_with fail
      refine (c1.out W21 b1).mono ?_
      rintro e w9 ⟨rfl, hB9⟩
      have d1 := b1.below hB9
      have d2 := b2.below hB9
      have d3 := b3.below hB9
      have hz9 := hB9.size
      have e1 := hR0.trans (Rex.of_below (L := [gp]) (hW.trans (hB9.mono hW.size)))
      clear b1 b2 b3 k1 f1 k3 f3 hB9 hW
      clear d3
      replace d2 := Lib.hid d2
      replace e1 := Lib.hid e1
      go_wp2
      rw [show (j : Int) + 1 = ((j + 1 : Nat) : Int) by omega]
      refine ⟨?_, by simp [intAt]; omega⟩
      unfold dfRel
      exact ⟨e1.out, d1, i, j + 1, cur, frame_ex rfl, d2.out, hst.out, by omega, by omega⟩
    · have c1 := Lib.hid (fun W hb => decide_eq_false hd ▸ c1.out W hb)
      have hst := Lib.hid (hinv.out.keep tr hd hij hnc)
      clear tr
      have b2 := hG
      clear hG
      have k1 := b1.cell
      have f1 := b1.frozen
      go_upto_region 8 with (fail)
      clear k1 f1
      refine wp_cutB W (Bc o6 #[.int .i64 fl] 2 <| Rc (fun W' => Blk W' gp cur 58) <| Bc W.heap.size #[.int .i64 t, .int .i64 y] 58 <| Bz) ?_ (hI := by exact belowAny) (hR := (Bc.mk (by exact blkAny2) <| Rc.mk (by first | exact b2 | exact b2.below (by exact belowAny)) <| Bc.mk (by exact blkAny2) <| trivial))
      clear b1 b2
      rintro W21 hW z22 ⟨⟨b1, yb1, k1, f1⟩, b2, ⟨b3, yb3, k3, f3⟩, -⟩
      clear q0 q1
      go_wp2_with fail
      refine (c1.out W21 b1).mono ?_
      rintro e w9 ⟨rfl, hB9⟩
      have d1 := b1.below hB9
      have d2 := b2.below hB9
      have d3 := b3.below hB9
      have hz9 := hB9.size
      have e1 := hR0.trans (Rex.of_below (L := [gp]) (hW.trans (hB9.mono hW.size)))
      clear b1 b2 b3 k1 f1 k3 f3 hB9 hW
      have k3 := d3.cell
      have f3 := d3.frozen
      have x0 := (d2.cell (i * 2)).trans hx0.out
      have x1 := (d2.cell (i * 2 + 1)).trans hx1.out
      have g0 := d2.frozen (i * 2)
      have g1 := d2.frozen (i * 2 + 1)
      have yd2 := d2.lt
      have hH := Lib.hid (And.intro e1 (And.intro d1 d2))
      clear e1 d1 d2
      go_wp2
      obtain ⟨e1, d1, d2⟩ := hH.out
      rw [show (i : Int) + 1 = ((i + 1 : Nat) : Int) by omega, show (j : Int) + 1 = ((j + 1 : Nat) : Int) by omega]
      refine ⟨?_, by simp [intAt]; omega⟩
      unfold dfRel
      have d2a := d2.set (i * 2) (.int .i64 t)
      have d2b := d2a.set (i * 2 + 1) (.int .i64 y)
      exact ⟨(e1.setOwn d2 (by simp) _ _).setOwn d2a (by simp) _ _, (d1.setO hne _ _).setO hne _ _, i + 1, j + 1, _, frame_ex rfl, d2b, hst.out, by omega, by omega⟩
  · obtain rfl : j = l.length := by omega
    have h1 := hinv.out.len
    have h2 := hinv.out.pre
    have h3 := hinv.out.size
    rw [List.take_length] at h1 h2
    have hcl0 := fun ty => run_clear_row (P := Tryz.prog) 33 ty 58 zPt (by kernel_rfl) zero_pt W gp (i * 2) (l.length - i) (c - i) cur hG (by omega) (by rw [zPt_size, h3]; omega) (zPt_one _)
    have hR9 := hR0.trans (Rex.setRow hG (clrP_size cur i (l.length - i) (by rw [h3]; omega)))
    have hB9 := setRow_heap W gp _ (clrP cur i (l.length - i)) 58 (0, 0) hG
    obtain ⟨w9, hw9⟩ : ∃ w9, w9 = W.setRow gp (clrP cur i (l.length - i)) := ⟨_, rfl⟩
    rw [← hw9] at hR9 hB9
    have hcl : ∀ ty, (Builtin.clear_ #[33] ty #[.slice (some ⟨gp, i * 2, none⟩) (l.length - i) (c - i)]).run Tryz.prog W = .ok (.tuple #[]) w9 := fun ty => by rw [hw9]; exact hcl0 ty
    have hfin := Lib.hid (show (keepL fl l).length = i ∧ Rex [gp] w w9 ∧ PtO w9 B (some ⟨gp, 0, none⟩) c (keepL fl l) from ⟨h1, hR9, mk.out _ _ _ hB9 (by rw [clrP_size cur i _ (by rw [h3]; omega), h3]) (by omega) (by rw [h1, clrP_take cur i _ (by rw [h3]; omega)]; exact h2)⟩)
    have hci : ¬c = i := by omega
    have hic : i ≤ c := by omega
    clear hcl0 hw9 hR9 hB9 h1 h2 h3 hinv mk hR0
    go_wp2
    go_ret
    exact ⟨by rw [hfin.out.1]; rfl, hfin.out.2⟩
end Go.Proofs.YtdeghcgakkhbmaaGreat
namespace Go.Proofs.YtdeghcgakkhbmaaGreat
open Go.RowKit
/-- The block of a row. -/
def blkL : Option Addr → List Nat
  | none => []
  | some a => [a.block]
theorem blk_ne {w : World} {a b : Nat} {cs ds : Array Value} {t u : TypeId} (h : Blk w a cs t) (k : Blk w b ds u) (hne : t ≠ u) : a ≠ b := by
  rintro rfl
  have e1 : w.heap[a]? = some (.cells cs t (0, 0)) := h
  have e2 : w.heap[a]? = some (.cells ds u (0, 0)) := k
  rw [e1] at e2
  injection e2 with e2
  injection e2 with _ e2 _
  exact hne e2
theorem PtO.blk {w : World} {B : Nat} {p : Option Addr} {cap : Nat} {l : List (Int × Int)} (h : PtO w B p cap l) {a : Addr} (e : p = some a) : ∃ cs, a = ⟨a.block, 0, none⟩ ∧ Blk w a.block cs 58 := by
  rcases h.own.2 with ⟨h1, h0⟩ | ⟨g, cap', cur, h1, hg, hb, hn, hmx, _, ht⟩
  · injection h1 with h1 _ _
    rw [h1] at e; cases e
  · injection h1 with h1 _ _
    rw [h1] at e
    injection e with e
    subst e
    exact ⟨cur, rfl, hb⟩
theorem PtO.blkL {w : World} {B : Nat} {p : Option Addr} {cap : Nat} {l : List (Int × Int)} (h : PtO w B p cap l) : ∀ x, x ∈ blkL p → B ≤ x := by
  intro x hx
  cases p with
  | none => cases hx
  | some a =>
    obtain rfl : x = a.block := by simpa [Proofs.YtdeghcgakkhbmaaGreat.blkL] using hx
    exact (h.lt rfl).1
theorem Blk.rexP {w w' : World} {g B : Nat} {cs : Array Value} {t : TypeId} {p : Option Addr} {cap : Nat} {l : List (Int × Int)} (hb : Blk w g cs t) (h : PtO w B p cap l) (hr : Rex (blkL p) w w') (ht : t ≠ 58) : Blk w' g cs t := hb.rex hr (by
  cases p with
  | none => simp [blkL]
  | some a =>
    obtain ⟨ds, _, hd⟩ := h.blk rfl
    simp only [blkL, List.mem_singleton]
    exact blk_ne hb hd ht)
theorem CellsP.setO {w : World} {b o g i : Nat} {cs : Array Value} {v : Value} (h : CellsP w b o cs) (hne : b ≠ g) : CellsP (w.setCell ⟨g, i, none⟩ v) b o cs := ⟨fun j u hu => (World.cell?_of_block (Below.heap_setCell _ _ _ _ (by exact hne))).trans (h.at' j u hu)⟩
theorem PtRowsO.rexP {W w' : World} {B i : Nat} {RL : List RawR} {x0 : RawR} (h : PtRowsO W B RL) (ha : ApartP RL) (tx : RL[i]? = some x0) (hr : Rex (blkL x0.p) W w') (y : RawR) (hy : PtO w' B y.p y.cap y.r.pts) : PtRowsO w' B (RL.set i y) := ⟨fun x hx => by
  obtain ⟨k, hk⟩ := List.getElem?_of_mem hx
  rw [List.getElem?_set] at hk
  by_cases hik : i = k
  · rw [if_pos hik] at hk
    split at hk
    · obtain rfl := Option.some.inj hk
      exact hy
    · cases hk
  · rw [if_neg hik] at hk
    have h1 := h.at' x (List.mem_of_getElem? hk)
    refine ⟨h1.own.1, ?_⟩
    rcases h1.own.2 with h0 | ⟨g, c, cur, hv, hB, hg, g1, g2, g3, g4⟩
    · exact .inl h0
    · refine .inr ⟨g, c, cur, hv, hB, ?_, g1, g2, g3, g4⟩
      have hb : Blk W g cur 58 := hg
      injection hv with hv _ _
      refine hb.rex hr ?_
      cases hq : x0.p with
      | none => simp [blkL]
      | some b =>
        simp only [blkL, List.mem_singleton]
        rcases Nat.lt_or_gt_of_ne hik with hlt | hgt
        · exact fun e => ha i k x0 x hlt tx hk b ⟨g, 0, none⟩ hq hv e.symm
        · exact fun e => ha k i x x0 hgt hk tx ⟨g, 0, none⟩ b hv hq e⟩
theorem c_delAny (B : Nat) (p : Option Addr) (c : Nat) (l : List (Int × Int)) (o6 : Nat) (fl : Int) (w : World) (hO : PtO w B p c l) (h6 : Blk w o6 #[.int .i64 fl] 2) (hmx : l.length ≤ 3000) :
    Calls Tryz.prog 100 #[.slice p l.length c, .func (.func 101) #[] #[.pointer (some ⟨o6, 0, none⟩)]] w fun e w' => e = .returned (.slice p (keepL fl l).length c) ∧ Rex (blkL p) w w' ∧ PtO w' B p c (keepL fl l) := by
  cases p with
  | none =>
    obtain ⟨rfl, rfl⟩ : l = [] ∧ c = 0 := by
      rcases hO.own.2 with ⟨h1, h0⟩ | ⟨g, cap', cur, h1, _⟩
      · injection h1 with _ h2 h3
        exact ⟨List.length_eq_zero_iff.1 h2, h3⟩
      · injection h1 with h1 _ _; cases h1
    have ci := c_idxPts none 0 [] o6 fl w ⟨fun i r hr => by simp at hr⟩ h6 (by simp)
    simp only [List.length_nil] at ci
    go_enter Tryz.func100, Tryz.ntmps100
    go_wp2_with fail
    refine ci.mono ?_
    rintro e w1 ⟨iv, rfl, hB1, hiv⟩
    obtain rfl : iv = -1 := by
      rcases hiv with ⟨h, _⟩ | ⟨k, _, h, _⟩
      · exact h
      · simp at h
    clear hiv ci
    replace hB1 := Lib.hid hB1
    go_wp2
    go_ret
    exact ⟨rfl, Rex.of_below hB1.out, PtO.nil _ _⟩
  | some a =>
    obtain ⟨cs, ha, _⟩ := hO.blk rfl
    rw [ha] at hO ⊢
    exact c_delPts B a.block c l o6 fl w hO h6 hmx
set_option maxRecDepth 100000 in
set_option maxHeartbeats 2000000 in
theorem retain_none (g : Nat) (sv : Value) (x : MutT) (px : Option Addr) (cx : Nat) (iv : Int) (w : World) (hg : Blk w g #[sv, .int .i64 x.kind, .string x.name, .int .i64 x.eps, .int .i64 x.floor, .int .i64 x.scale, .slice px x.pts.length cx] 98)
    (c1 : Hid (∀ W, Below w.heap.size w W → Calls Tryz.prog 75 #[.pointer (some ⟨g, 0, none⟩)] W fun e w' => e = .returned (.tuple #[.int .i64 iv, .bool false]) ∧ Below W.heap.size W w')) :
    Calls Tryz.prog 50 #[.pointer (some ⟨g, 0, none⟩)] w fun e w' => e = .returned (.int .i64 372) ∧ Below w.heap.size w w' := by
  go_enter Tryz.func50, Tryz.ntmps50
  go_upto_region 1 with (fail)
  refine wp_cutB w (Bc g #[sv, .int .i64 x.kind, .string x.name, .int .i64 x.eps, .int .i64 x.floor, .int .i64 x.scale, .slice px x.pts.length cx] 98 <| Bz) ?_
  rintro W1 hW z2 ⟨⟨b1, yb1, k1, f1⟩, -⟩
  go_wp2_with fail
  refine (c1.out _ hW).mono ?_
  rintro e w3 ⟨rfl, hb3⟩
  have z4 := hb3.size
  try simp at z4
  clear k1 f1
  refine haveB w w3 (Bc g #[sv, .int .i64 x.kind, .string x.name, .int .i64 x.eps, .int .i64 x.floor, .int .i64 x.scale, .slice px x.pts.length cx] 98 <| Bz) ?_
  clear b1 hW
  rintro hW z5 ⟨⟨b1, yb1, k1, f1⟩, -⟩
  clear hb3
  go_wp2
  refine bodyPost_ret (by simp [results, Tryz.results50, go_sem, k1, f1, yb1]) rfl ⟨rfl, by exact belowAny⟩
set_option maxRecDepth 100000 in
set_option maxHeartbeats 2000000 in
theorem retain_bad (g G n i : Nat) (x : MutT) (px : Option Addr) (cx : Nat) (RL : List RawR) (r0 : RawT) (p0 : Option Addr) (c0 : Nat) (w : World) (hg : Blk w g #[.slice (some ⟨G, 0, none⟩) n n, .int .i64 x.kind, .string x.name, .int .i64 x.eps, .int .i64 x.floor, .int .i64 x.scale, .slice px x.pts.length cx] 98) (hG : Blk w G (flatRaws RL).toArray 35) (hc0 : CellsP w G (i * 6) #[.string r0.name, .int .i64 r0.eps, .int .i64 r0.floor, .int .i64 r0.last, .int .i64 r0.scale, .slice p0 r0.pts.length c0]) (hin : i < n) (hn : n ≤ 100)
    (c1 : Hid (∀ W, Below w.heap.size w W → Calls Tryz.prog 75 #[.pointer (some ⟨g, 0, none⟩)] W fun e w' => e = .returned (.tuple #[.int .i64 (i : Int), .bool true]) ∧ Below W.heap.size W w'))
    (c2 : Hid (∀ W, Calls Tryz.prog 69 #[.int .i64 x.floor, .int .i64 0, .int .i64 281474976710656] W fun e w' => e = .returned (.bool false) ∧ Below W.heap.size W w')) :
    Calls Tryz.prog 50 #[.pointer (some ⟨g, 0, none⟩)] w fun e w' => e = .returned (.int .i64 2) ∧ Below w.heap.size w w' := by
  go_enter Tryz.func50, Tryz.ntmps50
  go_upto_region 1 with (fail)
  refine wp_cutB w (Bc g #[.slice (some ⟨G, 0, none⟩) n n, .int .i64 x.kind, .string x.name, .int .i64 x.eps, .int .i64 x.floor, .int .i64 x.scale, .slice px x.pts.length cx] 98 <| Bz) ?_
  rintro W1 hW z2 ⟨⟨b1, yb1, k1, f1⟩, -⟩
  go_wp2_with fail
  refine (c1.out _ hW).mono ?_
  rintro e w3 ⟨rfl, hb3⟩
  have z4 := hb3.size
  try simp at z4
  clear k1 f1
  refine haveB w w3 (Bc g #[.slice (some ⟨G, 0, none⟩) n n, .int .i64 x.kind, .string x.name, .int .i64 x.eps, .int .i64 x.floor, .int .i64 x.scale, .slice px x.pts.length cx] 98 <| Bz) ?_
  clear b1 hW
  rintro hW z5 ⟨⟨b1, yb1, k1, f1⟩, -⟩
  clear hb3
  go_upto_region 4 with (fail)
  clear k1 f1
  refine wp_cutB w (Bc g #[.slice (some ⟨G, 0, none⟩) n n, .int .i64 x.kind, .string x.name, .int .i64 x.eps, .int .i64 x.floor, .int .i64 x.scale, .slice px x.pts.length cx] 98 <| Rc (fun W' => Blk W' G (flatRaws RL).toArray 35) <| Rc (fun W' => CellsP W' G (i * 6) #[.string r0.name, .int .i64 r0.eps, .int .i64 r0.floor, .int .i64 r0.last, .int .i64 r0.scale, .slice p0 r0.pts.length c0]) <| Bz) ?_ (hI := by exact belowAny) (hR := (Bc.mk (by exact blkAny2) <| Rc.mk (by first | exact b2 | exact b2.setO (blk_ne b2 b4 (by decide)) _ _ | exact b2.below (by exact belowAny) | exact hG.below (by exact belowAny)) <| Rc.mk (by first | exact b3 | exact b3.setO (blk_ne b2 b4 (by decide)) | exact b3.below (by exact belowAny) | exact hc0.below (by exact belowAny)) <| trivial))
  clear b1 hW
  rintro W6 hW z7 hL
  obtain ⟨⟨b1, yb1, k1, f1⟩, b2, b3, -⟩ := id hL
  clear k1 f1
  refine wp_regD 14 50 hW hL ?_
  iterate 12 refine dE (fun W' hC => aI hin (Nat.not_le.2 hin)) ?_
  apply nd_alloc W6.heap.size #[.int .i64 0] 2 rfl rfl
  · exact fun W' hC => hC.1.size
  · simp [others] <;> omega
  · intro w; kernel_rfl
  refine dE (fun W' hC => aI hin (Nat.not_le.2 hin)) ?_
  clear hW hL b1 b2 b3
  rintro W8 hW z9 hL
  simp only [ndR]
  intros
  simp only [ndS]
  obtain ⟨⟨b1, yb1, k1, f1⟩, b2, b3, -⟩ := hL
  obtain ⟨o6, rfl, hg_o6, b4⟩ := ‹NewVar _ _ _ _ _›
  have yb4 := b4.lt
  have k4 := b4.cell
  have f4 := b4.frozen
  go_upto_region 5 with (fail)
  clear k1 f1 k4 f4
  refine wp_cutB w (Bc g #[.slice (some ⟨G, 0, none⟩) n n, .int .i64 x.kind, .string x.name, .int .i64 x.eps, .int .i64 x.floor, .int .i64 x.scale, .slice px x.pts.length cx] 98 <| Rc (fun W' => Blk W' G (flatRaws RL).toArray 35) <| Rc (fun W' => CellsP W' G (i * 6) #[.string r0.name, .int .i64 r0.eps, .int .i64 r0.floor, .int .i64 r0.last, .int .i64 r0.scale, .slice p0 r0.pts.length c0]) <| Bc o6 #[.int .i64 x.floor] 2 <| Bz) ?_ (hI := by exact belowAny) (hR := (Bc.mk (by exact blkAny2) <| Rc.mk (by first | exact b2 | exact b2.setO (blk_ne b2 b4 (by decide)) _ _ | exact b2.below (by exact belowAny) | exact hG.below (by exact belowAny)) <| Rc.mk (by first | exact b3 | exact b3.setO (blk_ne b2 b4 (by decide)) | exact b3.below (by exact belowAny) | exact hc0.below (by exact belowAny)) <| Bc.mk (by exact blkAny2) <| trivial))
  clear b1 b2 b3 b4 hW
  rintro W10 hW z11 ⟨⟨b1, yb1, k1, f1⟩, b2, b3, ⟨b4, yb4, k4, f4⟩, -⟩
  go_wp2_with fail
  refine (c2.out _).mono ?_
  rintro e w12 ⟨rfl, hb12⟩
  have z13 := hb12.size
  try simp at z13
  clear k1 f1 k4 f4
  refine haveB w w12 (Bc g #[.slice (some ⟨G, 0, none⟩) n n, .int .i64 x.kind, .string x.name, .int .i64 x.eps, .int .i64 x.floor, .int .i64 x.scale, .slice px x.pts.length cx] 98 <| Rc (fun W' => Blk W' G (flatRaws RL).toArray 35) <| Rc (fun W' => CellsP W' G (i * 6) #[.string r0.name, .int .i64 r0.eps, .int .i64 r0.floor, .int .i64 r0.last, .int .i64 r0.scale, .slice p0 r0.pts.length c0]) <| Bc o6 #[.int .i64 x.floor] 2 <| Bz) ?_ (hR := (Bc.mk (by exact blkAny2) <| Rc.mk (by first | exact b2 | exact b2.setO (blk_ne b2 b4 (by decide)) _ _ | exact b2.below (by exact belowAny) | exact hG.below (by exact belowAny)) <| Rc.mk (by first | exact b3 | exact b3.setO (blk_ne b2 b4 (by decide)) | exact b3.below (by exact belowAny) | exact hc0.below (by exact belowAny)) <| Bc.mk (by exact blkAny2) <| trivial))
  clear b1 b2 b3 b4 hW
  rintro hW z14 ⟨⟨b1, yb1, k1, f1⟩, b2, b3, ⟨b4, yb4, k4, f4⟩, -⟩
  clear hb12
  go_wp2
  refine bodyPost_ret (by simp [results, Tryz.results50, go_sem, k1, f1, k4, f4, yb1, yb4]) rfl ⟨rfl, by exact belowAny⟩
set_option maxRecDepth 100000 in
set_option maxHeartbeats 2000000 in
theorem retain_below (g G n i : Nat) (x : MutT) (px : Option Addr) (cx : Nat) (RL : List RawR) (r0 : RawT) (p0 : Option Addr) (c0 : Nat) (w : World) (hg : Blk w g #[.slice (some ⟨G, 0, none⟩) n n, .int .i64 x.kind, .string x.name, .int .i64 x.eps, .int .i64 x.floor, .int .i64 x.scale, .slice px x.pts.length cx] 98) (hG : Blk w G (flatRaws RL).toArray 35) (hc0 : CellsP w G (i * 6) #[.string r0.name, .int .i64 r0.eps, .int .i64 r0.floor, .int .i64 r0.last, .int .i64 r0.scale, .slice p0 r0.pts.length c0]) (hin : i < n) (hn : n ≤ 100) (hlb : x.floor < r0.floor)
    (c1 : Hid (∀ W, Below w.heap.size w W → Calls Tryz.prog 75 #[.pointer (some ⟨g, 0, none⟩)] W fun e w' => e = .returned (.tuple #[.int .i64 (i : Int), .bool true]) ∧ Below W.heap.size W w'))
    (c2 : Hid (∀ W, Calls Tryz.prog 69 #[.int .i64 x.floor, .int .i64 0, .int .i64 281474976710656] W fun e w' => e = .returned (.bool true) ∧ Below W.heap.size W w')) :
    Calls Tryz.prog 50 #[.pointer (some ⟨g, 0, none⟩)] w fun e w' => e = .returned (.int .i64 343) ∧ Below w.heap.size w w' := by
  go_enter Tryz.func50, Tryz.ntmps50
  go_upto_region 1 with (fail)
  refine wp_cutB w (Bc g #[.slice (some ⟨G, 0, none⟩) n n, .int .i64 x.kind, .string x.name, .int .i64 x.eps, .int .i64 x.floor, .int .i64 x.scale, .slice px x.pts.length cx] 98 <| Bz) ?_
  rintro W1 hW z2 ⟨⟨b1, yb1, k1, f1⟩, -⟩
  go_wp2_with fail
  refine (c1.out _ hW).mono ?_
  rintro e w3 ⟨rfl, hb3⟩
  have z4 := hb3.size
  try simp at z4
  clear k1 f1
  refine haveB w w3 (Bc g #[.slice (some ⟨G, 0, none⟩) n n, .int .i64 x.kind, .string x.name, .int .i64 x.eps, .int .i64 x.floor, .int .i64 x.scale, .slice px x.pts.length cx] 98 <| Bz) ?_
  clear b1 hW
  rintro hW z5 ⟨⟨b1, yb1, k1, f1⟩, -⟩
  clear hb3
  go_upto_region 4 with (fail)
  clear k1 f1
  refine wp_cutB w (Bc g #[.slice (some ⟨G, 0, none⟩) n n, .int .i64 x.kind, .string x.name, .int .i64 x.eps, .int .i64 x.floor, .int .i64 x.scale, .slice px x.pts.length cx] 98 <| Rc (fun W' => Blk W' G (flatRaws RL).toArray 35) <| Rc (fun W' => CellsP W' G (i * 6) #[.string r0.name, .int .i64 r0.eps, .int .i64 r0.floor, .int .i64 r0.last, .int .i64 r0.scale, .slice p0 r0.pts.length c0]) <| Bz) ?_ (hI := by exact belowAny) (hR := (Bc.mk (by exact blkAny2) <| Rc.mk (by first | exact b2 | exact b2.setO (blk_ne b2 b4 (by decide)) _ _ | exact b2.below (by exact belowAny) | exact hG.below (by exact belowAny)) <| Rc.mk (by first | exact b3 | exact b3.setO (blk_ne b2 b4 (by decide)) | exact b3.below (by exact belowAny) | exact hc0.below (by exact belowAny)) <| trivial))
  clear b1 hW
  rintro W6 hW z7 hL
  obtain ⟨⟨b1, yb1, k1, f1⟩, b2, b3, -⟩ := id hL
  clear k1 f1
  refine wp_regD 14 50 hW hL ?_
  iterate 12 refine dE (fun W' hC => aI hin (Nat.not_le.2 hin)) ?_
  apply nd_alloc W6.heap.size #[.int .i64 0] 2 rfl rfl
  · exact fun W' hC => hC.1.size
  · simp [others] <;> omega
  · intro w; kernel_rfl
  refine dE (fun W' hC => aI hin (Nat.not_le.2 hin)) ?_
  clear hW hL b1 b2 b3
  rintro W8 hW z9 hL
  simp only [ndR]
  intros
  simp only [ndS]
  obtain ⟨⟨b1, yb1, k1, f1⟩, b2, b3, -⟩ := hL
  obtain ⟨o6, rfl, hg_o6, b4⟩ := ‹NewVar _ _ _ _ _›
  have yb4 := b4.lt
  have k4 := b4.cell
  have f4 := b4.frozen
  go_upto_region 5 with (fail)
  clear k1 f1 k4 f4
  refine wp_cutB w (Bc g #[.slice (some ⟨G, 0, none⟩) n n, .int .i64 x.kind, .string x.name, .int .i64 x.eps, .int .i64 x.floor, .int .i64 x.scale, .slice px x.pts.length cx] 98 <| Rc (fun W' => Blk W' G (flatRaws RL).toArray 35) <| Rc (fun W' => CellsP W' G (i * 6) #[.string r0.name, .int .i64 r0.eps, .int .i64 r0.floor, .int .i64 r0.last, .int .i64 r0.scale, .slice p0 r0.pts.length c0]) <| Bc o6 #[.int .i64 x.floor] 2 <| Bz) ?_ (hI := by exact belowAny) (hR := (Bc.mk (by exact blkAny2) <| Rc.mk (by first | exact b2 | exact b2.setO (blk_ne b2 b4 (by decide)) _ _ | exact b2.below (by exact belowAny) | exact hG.below (by exact belowAny)) <| Rc.mk (by first | exact b3 | exact b3.setO (blk_ne b2 b4 (by decide)) | exact b3.below (by exact belowAny) | exact hc0.below (by exact belowAny)) <| Bc.mk (by exact blkAny2) <| trivial))
  clear b1 b2 b3 b4 hW
  rintro W10 hW z11 ⟨⟨b1, yb1, k1, f1⟩, b2, b3, ⟨b4, yb4, k4, f4⟩, -⟩
  go_wp2_with fail
  refine (c2.out _).mono ?_
  rintro e w12 ⟨rfl, hb12⟩
  have z13 := hb12.size
  try simp at z13
  clear k1 f1 k4 f4
  refine haveB w w12 (Bc g #[.slice (some ⟨G, 0, none⟩) n n, .int .i64 x.kind, .string x.name, .int .i64 x.eps, .int .i64 x.floor, .int .i64 x.scale, .slice px x.pts.length cx] 98 <| Rc (fun W' => Blk W' G (flatRaws RL).toArray 35) <| Rc (fun W' => CellsP W' G (i * 6) #[.string r0.name, .int .i64 r0.eps, .int .i64 r0.floor, .int .i64 r0.last, .int .i64 r0.scale, .slice p0 r0.pts.length c0]) <| Bc o6 #[.int .i64 x.floor] 2 <| Bz) ?_ (hR := (Bc.mk (by exact blkAny2) <| Rc.mk (by first | exact b2 | exact b2.setO (blk_ne b2 b4 (by decide)) _ _ | exact b2.below (by exact belowAny) | exact hG.below (by exact belowAny)) <| Rc.mk (by first | exact b3 | exact b3.setO (blk_ne b2 b4 (by decide)) | exact b3.below (by exact belowAny) | exact hc0.below (by exact belowAny)) <| Bc.mk (by exact blkAny2) <| trivial))
  clear b1 b2 b3 b4 hW
  rintro hW z14 ⟨⟨b1, yb1, k1, f1⟩, b2, b3, ⟨b4, yb4, k4, f4⟩, -⟩
  clear hb12
  go_upto_region 7 with (fail)
  clear k1 f1 k4 f4
  refine wp_cutB w (Bc g #[.slice (some ⟨G, 0, none⟩) n n, .int .i64 x.kind, .string x.name, .int .i64 x.eps, .int .i64 x.floor, .int .i64 x.scale, .slice px x.pts.length cx] 98 <| Rc (fun W' => Blk W' G (flatRaws RL).toArray 35) <| Rc (fun W' => CellsP W' G (i * 6) #[.string r0.name, .int .i64 r0.eps, .int .i64 r0.floor, .int .i64 r0.last, .int .i64 r0.scale, .slice p0 r0.pts.length c0]) <| Bc o6 #[.int .i64 x.floor] 2 <| Bz) ?_ (hI := by exact belowAny) (hR := (Bc.mk (by exact blkAny2) <| Rc.mk (by first | exact b2 | exact b2.setO (blk_ne b2 b4 (by decide)) _ _ | exact b2.below (by exact belowAny) | exact hG.below (by exact belowAny)) <| Rc.mk (by first | exact b3 | exact b3.setO (blk_ne b2 b4 (by decide)) | exact b3.below (by exact belowAny) | exact hc0.below (by exact belowAny)) <| Bc.mk (by exact blkAny2) <| trivial))
  clear b1 b2 b3 b4 hW
  rintro W15 hW z16 hL
  obtain ⟨⟨b1, yb1, k1, f1⟩, b2, b3, ⟨b4, yb4, k4, f4⟩, -⟩ := id hL
  clear k1 f1 k4 f4
  refine wp_regD 7 50 hW hL ?_
  iterate 7 refine dE (fun W' hC => (hC.2.2.2.1.at' 2 _ rfl)) ?_
  clear hW hL b1 b2 b3 b4
  rintro W17 hW z18 hL
  simp only [ndR]
  intros
  simp only [ndS]
  refine wpList_nil ?_
  obtain ⟨⟨b1, yb1, k1, f1⟩, b2, b3, ⟨b4, yb4, k4, f4⟩, -⟩ := hL
  have hlb' := decide_eq_true hlb
  go_wp2
  refine bodyPost_ret (by simp [results, Tryz.results50, go_sem, k1, f1, k4, f4, yb1, yb4]) rfl ⟨rfl, by exact belowAny⟩
set_option maxRecDepth 100000 in
set_option maxHeartbeats 2000000 in
theorem retain_ok (B g G n i : Nat) (x : MutT) (px : Option Addr) (cx : Nat) (RL : List RawR) (rows : List RawT) (r0 : RawT) (p0 : Option Addr) (c0 : Nat) (w : World) (hg : Blk w g #[.slice (some ⟨G, 0, none⟩) n n, .int .i64 x.kind, .string x.name, .int .i64 x.eps, .int .i64 x.floor, .int .i64 x.scale, .slice px x.pts.length cx] 98) (hG : Blk w G (flatRaws RL).toArray 35) (hP : PtRowsO w B RL) (hap : ApartP RL) (hRL : Hid (RL.map (·.r) = rows)) (tx : RL[i]? = some ⟨r0, p0, c0⟩)
    (hBg : B ≤ g) (hBG : B ≤ G) (hgG : g ≠ G) (hBs : B ≤ w.heap.size) (hin : i < n) (hn : n ≤ 100) (hnl : Hid (RL.length = n)) (hpx : r0.pts.length ≤ 3000) (hlb : ¬x.floor < r0.floor)
    (c1 : Hid (∀ W, Below w.heap.size w W → Calls Tryz.prog 75 #[.pointer (some ⟨g, 0, none⟩)] W fun e w' => e = .returned (.tuple #[.int .i64 (i : Int), .bool true]) ∧ Below W.heap.size W w'))
    (c2 : Hid (∀ W, Calls Tryz.prog 69 #[.int .i64 x.floor, .int .i64 0, .int .i64 281474976710656] W fun e w' => e = .returned (.bool true) ∧ Below W.heap.size W w')) :
    Calls Tryz.prog 50 #[.pointer (some ⟨g, 0, none⟩)] w fun e w' => e = .returned (.int .i64 0) ∧ DoneT w B g 0 (rows.set i ⟨r0.name, r0.eps, x.floor, r0.last, r0.scale, keepL x.floor r0.pts⟩) w' := by
  have hc0 : CellsP w G (i * 6) #[.string r0.name, .int .i64 r0.eps, .int .i64 r0.floor, .int .i64 r0.last, .int .i64 r0.scale, .slice p0 r0.pts.length c0] := ⟨fun j v hv => by rw [hG.cell, List.getElem?_toArray]; exact flatRaws_get RL i _ j v tx hv⟩
  go_enter Tryz.func50, Tryz.ntmps50
  go_upto_region 1 with (fail)
  refine wp_cutB w (Bc g #[.slice (some ⟨G, 0, none⟩) n n, .int .i64 x.kind, .string x.name, .int .i64 x.eps, .int .i64 x.floor, .int .i64 x.scale, .slice px x.pts.length cx] 98 <| Bz) ?_
  rintro W1 hW z2 ⟨⟨b1, yb1, k1, f1⟩, -⟩
  go_wp2_with fail
  refine (c1.out _ hW).mono ?_
  rintro e w3 ⟨rfl, hb3⟩
  have z4 := hb3.size
  try simp at z4
  clear k1 f1
  refine haveB w w3 (Bc g #[.slice (some ⟨G, 0, none⟩) n n, .int .i64 x.kind, .string x.name, .int .i64 x.eps, .int .i64 x.floor, .int .i64 x.scale, .slice px x.pts.length cx] 98 <| Bz) ?_
  clear b1 hW
  rintro hW z5 ⟨⟨b1, yb1, k1, f1⟩, -⟩
  clear hb3
  go_upto_region 4 with (fail)
  clear k1 f1
  refine wp_cutB w (Bc g #[.slice (some ⟨G, 0, none⟩) n n, .int .i64 x.kind, .string x.name, .int .i64 x.eps, .int .i64 x.floor, .int .i64 x.scale, .slice px x.pts.length cx] 98 <| Rc (fun W' => Blk W' G (flatRaws RL).toArray 35) <| Rc (fun W' => CellsP W' G (i * 6) #[.string r0.name, .int .i64 r0.eps, .int .i64 r0.floor, .int .i64 r0.last, .int .i64 r0.scale, .slice p0 r0.pts.length c0]) <| Bz) ?_ (hI := by exact belowAny) (hR := (Bc.mk (by exact blkAny2) <| Rc.mk (by first | exact b2 | exact b2.setO (blk_ne b2 b4 (by decide)) _ _ | exact b2.below (by exact belowAny) | exact hG.below (by exact belowAny)) <| Rc.mk (by first | exact b3 | exact b3.setO (blk_ne b2 b4 (by decide)) | exact b3.below (by exact belowAny) | exact hc0.below (by exact belowAny)) <| trivial))
  clear b1 hW
  rintro W6 hW z7 hL
  obtain ⟨⟨b1, yb1, k1, f1⟩, b2, b3, -⟩ := id hL
  clear k1 f1
  refine wp_regD 14 50 hW hL ?_
  iterate 12 refine dE (fun W' hC => aI hin (Nat.not_le.2 hin)) ?_
  apply nd_alloc W6.heap.size #[.int .i64 0] 2 rfl rfl
  · exact fun W' hC => hC.1.size
  · simp [others] <;> omega
  · intro w; kernel_rfl
  refine dE (fun W' hC => aI hin (Nat.not_le.2 hin)) ?_
  clear hW hL b1 b2 b3
  rintro W8 hW z9 hL
  simp only [ndR]
  intros
  simp only [ndS]
  obtain ⟨⟨b1, yb1, k1, f1⟩, b2, b3, -⟩ := hL
  obtain ⟨o6, rfl, hg_o6, b4⟩ := ‹NewVar _ _ _ _ _›
  have yb4 := b4.lt
  have k4 := b4.cell
  have f4 := b4.frozen
  go_upto_region 5 with (fail)
  clear k1 f1 k4 f4
  refine wp_cutB w (Bc g #[.slice (some ⟨G, 0, none⟩) n n, .int .i64 x.kind, .string x.name, .int .i64 x.eps, .int .i64 x.floor, .int .i64 x.scale, .slice px x.pts.length cx] 98 <| Rc (fun W' => Blk W' G (flatRaws RL).toArray 35) <| Rc (fun W' => CellsP W' G (i * 6) #[.string r0.name, .int .i64 r0.eps, .int .i64 r0.floor, .int .i64 r0.last, .int .i64 r0.scale, .slice p0 r0.pts.length c0]) <| Bc o6 #[.int .i64 x.floor] 2 <| Bz) ?_ (hI := by exact belowAny) (hR := (Bc.mk (by exact blkAny2) <| Rc.mk (by first | exact b2 | exact b2.setO (blk_ne b2 b4 (by decide)) _ _ | exact b2.below (by exact belowAny) | exact hG.below (by exact belowAny)) <| Rc.mk (by first | exact b3 | exact b3.setO (blk_ne b2 b4 (by decide)) | exact b3.below (by exact belowAny) | exact hc0.below (by exact belowAny)) <| Bc.mk (by exact blkAny2) <| trivial))
  clear b1 b2 b3 b4 hW
  rintro W10 hW z11 ⟨⟨b1, yb1, k1, f1⟩, b2, b3, ⟨b4, yb4, k4, f4⟩, -⟩
  go_wp2_with fail
  refine (c2.out _).mono ?_
  rintro e w12 ⟨rfl, hb12⟩
  have z13 := hb12.size
  try simp at z13
  clear k1 f1 k4 f4
  refine haveB w w12 (Bc g #[.slice (some ⟨G, 0, none⟩) n n, .int .i64 x.kind, .string x.name, .int .i64 x.eps, .int .i64 x.floor, .int .i64 x.scale, .slice px x.pts.length cx] 98 <| Rc (fun W' => Blk W' G (flatRaws RL).toArray 35) <| Rc (fun W' => CellsP W' G (i * 6) #[.string r0.name, .int .i64 r0.eps, .int .i64 r0.floor, .int .i64 r0.last, .int .i64 r0.scale, .slice p0 r0.pts.length c0]) <| Bc o6 #[.int .i64 x.floor] 2 <| Bz) ?_ (hR := (Bc.mk (by exact blkAny2) <| Rc.mk (by first | exact b2 | exact b2.setO (blk_ne b2 b4 (by decide)) _ _ | exact b2.below (by exact belowAny) | exact hG.below (by exact belowAny)) <| Rc.mk (by first | exact b3 | exact b3.setO (blk_ne b2 b4 (by decide)) | exact b3.below (by exact belowAny) | exact hc0.below (by exact belowAny)) <| Bc.mk (by exact blkAny2) <| trivial))
  clear b1 b2 b3 b4 hW
  rintro hW z14 ⟨⟨b1, yb1, k1, f1⟩, b2, b3, ⟨b4, yb4, k4, f4⟩, -⟩
  clear hb12
  go_upto_region 7 with (fail)
  clear k1 f1 k4 f4
  refine wp_cutB w (Bc g #[.slice (some ⟨G, 0, none⟩) n n, .int .i64 x.kind, .string x.name, .int .i64 x.eps, .int .i64 x.floor, .int .i64 x.scale, .slice px x.pts.length cx] 98 <| Rc (fun W' => Blk W' G (flatRaws RL).toArray 35) <| Rc (fun W' => CellsP W' G (i * 6) #[.string r0.name, .int .i64 r0.eps, .int .i64 r0.floor, .int .i64 r0.last, .int .i64 r0.scale, .slice p0 r0.pts.length c0]) <| Bc o6 #[.int .i64 x.floor] 2 <| Bz) ?_ (hI := by exact belowAny) (hR := (Bc.mk (by exact blkAny2) <| Rc.mk (by first | exact b2 | exact b2.setO (blk_ne b2 b4 (by decide)) _ _ | exact b2.below (by exact belowAny) | exact hG.below (by exact belowAny)) <| Rc.mk (by first | exact b3 | exact b3.setO (blk_ne b2 b4 (by decide)) | exact b3.below (by exact belowAny) | exact hc0.below (by exact belowAny)) <| Bc.mk (by exact blkAny2) <| trivial))
  clear b1 b2 b3 b4 hW
  rintro W15 hW z16 hL
  obtain ⟨⟨b1, yb1, k1, f1⟩, b2, b3, ⟨b4, yb4, k4, f4⟩, -⟩ := id hL
  clear k1 f1 k4 f4
  refine wp_regD 7 50 hW hL ?_
  iterate 7 refine dE (fun W' hC => (hC.2.2.2.1.at' 2 _ rfl)) ?_
  clear hW hL b1 b2 b3 b4
  rintro W17 hW z18 hL
  simp only [ndR]
  intros
  simp only [ndS]
  refine wpList_nil ?_
  obtain ⟨⟨b1, yb1, k1, f1⟩, b2, b3, ⟨b4, yb4, k4, f4⟩, -⟩ := hL
  have t5 := b3.at' 5 _ rfl
  have t2 := b3.at' 2 _ rfl
  have g2 := b2.frozen (i * 6 + 2)
  have hP1 := (hP.below hW).otherR b2 (u := .int .i64 x.floor) (j := i * 6 + 2) (by decide)
  have e1 := b1.setO hgG (i * 6 + 2) (.int .i64 x.floor)
  have e2 := b2.set2 (i := i * 6 + 2) (v := .int .i64 x.floor) (cs' := (flatRaws (RL.set i ⟨⟨r0.name, r0.eps, x.floor, r0.last, r0.scale, r0.pts⟩, p0, c0⟩)).toArray) (by rw [List.setIfInBounds_toArray]; exact congrArg List.toArray (flatRaws_setk RL i 2 _ _ _ tx (by omega) rfl))
  have ho6 : o6 ≠ G := blk_ne b4 b2 (by decide)
  have e4 := b4.setO ho6 (i * 6 + 2) (.int .i64 x.floor)
  have eB : Below B w (W17.setCell ⟨G, i * 6 + 2, none⟩ (.int .i64 x.floor)) := (hW.mono hBs).setCell (by simp; omega) _
  have HH := Lib.hid (And.intro hP1 (And.intro e1 (And.intro e2 (And.intro e4 eB))))
  clear hP1 e1 e2 e4 eB
  go_upto_region 10 with (fail)
  clear t5 t2 g2 b1 b2 b3 b4 hW k1 f1 k4 f4
  obtain ⟨hP1, b1, b2, b4, hB⟩ := HH.out
  clear HH
  generalize World.setCell W17 _ _ = w8 at hP1 b1 b2 b4 hB ⊢
  have hlt := (List.getElem?_eq_some_iff.1 tx).1
  have hq5 : w8.cell? ⟨G, i * 6 + 5, none⟩ = some (.slice p0 r0.pts.length c0) := (b2.cell (i * 6 + 5)).trans (by rw [List.getElem?_toArray]; exact flatRaws_get _ i _ 5 _ (List.getElem?_set_self hlt) rfl)
  have hO1 : PtO w8 B p0 c0 r0.pts := hP1.at' _ (List.mem_of_getElem? tx)
  have yb1 := b1.lt
  have yb2 := b2.lt
  have yb4 := b4.lt
  have hmf : ∀ (fn : Fn) (first cap : Array Value) (w : World), (Instr.makeFunc fn first cap).run Tryz.prog w = .ok (.func fn first cap) w := fun _ _ _ _ => rfl
  go_wp2_with fail
  clear hq5 hmf
  refine (c_delAny B p0 c0 r0.pts o6 x.floor w8 hO1 b4 hpx).mono ?_
  rintro e w9 ⟨rfl, hR9, hO9⟩
  have d1 := b1.rexP hO1 hR9 (by decide)
  have d2 := b2.rexP hO1 hR9 (by decide)
  have dP := hP1.rexP hap tx hR9 ⟨⟨r0.name, r0.eps, x.floor, r0.last, r0.scale, keepL x.floor r0.pts⟩, p0, c0⟩ hO9
  have dB : Below B w w9 := hB.trans (hR9.of_priv (by have := hB.size; omega) (hO1.blkL))
  have q5 : w9.cell? ⟨G, i * 6 + 5, none⟩ = some (.slice p0 r0.pts.length c0) := (d2.cell (i * 6 + 5)).trans (by rw [List.getElem?_toArray]; exact flatRaws_get _ i _ 5 _ (List.getElem?_set_self hlt) rfl)
  have g5 := d2.frozen (i * 6 + 5)
  have e1 := d1.setO hgG (i * 6 + 5) (.slice p0 (keepL x.floor r0.pts).length c0)
  have e2 := d2.set2 (i := i * 6 + 5) (v := .slice p0 (keepL x.floor r0.pts).length c0) (cs' := (flatRaws (RL.set i ⟨⟨r0.name, r0.eps, x.floor, r0.last, r0.scale, keepL x.floor r0.pts⟩, p0, c0⟩)).toArray) (by
    rw [List.setIfInBounds_toArray]
    have h9 := flatRaws_setk (RL.set i ⟨⟨r0.name, r0.eps, x.floor, r0.last, r0.scale, r0.pts⟩, p0, c0⟩) i 5 _ ⟨⟨r0.name, r0.eps, x.floor, r0.last, r0.scale, keepL x.floor r0.pts⟩, p0, c0⟩ (.slice p0 (keepL x.floor r0.pts).length c0) (List.getElem?_set_self hlt) (by omega) rfl
    rw [List.set_set] at h9
    exact congrArg List.toArray h9)
  have eP := dP.otherR d2 (u := .slice p0 (keepL x.floor r0.pts).length c0) (j := i * 6 + 5) (by decide)
  have eB : Below B w (w9.setCell ⟨G, i * 6 + 5, none⟩ (.slice p0 (keepL x.floor r0.pts).length c0)) := dB.setCell (by simp; omega) _
  have yd1 := d1.lt
  have yd2 := d2.lt
  have HH := Lib.hid (And.intro e1 (And.intro e2 (And.intro eP eB)))
  clear e1 e2 eP eB d1 d2 dP dB hO9 hO1 hR9 b1 b2 b4 hP1 hB
  go_wp2
  obtain ⟨e1, e2, eP, eB⟩ := HH.out
  have hlen : (RL.set i ⟨⟨r0.name, r0.eps, x.floor, r0.last, r0.scale, keepL x.floor r0.pts⟩, p0, c0⟩).length = n := by rw [List.length_set, hnl.out]
  refine bodyPost_ret (v := .int .i64 0) (by simp [results, Tryz.results50, go_sem]) rfl ⟨rfl, eB, fun _ => ⟨_, e1.cell 0, ?_⟩⟩
  rw [show rows.set i ⟨r0.name, r0.eps, x.floor, r0.last, r0.scale, keepL x.floor r0.pts⟩ = (RL.set i ⟨⟨r0.name, r0.eps, x.floor, r0.last, r0.scale, keepL x.floor r0.pts⟩, p0, c0⟩).map (·.r) by rw [← hRL.out, List.map_set]]
  exact own_done e2 hBG hlen.symm (Nat.le_refl _) (by rw [List.size_toArray, flatRaws_len, hlen]) (by simp [maxLen]; omega) (by rw [List.toList_toArray, List.take_of_length_le (by rw [flatRaws_len, hlen]; exact Nat.le_refl _)]) eP
end Go.Proofs.YtdeghcgakkhbmaaGreat
namespace Go.Proofs.YtdeghcgakkhbmaaGreat
open Go.RowKit
theorem RawsIn.nil (w : World) : RawsIn w none [] := ⟨fun i r hr => by simp at hr⟩
theorem PtsIn.nil9 (w : World) : PtsIn w none [] := ⟨fun i r hr => by simp at hr⟩
theorem blk_eq {w : World} {b : Nat} {cs ds : Array Value} {t u : TypeId} (h : Blk w b cs t) (k : Blk w b ds u) : cs = ds := by
  have e1 : w.heap[b]? = some (.cells cs t (0, 0)) := h
  have e2 : w.heap[b]? = some (.cells ds u (0, 0)) := k
  rw [e1] at e2
  injection e2 with e2
  injection e2
/-- Points that lie in a block from B on. -/
def IntsR (W : World) (B : Nat) (p : Option Addr) (n : Nat) : Prop := ∀ j, j < n → ∃ g o cur t y, p = some ⟨g, o, none⟩ ∧ B ≤ g ∧ Blk W g cur 58 ∧ cur[o + j * 2]? = some (.int .i64 t) ∧ cur[o + j * 2 + 1]? = some (.int .i64 y)
theorem IntsR.store {W : World} {B n g' k : Nat} {p : Option Addr} {v : Int} {cur' : Array Value} (h : IntsR W B p n) (hb : Blk W g' cur' 58) : IntsR (W.setCell ⟨g', k, none⟩ (.int .i64 v)) B p n := fun j hj => by
  obtain ⟨g, o, cur, t, y, e, hB, hg, h0, h1⟩ := h j hj
  by_cases hgg : g = g'
  · subst hgg
    obtain ⟨l0, -⟩ := Array.getElem?_eq_some_iff.1 h0
    obtain ⟨l1, -⟩ := Array.getElem?_eq_some_iff.1 h1
    refine ⟨g, o, cur.setIfInBounds k (.int .i64 v), if k = o + j * 2 then v else t, if k = o + j * 2 + 1 then v else y, e, hB, hg.set k _, ?_, ?_⟩
    · rw [Array.getElem?_setIfInBounds]
      split
      · rename_i hk
        rw [if_pos (by omega)]
      · exact h0
    · rw [Array.getElem?_setIfInBounds]
      split
      · rename_i hk
        rw [if_pos (by omega)]
      · exact h1
  · exact ⟨g, o, cur, t, y, e, hB, hg.setO hgg _ _, h0, h1⟩
theorem IntsR.other {W : World} {B n o' k : Nat} {p : Option Addr} {u : Value} {cs : Array Value} {t' : TypeId} (h : IntsR W B p n) (hb : Blk W o' cs t') (ht : 58 ≠ t') : IntsR (W.setCell ⟨o', k, none⟩ u) B p n := fun j hj => by
  obtain ⟨g, o, cur, t, y, e, hB, hg, h0, h1⟩ := h j hj
  exact ⟨g, o, cur, t, y, e, hB, hg.setO (blk_ne hg hb ht) _ _, h0, h1⟩
theorem PtRow.ints {W : World} {B : Nat} {p : Option Addr} {l : List (Int × Int)} (h : PtRow W B p l) : IntsR W B p l.length := fun j hj => by
  rcases h.at' with ⟨-, rfl⟩ | ⟨g, cur, k, rfl, hB, hb, ht⟩
  · simp at hj
  · have hj' : l[j]? = some l[j] := List.getElem?_eq_getElem hj
    have hP : PtsIn W (some ⟨g, 0, none⟩) l := pts_in hb ht
    obtain ⟨b', o', e', h0, h1⟩ := hP.at' j _ hj'
    injection e' with e'
    injection e' with e1 e2
    subst e1; subst e2
    rw [hb.cell] at h0 h1
    exact ⟨g, 0, cur, _, _, rfl, hB, hb, h0, h1⟩
/-- A raw series' place in a row of them from B on. -/
def RowN (W : World) (B M : Nat) (pn : Option Addr) (i : Nat) : Prop := ∃ gn og cur r p c, pn = some ⟨gn, og, none⟩ ∧ B ≤ gn ∧ Blk W gn cur 35 ∧ (∀ j v, (rawA r p c)[j]? = some v → cur[og + i * 6 + j]? = some v) ∧ IntsR W B p r.pts.length ∧ r.name.size ≤ M ∧ r.pts.length ≤ 2000
def NSh (W : World) (B M : Nat) (pn : Option Addr) (n : Nat) : Prop := ∀ i, i < n → RowN W B M pn i
theorem NSh.pt {W : World} {B M n g k : Nat} {pn : Option Addr} {v : Int} {cur' : Array Value} (h : NSh W B M pn n) (hb : Blk W g cur' 58) : NSh (W.setCell ⟨g, k, none⟩ (.int .i64 v)) B M pn n := fun i hi => by
  obtain ⟨gn, og, cur, r, p, c, e, hB, hg, hc, hp, hm⟩ := h i hi
  exact ⟨gn, og, cur, r, p, c, e, hB, hg.setO (blk_ne hg hb (by decide)) _ _, hc, hp.store hb, hm⟩
theorem rawA_size (r : RawT) (p : Option Addr) (c : Nat) {j : Nat} {v : Value} (h : (rawA r p c)[j]? = some v) : j < 6 := (Array.getElem?_eq_some_iff.1 h).1
theorem NSh.nm {W : World} {B M M' n gn og i : Nat} {s : ByteArray} {cur' : Array Value} (h : NSh W B M (some ⟨gn, og, none⟩) n) (hb : Blk W gn cur' 35) (hs : s.size ≤ M') (hM : M ≤ M') : NSh (W.setCell ⟨gn, og + i * 6, none⟩ (.string s)) B M' (some ⟨gn, og, none⟩) n := fun k hk => by
  obtain ⟨gn', og', cur, r, p, c, e, hB, hg, hc, hp, hm, hm2⟩ := h k hk
  injection e with e
  injection e with e1 e2
  subst e1; subst e2
  have e3 := blk_eq hg hb
  subst e3
  by_cases hki : k = i
  · subst hki
    have h0 := hc 0 _ rfl
    obtain ⟨l0, -⟩ := Array.getElem?_eq_some_iff.1 h0
    refine ⟨gn, og, _, ⟨s, r.eps, r.floor, r.last, r.scale, r.pts⟩, p, c, rfl, hB, hg.set _ _, fun j v hv => ?_, hp.other hg (by decide), hs, hm2⟩
    rw [Array.getElem?_setIfInBounds]
    rcases j with _ | j
    · rw [if_pos (by omega), if_pos (by omega)]
      exact hv
    · rw [if_neg (by omega)]
      exact hc (j + 1) v hv
  · refine ⟨gn, og, _, r, p, c, rfl, hB, hg.set _ _, fun j v hv => ?_, hp.other hg (by decide), Nat.le_trans hm hM, hm2⟩
    have := rawA_size r p c hv
    rw [Array.getElem?_setIfInBounds, if_neg (by omega)]
    exact hc j v hv
theorem OwnM.shape {B : Nat} {rows : List RawT} {p : Option Addr} {c M : Nat} {W : World} (h : OwnM B rows (.agg #[.slice p rows.length c]) W) (hM : ∀ r, r ∈ rows → r.name.size ≤ M ∧ r.pts.length ≤ 2000) : NSh W B M p rows.length := fun i hi => by
  obtain ⟨p1, c1, RL, e, hO, hP, hR⟩ := h
  have e1 : p = p1 := by simp at e; exact e.1
  subst e1
  rcases hO.own.2 with ⟨h1, h0⟩ | ⟨g, cap', cur, h1, hg, hb, hn, hmx, _, ht⟩
  · omega
  · injection h1 with h1 _ _
    have hl : RL.length = rows.length := by rw [← hR, List.length_map]
    obtain ⟨x, tx⟩ : ∃ x, RL[i]? = some x := ⟨RL[i]'(by omega), List.getElem?_eq_getElem (by omega)⟩
    have hm := List.mem_of_getElem? tx
    have hmr : x.r ∈ rows := by rw [← hR]; exact List.mem_map_of_mem hm
    refine ⟨g, 0, cur, x.r, x.p, x.cap, h1, hg, hb, fun j v hv => ?_, (hP.at' x hm).1.ints, hM _ hmr⟩
    have h3 := flatRaws_get RL i x j v tx hv
    have h4 := row_take ht h3
    rw [Nat.zero_add]
    simpa using h4
end Go.Proofs.YtdeghcgakkhbmaaGreat
namespace Go.Proofs.YtdeghcgakkhbmaaGreat
open Go.RowKit
/-- What a guarded step has, if it is carried out. -/
def GS (g : Bool) (Φ : Spec) : Spec := fun v w => if g = true then Φ v w else v = undef
theorem GS.closed {L : List Nat} {Φ : Spec} (g : Bool) (h : Closed L Φ) : Closed L (GS g Φ) := fun v w w' hr hs => by
  unfold GS at *
  split at hs <;> rename_i hg
  · rw [if_pos hg]; exact h _ _ _ hr hs
  · rw [if_neg hg]; exact hs
section
variable {P : Program} {ops : Array Oper} {C : World → Prop} {X : List (Nat × Nat)} {a0 : Act} {Fin : List (Option Tmp × Spec) → Prop} {i : Nat} {o : Oper} {rest : List Oper} {acc : List (Option Tmp × Spec)}
end
end Go.Proofs.YtdeghcgakkhbmaaGreat
namespace Go.Proofs.YtdeghcgakkhbmaaGreat
open Go.RowKit
/-- Points that lie where they lay, and the room they have. -/
structure RawPt (w : World) (l : List RawR) : Prop where
  at' : ∀ x, x ∈ l → PtsIn w x.p x.r.pts ∧ x.r.pts.length ≤ x.cap ∧ (x.p = none → x.cap = 0)
theorem RawPt.below {w w' : World} {l : List RawR} (h : RawPt w l) (hb : Below w.heap.size w w') : RawPt w' l := ⟨fun x hx => ⟨(h.at' x hx).1.below hb, (h.at' x hx).2⟩⟩
theorem RawPt.snoc {w : World} {l : List RawR} {x : RawR} (h : RawPt w l) (hx : PtsIn w x.p x.r.pts ∧ x.r.pts.length ≤ x.cap ∧ (x.p = none → x.cap = 0)) : RawPt w (l ++ [x]) := ⟨fun y hy => by
  rcases List.mem_append.1 hy with h1 | h1
  · exact h.at' y h1
  · rw [List.mem_singleton.1 h1]; exact hx⟩
theorem OwnR.rawsP {W : World} {B n : Nat} {e : TypeId} {p : Option Addr} {cap : Nat} {RL : List RawR} (h : OwnR W B e 6 (.slice p n cap) n (flatRaws RL)) (hP : RawPt W RL) : RawsIn W p (RL.map (·.r)) := by
  rcases h.own.2 with ⟨h1, h0⟩ | ⟨g, cap', cur, h1, hg, hb, hn, hmx, _, ht⟩
  · have h2 := h.own.1
    rw [flatRaws_len, h0] at h2
    have : RL = [] := List.length_eq_zero_iff.1 (by omega)
    subst this
    exact ⟨fun i r hr => by simp at hr⟩
  · injection h1 with h2 _ _
    subst h2
    refine ⟨fun i r hr => ?_⟩
    rw [List.getElem?_map] at hr
    obtain ⟨x, hx, rfl⟩ := Option.map_eq_some_iff.1 hr
    refine ⟨g, 0, x.p, x.cap, rfl, fun j v hv => ?_, hP.at' x (List.mem_of_getElem? hx)⟩
    have h3 := flatRaws_get RL i x j v hx hv
    rw [cell_of_row W g _ cur e (0, 0) hb, Nat.zero_add]
    exact row_take ht h3
theorem raw_news {W : World} {g : Nat} {t : TypeId} (x : RawR) (h : Blk W g (rawRA x) t) {j : Nat} {u : Value} (hu : (rawRA x).toList[j]? = some u) : W.cell? ((⟨g, 0, none⟩ : Addr).add j) = some u := by
  have hadd : (⟨g, 0, none⟩ : Addr).add j = ⟨g, j, none⟩ := by unfold Addr.add; split <;> simp_all
  rw [hadd, h.cell]
  simpa using hu
theorem rl_snoc (l : List RawR) (x : RawR) : (l ++ [x]).length = l.length + 1 := by rw [List.length_append]; rfl
/-- What an append of one raw series, and the store of its row, leave. -/
theorem app_raw {w W w9 : World} {B o : Nat} {vp p' : Option Addr} {vc c' : Nat} {RL : List RawR} {tmp : Obj} (x : RawR) (hW : Below w.heap.size w W) (hBw : B ≤ W.heap.size) (hwB : w.heap.size ≤ B) (ho : Blk W o #[.slice vp RL.length vc] 27) (hwo : w.heap.size ≤ o)
    (hown : OwnR W B 35 6 (.slice vp RL.length vc) RL.length (flatRaws RL)) (hown2 : w9.ownsRow B 35 6 (.slice p' (RL.length + 1) c') (RL.length + 1) (flatRaws RL ++ (rawRA x).toList)) (hgr : (W.alloc tmp).grownBy w9 (Value.slice vp RL.length vc).ownBlock) :
    Below w.heap.size w (w9.setCell ⟨o, 0, none⟩ (.slice p' (RL.length + 1) c')) ∧ Blk (w9.setCell ⟨o, 0, none⟩ (.slice p' (RL.length + 1) c')) o #[.slice p' (RL ++ [x]).length c'] 27 ∧ OwnR (w9.setCell ⟨o, 0, none⟩ (.slice p' (RL.length + 1) c')) B 35 6 (.slice p' (RL ++ [x]).length c') (RL ++ [x]).length (flatRaws (RL ++ [x])) ∧
    (∀ (g : Nat) (cs : Array Value) (t : TypeId), Blk W g cs t → g ≠ o → (Value.slice vp RL.length vc).ownBlock ≠ some g → Blk (w9.setCell ⟨o, 0, none⟩ (.slice p' (RL.length + 1) c')) g cs t) := by
  have ho9 : Blk w9 o #[.slice vp RL.length vc] 27 := ho.grown hown.own (by decide) hgr
  have hb9 : Below w.heap.size w w9 := (below_append hW hW.size (OwnR.mono hown hwB).own hgr)
  refine ⟨hb9.setCell hwo _, ?_, ?_, fun g cs t hg hne hv => ?_⟩
  · rw [rl_snoc]
    exact ho9.set2 rfl
  · rw [flatRaws_snoc, rl_snoc]
    exact (OwnR.mk hown2).setX (own_apart hown2 ho9 (by decide))
  · have hlt := hg.lt
    exact Blk.setO ((hgr.block g (by simp; omega) (Ne.symm hv)).trans (hg.alloc tmp : Blk (W.alloc tmp) g cs t)) hne _ _
def woutL (nm : ByteArray) (l : List RawT) : List RawT := l.filter fun r => !(r.name.toList == nm.toList)
def wouRel (w : World) (p : Option Addr) (cap : Nat) (rows : List RawT) (nm : ByteArray) (B0 : Nat) (a' : Act) (W : World) : Prop :=
  Below w.heap.size w W ∧ Blk W w.heap.size #[.slice p rows.length cap] 27 ∧ Blk W (w.heap.size + 1) #[.slice none 0 0] 27 ∧ ∃ (i : Nat) (vp : Option Addr) (vc : Nat) (RL : List RawR), (∃ u : Nat → Value, a' = { tmps := #[u 0, .string nm, .pointer (some ⟨w.heap.size, 0, none⟩), u 3, .pointer (some ⟨(w.heap.size + 1), 0, none⟩), .pointer (some ⟨(w.heap.size + 1 + 1), 0, none⟩), u 6, u 7, u 8, .slice p rows.length cap, .int .i64 (rows.length : Int), .int .i64 (i : Int), u 12, u 13, u 14, u 15, u 16, u 17, u 18, u 19, u 20, u 21, u 22, u 23, u 24, u 25, u 26], defers := [] }) ∧ Blk W (w.heap.size + 1 + 1) #[.slice vp RL.length vc] 27 ∧ OwnR W B0 35 6 (.slice vp RL.length vc) RL.length (flatRaws RL) ∧ RL.map (·.r) = woutL nm (rows.take i) ∧ RawPt w RL ∧ i ≤ rows.length
theorem wout_next {nm : ByteArray} {rows : List RawT} {i : Nat} {r : RawT} (hr : rows[i]? = some r) : woutL nm (rows.take (i + 1)) = woutL nm (rows.take i) ++ (if (r.name.toList == nm.toList) = true then [] else [r]) := by
  unfold woutL
  rw [List.take_add_one, hr, List.filter_append]
  cases hE : (r.name.toList == nm.toList) <;> simp [hE]
set_option maxRecDepth 100000 in
set_option maxHeartbeats 2000000 in
theorem c_ref28Without (p : Option Addr) (cap : Nat) (rows : List RawT) (nm : ByteArray) (w : World) (h : RawsIn w p rows) (hmx : rows.length ≤ 100) :
    Calls Tryz.prog 52 #[.agg #[.slice p rows.length cap], .string nm] w fun e w' => ∃ p' c', e = .returned (.agg #[.slice p' (woutL nm rows).length c']) ∧ Below w.heap.size w w' ∧ RawsIn w' p' (woutL nm rows) := by
  obtain ⟨i0, hi0, hz0, hz1, hz2⟩ := info_parts Tryz.infoRaw
  obtain ⟨R, hR⟩ : ∃ R, woutL nm rows = R := ⟨_, rfl⟩
  rw [hR]
  have hRes := Lib.hid hR
  clear hR
  obtain ⟨B0, hB1, hB2⟩ : ∃ B0, w.heap.size + 3 ≤ B0 ∧ B0 ≤ w.heap.size + 3 := ⟨_, Nat.le_refl _, Nat.le_refl _⟩
  have hwB : w.heap.size ≤ B0 := by omega
  go_enter Tryz.func52, Tryz.ntmps52
  go_upto_region 2 with (fail)
  refine wp_cutB w (Bc w.heap.size #[.slice p rows.length cap] 27 <| Bc (w.heap.size + 1) #[.slice none 0 0] 27 <| Bc (w.heap.size + 1 + 1) #[.slice none 0 0] 27 <| Bz) ?_
  rintro W1 hW z2 ⟨⟨b1, yb1, k1, f1⟩, ⟨b2, yb2, k2, f2⟩, ⟨b3, yb3, k3, f3⟩, -⟩
  go_wp2
  clear k1 f1 k2 f2 k3 f3
  refine wp_loop (wouRel w p cap rows nm B0) (fun a' _ => rows.length - (intAt (a'.tmps.getD 11 undef)).toNat) ?_ ?_
  · unfold wouRel
    exact ⟨hW, b1, b2, 0, none, 0, [], frame_ex rfl, b3, OwnR.nil _ _ _ _, rfl, ⟨fun x hx => by cases hx⟩, Nat.zero_le _⟩
  clear b1 b2 b3 hW
  rintro a' W ⟨hW, b1, b2, i, vp, vc, RL, ⟨u, rfl⟩, b3, hown, hmap, hK, hi'⟩
  have hz := hW.size
  have yb1 := b1.lt
  have yb2 := b2.lt
  have yb3 := b3.lt
  replace hK := Lib.hid hK
  have hRLn : RL.length ≤ 100 := by
    have h1 := congrArg List.length hmap
    rw [List.length_map] at h1
    have h2 : (woutL nm (rows.take i)).length ≤ (rows.take i).length := List.length_filter_le _ _
    rw [List.length_take] at h2
    omega
  rcases Nat.lt_or_ge i rows.length with hlt | hge
  · obtain ⟨r0, tr⟩ : ∃ x, rows[i]? = some x := ⟨rows[i]'(by omega), List.getElem?_eq_getElem (by omega)⟩
    have hn0 := wout_next (nm := nm) tr
    obtain ⟨b0, o0, p0, c0, rfl, hcs0, hpt0⟩ := h.at' i _ tr
    have hcs : ∀ j v, (rawA r0 p0 c0)[j]? = some v → W.cell? ⟨b0, o0 + i * 6 + j, none⟩ = some v := fun j v hv => ((bcell hW).1 b0 _ (cell_lt (hcs0 j v hv))).trans (hcs0 j v hv)
    clear hcs0
    have q0 : W.cell? ⟨b0, o0 + i * 6, none⟩ = some (.string r0.name) := hcs 0 _ rfl
    have q1 : W.cell? ⟨b0, o0 + i * 6 + 1, none⟩ = some (.int .i64 r0.eps) := hcs 1 _ rfl
    have q2 : W.cell? ⟨b0, o0 + i * 6 + 2, none⟩ = some (.int .i64 r0.floor) := hcs 2 _ rfl
    have q3 : W.cell? ⟨b0, o0 + i * 6 + 3, none⟩ = some (.int .i64 r0.last) := hcs 3 _ rfl
    have q4 : W.cell? ⟨b0, o0 + i * 6 + 4, none⟩ = some (.int .i64 r0.scale) := hcs 4 _ rfl
    have q5 : W.cell? ⟨b0, o0 + i * 6 + 5, none⟩ = some (.slice p0 r0.pts.length c0) := hcs 5 _ rfl
    have zq := cell_lt q0
    try simp only at zq
    clear hcs
    clear h
    replace hpt0 := Lib.hid hpt0
    cases hE : (r0.name.toList == nm.toList) with
    | true =>
      rw [hE, if_pos rfl, List.append_nil, ← hmap] at hn0
      have hnext := Lib.hid hn0.symm
      clear hn0 hmap
      have k1 := b1.cell
      have f1 := b1.frozen
      have k2 := b2.cell
      have f2 := b2.frozen
      have k3 := b3.cell
      have f3 := b3.frozen
      go_upto_region 5 with (fail)
      clear k1 f1 k2 f2 k3 f3
      refine wp_cutB w (Bc w.heap.size #[.slice (some ⟨b0, o0, none⟩) rows.length cap] 27 <| Bc (w.heap.size + 1) #[.slice none 0 0] 27 <| Bc (w.heap.size + 1 + 1) #[.slice vp RL.length vc] 27 <| Bc W.heap.size #[.string r0.name, .int .i64 r0.eps, .int .i64 r0.floor, .int .i64 r0.last, .int .i64 r0.scale, .slice p0 r0.pts.length c0] 35 <| Rc (fun W' => OwnR W' B0 35 6 (.slice vp RL.length vc) RL.length (flatRaws RL)) <| Bz) ?_ (hI := by exact belowAny) (hR := (Bc.mk (by exact blkAny2) <| Bc.mk (by exact blkAny2) <| Bc.mk (by exact blkAny2) <| Bc.mk (by exact blkAny2) <| Rc.mk (by exact hown.below (by exact belowAny)) <| trivial))
      clear b1 b2 b3 hW
      rintro W21 hW z22 ⟨⟨b1, yb1, k1, f1⟩, ⟨b2, yb2, k2, f2⟩, ⟨b3, yb3, k3, f3⟩, ⟨b4, yb4, k4, f4⟩, b5, -⟩
      go_wp2
      have hw1 : wrap64 ((i : Int) + 1) = (i : Int) + 1 := by simp only [wrap64_eq]; omega
      try simp only [hw1]
      clear hmx hw1
      refine ⟨?_, by simp [intAt]; omega⟩
      unfold wouRel
      exact ⟨hW, b1, b2, i + 1, vp, vc, RL, frame_ex rfl, b3, b5, hnext.out, hK.out, hlt⟩
    | false =>
      rw [hE, if_neg (by decide), ← hmap] at hn0
      have hnext := Lib.hid (show (RL ++ [(⟨r0, p0, c0⟩ : RawR)]).map (·.r) = woutL nm (rows.take (i + 1)) by rw [hn0, List.map_append]; rfl)
      clear hn0 hmap
      have k1 := b1.cell
      have f1 := b1.frozen
      have k2 := b2.cell
      have f2 := b2.frozen
      have k3 := b3.cell
      have f3 := b3.frozen
      go_upto_region 5 with (fail)
      clear k1 f1 k2 f2 k3 f3
      refine wp_cutB w (Bc w.heap.size #[.slice (some ⟨b0, o0, none⟩) rows.length cap] 27 <| Bc (w.heap.size + 1) #[.slice none 0 0] 27 <| Bc (w.heap.size + 1 + 1) #[.slice vp RL.length vc] 27 <| Bc W.heap.size #[.string r0.name, .int .i64 r0.eps, .int .i64 r0.floor, .int .i64 r0.last, .int .i64 r0.scale, .slice p0 r0.pts.length c0] 35 <| Rc (fun W' => OwnR W' B0 35 6 (.slice vp RL.length vc) RL.length (flatRaws RL)) <| Bz) ?_ (hI := by exact belowAny) (hR := (Bc.mk (by exact blkAny2) <| Bc.mk (by exact blkAny2) <| Bc.mk (by exact blkAny2) <| Bc.mk (by exact blkAny2) <| Rc.mk (by exact hown.below (by exact belowAny)) <| trivial))
      clear b1 b2 b3 hW
      rintro W21 hW z22 ⟨⟨b1, yb1, k1, f1⟩, ⟨b2, yb2, k2, f2⟩, ⟨b3, yb3, k3, f3⟩, ⟨b4, yb4, k4, f4⟩, b5, -⟩
      go_upto_region 6 with (fail)
      have hown := b5
      have hBw : B0 ≤ W21.heap.size := by omega
      have hwo : w.heap.size ≤ w.heap.size + 1 + 1 := by omega
      go_wp2_with (at_builtin; refine wpList_append_own _ rfl (.tmp 20) (.tmp 22) 25 rfl B0 35 i0 _ 6 72 (by kernel_rfl) hi0 hz0 hz1 hz2 rfl (by omega) _ RL.length (flatRaws RL) rfl (hown.own.alloc _) ⟨W21.heap.size, 0, none⟩ 1 1 (rawRA (⟨r0, p0, c0⟩ : RawR)).toList rfl rfl (fun j u hu => raw_news (⟨r0, p0, c0⟩ : RawR) (Blk.new' rfl) hu) (by simp [Value.oneCell', rawRA, rawA]) (by simp [maxLen]; omega) (by omega) (by simp; omega) ?_)
      intro v9 w9 hown2 hgr _
      obtain ⟨p9, c9, rfl, -, -, -, -⟩ := (OwnR.mk hown2).form
      obtain ⟨eB, eO, eR, eK⟩ := app_raw (⟨r0, p0, c0⟩ : RawR) hW hBw hwB b3 hwo hown hown2 hgr
      have d1 := eK _ _ _ b1 (by omega) (fun e => by have := (hown.own.lt _ e).1; omega)
      have d2 := eK _ _ _ b2 (by omega) (fun e => by have := (hown.own.lt _ e).1; omega)
      have HH := Lib.hid (And.intro d1 (And.intro d2 (And.intro eB (And.intro eO eR))))
      have k3' := (Blk.grown b3 hown.own (by decide) hgr).cell
      have f3' := (Blk.grown b3 hown.own (by decide) hgr).frozen
      have yb3' := (Blk.grown b3 hown.own (by decide) hgr).lt
      clear d1 d2 eB eO eR eK hown2 hgr b1 b2 b3 b4 b5 hown hW k1 f1 k2 f2 k3 f3 k4 f4
      go_wp2
      obtain ⟨d1, d2, eB, eO, eR⟩ := HH.out
      have hw1 : wrap64 ((i : Int) + 1) = (i : Int) + 1 := by simp only [wrap64_eq]; omega
      try simp only [hw1]
      clear hmx hw1
      refine ⟨?_, by simp [intAt]; omega⟩
      unfold wouRel
      exact ⟨eB, d1, d2, i + 1, p9, c9, RL ++ [⟨r0, p0, c0⟩], frame_ex rfl, eO, eR, hnext.out, hK.out.snoc (x := ⟨r0, p0, c0⟩) hpt0.out, hlt⟩
  · have hlen : rows.length ≤ i := hge
    have hdone := Lib.hid (show RL.map (·.r) = woutL nm rows by rw [hmap, List.take_of_length_le hge])
    clear hmap h
    have k1 := b1.cell
    have f1 := b1.frozen
    have k2 := b2.cell
    have f2 := b2.frozen
    have k3 := b3.cell
    have f3 := b3.frozen
    replace hown := Lib.hid hown
    go_wp2
    have d2 := b2.set2 (i := 0) (v := .slice vp RL.length vc) (cs' := #[.slice vp RL.length vc]) rfl
    have d0 := d2.cell 0
    simp only [List.getElem?_toArray, List.getElem?_cons_zero] at d0
    have hB9 : Below w.heap.size w (W.setCell ⟨w.heap.size + 1, 0, none⟩ (.slice vp RL.length vc)) := hW.setCell (by simp) _
    have hl9 : RL.length = R.length := by rw [← hRes.out, ← hdone.out, List.length_map]
    refine bodyPost_ret (v := .agg #[.slice vp RL.length vc]) (by simp [results, Tryz.results52, go_sem, d0]) rfl ⟨vp, vc, by rw [hl9], hB9, ?_⟩
    rw [← hRes.out, ← hdone.out]
    exact (hown.out.setX (fun e => by have := (hown.out.own.lt _ e).1; omega)).rawsP (hK.out.below hB9)
end Go.Proofs.YtdeghcgakkhbmaaGreat
namespace Go.Proofs.YtdeghcgakkhbmaaGreat
open Go.RowKit
/-- is a name no later than another one? -/
def leN (a b : ByteArray) : Bool := Op.bytesLess a.toList b.toList || (a.toList == b.toList)
def wiS (y : RawT) (s : List RawT × Bool) (x : RawT) : List RawT × Bool :=
  (s.1 ++ (if (!s.2 && leN y.name x.name) = true then [y] else []) ++ (if (x.name.toList == y.name.toList) = true then [] else [x]), s.2 || leN y.name x.name)
def wiL (y : RawT) (l : List RawT) : List RawT × Bool := l.foldl (wiS y) ([], false)
def withL (y : RawT) (l : List RawT) : List RawT := if (wiL y l).2 = true then (wiL y l).1 else (wiL y l).1 ++ [y]
theorem wi_next {y : RawT} {rows : List RawT} {i : Nat} {x : RawT} (hr : rows[i]? = some x) : wiL y (rows.take (i + 1)) = wiS y (wiL y (rows.take i)) x := by
  unfold wiL
  rw [List.take_add_one, hr, List.foldl_append]
  rfl
def wiRel (w : World) (p : Option Addr) (cap : Nat) (rows : List RawT) (y : RawT) (py : Option Addr) (cy : Nat) (B0 : Nat) (a' : Act) (W : World) : Prop :=
  Below w.heap.size w W ∧ ∃ (i : Nat) (dn : Bool) (vp : Option Addr) (vc : Nat) (RL : List RawR), (∃ u : Nat → Value, a' = { tmps := #[u 0, u 1, .pointer (some ⟨w.heap.size, 0, none⟩), .pointer (some ⟨(w.heap.size + 1), 0, none⟩), .pointer (some ⟨(w.heap.size + 1 + 1), 0, none⟩), .pointer (some ⟨(w.heap.size + 1 + 1 + 1), 0, none⟩), .bool dn, u 7, u 8, u 9, .slice p rows.length cap, .int .i64 (rows.length : Int), .int .i64 (i : Int), u 13, u 14, u 15, u 16, u 17, u 18, u 19, u 20, u 21, u 22, u 23, u 24, u 25, u 26, u 27, u 28, u 29, u 30, u 31, u 32, u 33, u 34, u 35, u 36, u 37, u 38, u 39, u 40, u 41, u 42, u 43, u 44, u 45, u 46, u 47, u 48, u 49, u 50, u 51], defers := [] }) ∧ Blk W w.heap.size #[.slice p rows.length cap] 27 ∧ Blk W (w.heap.size + 1) #[.string y.name, .int .i64 y.eps, .int .i64 y.floor, .int .i64 y.last, .int .i64 y.scale, .slice py y.pts.length cy] 35 ∧ Blk W (w.heap.size + 1 + 1) #[.slice none 0 0] 27 ∧ Blk W (w.heap.size + 1 + 1 + 1) #[.slice vp RL.length vc] 27 ∧ OwnR W B0 35 6 (.slice vp RL.length vc) RL.length (flatRaws RL) ∧ wiL y (rows.take i) = (RL.map (·.r), dn) ∧ RawPt w RL ∧ i ≤ rows.length
theorem wi_len {y : RawT} : ∀ {l : List RawT} {s s' : List RawT × Bool}, l.foldl (wiS y) s = s' → s'.1.length ≤ s.1.length + 2 * l.length
  | [], s, s', h => by
    subst h
    simp
  | x :: l, s, s', h => by
    have h1 := wi_len (l := l) (s := wiS y s x) (s' := s') h
    have h2 : (wiS y s x).1.length ≤ s.1.length + 2 := by
      unfold wiS
      simp only [List.length_append]
      split <;> split <;> simp
    rw [List.length_cons]
    omega
set_option maxRecDepth 100000 in
set_option maxHeartbeats 2000000 in
theorem c_ref28With (p : Option Addr) (cap : Nat) (rows : List RawT) (y : RawT) (py : Option Addr) (cy : Nat) (w : World) (h : RawsIn w p rows) (hy : PtsIn w py y.pts ∧ y.pts.length ≤ cy ∧ (py = none → cy = 0)) (hmx : rows.length ≤ 100) :
    Calls Tryz.prog 54 #[.agg #[.slice p rows.length cap], .agg #[.string y.name, .int .i64 y.eps, .int .i64 y.floor, .int .i64 y.last, .int .i64 y.scale, .slice py y.pts.length cy]] w fun e w' => ∃ p' c', e = .returned (.agg #[.slice p' (withL y rows).length c']) ∧ Below w.heap.size w w' ∧ RawsIn w' p' (withL y rows) := by
  obtain ⟨i0, hi0, hz0, hz1, hz2⟩ := info_parts Tryz.infoRaw
  obtain ⟨R, hR⟩ : ∃ R, withL y rows = R := ⟨_, rfl⟩
  rw [hR]
  have hRes := Lib.hid hR
  clear hR
  replace hy := Lib.hid hy
  obtain ⟨B0, hB1, hB2⟩ : ∃ B0, w.heap.size + 4 ≤ B0 ∧ B0 ≤ w.heap.size + 4 := ⟨_, Nat.le_refl _, Nat.le_refl _⟩
  have hwB : w.heap.size ≤ B0 := by omega
  go_enter Tryz.func54, Tryz.ntmps54
  go_upto_region 3 with (fail)
  refine wp_cutB w (Bc w.heap.size #[.slice p rows.length cap] 27 <| Bc (w.heap.size + 1) #[.string y.name, .int .i64 y.eps, .int .i64 y.floor, .int .i64 y.last, .int .i64 y.scale, .slice py y.pts.length cy] 35 <| Bc (w.heap.size + 1 + 1) #[.slice none 0 0] 27 <| Bc (w.heap.size + 1 + 1 + 1) #[.slice none 0 0] 27 <| Bz) ?_
  rintro W1 hW z2 ⟨⟨b1, yb1, k1, f1⟩, ⟨b2, yb2, k2, f2⟩, ⟨b3, yb3, k3, f3⟩, ⟨b4, yb4, k4, f4⟩, -⟩
  go_wp2
  clear k1 f1 k2 f2 k3 f3 k4 f4
  refine wp_loop (wiRel w p cap rows y py cy B0) (fun a' _ => rows.length - (intAt (a'.tmps.getD 12 undef)).toNat) ?_ ?_
  · unfold wiRel
    exact ⟨hW, 0, false, none, 0, [], frame_ex rfl, b1, b2, b3, b4, OwnR.nil _ _ _ _, rfl, ⟨fun x hx => by cases hx⟩, Nat.zero_le _⟩
  clear b1 b2 b3 b4 hW
  rintro a' W ⟨hW, i, dn, vp, vc, RL, ⟨u, rfl⟩, b1, b2, b3, b4, hown, hmap, hK, hi'⟩
  have hz := hW.size
  have yb1 := b1.lt
  have yb2 := b2.lt
  have yb3 := b3.lt
  have yb4 := b4.lt
  replace hK := Lib.hid hK
  have hRLn : RL.length ≤ 200 := by
    have h1 := wi_len (l := rows.take i) hmap
    simp only [List.length_map, List.length_take, List.length_nil] at h1
    omega
  rcases Nat.lt_or_ge i rows.length with hlt | hge
  · obtain ⟨r0, tr⟩ : ∃ x, rows[i]? = some x := ⟨rows[i]'(by omega), List.getElem?_eq_getElem (by omega)⟩
    have hn0 := wi_next (y := y) tr
    rw [hmap] at hn0
    obtain ⟨b0, o0, p0, c0, rfl, hcs0, hpt0⟩ := h.at' i _ tr
    have hcs : ∀ j v, (rawA r0 p0 c0)[j]? = some v → W.cell? ⟨b0, o0 + i * 6 + j, none⟩ = some v := fun j v hv => ((bcell hW).1 b0 _ (cell_lt (hcs0 j v hv))).trans (hcs0 j v hv)
    clear hcs0
    have q0 : W.cell? ⟨b0, o0 + i * 6, none⟩ = some (.string r0.name) := hcs 0 _ rfl
    have q1 : W.cell? ⟨b0, o0 + i * 6 + 1, none⟩ = some (.int .i64 r0.eps) := hcs 1 _ rfl
    have q2 : W.cell? ⟨b0, o0 + i * 6 + 2, none⟩ = some (.int .i64 r0.floor) := hcs 2 _ rfl
    have q3 : W.cell? ⟨b0, o0 + i * 6 + 3, none⟩ = some (.int .i64 r0.last) := hcs 3 _ rfl
    have q4 : W.cell? ⟨b0, o0 + i * 6 + 4, none⟩ = some (.int .i64 r0.scale) := hcs 4 _ rfl
    have q5 : W.cell? ⟨b0, o0 + i * 6 + 5, none⟩ = some (.slice p0 r0.pts.length c0) := hcs 5 _ rfl
    have zq := cell_lt q0
    try simp only at zq
    clear hcs
    clear h hmap
    replace hpt0 := Lib.hid hpt0
    have hEB : (r0.name.toList == y.name.toList) = (y.name.toList == r0.name.toList) := BEq.comm
    cases dn with
    | true =>
      cases hB : (y.name.toList == r0.name.toList) with
      | true =>
        have hE : (r0.name.toList == y.name.toList) = true := hEB.trans hB
        clear hEB
        have hnx := Lib.hid (fun (l : List RawR) (hl : l = RL) => (show wiL y (rows.take (i + 1)) = ((l).map (·.r), true) by
          rw [hn0, hl]
          simp [wiS, leN, hE, hB]))
        clear hn0
        have k1 := b1.cell
        have f1 := b1.frozen
        have k2 := b2.cell
        have f2 := b2.frozen
        have k3 := b3.cell
        have f3 := b3.frozen
        have k4 := b4.cell
        have f4 := b4.frozen
        have hown' := hown
        go_upto_region 6 with (fail)
        clear k1 f1 k2 f2 k3 f3 k4 f4
        refine wp_cutB w (Bc w.heap.size #[.slice (some ⟨b0, o0, none⟩) rows.length cap] 27 <| Bc (w.heap.size + 1) #[.string y.name, .int .i64 y.eps, .int .i64 y.floor, .int .i64 y.last, .int .i64 y.scale, .slice py y.pts.length cy] 35 <| Bc (w.heap.size + 1 + 1) #[.slice none 0 0] 27 <| Bc (w.heap.size + 1 + 1 + 1) #[.slice vp RL.length vc] 27 <| Bc W.heap.size #[.string r0.name, .int .i64 r0.eps, .int .i64 r0.floor, .int .i64 r0.last, .int .i64 r0.scale, .slice p0 r0.pts.length c0] 35 <| Rc (fun W' => OwnR W' B0 35 6 (.slice vp RL.length vc) RL.length (flatRaws RL)) <| Bz) ?_ (hI := by exact belowAny) (hR := (Bc.mk (by exact blkAny2) <| Bc.mk (by exact blkAny2) <| Bc.mk (by exact blkAny2) <| Bc.mk (by exact blkAny2) <| Bc.mk (by exact blkAny2) <| Rc.mk (by exact hown.below (by exact belowAny)) <| trivial))
        clear b1 b2 b3 b4 hW
        rintro W21 hW z22 ⟨⟨b1, yb1, k1, f1⟩, ⟨b2, yb2, k2, f2⟩, ⟨b3, yb3, k3, f3⟩, ⟨b4, yb4, k4, f4⟩, ⟨b5, yb5, k5, f5⟩, b6, -⟩
        have hxW : (Value.slice vp RL.length vc).ownBlock ≠ some W.heap.size := fun e => by have := (hown'.own.lt _ e).2; omega
        clear hown hown'
        have hown := b6
        clear b6
        have hBw : B0 ≤ W21.heap.size := by omega
        have hwo : w.heap.size ≤ w.heap.size + 1 + 1 + 1 := by omega
        replace hown := Lib.hid hown
        go_wp2
        have hw1 : wrap64 ((i : Int) + 1) = (i : Int) + 1 := by simp only [wrap64_eq]; omega
        try simp only [hw1]
        clear hmx hw1
        refine ⟨?_, by simp [intAt]; omega⟩
        unfold wiRel
        exact ⟨hW, i + 1, true, vp, vc, RL, frame_ex rfl, b1, b2, b3, b4, hown.out, hnx.out _ rfl, hK.out, hlt⟩
      | false =>
        have hE : (r0.name.toList == y.name.toList) = false := hEB.trans hB
        clear hEB
        have hnx := Lib.hid (fun (l : List RawR) (hl : l = RL) => (show wiL y (rows.take (i + 1)) = ((l ++ [(⟨r0, p0, c0⟩ : RawR)]).map (·.r), true) by
          rw [hn0, hl]
          simp [wiS, leN, hE, hB]))
        clear hn0
        have k1 := b1.cell
        have f1 := b1.frozen
        have k2 := b2.cell
        have f2 := b2.frozen
        have k3 := b3.cell
        have f3 := b3.frozen
        have k4 := b4.cell
        have f4 := b4.frozen
        have hown' := hown
        go_upto_region 6 with (fail)
        clear k1 f1 k2 f2 k3 f3 k4 f4
        refine wp_cutB w (Bc w.heap.size #[.slice (some ⟨b0, o0, none⟩) rows.length cap] 27 <| Bc (w.heap.size + 1) #[.string y.name, .int .i64 y.eps, .int .i64 y.floor, .int .i64 y.last, .int .i64 y.scale, .slice py y.pts.length cy] 35 <| Bc (w.heap.size + 1 + 1) #[.slice none 0 0] 27 <| Bc (w.heap.size + 1 + 1 + 1) #[.slice vp RL.length vc] 27 <| Bc W.heap.size #[.string r0.name, .int .i64 r0.eps, .int .i64 r0.floor, .int .i64 r0.last, .int .i64 r0.scale, .slice p0 r0.pts.length c0] 35 <| Rc (fun W' => OwnR W' B0 35 6 (.slice vp RL.length vc) RL.length (flatRaws RL)) <| Bz) ?_ (hI := by exact belowAny) (hR := (Bc.mk (by exact blkAny2) <| Bc.mk (by exact blkAny2) <| Bc.mk (by exact blkAny2) <| Bc.mk (by exact blkAny2) <| Bc.mk (by exact blkAny2) <| Rc.mk (by exact hown.below (by exact belowAny)) <| trivial))
        clear b1 b2 b3 b4 hW
        rintro W21 hW z22 ⟨⟨b1, yb1, k1, f1⟩, ⟨b2, yb2, k2, f2⟩, ⟨b3, yb3, k3, f3⟩, ⟨b4, yb4, k4, f4⟩, ⟨b5, yb5, k5, f5⟩, b6, -⟩
        have hxW : (Value.slice vp RL.length vc).ownBlock ≠ some W.heap.size := fun e => by have := (hown'.own.lt _ e).2; omega
        clear hown hown'
        have hown := b6
        clear b6
        have hBw : B0 ≤ W21.heap.size := by omega
        have hwo : w.heap.size ≤ w.heap.size + 1 + 1 + 1 := by omega
        go_upto_region 9 with (fail)
        go_wp2_with (at_builtin; refine wpList_append_own _ rfl (.tmp 37) (.tmp 39) 25 rfl B0 35 i0 _ 6 72 (by kernel_rfl) hi0 hz0 hz1 hz2 rfl (by omega) _ RL.length (flatRaws RL) rfl (hown.own.alloc _) ⟨W21.heap.size, 0, none⟩ 1 1 (rawRA (⟨r0, p0, c0⟩ : RawR)).toList rfl rfl (fun j u hu => raw_news (⟨r0, p0, c0⟩ : RawR) (Blk.new' rfl) hu) (by simp [Value.oneCell', rawRA, rawA]) (by simp [maxLen]; omega) (by omega) (by simp; omega) ?_)
        intro v9 w9 hown2 hgr _
        obtain ⟨p9, c9, rfl, -, -, -, -⟩ := (OwnR.mk hown2).form
        obtain ⟨eB, eO, eR, eK⟩ := app_raw (⟨r0, p0, c0⟩ : RawR) hW hBw hwB b4 hwo hown hown2 hgr
        have k9 := (Blk.grown b4 hown.own (by decide) hgr).cell
        have f9 := (Blk.grown b4 hown.own (by decide) hgr).frozen
        have y9 := (Blk.grown b4 hown.own (by decide) hgr).lt
        have HH := Lib.hid (And.intro (eK _ _ _ b1 (by omega) (fun e => by have := (hown.own.lt _ e).1; omega)) (And.intro (eK _ _ _ b2 (by omega) (fun e => by have := (hown.own.lt _ e).1; omega)) (And.intro (eK _ _ _ b3 (by omega) (fun e => by have := (hown.own.lt _ e).1; omega)) (And.intro eB (And.intro eO eR)))))
        clear eB eO eR eK hown2 hgr b1 b2 b3 b4 b5 hown hW k1 f1 k2 f2 k3 f3 k4 f4 k5 f5
        go_wp2
        obtain ⟨b1, b2, b3, hW, b4, hown⟩ := HH.out
        have hw1 : wrap64 ((i : Int) + 1) = (i : Int) + 1 := by simp only [wrap64_eq]; omega
        try simp only [hw1]
        clear hmx hw1
        refine ⟨?_, by simp [intAt]; omega⟩
        unfold wiRel
        exact ⟨hW, i + 1, true, p9, c9, RL ++ [(⟨r0, p0, c0⟩ : RawR)], frame_ex rfl, b1, b2, b3, b4, hown, hnx.out _ rfl, hK.out.snoc (x := (⟨r0, p0, c0⟩ : RawR)) hpt0.out, hlt⟩
    | false =>
      cases hA : Op.bytesLess y.name.toList r0.name.toList with
      | true =>
        cases hB : (y.name.toList == r0.name.toList) with
        | true =>
          have hE : (r0.name.toList == y.name.toList) = true := hEB.trans hB
          clear hEB
          have hnx := Lib.hid (fun (l : List RawR) (hl : l = RL ++ [(⟨y, py, cy⟩ : RawR)]) => (show wiL y (rows.take (i + 1)) = ((l).map (·.r), true) by
            rw [hn0, hl]
            simp [wiS, leN, hE, hB, hA]))
          clear hn0
          have k1 := b1.cell
          have f1 := b1.frozen
          have k2 := b2.cell
          have f2 := b2.frozen
          have k3 := b3.cell
          have f3 := b3.frozen
          have k4 := b4.cell
          have f4 := b4.frozen
          have hown' := hown
          go_upto_region 6 with (fail)
          clear k1 f1 k2 f2 k3 f3 k4 f4
          refine wp_cutB w (Bc w.heap.size #[.slice (some ⟨b0, o0, none⟩) rows.length cap] 27 <| Bc (w.heap.size + 1) #[.string y.name, .int .i64 y.eps, .int .i64 y.floor, .int .i64 y.last, .int .i64 y.scale, .slice py y.pts.length cy] 35 <| Bc (w.heap.size + 1 + 1) #[.slice none 0 0] 27 <| Bc (w.heap.size + 1 + 1 + 1) #[.slice vp RL.length vc] 27 <| Bc W.heap.size #[.string r0.name, .int .i64 r0.eps, .int .i64 r0.floor, .int .i64 r0.last, .int .i64 r0.scale, .slice p0 r0.pts.length c0] 35 <| Rc (fun W' => OwnR W' B0 35 6 (.slice vp RL.length vc) RL.length (flatRaws RL)) <| Bz) ?_ (hI := by exact belowAny) (hR := (Bc.mk (by exact blkAny2) <| Bc.mk (by exact blkAny2) <| Bc.mk (by exact blkAny2) <| Bc.mk (by exact blkAny2) <| Bc.mk (by exact blkAny2) <| Rc.mk (by exact hown.below (by exact belowAny)) <| trivial))
          clear b1 b2 b3 b4 hW
          rintro W21 hW z22 ⟨⟨b1, yb1, k1, f1⟩, ⟨b2, yb2, k2, f2⟩, ⟨b3, yb3, k3, f3⟩, ⟨b4, yb4, k4, f4⟩, ⟨b5, yb5, k5, f5⟩, b6, -⟩
          have hxW : (Value.slice vp RL.length vc).ownBlock ≠ some W.heap.size := fun e => by have := (hown'.own.lt _ e).2; omega
          clear hown hown'
          have hown := b6
          clear b6
          have hBw : B0 ≤ W21.heap.size := by omega
          have hwo : w.heap.size ≤ w.heap.size + 1 + 1 + 1 := by omega
          go_upto_region 7 with (fail)
          go_wp2_with (at_builtin; refine wpList_append_own _ rfl (.tmp 26) (.tmp 28) 25 rfl B0 35 i0 _ 6 72 (by kernel_rfl) hi0 hz0 hz1 hz2 rfl (by omega) _ RL.length (flatRaws RL) rfl (hown.own.alloc _) ⟨W21.heap.size, 0, none⟩ 1 1 (rawRA (⟨y, py, cy⟩ : RawR)).toList rfl rfl (fun j u hu => raw_news (⟨y, py, cy⟩ : RawR) (Blk.new' rfl) hu) (by simp [Value.oneCell', rawRA, rawA]) (by simp [maxLen]; omega) (by omega) (by simp; omega) ?_)
          intro v9 w9 hown2 hgr _
          obtain ⟨p9, c9, rfl, -, -, -, -⟩ := (OwnR.mk hown2).form
          obtain ⟨eB, eO, eR, eK⟩ := app_raw (⟨y, py, cy⟩ : RawR) hW hBw hwB b4 hwo hown hown2 hgr
          have k9 := (Blk.grown b4 hown.own (by decide) hgr).cell
          have f9 := (Blk.grown b4 hown.own (by decide) hgr).frozen
          have y9 := (Blk.grown b4 hown.own (by decide) hgr).lt
          have HH := Lib.hid (And.intro (eK _ _ _ b1 (by omega) (fun e => by have := (hown.own.lt _ e).1; omega)) (And.intro (eK _ _ _ b2 (by omega) (fun e => by have := (hown.own.lt _ e).1; omega)) (And.intro (eK _ _ _ b3 (by omega) (fun e => by have := (hown.own.lt _ e).1; omega)) (And.intro (eK _ _ _ b5 (by omega) hxW) (And.intro eB (And.intro eO eR))))))
          clear eB eO eR eK hxW hown2 hgr b1 b2 b3 b4 b5 hown hW k1 f1 k2 f2 k3 f3 k4 f4 k5 f5
          go_upto_region 8 with (fail)
          obtain ⟨b1, b2, b3, b5, hW, b4, hown⟩ := HH.out
          clear HH k9 f9 y9
          generalize World.setCell w9 _ _ = w8 at b1 b2 b3 b4 b5 hW hown ⊢
          have hz8 := hW.size
          obtain ⟨RL1, hR1⟩ : ∃ l, l = RL ++ [(⟨y, py, cy⟩ : RawR)] := ⟨_, rfl⟩
          have hl1 : RL1.length = RL.length + 1 := by rw [hR1, rl_snoc]
          rw [← hR1] at hown b4
          have hRLn1 : RL1.length ≤ 300 := by omega
          replace hR1 := Lib.hid hR1
          clear hl1
          obtain ⟨vp1, hvp1⟩ : ∃ v, v = p9 := ⟨_, rfl⟩
          obtain ⟨vc1, hvc1⟩ : ∃ v, v = c9 := ⟨_, rfl⟩
          rw [← hvp1, ← hvc1] at b4 hown
          clear hvp1 hvc1
          have hK := Lib.hid (hK.out.snoc (x := (⟨y, py, cy⟩ : RawR)) hy.out)
          rw [← hR1.out] at hK
          have yb1 := b1.lt
          have yb2 := b2.lt
          have yb3 := b3.lt
          have yb4 := b4.lt
          have yb5 := b5.lt
          have k1 := b1.cell
          have f1 := b1.frozen
          have k2 := b2.cell
          have f2 := b2.frozen
          have k3 := b3.cell
          have f3 := b3.frozen
          have k4 := b4.cell
          have f4 := b4.frozen
          have k5 := b5.cell
          have f5 := b5.frozen
          replace hBw : B0 ≤ w8.heap.size := by omega
          replace hown := Lib.hid hown
          go_wp2
          have hw1 : wrap64 ((i : Int) + 1) = (i : Int) + 1 := by simp only [wrap64_eq]; omega
          try simp only [hw1]
          clear hmx hw1
          refine ⟨?_, by simp [intAt]; omega⟩
          unfold wiRel
          exact ⟨hW, i + 1, true, vp1, vc1, RL1, frame_ex rfl, b1, b2, b3, b4, hown.out, hnx.out _ hR1.out, hK.out, hlt⟩
        | false =>
          have hE : (r0.name.toList == y.name.toList) = false := hEB.trans hB
          clear hEB
          have hnx := Lib.hid (fun (l : List RawR) (hl : l = RL ++ [(⟨y, py, cy⟩ : RawR)]) => (show wiL y (rows.take (i + 1)) = ((l ++ [(⟨r0, p0, c0⟩ : RawR)]).map (·.r), true) by
            rw [hn0, hl]
            simp [wiS, leN, hE, hB, hA]))
          clear hn0
          have k1 := b1.cell
          have f1 := b1.frozen
          have k2 := b2.cell
          have f2 := b2.frozen
          have k3 := b3.cell
          have f3 := b3.frozen
          have k4 := b4.cell
          have f4 := b4.frozen
          have hown' := hown
          go_upto_region 6 with (fail)
          clear k1 f1 k2 f2 k3 f3 k4 f4
          refine wp_cutB w (Bc w.heap.size #[.slice (some ⟨b0, o0, none⟩) rows.length cap] 27 <| Bc (w.heap.size + 1) #[.string y.name, .int .i64 y.eps, .int .i64 y.floor, .int .i64 y.last, .int .i64 y.scale, .slice py y.pts.length cy] 35 <| Bc (w.heap.size + 1 + 1) #[.slice none 0 0] 27 <| Bc (w.heap.size + 1 + 1 + 1) #[.slice vp RL.length vc] 27 <| Bc W.heap.size #[.string r0.name, .int .i64 r0.eps, .int .i64 r0.floor, .int .i64 r0.last, .int .i64 r0.scale, .slice p0 r0.pts.length c0] 35 <| Rc (fun W' => OwnR W' B0 35 6 (.slice vp RL.length vc) RL.length (flatRaws RL)) <| Bz) ?_ (hI := by exact belowAny) (hR := (Bc.mk (by exact blkAny2) <| Bc.mk (by exact blkAny2) <| Bc.mk (by exact blkAny2) <| Bc.mk (by exact blkAny2) <| Bc.mk (by exact blkAny2) <| Rc.mk (by exact hown.below (by exact belowAny)) <| trivial))
          clear b1 b2 b3 b4 hW
          rintro W21 hW z22 ⟨⟨b1, yb1, k1, f1⟩, ⟨b2, yb2, k2, f2⟩, ⟨b3, yb3, k3, f3⟩, ⟨b4, yb4, k4, f4⟩, ⟨b5, yb5, k5, f5⟩, b6, -⟩
          have hxW : (Value.slice vp RL.length vc).ownBlock ≠ some W.heap.size := fun e => by have := (hown'.own.lt _ e).2; omega
          clear hown hown'
          have hown := b6
          clear b6
          have hBw : B0 ≤ W21.heap.size := by omega
          have hwo : w.heap.size ≤ w.heap.size + 1 + 1 + 1 := by omega
          go_upto_region 7 with (fail)
          go_wp2_with (at_builtin; refine wpList_append_own _ rfl (.tmp 26) (.tmp 28) 25 rfl B0 35 i0 _ 6 72 (by kernel_rfl) hi0 hz0 hz1 hz2 rfl (by omega) _ RL.length (flatRaws RL) rfl (hown.own.alloc _) ⟨W21.heap.size, 0, none⟩ 1 1 (rawRA (⟨y, py, cy⟩ : RawR)).toList rfl rfl (fun j u hu => raw_news (⟨y, py, cy⟩ : RawR) (Blk.new' rfl) hu) (by simp [Value.oneCell', rawRA, rawA]) (by simp [maxLen]; omega) (by omega) (by simp; omega) ?_)
          intro v9 w9 hown2 hgr _
          obtain ⟨p9, c9, rfl, -, -, -, -⟩ := (OwnR.mk hown2).form
          obtain ⟨eB, eO, eR, eK⟩ := app_raw (⟨y, py, cy⟩ : RawR) hW hBw hwB b4 hwo hown hown2 hgr
          have k9 := (Blk.grown b4 hown.own (by decide) hgr).cell
          have f9 := (Blk.grown b4 hown.own (by decide) hgr).frozen
          have y9 := (Blk.grown b4 hown.own (by decide) hgr).lt
          have HH := Lib.hid (And.intro (eK _ _ _ b1 (by omega) (fun e => by have := (hown.own.lt _ e).1; omega)) (And.intro (eK _ _ _ b2 (by omega) (fun e => by have := (hown.own.lt _ e).1; omega)) (And.intro (eK _ _ _ b3 (by omega) (fun e => by have := (hown.own.lt _ e).1; omega)) (And.intro (eK _ _ _ b5 (by omega) hxW) (And.intro eB (And.intro eO eR))))))
          clear eB eO eR eK hxW hown2 hgr b1 b2 b3 b4 b5 hown hW k1 f1 k2 f2 k3 f3 k4 f4 k5 f5
          go_upto_region 8 with (fail)
          obtain ⟨b1, b2, b3, b5, hW, b4, hown⟩ := HH.out
          clear HH k9 f9 y9
          generalize World.setCell w9 _ _ = w8 at b1 b2 b3 b4 b5 hW hown ⊢
          have hz8 := hW.size
          obtain ⟨RL1, hR1⟩ : ∃ l, l = RL ++ [(⟨y, py, cy⟩ : RawR)] := ⟨_, rfl⟩
          have hl1 : RL1.length = RL.length + 1 := by rw [hR1, rl_snoc]
          rw [← hR1] at hown b4
          have hRLn1 : RL1.length ≤ 300 := by omega
          replace hR1 := Lib.hid hR1
          clear hl1
          obtain ⟨vp1, hvp1⟩ : ∃ v, v = p9 := ⟨_, rfl⟩
          obtain ⟨vc1, hvc1⟩ : ∃ v, v = c9 := ⟨_, rfl⟩
          rw [← hvp1, ← hvc1] at b4 hown
          clear hvp1 hvc1
          have hK := Lib.hid (hK.out.snoc (x := (⟨y, py, cy⟩ : RawR)) hy.out)
          rw [← hR1.out] at hK
          have yb1 := b1.lt
          have yb2 := b2.lt
          have yb3 := b3.lt
          have yb4 := b4.lt
          have yb5 := b5.lt
          have k1 := b1.cell
          have f1 := b1.frozen
          have k2 := b2.cell
          have f2 := b2.frozen
          have k3 := b3.cell
          have f3 := b3.frozen
          have k4 := b4.cell
          have f4 := b4.frozen
          have k5 := b5.cell
          have f5 := b5.frozen
          replace hBw : B0 ≤ w8.heap.size := by omega
          go_upto_region 9 with (fail)
          go_wp2_with (at_builtin; refine wpList_append_own _ rfl (.tmp 37) (.tmp 39) 25 rfl B0 35 i0 _ 6 72 (by kernel_rfl) hi0 hz0 hz1 hz2 rfl (by omega) _ RL1.length (flatRaws RL1) rfl (hown.own.alloc _) ⟨w8.heap.size, 0, none⟩ 1 1 (rawRA (⟨r0, p0, c0⟩ : RawR)).toList rfl rfl (fun j u hu => raw_news (⟨r0, p0, c0⟩ : RawR) (Blk.new' rfl) hu) (by simp [Value.oneCell', rawRA, rawA]) (by simp [maxLen]; omega) (by omega) (by simp; omega) ?_)
          intro v9 w9 hown2 hgr _
          obtain ⟨p9, c9, rfl, -, -, -, -⟩ := (OwnR.mk hown2).form
          obtain ⟨eB, eO, eR, eK⟩ := app_raw (⟨r0, p0, c0⟩ : RawR) hW hBw hwB b4 hwo hown hown2 hgr
          have k9 := (Blk.grown b4 hown.own (by decide) hgr).cell
          have f9 := (Blk.grown b4 hown.own (by decide) hgr).frozen
          have y9 := (Blk.grown b4 hown.own (by decide) hgr).lt
          have HH := Lib.hid (And.intro (eK _ _ _ b1 (by omega) (fun e => by have := (hown.own.lt _ e).1; omega)) (And.intro (eK _ _ _ b2 (by omega) (fun e => by have := (hown.own.lt _ e).1; omega)) (And.intro (eK _ _ _ b3 (by omega) (fun e => by have := (hown.own.lt _ e).1; omega)) (And.intro eB (And.intro eO eR)))))
          clear eB eO eR eK hown2 hgr b1 b2 b3 b4 b5 hown hW k1 f1 k2 f2 k3 f3 k4 f4 k5 f5
          go_wp2
          obtain ⟨b1, b2, b3, hW, b4, hown⟩ := HH.out
          have hw1 : wrap64 ((i : Int) + 1) = (i : Int) + 1 := by simp only [wrap64_eq]; omega
          try simp only [hw1]
          clear hmx hw1
          refine ⟨?_, by simp [intAt]; omega⟩
          unfold wiRel
          exact ⟨hW, i + 1, true, p9, c9, RL1 ++ [(⟨r0, p0, c0⟩ : RawR)], frame_ex rfl, b1, b2, b3, b4, hown, hnx.out _ hR1.out, hK.out.snoc (x := (⟨r0, p0, c0⟩ : RawR)) hpt0.out, hlt⟩
      | false =>
        cases hB : (y.name.toList == r0.name.toList) with
        | true =>
          have hE : (r0.name.toList == y.name.toList) = true := hEB.trans hB
          clear hEB
          have hnx := Lib.hid (fun (l : List RawR) (hl : l = RL ++ [(⟨y, py, cy⟩ : RawR)]) => (show wiL y (rows.take (i + 1)) = ((l).map (·.r), true) by
            rw [hn0, hl]
            simp [wiS, leN, hE, hB, hA]))
          clear hn0
          have k1 := b1.cell
          have f1 := b1.frozen
          have k2 := b2.cell
          have f2 := b2.frozen
          have k3 := b3.cell
          have f3 := b3.frozen
          have k4 := b4.cell
          have f4 := b4.frozen
          have hown' := hown
          go_upto_region 6 with (fail)
          clear k1 f1 k2 f2 k3 f3 k4 f4
          refine wp_cutB w (Bc w.heap.size #[.slice (some ⟨b0, o0, none⟩) rows.length cap] 27 <| Bc (w.heap.size + 1) #[.string y.name, .int .i64 y.eps, .int .i64 y.floor, .int .i64 y.last, .int .i64 y.scale, .slice py y.pts.length cy] 35 <| Bc (w.heap.size + 1 + 1) #[.slice none 0 0] 27 <| Bc (w.heap.size + 1 + 1 + 1) #[.slice vp RL.length vc] 27 <| Bc W.heap.size #[.string r0.name, .int .i64 r0.eps, .int .i64 r0.floor, .int .i64 r0.last, .int .i64 r0.scale, .slice p0 r0.pts.length c0] 35 <| Rc (fun W' => OwnR W' B0 35 6 (.slice vp RL.length vc) RL.length (flatRaws RL)) <| Bz) ?_ (hI := by exact belowAny) (hR := (Bc.mk (by exact blkAny2) <| Bc.mk (by exact blkAny2) <| Bc.mk (by exact blkAny2) <| Bc.mk (by exact blkAny2) <| Bc.mk (by exact blkAny2) <| Rc.mk (by exact hown.below (by exact belowAny)) <| trivial))
          clear b1 b2 b3 b4 hW
          rintro W21 hW z22 ⟨⟨b1, yb1, k1, f1⟩, ⟨b2, yb2, k2, f2⟩, ⟨b3, yb3, k3, f3⟩, ⟨b4, yb4, k4, f4⟩, ⟨b5, yb5, k5, f5⟩, b6, -⟩
          have hxW : (Value.slice vp RL.length vc).ownBlock ≠ some W.heap.size := fun e => by have := (hown'.own.lt _ e).2; omega
          clear hown hown'
          have hown := b6
          clear b6
          have hBw : B0 ≤ W21.heap.size := by omega
          have hwo : w.heap.size ≤ w.heap.size + 1 + 1 + 1 := by omega
          go_upto_region 7 with (fail)
          go_wp2_with (at_builtin; refine wpList_append_own _ rfl (.tmp 26) (.tmp 28) 25 rfl B0 35 i0 _ 6 72 (by kernel_rfl) hi0 hz0 hz1 hz2 rfl (by omega) _ RL.length (flatRaws RL) rfl (hown.own.alloc _) ⟨W21.heap.size, 0, none⟩ 1 1 (rawRA (⟨y, py, cy⟩ : RawR)).toList rfl rfl (fun j u hu => raw_news (⟨y, py, cy⟩ : RawR) (Blk.new' rfl) hu) (by simp [Value.oneCell', rawRA, rawA]) (by simp [maxLen]; omega) (by omega) (by simp; omega) ?_)
          intro v9 w9 hown2 hgr _
          obtain ⟨p9, c9, rfl, -, -, -, -⟩ := (OwnR.mk hown2).form
          obtain ⟨eB, eO, eR, eK⟩ := app_raw (⟨y, py, cy⟩ : RawR) hW hBw hwB b4 hwo hown hown2 hgr
          have k9 := (Blk.grown b4 hown.own (by decide) hgr).cell
          have f9 := (Blk.grown b4 hown.own (by decide) hgr).frozen
          have y9 := (Blk.grown b4 hown.own (by decide) hgr).lt
          have HH := Lib.hid (And.intro (eK _ _ _ b1 (by omega) (fun e => by have := (hown.own.lt _ e).1; omega)) (And.intro (eK _ _ _ b2 (by omega) (fun e => by have := (hown.own.lt _ e).1; omega)) (And.intro (eK _ _ _ b3 (by omega) (fun e => by have := (hown.own.lt _ e).1; omega)) (And.intro (eK _ _ _ b5 (by omega) hxW) (And.intro eB (And.intro eO eR))))))
          clear eB eO eR eK hxW hown2 hgr b1 b2 b3 b4 b5 hown hW k1 f1 k2 f2 k3 f3 k4 f4 k5 f5
          go_upto_region 8 with (fail)
          obtain ⟨b1, b2, b3, b5, hW, b4, hown⟩ := HH.out
          clear HH k9 f9 y9
          generalize World.setCell w9 _ _ = w8 at b1 b2 b3 b4 b5 hW hown ⊢
          have hz8 := hW.size
          obtain ⟨RL1, hR1⟩ : ∃ l, l = RL ++ [(⟨y, py, cy⟩ : RawR)] := ⟨_, rfl⟩
          have hl1 : RL1.length = RL.length + 1 := by rw [hR1, rl_snoc]
          rw [← hR1] at hown b4
          have hRLn1 : RL1.length ≤ 300 := by omega
          replace hR1 := Lib.hid hR1
          clear hl1
          obtain ⟨vp1, hvp1⟩ : ∃ v, v = p9 := ⟨_, rfl⟩
          obtain ⟨vc1, hvc1⟩ : ∃ v, v = c9 := ⟨_, rfl⟩
          rw [← hvp1, ← hvc1] at b4 hown
          clear hvp1 hvc1
          have hK := Lib.hid (hK.out.snoc (x := (⟨y, py, cy⟩ : RawR)) hy.out)
          rw [← hR1.out] at hK
          have yb1 := b1.lt
          have yb2 := b2.lt
          have yb3 := b3.lt
          have yb4 := b4.lt
          have yb5 := b5.lt
          have k1 := b1.cell
          have f1 := b1.frozen
          have k2 := b2.cell
          have f2 := b2.frozen
          have k3 := b3.cell
          have f3 := b3.frozen
          have k4 := b4.cell
          have f4 := b4.frozen
          have k5 := b5.cell
          have f5 := b5.frozen
          replace hBw : B0 ≤ w8.heap.size := by omega
          replace hown := Lib.hid hown
          go_wp2
          have hw1 : wrap64 ((i : Int) + 1) = (i : Int) + 1 := by simp only [wrap64_eq]; omega
          try simp only [hw1]
          clear hmx hw1
          refine ⟨?_, by simp [intAt]; omega⟩
          unfold wiRel
          exact ⟨hW, i + 1, true, vp1, vc1, RL1, frame_ex rfl, b1, b2, b3, b4, hown.out, hnx.out _ hR1.out, hK.out, hlt⟩
        | false =>
          have hE : (r0.name.toList == y.name.toList) = false := hEB.trans hB
          clear hEB
          have hnx := Lib.hid (fun (l : List RawR) (hl : l = RL) => (show wiL y (rows.take (i + 1)) = ((l ++ [(⟨r0, p0, c0⟩ : RawR)]).map (·.r), false) by
            rw [hn0, hl]
            simp [wiS, leN, hE, hB, hA]))
          clear hn0
          have k1 := b1.cell
          have f1 := b1.frozen
          have k2 := b2.cell
          have f2 := b2.frozen
          have k3 := b3.cell
          have f3 := b3.frozen
          have k4 := b4.cell
          have f4 := b4.frozen
          have hown' := hown
          go_upto_region 6 with (fail)
          clear k1 f1 k2 f2 k3 f3 k4 f4
          refine wp_cutB w (Bc w.heap.size #[.slice (some ⟨b0, o0, none⟩) rows.length cap] 27 <| Bc (w.heap.size + 1) #[.string y.name, .int .i64 y.eps, .int .i64 y.floor, .int .i64 y.last, .int .i64 y.scale, .slice py y.pts.length cy] 35 <| Bc (w.heap.size + 1 + 1) #[.slice none 0 0] 27 <| Bc (w.heap.size + 1 + 1 + 1) #[.slice vp RL.length vc] 27 <| Bc W.heap.size #[.string r0.name, .int .i64 r0.eps, .int .i64 r0.floor, .int .i64 r0.last, .int .i64 r0.scale, .slice p0 r0.pts.length c0] 35 <| Rc (fun W' => OwnR W' B0 35 6 (.slice vp RL.length vc) RL.length (flatRaws RL)) <| Bz) ?_ (hI := by exact belowAny) (hR := (Bc.mk (by exact blkAny2) <| Bc.mk (by exact blkAny2) <| Bc.mk (by exact blkAny2) <| Bc.mk (by exact blkAny2) <| Bc.mk (by exact blkAny2) <| Rc.mk (by exact hown.below (by exact belowAny)) <| trivial))
          clear b1 b2 b3 b4 hW
          rintro W21 hW z22 ⟨⟨b1, yb1, k1, f1⟩, ⟨b2, yb2, k2, f2⟩, ⟨b3, yb3, k3, f3⟩, ⟨b4, yb4, k4, f4⟩, ⟨b5, yb5, k5, f5⟩, b6, -⟩
          have hxW : (Value.slice vp RL.length vc).ownBlock ≠ some W.heap.size := fun e => by have := (hown'.own.lt _ e).2; omega
          clear hown hown'
          have hown := b6
          clear b6
          have hBw : B0 ≤ W21.heap.size := by omega
          have hwo : w.heap.size ≤ w.heap.size + 1 + 1 + 1 := by omega
          go_upto_region 9 with (fail)
          go_wp2_with (at_builtin; refine wpList_append_own _ rfl (.tmp 37) (.tmp 39) 25 rfl B0 35 i0 _ 6 72 (by kernel_rfl) hi0 hz0 hz1 hz2 rfl (by omega) _ RL.length (flatRaws RL) rfl (hown.own.alloc _) ⟨W21.heap.size, 0, none⟩ 1 1 (rawRA (⟨r0, p0, c0⟩ : RawR)).toList rfl rfl (fun j u hu => raw_news (⟨r0, p0, c0⟩ : RawR) (Blk.new' rfl) hu) (by simp [Value.oneCell', rawRA, rawA]) (by simp [maxLen]; omega) (by omega) (by simp; omega) ?_)
          intro v9 w9 hown2 hgr _
          obtain ⟨p9, c9, rfl, -, -, -, -⟩ := (OwnR.mk hown2).form
          obtain ⟨eB, eO, eR, eK⟩ := app_raw (⟨r0, p0, c0⟩ : RawR) hW hBw hwB b4 hwo hown hown2 hgr
          have k9 := (Blk.grown b4 hown.own (by decide) hgr).cell
          have f9 := (Blk.grown b4 hown.own (by decide) hgr).frozen
          have y9 := (Blk.grown b4 hown.own (by decide) hgr).lt
          have HH := Lib.hid (And.intro (eK _ _ _ b1 (by omega) (fun e => by have := (hown.own.lt _ e).1; omega)) (And.intro (eK _ _ _ b2 (by omega) (fun e => by have := (hown.own.lt _ e).1; omega)) (And.intro (eK _ _ _ b3 (by omega) (fun e => by have := (hown.own.lt _ e).1; omega)) (And.intro eB (And.intro eO eR)))))
          clear eB eO eR eK hown2 hgr b1 b2 b3 b4 b5 hown hW k1 f1 k2 f2 k3 f3 k4 f4 k5 f5
          go_wp2
          obtain ⟨b1, b2, b3, hW, b4, hown⟩ := HH.out
          have hw1 : wrap64 ((i : Int) + 1) = (i : Int) + 1 := by simp only [wrap64_eq]; omega
          try simp only [hw1]
          clear hmx hw1
          refine ⟨?_, by simp [intAt]; omega⟩
          unfold wiRel
          exact ⟨hW, i + 1, false, p9, c9, RL ++ [(⟨r0, p0, c0⟩ : RawR)], frame_ex rfl, b1, b2, b3, b4, hown, hnx.out _ rfl, hK.out.snoc (x := (⟨r0, p0, c0⟩ : RawR)) hpt0.out, hlt⟩
  · have hlen : rows.length ≤ i := hge
    rw [List.take_of_length_le hge] at hmap
    clear h
    cases dn with
    | true =>
      have hdone := Lib.hid (show RL.map (·.r) = withL y rows by unfold withL; rw [hmap]; rfl)
      clear hmap
      have k1 := b1.cell
      have f1 := b1.frozen
      have k2 := b2.cell
      have f2 := b2.frozen
      have k3 := b3.cell
      have f3 := b3.frozen
      have k4 := b4.cell
      have f4 := b4.frozen
      replace hown := Lib.hid hown
      go_wp2
      have d2 := b3.set2 (i := 0) (v := .slice vp RL.length vc) (cs' := #[.slice vp RL.length vc]) rfl
      have d0 := d2.cell 0
      simp only [List.getElem?_toArray, List.getElem?_cons_zero] at d0
      have hB9 : Below w.heap.size w (W.setCell ⟨w.heap.size + 1 + 1, 0, none⟩ (.slice vp RL.length vc)) := hW.setCell (by simp; omega) _
      have hl9 : RL.length = R.length := by rw [← hRes.out, ← hdone.out, List.length_map]
      refine bodyPost_ret (v := .agg #[.slice vp RL.length vc]) (by simp [results, Tryz.results54, go_sem, d0]) rfl ⟨vp, vc, by rw [hl9], hB9, ?_⟩
      rw [← hRes.out, ← hdone.out]
      exact (hown.out.setX (fun e => by have := (hown.out.own.lt _ e).1; omega)).rawsP (hK.out.below hB9)
    | false =>
      have hdone := Lib.hid (show RL.map (·.r) ++ [y] = withL y rows by unfold withL; rw [hmap]; rfl)
      clear hmap
      have k1 := b1.cell
      have f1 := b1.frozen
      have k2 := b2.cell
      have f2 := b2.frozen
      have k3 := b3.cell
      have f3 := b3.frozen
      have k4 := b4.cell
      have f4 := b4.frozen
      have hBw : B0 ≤ W.heap.size := by omega
      have hwo : w.heap.size ≤ w.heap.size + 1 + 1 + 1 := by omega
      go_upto_region 12 with (fail)
      go_wp2_with (at_builtin; refine wpList_append_own _ rfl (.tmp 46) (.tmp 48) 25 rfl B0 35 i0 _ 6 72 (by kernel_rfl) hi0 hz0 hz1 hz2 rfl (by omega) _ RL.length (flatRaws RL) rfl (hown.own.alloc _) ⟨W.heap.size, 0, none⟩ 1 1 (rawRA (⟨y, py, cy⟩ : RawR)).toList rfl rfl (fun j u hu => raw_news (⟨y, py, cy⟩ : RawR) (Blk.new' rfl) hu) (by simp [Value.oneCell', rawRA, rawA]) (by simp [maxLen]; omega) (by omega) (by simp; omega) ?_)
      intro v9 w9 hown2 hgr _
      obtain ⟨p9, c9, rfl, -, -, -, -⟩ := (OwnR.mk hown2).form
      obtain ⟨eB, eO, eR, eK⟩ := app_raw (⟨y, py, cy⟩ : RawR) hW hBw hwB b4 hwo hown hown2 hgr
      have k9 := (Blk.grown b4 hown.own (by decide) hgr).cell
      have f9 := (Blk.grown b4 hown.own (by decide) hgr).frozen
      have y9 := (Blk.grown b4 hown.own (by decide) hgr).lt
      have HH := Lib.hid (And.intro (eK _ _ _ b3 (by omega) (fun e => by have := (hown.own.lt _ e).1; omega)) (And.intro eB (And.intro eO eR)))
      clear eB eO eR eK hown2 hgr b1 b2 b3 b4 hown hW k1 f1 k2 f2 k3 f3 k4 f4
      go_upto_region 13 with (fail)
      obtain ⟨b3, hW, b4, hown⟩ := HH.out
      clear HH k9 f9 y9
      generalize World.setCell w9 _ _ = w8 at b3 b4 hW hown ⊢
      have k3 := b3.cell
      have f3 := b3.frozen
      have y3 := b3.lt
      have k4 := b4.cell
      have f4 := b4.frozen
      have y4 := b4.lt
      have hz8 := hW.size
      replace hown := Lib.hid hown
      go_wp2
      have d2 := b3.set2 (i := 0) (v := .slice p9 (RL.length + 1) c9) (cs' := #[.slice p9 (RL.length + 1) c9]) rfl
      have d0 := d2.cell 0
      simp only [List.getElem?_toArray, List.getElem?_cons_zero] at d0
      have hB9 : Below w.heap.size w (w8.setCell ⟨w.heap.size + 1 + 1, 0, none⟩ (.slice p9 (RL.length + 1) c9)) := hW.setCell (by simp; omega) _
      have hl9 : RL.length + 1 = R.length := by rw [← hRes.out, ← hdone.out, List.length_append, List.length_map]; rfl
      refine bodyPost_ret (v := .agg #[.slice p9 (RL.length + 1) c9]) (by simp [results, Tryz.results54, go_sem, d0]) rfl ⟨p9, c9, by rw [hl9], hB9, ?_⟩
      have hm9 : (RL ++ [(⟨y, py, cy⟩ : RawR)]).map (·.r) = R := by rw [← hRes.out, ← hdone.out, List.map_append]; rfl
      rw [← hm9]
      exact (hown.out.setX (fun e => by have := (hown.out.own.lt _ e).1; omega)).rawsP ((hK.out.snoc (x := (⟨y, py, cy⟩ : RawR)) hy.out).below hB9)
end Go.Proofs.YtdeghcgakkhbmaaGreat
