/- For every raw series and everything said that comes in: ModelStrict returns true; the arguments read as before. No condition. -/
import Derived.Test.YtdeghcgakkhbmaaGreatSr17
set_option linter.unusedSimpArgs false
set_option linter.unusedVariables false
namespace Go.Proofs.YtdeghcgakkhbmaaGreat
open Go.ChangeShapes Go.WideShapes Go.ChangeAt Go.RowKit Go.Deep
section
variable {H : Type} {enc : TypeId × Value → H} {w : World} {base : Nat} {spare : Nat → Bool} {held : Bool}
theorem Tryz.fieldsRaw : fieldsOf Tryz.prog 35 = #[(9, 0), (2, 1), (2, 2), (2, 3), (3, 4), (33, 5)] := by kernel_rfl
theorem Tryz.fieldsSpan : fieldsOf Tryz.prog 38 = #[(2, 0), (2, 1)] := by kernel_rfl
theorem Tryz.fieldsMixed : fieldsOf Tryz.prog 40 = #[(2, 0), (2, 1)] := by kernel_rfl
theorem Tryz.fieldsMean : fieldsOf Tryz.prog 42 = #[(3, 0), (40, 1), (40, 3)] := by kernel_rfl
theorem Tryz.fieldsAns : fieldsOf Tryz.prog 44 = #[(36, 0), (3, 1), (38, 2), (42, 4)] := by kernel_rfl
theorem Tryz.fieldsBack : fieldsOf Tryz.prog 64 = #[(2, 0), (2, 1), (2, 2)] := by kernel_rfl
theorem Tryz.fieldsSaid : fieldsOf Tryz.prog 47 = #[(3, 0), (2, 1), (2, 2), (44, 3), (38, 12), (36, 14), (45, 15)] := by kernel_rfl
theorem Tryz.isErr : Tryz.prog.underlying 36 = some (.int .i64) ∧ Tryz.prog.cellsOf 36 = 1 := ⟨by kernel_rfl, by kernel_rfl⟩
set_option maxRecDepth 100000 in
theorem open_raw_trod {fuel : Nat} {cs : List Value} {x : DataW H × List MemPlace} (hf : DataW.trod enc Tryz.prog w base spare held fuel 35 cs = some x) :
    ∃ r p cap, cs = (rawA r p cap).toList ∧ RawCame w r p cap := by
  have hC : Tryz.prog.cellsOf 35 = 6 := by kernel_rfl
  have hV : Tryz.prog.cellsOf 33 = 1 := by kernel_rfl
  have hS : Tryz.prog.cellsOf 9 = 1 := by kernel_rfl
  obtain ⟨hsz, hat⟩ := open_struct Tryz.fieldsRaw (by simp) hf
  rw [hC] at hsz
  match cs, hsz with
  | [c0, c1, c2, c3, c4, c5], _ =>
    obtain ⟨n0, y0, h0⟩ := hat 0 _ _ rfl
    obtain ⟨n1, y1, h1⟩ := hat 1 _ _ rfl
    obtain ⟨n2, y2, h2⟩ := hat 2 _ _ rfl
    obtain ⟨n3, y3, h3⟩ := hat 3 _ _ rfl
    obtain ⟨n4, y4, h4⟩ := hat 4 _ _ rfl
    obtain ⟨n5, y5, h5⟩ := hat 5 _ _ rfl
    rw [hS] at h0
    rw [Tryz.isInt64.2] at h1 h2 h3
    rw [Tryz.isInt.2] at h4
    rw [hV] at h5
    obtain ⟨nm, e0, _⟩ := DataW.trod_string (by kernel_rfl) h0
    obtain ⟨ep, e1, _, _⟩ := DataW.trod_int Tryz.isInt64.1 h1
    obtain ⟨fl, e2, _, _⟩ := DataW.trod_int Tryz.isInt64.1 h2
    obtain ⟨la, e3, _, _⟩ := DataW.trod_int Tryz.isInt64.1 h3
    obtain ⟨sc, e4, _, _⟩ := DataW.trod_int Tryz.isInt.1 h4
    obtain ⟨q, pts, co, e5, s1, s2, s3⟩ := open_pts h5
    simp [Value.cells] at e0 e1 e2 e3 e4 e5
    subst e0; subst e1; subst e2; subst e3; subst e4; subst e5
    exact ⟨⟨nm, ep, fl, la, sc, pts⟩, q, co, rfl, ⟨s3, s1, s2⟩⟩
set_option maxRecDepth 100000 in
/-- A raw series that came in. -/
theorem open_raw {r : Reach} {b0 : Nat} {v : Value} {d : DataW H} {ps : List MemPlace} (hv : Value.okWide Tryz.prog w r b0 35 v) (h : DataW.Trod enc Tryz.prog w base spare held 35 v d ps) :
    ∃ q p cap, v = .agg (rawA q p cap) ∧ RawCame w q p cap := by
  obtain ⟨fs, hfs⟩ : ∃ fs, Tryz.prog.underlying 35 = some (.struct fs) := struct_of Tryz.fieldsRaw (by simp)
  obtain ⟨cs, rfl, hsz⟩ := okWide_struct hfs hv
  obtain ⟨fuel, hf⟩ := h
  obtain ⟨q, p, cap, e, hc⟩ := open_raw_trod hf
  refine ⟨q, p, cap, ?_, hc⟩
  congr 1
  rw [← Array.toList_inj]
  exact e
set_option maxRecDepth 100000 in
theorem open_an9 {fuel : Nat} {cs : List Value} {x : DataW H × List MemPlace} (hf : DataW.trod enc Tryz.prog w base spare held fuel 44 cs = some x) :
    ∃ y : An9, cs = (anA y).toList ∧ y.ok := by
  have hC : Tryz.prog.cellsOf 44 = 9 := by kernel_rfl
  have hSp : Tryz.prog.cellsOf 38 = 2 := by kernel_rfl
  have hMe : Tryz.prog.cellsOf 42 = 5 := by kernel_rfl
  have hMi : Tryz.prog.cellsOf 40 = 2 := by kernel_rfl
  have two : ∀ i, i < 2 → ∃ ty, (#[(2, 0), (2, 1)] : Array (TypeId × Nat))[i]? = some (ty, i) ∧ Tryz.prog.underlying ty = some (.int .i64) ∧ Tryz.prog.cellsOf ty = 1 := fun i hi => by
    match i, hi with
    | 0, _ => exact ⟨_, rfl, Tryz.isInt64⟩
    | 1, _ => exact ⟨_, rfl, Tryz.isInt64⟩
  obtain ⟨hsz, hat⟩ := open_struct Tryz.fieldsAns (by simp) hf
  rw [hC] at hsz
  match cs, hsz with
  | [c0, c1, c2, c3, c4, c5, c6, c7, c8], _ =>
    obtain ⟨n0, y0, h0⟩ := hat 0 _ _ rfl
    obtain ⟨n1, y1, h1⟩ := hat 1 _ _ rfl
    obtain ⟨n2, y2, h2⟩ := hat 2 _ _ rfl
    obtain ⟨n3, y3, h3⟩ := hat 3 _ _ rfl
    rw [Tryz.isErr.2] at h0
    rw [Tryz.isInt.2] at h1
    rw [hSp] at h2
    rw [hMe] at h3
    obtain ⟨er, e0, _, w0⟩ := DataW.trod_int Tryz.isErr.1 h0
    obtain ⟨cn, e1, _, w1⟩ := DataW.trod_int Tryz.isInt.1 h1
    obtain ⟨_, hs⟩ := open_ints_struct Tryz.fieldsSpan (by simp) (by rw [hSp]; rfl) two h2
    obtain ⟨lo, a1, a2⟩ := hs 0 (by simp)
    obtain ⟨up, b1, b2⟩ := hs 1 (by simp)
    obtain ⟨_, hm⟩ := open_struct Tryz.fieldsMean (by simp) h3
    obtain ⟨n4, y4, h4⟩ := hm 0 _ _ rfl
    obtain ⟨n5, y5, h5⟩ := hm 1 _ _ rfl
    obtain ⟨n6, y6, h6⟩ := hm 2 _ _ rfl
    rw [Tryz.isInt.2] at h4
    rw [hMi] at h5 h6
    obtain ⟨mc, e4, _, w4⟩ := DataW.trod_int Tryz.isInt.1 h4
    obtain ⟨_, hx⟩ := open_ints_struct Tryz.fieldsMixed (by simp) (by rw [hMi]; rfl) two h5
    obtain ⟨_, hz⟩ := open_ints_struct Tryz.fieldsMixed (by simp) (by rw [hMi]; rfl) two h6
    obtain ⟨lw, g1, g2⟩ := hx 0 (by simp)
    obtain ⟨lr, i1, i2⟩ := hx 1 (by simp)
    obtain ⟨hw, j1, j2⟩ := hz 0 (by simp)
    obtain ⟨hr, l1, l2⟩ := hz 1 (by simp)
    simp at e0 e1 a1 b1 e4 g1 i1 j1 l1
    subst e0; subst e1; subst a1; subst b1; subst e4; subst g1; subst i1; subst j1; subst l1
    exact ⟨⟨er, cn, lo, up, mc, lw, lr, hw, hr⟩, rfl, wf_I64 w0, wf_I64 w1, a2, b2, wf_I64 w4, g2, i2, j2, l2⟩
/-- A row of what is told at times. -/
structure BksIn (w : World) (p : Option Addr) (l : List (Int × Int × Int)) : Prop where
  at' : ∀ (i : Nat) (r : Int × Int × Int), l[i]? = some r → ∃ b o, p = some ⟨b, o, none⟩ ∧ w.cell? ⟨b, o + i * 3, none⟩ = some (.int .i64 r.1) ∧ w.cell? ⟨b, o + i * 3 + 1, none⟩ = some (.int .i64 r.2.1) ∧ w.cell? ⟨b, o + i * 3 + 2, none⟩ = some (.int .i64 r.2.2)
theorem open_backs {fuel : Nat} {cs : List Value} {x : DataW H × List MemPlace} (h : DataW.trod enc Tryz.prog w base spare held fuel 45 cs = some x) :
    ∃ (p : Option Addr) (l : List (Int × Int × Int)) (cap : Nat), cs = [.slice p l.length cap] ∧ (p = none → l.length = 0 ∧ cap = 0) ∧ l.length ≤ cap ∧ BksIn w p l ∧ ∀ r, r ∈ l → I64 r.1 ∧ I64 r.2.1 ∧ I64 r.2.2 := by
  obtain ⟨p, len, cap, rfl, hn, hl, hm, hi⟩ := open_rows (n := 3) (by kernel_rfl) Tryz.fieldsBack rfl (by omega) (by kernel_rfl) (fun i hi => by
    match i, hi with
    | 0, _ => exact ⟨_, rfl, Tryz.isInt64⟩
    | 1, _ => exact ⟨_, rfl, Tryz.isInt64⟩
    | 2, _ => exact ⟨_, rfl, Tryz.isInt64⟩) h
  obtain ⟨l, rfl, hq⟩ := list_of (Q := fun i (r : Int × Int × Int) => (∃ b o, p = some ⟨b, o, none⟩ ∧ w.cell? ⟨b, o + i * 3, none⟩ = some (.int .i64 r.1) ∧ w.cell? ⟨b, o + i * 3 + 1, none⟩ = some (.int .i64 r.2.1) ∧ w.cell? ⟨b, o + i * 3 + 2, none⟩ = some (.int .i64 r.2.2)) ∧ I64 r.1 ∧ I64 r.2.1 ∧ I64 r.2.2) len (fun i hilt => by
    obtain ⟨b, o, e, hj⟩ := hi i hilt
    obtain ⟨f, f1, f2⟩ := hj 0 (by omega)
    obtain ⟨s, s1, s2⟩ := hj 1 (by omega)
    obtain ⟨t, t1, t2⟩ := hj 2 (by omega)
    exact ⟨(f, s, t), ⟨b, o, e, by simpa using f1, s1, t1⟩, f2, s2, t2⟩)
  exact ⟨p, l, cap, rfl, hn, hl, ⟨fun i r hr => (hq i r hr).1⟩, fun r hr => by
    obtain ⟨i, hi⟩ := List.getElem?_of_mem hr
    exact (hq i r hi).2⟩
set_option maxRecDepth 100000 in
/-- Something said that came in. -/
theorem open_said {r : Reach} {b0 : Nat} {v : Value} {d : DataW H} {ps : List MemPlace} (hv : Value.okWide Tryz.prog w r b0 47 v) (h : DataW.Trod enc Tryz.prog w base spare held 47 v d ps) :
    ∃ (k a b : Int) (y : An9) (slo sup serr : Int) (sp : Option Addr) (l : List (Int × Int × Int)) (scap : Nat), v = .agg #[.int .i64 k, .int .i64 a, .int .i64 b, .int .i64 y.er, .int .i64 y.cn, .int .i64 y.lo, .int .i64 y.up, .int .i64 y.mc, .int .i64 y.lw, .int .i64 y.lr, .int .i64 y.hw, .int .i64 y.hr, .int .i64 slo, .int .i64 sup, .int .i64 serr, .slice sp l.length scap] ∧ y.ok ∧ (I64 k ∧ I64 a ∧ I64 b ∧ I64 slo ∧ I64 sup ∧ I64 serr) ∧ (sp = none → l.length = 0 ∧ scap = 0) ∧ l.length ≤ scap ∧ BksIn w sp l ∧ ∀ r, r ∈ l → I64 r.1 ∧ I64 r.2.1 ∧ I64 r.2.2 := by
  obtain ⟨fs, hfs⟩ : ∃ fs, Tryz.prog.underlying 47 = some (.struct fs) := struct_of Tryz.fieldsSaid (by simp)
  obtain ⟨cs, rfl, hsz⟩ := okWide_struct hfs hv
  have hC : Tryz.prog.cellsOf 47 = 16 := by kernel_rfl
  have hSp : Tryz.prog.cellsOf 38 = 2 := by kernel_rfl
  have hAn : Tryz.prog.cellsOf 44 = 9 := by kernel_rfl
  have hBs : Tryz.prog.cellsOf 45 = 1 := by kernel_rfl
  obtain ⟨fuel, hf⟩ := h
  obtain ⟨l⟩ := cs
  obtain ⟨_, hat⟩ := open_struct Tryz.fieldsSaid (by simp) hf
  rw [hC] at hsz
  match l, hsz with
  | [c0, c1, c2, c3, c4, c5, c6, c7, c8, c9, c10, c11, c12, c13, c14, c15], _ =>
    obtain ⟨n0, y0, h0⟩ := hat 0 _ _ rfl
    obtain ⟨n1, y1, h1⟩ := hat 1 _ _ rfl
    obtain ⟨n2, y2, h2⟩ := hat 2 _ _ rfl
    obtain ⟨n3, y3, h3⟩ := hat 3 _ _ rfl
    obtain ⟨n4, y4, h4⟩ := hat 4 _ _ rfl
    obtain ⟨n5, y5, h5⟩ := hat 5 _ _ rfl
    obtain ⟨n6, y6, h6⟩ := hat 6 _ _ rfl
    rw [Tryz.isInt.2] at h0
    rw [Tryz.isInt64.2] at h1 h2
    rw [hAn] at h3
    rw [hSp] at h4
    rw [Tryz.isErr.2] at h5
    rw [hBs] at h6
    obtain ⟨k, e0, _, w0⟩ := DataW.trod_int Tryz.isInt.1 h0
    obtain ⟨a, e1, _, w1⟩ := DataW.trod_int Tryz.isInt64.1 h1
    obtain ⟨b, e2, _, w2⟩ := DataW.trod_int Tryz.isInt64.1 h2
    obtain ⟨y, e3, hy⟩ := open_an9 h3
    obtain ⟨_, hs⟩ := open_ints_struct Tryz.fieldsSpan (by simp) (by rw [hSp]; rfl) (fun i hi => by
      match i, hi with
      | 0, _ => exact ⟨_, rfl, Tryz.isInt64⟩
      | 1, _ => exact ⟨_, rfl, Tryz.isInt64⟩) h4
    obtain ⟨slo, a1, a2⟩ := hs 0 (by simp)
    obtain ⟨sup, b1, b2⟩ := hs 1 (by simp)
    obtain ⟨serr, e5, _, w5⟩ := DataW.trod_int Tryz.isErr.1 h5
    obtain ⟨sp, bs, scap, e6, r1, r2, r3, r4⟩ := open_backs h6
    simp [Value.cells, anA] at e0 e1 e2 e3 a1 b1 e5 e6
    obtain ⟨q0, q1, q2, q3, q4, q5, q6, q7, q8⟩ := e3
    subst e0; subst e1; subst e2; subst a1; subst b1; subst e5; subst e6
    subst q0; subst q1; subst q2; subst q3; subst q4; subst q5; subst q6; subst q7; subst q8
    exact ⟨k, a, b, y, slo, sup, serr, sp, bs, scap, rfl, hy, ⟨wf_I64 w0, wf_I64 w1, wf_I64 w2, a2, b2, wf_I64 w5⟩, r1, r2, r3, r4⟩
end
theorem strict_span {X : Int × (Int × Int) × Int} {eps what : Int} {y : An9} (h : holdsX X eps what y = true) (h1 : what ≠ 1) (h5 : what ≠ 5) (her : y.er = 0) (he0 : 0 ≤ eps) (he1 : eps ≤ 1099511627776) (hn : 0 ≤ X.1) (hn2 : X.1 ≤ 1024) : y.lo ≤ y.up ∧ y.up ≤ y.lo + 4503599627370496 := by
  have key : ∀ v wd, liesB y.lo y.up v wd = true → wd ≤ 4503599627370496 → y.lo ≤ y.up ∧ y.up ≤ y.lo + 4503599627370496 := fun v wd hl hw => by
    unfold liesB spW at hl
    simp only [Bool.and_eq_true, decide_eq_true_eq] at hl
    obtain ⟨⟨a, b⟩, c⟩ := hl
    rw [if_pos (by omega)] at c
    omega
  unfold holdsX at h
  rw [if_neg h1] at h
  by_cases h0 : X.1 = 0
  · rw [if_pos h0] at h
    unfold eq9 at h
    simp only [Bool.and_eq_true, beq_iff_eq] at h
    omega
  · rw [if_neg h0, if_neg h5, Bool.and_eq_true] at h
    by_cases h4 : what = 4
    · rw [if_pos h4] at h
      unfold totalB at h
      rw [her, if_neg (by decide), Bool.and_eq_true] at h
      refine key _ _ h.2.2 ?_
      have a := Int.mul_nonneg (show 0 ≤ 2 * eps by omega) hn
      have b := Int.mul_le_mul_of_nonneg_left hn2 (show 0 ≤ 2 * eps by omega)
      unfold loW
      omega
    · rw [if_neg h4, Bool.and_eq_true] at h
      exact key _ _ h.2.2 (by omega)
theorem c_mdStrict (q : RawT) (p : Option Addr) (cap : Nat) (k a b : Int) (y : An9) (slo sup serr : Int) (sp : Option Addr) (sn scap : Nat) (w : World) (h : RawCame w q p cap) (hy : y.ok) :
    Calls Tryz.prog 4 #[.agg (rawA q p cap), .agg #[.int .i64 k, .int .i64 a, .int .i64 b, .int .i64 y.er, .int .i64 y.cn, .int .i64 y.lo, .int .i64 y.up, .int .i64 y.mc, .int .i64 y.lw, .int .i64 y.lr, .int .i64 y.hw, .int .i64 y.hr, .int .i64 slo, .int .i64 sup, .int .i64 serr, .slice sp sn scap]] w fun e w' => e = .returned (.bool true) ∧ Below w.heap.size w w' := by
  have c1 := fun W (_ : Below w.heap.size w W) => wakes28_w W
  have c2 := fun W (hW : Below w.heap.size w W) => c_raw28 q p cap W (h.below hW)
  have hrl := rawOf_len q
  obtain ⟨r, hr⟩ : ∃ r, rawOf q = r := ⟨_, rfl⟩
  rw [hr] at c2 hrl
  clear hr
  obtain ⟨er, cn, lo, up, mc, lw, lr, hw, hr⟩ := y
  obtain ⟨y1, y2, y3, y4, y5, y6, y7, y8, y9⟩ := hy
  simp only at y1 y2 y3 y4 y5 y6 y7 y8 y9 ⊢
  have cH := fun (W : World) p' cap' er cn lo up mc (hp : PtsIn W p' r.pts) (a1 : I64 er) (a2 : I64 cn) (a3 : I64 lo) (a4 : I64 up) (a5 : I64 mc) => c_mdHolds r p' cap' k a b ⟨er, cn, lo, up, mc, lw, lr, hw, hr⟩ W hp (by omega) ⟨a1, a2, a3, a4, a5, y6, y7, y8, y9⟩
  have wr : ∀ z : Int, I64 (wrap64 z) := fun z => by unfold I64; rw [wrap64_eq]; omega
  cases hH : holdsB r k a b ⟨er, cn, lo, up, mc, lw, lr, hw, hr⟩ with
  | false =>
    exact strict_no q r p cap a b er cn lo up mc lw lr hw hr slo sup serr sp sn scap _ w k y1 y2 y3 y4 y5 (Lib.hid hH) c1 c2 cH
  | true =>
    have hH' := hH
    unfold holdsB at hH'
    simp only [Bool.and_eq_true, decide_eq_true_eq] at hH'
    obtain ⟨⟨hB, hk1, hk5⟩, hX⟩ := hH'
    obtain ⟨⟨he0, he1⟩, hlen, hpt⟩ := rawB_parts hB
    obtain ⟨hn0, hn1⟩ := told_few hB a b
    have hno : ∀ y, holdsX (toldsL (tellG a b r.pts)) r.eps k y = false → holdsB r k a b y = false := fun y hy => by
      unfold holdsB; rw [hy, Bool.and_false]
    by_cases hk1 : k = 1
    · subst hk1
      exact strict_one q r p cap a b er cn lo up mc lw lr hw hr slo sup serr sp sn scap _ w y1 y2 y3 y4 y5 _ (wr _) rfl (Lib.hid hH) (Lib.hid (hno _ (strict_count hX _ (by show wrap64 (cn + 1) ≠ cn; unfold I64 at y2; rw [wrap64_eq]; omega)))) c1 c2 cH
    by_cases hk5 : k = 5
    · subst hk5
      exact strict_five q r p cap a b er cn lo up mc lw lr hw hr slo sup serr sp sn scap _ w y1 y2 y3 y4 y5 _ (wr _) rfl (Lib.hid hH) (Lib.hid (hno _ (strict_mean hX _ (by show wrap64 (mc + 1) ≠ mc; unfold I64 at y5; rw [wrap64_eq]; omega)))) c1 c2 cH
    have i2 : I64 2 := by unfold I64; omega
    have i0 : I64 0 := by unfold I64; omega
    have hE := Lib.hid (hno _ (strict_err (X := toldsL (tellG a b r.pts)) (eps := r.eps) ⟨er, cn, lo, up, mc, lw, lr, hw, hr⟩ hk1 hk5))
    by_cases her : er = 0
    · subst her
      obtain ⟨s1, s2⟩ := strict_span hX hk1 hk5 rfl he0 he1 hn0 (by omega)
      simp only at s1 s2
      by_cases hf : 4611686018427387904 < up
      · exact strict_far q r p cap a b 0 cn lo up mc lw lr hw hr slo sup serr sp sn scap _ w k (by simpa using hk1) (by simpa using hk5) i0 y2 y3 y4 y5 i2 s1 s2 hf (Lib.hid hH) hE c1 c2 cH
      · have hm0 : 0 ≤ 2 * r.eps * (r.pts.length : Int) := Int.mul_nonneg (by omega) (by omega)
        have hm1 : 2 * r.eps * (r.pts.length : Int) ≤ 2 * r.eps * 1024 := Int.mul_le_mul_of_nonneg_left (by omega) (by omega)
        have hM := strict_moved hX hk1 hk5 rfl
        have hW := strict_wide (len := (r.pts.length : Int)) hX hk1 hk5 rfl he0 he1 hn0 hn1 (by omega)
        simp only at hM hW
        unfold I64 at y3 y4
        have e0 : wrap64 (up - lo) = up - lo := by rw [wrap64_eq]; omega
        have e1 : wrap64 (wrap64 (lo + (up - lo)) + 1) = lo + (up - lo) + 1 := by simp only [wrap64_eq]; omega
        have e2 : wrap64 (wrap64 (up + (up - lo)) + 1) = up + (up - lo) + 1 := by simp only [wrap64_eq]; omega
        have e5 : wrap64 (2 * r.eps) = 2 * r.eps := by rw [wrap64_eq]; omega
        have e3 : wrap64 (up + wrap64 (wrap64 (wrap64 (2 * r.eps) * (r.pts.length : Int)) + 1)) = up + (2 * r.eps * (r.pts.length : Int) + 1) := by
          rw [e5]
          simp only [wrap64_eq]
          omega
        exact strict_near q r p cap a b 0 cn lo up mc lw lr hw hr slo sup serr sp sn scap _ w k (by simpa using hk1) (by simpa using hk5) i0 y2 y3 y4 y5 _ _ _ (by unfold I64; omega) (by unfold I64; omega) (by unfold I64; omega) s1 s2 (by omega) e0 e1 e2 e3 (Lib.hid hH) (Lib.hid (hno _ hM)) (Lib.hid (hno _ hW)) c1 c2 cH
    · exact strict_er q r p cap a b er cn lo up mc lw lr hw hr slo sup serr sp sn scap _ w k (by simpa using hk1) (by simpa using hk5) y1 y2 y3 y4 y5 i2 (by simpa using her) (Lib.hid hH) hE c1 c2 cH
set_option maxRecDepth 100000 in
theorem strict_lifted (os : Os) (started : os.Started) (H : Type) (enc : TypeId × Value → H) :
    ReturnsInHanded {} Tryz.checked os 4 .any (Rows.modelStrictSpec.pre6 enc Tryz.prog Tryz.f4 Rows.modelStrictRow.domain false) (Rows.modelStrictSpec.post enc Tryz.prog Tryz.f4 false true false false) := by
  refine returnsInHanded_of_change (C := Tryz.checked) Tryz.ownKnob started (by kernel_rfl) Tryz.func4
    (ChangeSpec.witness6 (enc := enc) (C := Tryz.checked) false ⟨#[], #[.agg #[.string .empty, .int .i64 0, .int .i64 0, .int .i64 0, .int .i64 0, .slice none 0 0], .agg #[.int .i64 0, .int .i64 0, .int .i64 0, .int .i64 0, .int .i64 0, .int .i64 0, .int .i64 0, .int .i64 0, .int .i64 0, .int .i64 0, .int .i64 0, .int .i64 0, .int .i64 0, .int .i64 0, .int .i64 0, .slice none 0 0]], []⟩ 8 (by kernel_rfl) (by kernel_rfl) (by kernel_rfl) (by kernel_rfl)) ?_
  intro W base args ds gs before hval0 hW hcnd _
  have hval : ∀ (j : Nat) t v, Tryz.f4.params[j]? = some t → args[j]? = some v → Value.okWide Tryz.prog W .any base t v := hval0
  have hW' := hW
  obtain ⟨p, q, hA0, hV, rfl, hfz, hnd⟩ := hW
  have hA : DataW.TrodAll enc Tryz.prog W 0 (fun _ => true) true Tryz.f4.params.toList args.toList ds p := hA0
  rw [Tryz.params4] at hA hval
  obtain ⟨v0, vs0, d0, ds0, p0, q0, hargs, rfl, rfl, h0, hA⟩ := trodAll_cons hA
  obtain ⟨v1, vs1, d1, ds1, p1, q1, rfl, rfl, rfl, h1, hA⟩ := trodAll_cons hA
  obtain ⟨rfl, rfl, rfl⟩ := trodAll_nil hA
  obtain rfl : args = #[v0, v1] := by rw [← Array.toList_inj, hargs]
  obtain ⟨rfl, rfl⟩ := trodVars_none hV
  obtain ⟨rq, p', cap, rfl, hc⟩ := open_raw (hval 0 _ v0 rfl rfl) h0
  obtain ⟨k, a, b, y, slo, sup, serr, sp, l, scap, rfl, hy, _⟩ := open_said (hval 1 _ v1 rfl rfl) h1
  clear hA0 hval0
  refine (c_mdStrict rq p' cap k a b y slo sup serr sp l.length scap W hc hy).mono fun e W' ⟨he, hb⟩ => ?_
  subst he
  exact ⟨_, rfl, law_post Tryz.laidOut (pars_ok (by kernel_rfl)) rfl (by kernel_rfl) rfl hW' hb rfl⟩
theorem modelStrict_holds : Rows.ModelStrictSaid :=
  OpenClaim.holds_of_wide 4 Tryz.f4 rfl rfl rfl rfl rfl rfl rfl ⟨rfl, rfl, rfl, rfl, rfl⟩ rfl rfl rfl rfl rfl (by kernel_rfl) Tryz.func4 (by kernel_rfl)
    (of_decide_eq_true (by kernel_rfl)) (by unfold Func.isWrapper; first | (rw [if_pos (by decide +kernel)]; kernel_rfl) | (rw [if_neg (by decide +kernel)]; exact ⟨rfl, rfl⟩))
    (fun os started H enc _ => strict_lifted os started H enc)
#print axioms modelStrict_holds
end Go.Proofs.YtdeghcgakkhbmaaGreat
