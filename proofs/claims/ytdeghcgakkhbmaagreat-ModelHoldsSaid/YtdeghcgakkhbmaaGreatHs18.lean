/- Parts of the proof that follows: For every raw series and everything said that comes in: ModelStrict returns true; the arguments read as before. No condition. | Layer model: whether a scan that is not empty holds. No condition but the numbers' bounds. | slices.Clone and slices.Equal of what is told at times. No condition. | The references' numbers: Neg, Sub, Less; a guarded step that has a spec. | The document's segments: Kind, Right walked. -/
import Derived.Test.YtdeghcgakkhbmaaGreatHs17
set_option linter.unusedSimpArgs false
set_option linter.unusedVariables false
namespace Go.Proofs.YtdeghcgakkhbmaaGreat
open Go.ChangeShapes Go.WideShapes Go.ChangeAt Go.RowKit Go.Deep
section
variable {H : Type} {enc : TypeId × Value → H} {w : World} {base : Nat} {spare : Nat → Bool} {held : Bool}
theorem Tryz.fieldsRaw : fieldsOf Tryz.prog 35 = #[(9, 0), (2, 1), (2, 2), (2, 3), (3, 4), (33, 5)] := by kernel_rfl
theorem Tryz.fieldsSpan : fieldsOf Tryz.prog 38 = #[(2, 0), (2, 1)] := by kernel_rfl
theorem Tryz.fieldsMixed : fieldsOf Tryz.prog 40 = #[(2, 0), (2, 1)] := by kernel_rfl
theorem Tryz.fieldsMean : fieldsOf Tryz.prog 42 = #[(3, 0), (40, 1), (40, 3)] := by kernel_rfl
theorem Tryz.fieldsAns : fieldsOf Tryz.prog 44 = #[(36, 0), (3, 1), (38, 2), (42, 4)] := by kernel_rfl
theorem Tryz.fieldsBack : fieldsOf Tryz.prog 64 = #[(2, 0), (2, 1), (2, 2)] := by kernel_rfl
theorem Tryz.fieldsSaid : fieldsOf Tryz.prog 47 = #[(3, 0), (2, 1), (2, 2), (44, 3), (38, 12), (36, 14), (45, 15)] := by kernel_rfl
theorem Tryz.isErr : Tryz.prog.underlying 36 = some (.int .i64) ∧ Tryz.prog.cellsOf 36 = 1 := ⟨by kernel_rfl, by kernel_rfl⟩
set_option maxRecDepth 100000 in
theorem open_raw_trod {fuel : Nat} {cs : List Value} {x : DataW H × List MemPlace} (hf : DataW.trod enc Tryz.prog w base spare held fuel 35 cs = some x) :
    ∃ r p cap, cs = (rawA r p cap).toList ∧ RawCame w r p cap := by
  have hC : Tryz.prog.cellsOf 35 = 6 := by kernel_rfl
  have hV : Tryz.prog.cellsOf 33 = 1 := by kernel_rfl
  have hS : Tryz.prog.cellsOf 9 = 1 := by kernel_rfl
  obtain ⟨hsz, hat⟩ := open_struct Tryz.fieldsRaw (by simp) hf
  rw [hC] at hsz
  match cs, hsz with
  | [c0, c1, c2, c3, c4, c5], _ =>
    obtain ⟨n0, y0, h0⟩ := hat 0 _ _ rfl
    obtain ⟨n1, y1, h1⟩ := hat 1 _ _ rfl
    obtain ⟨n2, y2, h2⟩ := hat 2 _ _ rfl
    obtain ⟨n3, y3, h3⟩ := hat 3 _ _ rfl
    obtain ⟨n4, y4, h4⟩ := hat 4 _ _ rfl
    obtain ⟨n5, y5, h5⟩ := hat 5 _ _ rfl
    rw [hS] at h0
    rw [Tryz.isInt64.2] at h1 h2 h3
    rw [Tryz.isInt.2] at h4
    rw [hV] at h5
    obtain ⟨nm, e0, _⟩ := DataW.trod_string (by kernel_rfl) h0
    obtain ⟨ep, e1, _, _⟩ := DataW.trod_int Tryz.isInt64.1 h1
    obtain ⟨fl, e2, _, _⟩ := DataW.trod_int Tryz.isInt64.1 h2
    obtain ⟨la, e3, _, _⟩ := DataW.trod_int Tryz.isInt64.1 h3
    obtain ⟨sc, e4, _, _⟩ := DataW.trod_int Tryz.isInt.1 h4
    obtain ⟨q, pts, co, e5, s1, s2, s3⟩ := open_pts h5
    simp [Value.cells] at e0 e1 e2 e3 e4 e5
    subst e0; subst e1; subst e2; subst e3; subst e4; subst e5
    exact ⟨⟨nm, ep, fl, la, sc, pts⟩, q, co, rfl, ⟨s3, s1, s2⟩⟩
set_option maxRecDepth 100000 in
/-- A raw series that came in. -/
theorem open_raw {r : Reach} {b0 : Nat} {v : Value} {d : DataW H} {ps : List MemPlace} (hv : Value.okWide Tryz.prog w r b0 35 v) (h : DataW.Trod enc Tryz.prog w base spare held 35 v d ps) :
    ∃ q p cap, v = .agg (rawA q p cap) ∧ RawCame w q p cap := by
  obtain ⟨fs, hfs⟩ : ∃ fs, Tryz.prog.underlying 35 = some (.struct fs) := struct_of Tryz.fieldsRaw (by simp)
  obtain ⟨cs, rfl, hsz⟩ := okWide_struct hfs hv
  obtain ⟨fuel, hf⟩ := h
  obtain ⟨q, p, cap, e, hc⟩ := open_raw_trod hf
  refine ⟨q, p, cap, ?_, hc⟩
  congr 1
  rw [← Array.toList_inj]
  exact e
set_option maxRecDepth 100000 in
theorem open_an9 {fuel : Nat} {cs : List Value} {x : DataW H × List MemPlace} (hf : DataW.trod enc Tryz.prog w base spare held fuel 44 cs = some x) :
    ∃ y : An9, cs = (anA y).toList ∧ y.ok := by
  have hC : Tryz.prog.cellsOf 44 = 9 := by kernel_rfl
  have hSp : Tryz.prog.cellsOf 38 = 2 := by kernel_rfl
  have hMe : Tryz.prog.cellsOf 42 = 5 := by kernel_rfl
  have hMi : Tryz.prog.cellsOf 40 = 2 := by kernel_rfl
  have two : ∀ i, i < 2 → ∃ ty, (#[(2, 0), (2, 1)] : Array (TypeId × Nat))[i]? = some (ty, i) ∧ Tryz.prog.underlying ty = some (.int .i64) ∧ Tryz.prog.cellsOf ty = 1 := fun i hi => by
    match i, hi with
    | 0, _ => exact ⟨_, rfl, Tryz.isInt64⟩
    | 1, _ => exact ⟨_, rfl, Tryz.isInt64⟩
  obtain ⟨hsz, hat⟩ := open_struct Tryz.fieldsAns (by simp) hf
  rw [hC] at hsz
  match cs, hsz with
  | [c0, c1, c2, c3, c4, c5, c6, c7, c8], _ =>
    obtain ⟨n0, y0, h0⟩ := hat 0 _ _ rfl
    obtain ⟨n1, y1, h1⟩ := hat 1 _ _ rfl
    obtain ⟨n2, y2, h2⟩ := hat 2 _ _ rfl
    obtain ⟨n3, y3, h3⟩ := hat 3 _ _ rfl
    rw [Tryz.isErr.2] at h0
    rw [Tryz.isInt.2] at h1
    rw [hSp] at h2
    rw [hMe] at h3
    obtain ⟨er, e0, _, w0⟩ := DataW.trod_int Tryz.isErr.1 h0
    obtain ⟨cn, e1, _, w1⟩ := DataW.trod_int Tryz.isInt.1 h1
    obtain ⟨_, hs⟩ := open_ints_struct Tryz.fieldsSpan (by simp) (by rw [hSp]; rfl) two h2
    obtain ⟨lo, a1, a2⟩ := hs 0 (by simp)
    obtain ⟨up, b1, b2⟩ := hs 1 (by simp)
    obtain ⟨_, hm⟩ := open_struct Tryz.fieldsMean (by simp) h3
    obtain ⟨n4, y4, h4⟩ := hm 0 _ _ rfl
    obtain ⟨n5, y5, h5⟩ := hm 1 _ _ rfl
    obtain ⟨n6, y6, h6⟩ := hm 2 _ _ rfl
    rw [Tryz.isInt.2] at h4
    rw [hMi] at h5 h6
    obtain ⟨mc, e4, _, w4⟩ := DataW.trod_int Tryz.isInt.1 h4
    obtain ⟨_, hx⟩ := open_ints_struct Tryz.fieldsMixed (by simp) (by rw [hMi]; rfl) two h5
    obtain ⟨_, hz⟩ := open_ints_struct Tryz.fieldsMixed (by simp) (by rw [hMi]; rfl) two h6
    obtain ⟨lw, g1, g2⟩ := hx 0 (by simp)
    obtain ⟨lr, i1, i2⟩ := hx 1 (by simp)
    obtain ⟨hw, j1, j2⟩ := hz 0 (by simp)
    obtain ⟨hr, l1, l2⟩ := hz 1 (by simp)
    simp at e0 e1 a1 b1 e4 g1 i1 j1 l1
    subst e0; subst e1; subst a1; subst b1; subst e4; subst g1; subst i1; subst j1; subst l1
    exact ⟨⟨er, cn, lo, up, mc, lw, lr, hw, hr⟩, rfl, wf_I64 w0, wf_I64 w1, a2, b2, wf_I64 w4, g2, i2, j2, l2⟩
/-- A row of what is told at times. -/
structure BksIn (w : World) (p : Option Addr) (l : List (Int × Int × Int)) : Prop where
  at' : ∀ (i : Nat) (r : Int × Int × Int), l[i]? = some r → ∃ b o, p = some ⟨b, o, none⟩ ∧ w.cell? ⟨b, o + i * 3, none⟩ = some (.int .i64 r.1) ∧ w.cell? ⟨b, o + i * 3 + 1, none⟩ = some (.int .i64 r.2.1) ∧ w.cell? ⟨b, o + i * 3 + 2, none⟩ = some (.int .i64 r.2.2)
theorem open_backs {fuel : Nat} {cs : List Value} {x : DataW H × List MemPlace} (h : DataW.trod enc Tryz.prog w base spare held fuel 45 cs = some x) :
    ∃ (p : Option Addr) (l : List (Int × Int × Int)) (cap : Nat), cs = [.slice p l.length cap] ∧ (p = none → l.length = 0 ∧ cap = 0) ∧ l.length ≤ cap ∧ BksIn w p l ∧ ∀ r, r ∈ l → I64 r.1 ∧ I64 r.2.1 ∧ I64 r.2.2 := by
  obtain ⟨p, len, cap, rfl, hn, hl, hm, hi⟩ := open_rows (n := 3) (by kernel_rfl) Tryz.fieldsBack rfl (by omega) (by kernel_rfl) (fun i hi => by
    match i, hi with
    | 0, _ => exact ⟨_, rfl, Tryz.isInt64⟩
    | 1, _ => exact ⟨_, rfl, Tryz.isInt64⟩
    | 2, _ => exact ⟨_, rfl, Tryz.isInt64⟩) h
  obtain ⟨l, rfl, hq⟩ := list_of (Q := fun i (r : Int × Int × Int) => (∃ b o, p = some ⟨b, o, none⟩ ∧ w.cell? ⟨b, o + i * 3, none⟩ = some (.int .i64 r.1) ∧ w.cell? ⟨b, o + i * 3 + 1, none⟩ = some (.int .i64 r.2.1) ∧ w.cell? ⟨b, o + i * 3 + 2, none⟩ = some (.int .i64 r.2.2)) ∧ I64 r.1 ∧ I64 r.2.1 ∧ I64 r.2.2) len (fun i hilt => by
    obtain ⟨b, o, e, hj⟩ := hi i hilt
    obtain ⟨f, f1, f2⟩ := hj 0 (by omega)
    obtain ⟨s, s1, s2⟩ := hj 1 (by omega)
    obtain ⟨t, t1, t2⟩ := hj 2 (by omega)
    exact ⟨(f, s, t), ⟨b, o, e, by simpa using f1, s1, t1⟩, f2, s2, t2⟩)
  exact ⟨p, l, cap, rfl, hn, hl, ⟨fun i r hr => (hq i r hr).1⟩, fun r hr => by
    obtain ⟨i, hi⟩ := List.getElem?_of_mem hr
    exact (hq i r hi).2⟩
set_option maxRecDepth 100000 in
/-- Something said that came in. -/
theorem open_said {r : Reach} {b0 : Nat} {v : Value} {d : DataW H} {ps : List MemPlace} (hv : Value.okWide Tryz.prog w r b0 47 v) (h : DataW.Trod enc Tryz.prog w base spare held 47 v d ps) :
    ∃ (k a b : Int) (y : An9) (slo sup serr : Int) (sp : Option Addr) (l : List (Int × Int × Int)) (scap : Nat), v = .agg #[.int .i64 k, .int .i64 a, .int .i64 b, .int .i64 y.er, .int .i64 y.cn, .int .i64 y.lo, .int .i64 y.up, .int .i64 y.mc, .int .i64 y.lw, .int .i64 y.lr, .int .i64 y.hw, .int .i64 y.hr, .int .i64 slo, .int .i64 sup, .int .i64 serr, .slice sp l.length scap] ∧ y.ok ∧ (I64 k ∧ I64 a ∧ I64 b ∧ I64 slo ∧ I64 sup ∧ I64 serr) ∧ (sp = none → l.length = 0 ∧ scap = 0) ∧ l.length ≤ scap ∧ BksIn w sp l ∧ ∀ r, r ∈ l → I64 r.1 ∧ I64 r.2.1 ∧ I64 r.2.2 := by
  obtain ⟨fs, hfs⟩ : ∃ fs, Tryz.prog.underlying 47 = some (.struct fs) := struct_of Tryz.fieldsSaid (by simp)
  obtain ⟨cs, rfl, hsz⟩ := okWide_struct hfs hv
  have hC : Tryz.prog.cellsOf 47 = 16 := by kernel_rfl
  have hSp : Tryz.prog.cellsOf 38 = 2 := by kernel_rfl
  have hAn : Tryz.prog.cellsOf 44 = 9 := by kernel_rfl
  have hBs : Tryz.prog.cellsOf 45 = 1 := by kernel_rfl
  obtain ⟨fuel, hf⟩ := h
  obtain ⟨l⟩ := cs
  obtain ⟨_, hat⟩ := open_struct Tryz.fieldsSaid (by simp) hf
  rw [hC] at hsz
  match l, hsz with
  | [c0, c1, c2, c3, c4, c5, c6, c7, c8, c9, c10, c11, c12, c13, c14, c15], _ =>
    obtain ⟨n0, y0, h0⟩ := hat 0 _ _ rfl
    obtain ⟨n1, y1, h1⟩ := hat 1 _ _ rfl
    obtain ⟨n2, y2, h2⟩ := hat 2 _ _ rfl
    obtain ⟨n3, y3, h3⟩ := hat 3 _ _ rfl
    obtain ⟨n4, y4, h4⟩ := hat 4 _ _ rfl
    obtain ⟨n5, y5, h5⟩ := hat 5 _ _ rfl
    obtain ⟨n6, y6, h6⟩ := hat 6 _ _ rfl
    rw [Tryz.isInt.2] at h0
    rw [Tryz.isInt64.2] at h1 h2
    rw [hAn] at h3
    rw [hSp] at h4
    rw [Tryz.isErr.2] at h5
    rw [hBs] at h6
    obtain ⟨k, e0, _, w0⟩ := DataW.trod_int Tryz.isInt.1 h0
    obtain ⟨a, e1, _, w1⟩ := DataW.trod_int Tryz.isInt64.1 h1
    obtain ⟨b, e2, _, w2⟩ := DataW.trod_int Tryz.isInt64.1 h2
    obtain ⟨y, e3, hy⟩ := open_an9 h3
    obtain ⟨_, hs⟩ := open_ints_struct Tryz.fieldsSpan (by simp) (by rw [hSp]; rfl) (fun i hi => by
      match i, hi with
      | 0, _ => exact ⟨_, rfl, Tryz.isInt64⟩
      | 1, _ => exact ⟨_, rfl, Tryz.isInt64⟩) h4
    obtain ⟨slo, a1, a2⟩ := hs 0 (by simp)
    obtain ⟨sup, b1, b2⟩ := hs 1 (by simp)
    obtain ⟨serr, e5, _, w5⟩ := DataW.trod_int Tryz.isErr.1 h5
    obtain ⟨sp, bs, scap, e6, r1, r2, r3, r4⟩ := open_backs h6
    simp [Value.cells, anA] at e0 e1 e2 e3 a1 b1 e5 e6
    obtain ⟨q0, q1, q2, q3, q4, q5, q6, q7, q8⟩ := e3
    subst e0; subst e1; subst e2; subst a1; subst b1; subst e5; subst e6
    subst q0; subst q1; subst q2; subst q3; subst q4; subst q5; subst q6; subst q7; subst q8
    exact ⟨k, a, b, y, slo, sup, serr, sp, bs, scap, rfl, hy, ⟨wf_I64 w0, wf_I64 w1, wf_I64 w2, a2, b2, wf_I64 w5⟩, r1, r2, r3, r4⟩
end
end Go.Proofs.YtdeghcgakkhbmaaGreat
namespace Go.Proofs.YtdeghcgakkhbmaaGreat
open Go.RowKit Go.Shelf
attribute [local go_sem] Oper.semAt_some
def allOK (eps : Int) (P : List (Int × Int)) (l : List (Int × Int × Int)) : Bool := (P.zip l).all fun q => backOK eps q.1 q.2
/-- Where a row that was cut k times begins. -/
def offS (ol scap k : Nat) : Nat := if scap ≤ k ∧ 0 < k then ol + (k - 1) * 3 else ol + k * 3
theorem offS_zero (ol scap : Nat) : offS ol scap 0 = ol := by unfold offS; rw [if_neg (by omega)]; omega
theorem BksIn.below {w w' : World} {p : Option Addr} {l : List (Int × Int × Int)} (h : BksIn w p l) (hb : Below w.heap.size w w') : BksIn w' p l := ⟨fun i r hr => by
  obtain ⟨b, o, e, q0, q1, q2⟩ := h.at' i r hr
  exact ⟨b, o, e, ((bcell hb).1 b _ (cell_lt q0)).trans q0, ((bcell hb).1 b _ (cell_lt q1)).trans q1, ((bcell hb).1 b _ (cell_lt q2)).trans q2⟩⟩
theorem BksIn.rex {L : List Nat} {w w' : World} {p : Option Addr} {l : List (Int × Int × Int)} (h : BksIn w p l) (hr : Rex L w w') (hL : L = []) : BksIn w' p l := by subst hL; exact h.below hr.below
theorem BksIn.drew {w : World} {p : Option Addr} {l : List (Int × Int × Int)} (h : BksIn w p l) : BksIn w.drew p l := ⟨h.at'⟩
set_option maxRecDepth 100000 in
set_option maxHeartbeats 8000000 in
theorem holdsScan_some (r : RawT) (p : Option Addr) (cap : Nat) (a b e : Int) (bl ol : Nat) (l : List (Int × Int × Int)) (scap : Nat) (w : World) (hp : PtsIn w p r.pts) (hl : r.pts.length ≤ 2000) (hv : ∀ x, x ∈ r.pts → ptB x = true) (hB : BksIn w (some ⟨bl, ol, none⟩) l) (hl1 : 0 < l.length) (hl2 : l.length ≤ scap) (hl3 : l.length ≤ 2000) (hlv : ∀ x, x ∈ l → I64 x.1 ∧ I64 x.2.1 ∧ I64 x.2.2)
    (c1 : ∀ W, Below w.heap.size w W → Calls Tryz.prog 32 #[.agg #[.string r.name, .int .i64 r.eps, .int .i64 r.floor, .int .i64 r.last, .int .i64 r.scale, .slice p r.pts.length cap]] W fun e w' => e = .returned (.int .i64 0) ∧ Below W.heap.size W w') :
    CallsIn Fence.wide 4 Tryz.prog 27 #[.agg #[.string r.name, .int .i64 r.eps, .int .i64 r.floor, .int .i64 r.last, .int .i64 r.scale, .slice p r.pts.length cap], .int .i64 a, .int .i64 b, .slice (some ⟨bl, ol, none⟩) l.length scap, .int .i64 e] w fun e' w' => e' = .returned (.bool (scanB r.eps e (tellG a b r.pts) l)) ∧ Below w.heap.size w w' := by
  have hmf : ∀ (fn : Fn) (first cap : Array Value) (w : World), (Instr.makeFunc fn first cap).run Tryz.prog w = .ok (.func fn first cap) w := fun _ _ _ _ => rfl
  have c9x : l.length ≤ scap := hl2
  have hl8 : ((l.length : Int) == 0) = false := beq_eq_false_iff_ne.2 (by omega)
  refine callsIn_of_wp_marks Tryz.func27 rfl trivial ?_ rfl
  simp only [Tryz.ntmps27, List.size_toArray, List.length_cons, List.length_nil, Nat.reduceAdd, Nat.reduceSub, Array.replicate_succ, Array.replicate_zero, List.push_toArray, List.append_toArray, List.nil_append, List.cons_append]
  refine wpIn_wide.2 ?_
  replace c1 := Lib.hid c1
  go_upto_region 1 with (fail)
  refine wp_cutB w (Bc w.heap.size #[.string r.name, .int .i64 r.eps, .int .i64 r.floor, .int .i64 r.last, .int .i64 r.scale, .slice p r.pts.length cap] 35 <| Bc (w.heap.size + 1) #[.bool false] 4 <| Bz) ?_
  rintro W1 hW z2 ⟨⟨b1, yb1, k1, f1⟩, ⟨b2, yb2, k2, f2⟩, -⟩
  go_wp2_with fail
  refine (c1.out _ belowAny).mono ?_
  rintro e w3 ⟨rfl, hb3⟩
  have z4 := hb3.size
  try simp at z4
  clear k1 f1 k2 f2
  refine haveB w w3 (Bc w.heap.size #[.string r.name, .int .i64 r.eps, .int .i64 r.floor, .int .i64 r.last, .int .i64 r.scale, .slice p r.pts.length cap] 35 <| Bc (w.heap.size + 1) #[.bool false] 4 <| Bz) ?_
  clear b1 b2 hW
  rintro hW z5 ⟨⟨b1, yb1, k1, f1⟩, ⟨b2, yb2, k2, f2⟩, -⟩
  clear hb3
  go_wp2_with fail
  refine (some_w r p cap a b _).mono ?_
  rintro e w' ⟨rfl, rfl⟩
  have c9 : Below w.heap.size w ((((w3.alloc (.cells #[.slice (some ⟨bl, ol, none⟩) l.length scap] 45)).alloc (.cells #[.string r.name, .int .i64 r.eps, .int .i64 r.floor, .int .i64 r.last, .int .i64 r.scale, .slice p r.pts.length cap] 35)).alloc (.cells #[.int .i64 a] 2)).alloc (.cells #[.int .i64 b] 2)) := belowAny
  have d1 : Blk ((((w3.alloc (.cells #[.slice (some ⟨bl, ol, none⟩) l.length scap] 45)).alloc (.cells #[.string r.name, .int .i64 r.eps, .int .i64 r.floor, .int .i64 r.last, .int .i64 r.scale, .slice p r.pts.length cap] 35)).alloc (.cells #[.int .i64 a] 2)).alloc (.cells #[.int .i64 b] 2)) w.heap.size #[.string r.name, .int .i64 r.eps, .int .i64 r.floor, .int .i64 r.last, .int .i64 r.scale, .slice p r.pts.length cap] 35 := by exact blkAny2
  have d2 : Blk ((((w3.alloc (.cells #[.slice (some ⟨bl, ol, none⟩) l.length scap] 45)).alloc (.cells #[.string r.name, .int .i64 r.eps, .int .i64 r.floor, .int .i64 r.last, .int .i64 r.scale, .slice p r.pts.length cap] 35)).alloc (.cells #[.int .i64 a] 2)).alloc (.cells #[.int .i64 b] 2)) (w.heap.size + 1) #[.bool false] 4 := by exact blkAny2
  have d3 : Blk ((((w3.alloc (.cells #[.slice (some ⟨bl, ol, none⟩) l.length scap] 45)).alloc (.cells #[.string r.name, .int .i64 r.eps, .int .i64 r.floor, .int .i64 r.last, .int .i64 r.scale, .slice p r.pts.length cap] 35)).alloc (.cells #[.int .i64 a] 2)).alloc (.cells #[.int .i64 b] 2)) w3.heap.size #[.slice (some ⟨bl, ol, none⟩) l.length scap] 45 := by exact blkAny2
  have s1 : Blk ((((w3.alloc (.cells #[.slice (some ⟨bl, ol, none⟩) l.length scap] 45)).alloc (.cells #[.string r.name, .int .i64 r.eps, .int .i64 r.floor, .int .i64 r.last, .int .i64 r.scale, .slice p r.pts.length cap] 35)).alloc (.cells #[.int .i64 a] 2)).alloc (.cells #[.int .i64 b] 2)) (w3.heap.size + 1) #[.string r.name, .int .i64 r.eps, .int .i64 r.floor, .int .i64 r.last, .int .i64 r.scale, .slice p r.pts.length cap] 35 := by exact blkAny2
  have s2 : Blk ((((w3.alloc (.cells #[.slice (some ⟨bl, ol, none⟩) l.length scap] 45)).alloc (.cells #[.string r.name, .int .i64 r.eps, .int .i64 r.floor, .int .i64 r.last, .int .i64 r.scale, .slice p r.pts.length cap] 35)).alloc (.cells #[.int .i64 a] 2)).alloc (.cells #[.int .i64 b] 2)) (w3.heap.size + 1 + 1) #[.int .i64 a] 2 := by exact blkAny2
  have s3 : Blk ((((w3.alloc (.cells #[.slice (some ⟨bl, ol, none⟩) l.length scap] 45)).alloc (.cells #[.string r.name, .int .i64 r.eps, .int .i64 r.floor, .int .i64 r.last, .int .i64 r.scale, .slice p r.pts.length cap] 35)).alloc (.cells #[.int .i64 a] 2)).alloc (.cells #[.int .i64 b] 2)) (w3.heap.size + 1 + 1 + 1) #[.int .i64 b] 2 := by exact blkAny2
  have hsz : ((((w3.alloc (.cells #[.slice (some ⟨bl, ol, none⟩) l.length scap] 45)).alloc (.cells #[.string r.name, .int .i64 r.eps, .int .i64 r.floor, .int .i64 r.last, .int .i64 r.scale, .slice p r.pts.length cap] 35)).alloc (.cells #[.int .i64 a] 2)).alloc (.cells #[.int .i64 b] 2)).heap.size = w3.heap.size + 1 + 1 + 1 + 1 := by simp
  simp only [World.size_alloc]
  obtain ⟨W0, hWe⟩ : ∃ W0, W0 = ((((w3.alloc (.cells #[.slice (some ⟨bl, ol, none⟩) l.length scap] 45)).alloc (.cells #[.string r.name, .int .i64 r.eps, .int .i64 r.floor, .int .i64 r.last, .int .i64 r.scale, .slice p r.pts.length cap] 35)).alloc (.cells #[.int .i64 a] 2)).alloc (.cells #[.int .i64 b] 2)) := ⟨_, rfl⟩
  rw [← hWe] at c9 d1 d2 d3 s1 s2 s3 hsz ⊢
  have hn0 : w.heap.size + 1 < w3.heap.size := b2.lt
  clear hWe b1 b2 hW k1 f1 k2 f2
  go_wp2
  refine (wpIn_wide (n := 4)).1 ?_
  have hlt := tellG_length a b r.pts
  have hQ : ∀ x, x ∈ tellG a b r.pts → ptB x = true := fun x hx => hv x (tellG_mem hx)
  refine wpIn_rangeFunc_ownH rfl (by omega) (gf := 116) (lb := #[.pointer (some ⟨w3.heap.size + 1, 0, none⟩), .pointer (some ⟨w3.heap.size + 1 + 1, 0, none⟩), .pointer (some ⟨w3.heap.size + 1 + 1 + 1, 0, none⟩)]) rfl trivial (enters_of Tryz.func116 (by kernel_rfl) rfl)
    (encs := fun x : {x : Int × Int // ptB x = true} => #[Value.agg #[.int .i64 x.1.1, .int .i64 x.1.2]]) (Kp := KF w.heap.size (w3.heap.size + 1)) (S := fun ys => ys.map (·.1) = tellG a b r.pts) (Sp := fun pre => pre.map (·.1) <+: tellG a b r.pts) (N := (tellG a b r.pts).length) (w0 := W0)
    (fun lr J Jx W hWW hJ _ hY h0 => some1_in 3 (by omega) lr (w3.heap.size + 1) (w3.heap.size + 1 + 1) (w3.heap.size + 1 + 1 + 1) r p cap a b (fun x => ptB x = true) hQ hl (KF w.heap.size (w3.heap.size + 1)) (fun hk => ⟨hk.below.size, fun ha => hp.keep hk.below ha, fun ha => hk.rest _ _ _ _ (by omega) ha, fun ha => hk.rest _ _ _ _ (by omega) ha, fun ha => hk.rest _ _ _ _ (by omega) ha⟩) J Jx _ hJ hY W (s1.below hWW) (s2.below hWW) (s3.below hWW) ((hp.below c9).below hWW) h0)
    (fun h k => h.trans k) (KF.putObj (by omega)) (Below.refl _ _) (fun _ => rfl)
    (fun pre W => ((Blk W w.heap.size #[.string r.name, .int .i64 r.eps, .int .i64 r.floor, .int .i64 r.last, .int .i64 r.scale, .slice p r.pts.length cap] 35 ∧ Blk W (w.heap.size + 1) #[.bool false] 4) ∧ Blk W w3.heap.size #[.slice (some ⟨bl, offS ol scap pre.length, none⟩) (l.length - pre.length) (scap - pre.length)] 45) ∧ (pre.length ≤ l.length ∧ allOK r.eps (pre.map (·.1)) l = true) ∧ Below w.heap.size w W)
    (fun c pre W => Blk W (w.heap.size + 1) #[.bool false] 4 ∧ (c = .ret ∧ (l.length < pre.length ∨ allOK r.eps (pre.map (·.1)) l = false)) ∧ Below w.heap.size w W)
    (OwnFrom.and (OwnFrom.and (OwnFrom.and (Own.from (blk_own _ _ _) _) (Own.from (blk_own _ _ _) _)) (Own.from (blk_own _ _ (fun pre : List {x : Int × Int // ptB x = true} => #[.slice (some ⟨bl, offS ol scap pre.length, none⟩) (l.length - pre.length) (scap - pre.length)])) _)) (OwnFrom.and (ownFrom_pure _ _) (ownFrom_below (Nat.le_refl _) (by omega))))
    (fun c => OwnFrom.and (Own.from (blk_own _ _ _) _) (OwnFrom.and (ownFrom_pure _ _) (ownFrom_below (Nat.le_refl _) (by omega))))
    ⟨⟨⟨d1, d2⟩, by simpa [offS_zero] using d3⟩, ?start, c9⟩
    (fun x a' W => ∃ Bx, w3.heap.size < Bx ∧ Blk W Bx #[.int .i64 x.1.1, .int .i64 x.1.2] 58 ∧ ∃ u : Nat → Value, a' = { tmps := #[u 0, u 1, u 2, .slice (some ⟨bl, ol, none⟩) l.length scap, .int .i64 e, .pointer (some ⟨w.heap.size, 0, none⟩), u 6, u 7, u 8, u 9, .pointer (some ⟨(w.heap.size + 1), 0, none⟩), .pointer (some ⟨w3.heap.size, 0, none⟩), .pointer (some ⟨Bx, 0, none⟩), u 13, u 14, u 15, u 16, u 17, u 18, u 19, u 20, u 21, u 22, u 23, u 24, u 25, u 26, u 27, u 28, u 29, u 30, u 31, u 32, u 33, u 34, u 35, u 36, u 37, u 38, u 39, u 40, u 41, u 42, u 43, u 44, u 45, u 46, u 47, u 48, u 49, u 50, u 51, u 52, u 53, u 54, u 55, u 56, u 57, u 58, u 59, u 60, u 61, u 62], defers := [] })
    (fun x a' _ X Y row hs hg hr => by obtain ⟨Bx, h1, h2, h3⟩ := hs; exact ⟨Bx, h1, blk_own Bx 58 (fun (_ : Unit) => #[Value.int .i64 x.1.1, Value.int .i64 x.1.2]) () X Y row h2 hg (fun r e => (hr r e).2), h3⟩) ?assign ?body ?done ?stop
  case start => exact ⟨Nat.zero_le _, rfl⟩
  case assign =>
    rintro l9 pre x W K ⟨⟨⟨i1, i2⟩, i3⟩, i5, i6⟩ hK
    have hlt4 := i3.lt
    gi_wp2
    exact hK _ _ ((KeepsOthers.alloc _ _).from _) ((KF.refl _ _ _).alloc i6.size _) ⟨⟨⟨i1.alloc _, i2.alloc _⟩, i3.alloc _⟩, i5, i6.alloc i6.size _⟩ ⟨W.heap.size, hlt4, Blk.new' rfl, frame_ex rfl⟩
  case body =>
    rintro l9 pre ⟨⟨t, v⟩, hx⟩ a' W hl' ⟨r', hr⟩ ⟨⟨⟨i1, i2⟩, i3⟩, i5, i6⟩ ⟨Bx, hBx, bX, u, rfl⟩ hlt3
    have k1 := i1.cell
    have k2 := i2.cell
    have f2 := i2.frozen
    have kx := bX.cell
    have yx := bX.lt
    have hz6 := i6.size
    have y1 := i1.lt
    have y2 := i2.lt
    have y3 := i3.lt
    have k3 := i3.cell
    obtain ⟨i5, i7⟩ := i5
    obtain ⟨m, hm⟩ : ∃ m, l.length - pre.length = m := ⟨_, rfl⟩
    obtain ⟨c9, hc9⟩ : ∃ c, scap - pre.length = c := ⟨_, rfl⟩
    obtain ⟨o9, ho9⟩ : ∃ o, offS ol scap pre.length = o := ⟨_, rfl⟩
    rw [hm, hc9, ho9] at i3 k3
    cases m with
    | zero =>
      replace hm := Lib.hid hm
      clear hc9 ho9 c9x i7
      gi_wp2
      exact ⟨KeepsOthers.from (keepsAny) _, ⟨blkAny2, ⟨rfl, .inl (by have := hm.out; simp; omega)⟩, belowAny⟩⟩
    | succ m =>
      obtain ⟨c9, rfl⟩ : ∃ c, c9 = c + 1 := ⟨c9 - 1, by omega⟩
      obtain ⟨⟨xt, xv, xe⟩, tx⟩ : ∃ x, l[pre.length]? = some x := ⟨l[pre.length]'(by omega), List.getElem?_eq_getElem (by omega)⟩
      have hxb := hlv _ (List.mem_of_getElem? tx)
      obtain ⟨b8, o8, e8, q0, q1, q2⟩ := (hB.below i6).at' _ _ tx
      injection e8 with e8
      injection e8 with e8 e7
      subst e8; subst e7
      replace ho9 : ol + pre.length * 3 = o9 := by rw [← ho9]; unfold offS; rw [if_neg (by omega)]
      rw [ho9] at q0 q1 q2
      simp only at q0 q1 q2 hxb
      have zq := cell_lt q0
      try simp only at zq
      have hsn := Lib.hid (show allOK r.eps ((pre ++ [(⟨(t, v), hx⟩ : {x : Int × Int // ptB x = true})]).map (·.1)) l = backOK r.eps (t, v) (xt, xv, xe) by unfold allOK at *; rw [List.map_append, List.map_cons, List.map_nil, all_snoc (by rw [List.length_map]; exact tx), i7, Bool.true_and])
      have hL1 := Lib.hid (show (pre ++ [(⟨(t, v), hx⟩ : {x : Int × Int // ptB x = true})]).length = pre.length + 1 by simp)
      have hvb := hx
      simp only [ptB, btw, Bool.and_eq_true, decide_eq_true_eq] at hvb
      have cb := Lib.hid (fun W => c_mdBtw xe 0 r.eps W)
      have cn := Lib.hid (fun W => c_mdNear xt xv xe v W hxb.2.1 hxb.2.2 (by unfold I64; omega))
      clear hvb hxb i7 tx
      replace ho9 := Lib.hid ho9
      replace hm := Lib.hid hm
      replace hc9 := Lib.hid hc9
      by_cases hne : xt = t
      · subst hne
        obtain ⟨B1, hB1⟩ : ∃ B, btw xe 0 r.eps = B := ⟨_, rfl⟩
        obtain ⟨B2, hB2'⟩ : ∃ B, nearB xv xe v = B := ⟨_, rfl⟩
        rw [hB1] at cb
        rw [hB2'] at cn
        have hok := Lib.hid (show backOK r.eps (xt, v) (xt, xv, xe) = (B1 && B2) by unfold backOK; rw [← hB1, ← hB2']; simp)
        clear hB1 hB2'
        cases B1 with
        | false =>
          gi_wp2_with (refine ⟨trivial, ?_⟩; gi_at_call 69; refine (CallsIn.inRound l9 (callsIn_wide.2 (cb.out _))).mono ?_; rintro e1 w2 ⟨rfl, hB2⟩; have j2 := (i2.alloc _).below hB2; have j3 := (i3.alloc _).below hB2; have jX := (bX.alloc _).below hB2; have jY : Blk w2 W.heap.size #[.int .i64 xt, .int .i64 xv, .int .i64 xe] 64 := (Blk.new' rfl : Blk (W.alloc (.cells #[.int .i64 xt, .int .i64 xv, .int .i64 xe] 64)) W.heap.size #[.int .i64 xt, .int .i64 xv, .int .i64 xe] 64).below hB2; have y2' := j2.lt; have y3' := j3.lt; have yX' := jX.lt; have yY' := jY.lt; have k2' := j2.cell; have f2' := j2.frozen; have k3' := j3.cell; have f3' := j3.frozen; have kX' := jX.cell; have kY' := jY.cell; clear k1 k2 f2 kx k3 q0 q1 q2)
          refine ⟨trivial, ?_⟩
          gi_wp2
          exact ⟨KeepsOthers.from (keepsAny) _, ⟨blkAny2, ⟨rfl, .inr (by rw [hsn.out, hok.out]; rfl)⟩, belowAny⟩⟩
        | true =>
          gi_wp2_with (refine ⟨trivial, ?_⟩; gi_at_call 69; refine (CallsIn.inRound l9 (callsIn_wide.2 (cb.out _))).mono ?_; rintro e1 w2 ⟨rfl, hB2⟩; have j2 := (i2.alloc _).below hB2; have j3 := (i3.alloc _).below hB2; have jX := (bX.alloc _).below hB2; have jY : Blk w2 W.heap.size #[.int .i64 xt, .int .i64 xv, .int .i64 xe] 64 := (Blk.new' rfl : Blk (W.alloc (.cells #[.int .i64 xt, .int .i64 xv, .int .i64 xe] 64)) W.heap.size #[.int .i64 xt, .int .i64 xv, .int .i64 xe] 64).below hB2; have y2' := j2.lt; have y3' := j3.lt; have yX' := jX.lt; have yY' := jY.lt; have k2' := j2.cell; have f2' := j2.frozen; have k3' := j3.cell; have f3' := j3.frozen; have kX' := jX.cell; have kY' := jY.cell; clear k1 k2 f2 kx k3 q0 q1 q2)
          cases B2 with
          | false =>
            gi_wp2_with (refine ⟨trivial, ?_⟩; gi_at_call 70; refine (CallsIn.inRound l9 (callsIn_wide.2 (cn.out _))).mono ?_; rintro e3 w4 ⟨rfl, hB3⟩; have p2 := j2.below hB3; have p3 := j3.below hB3; have yp2 := p2.lt; have yp3 := p3.lt; have kp2 := p2.cell; have fp2 := p2.frozen; have kp3 := p3.cell; have fp3 := p3.frozen; clear k2' f2' k3' f3' kX' kY')
            exact ⟨KeepsOthers.from (keepsAny) _, ⟨blkAny2, ⟨rfl, .inr (by rw [hsn.out, hok.out]; rfl)⟩, belowAny⟩⟩
          | true =>
            rcases Nat.eq_zero_or_pos c9 with rfl | h9
            · gi_wp2_with (refine ⟨trivial, ?_⟩; gi_at_call 70; refine (CallsIn.inRound l9 (callsIn_wide.2 (cn.out _))).mono ?_; rintro e3 w4 ⟨rfl, hB3⟩; have p2 := j2.below hB3; have p3 := j3.below hB3; have yp2 := p2.lt; have yp3 := p3.lt; have kp2 := p2.cell; have fp2 := p2.frozen; have kp3 := p3.cell; have fp3 := p3.frozen; clear k2' f2' k3' f3' kX' kY')
              exact ⟨KeepsOthers.from (keepsAny) _, kfAny, ⟨⟨⟨Blk.setO (by exact blkAny2) (by omega) _ _, Blk.setO p2 (by omega) _ _⟩, by rw [hL1.out, show offS ol scap (pre.length + 1) = o9 by (have := ho9.out; have := hc9.out; unfold offS; rw [if_pos (by omega)]; omega), show l.length - (pre.length + 1) = m by have := hm.out; omega, show scap - (pre.length + 1) = 0 by have := hc9.out; omega]; exact blkAny2⟩, ⟨by rw [hL1.out]; have := hm.out; omega, by rw [hsn.out, hok.out]; rfl⟩, belowAny⟩⟩
            · gi_wp2_with (refine ⟨trivial, ?_⟩; gi_at_call 70; refine (CallsIn.inRound l9 (callsIn_wide.2 (cn.out _))).mono ?_; rintro e3 w4 ⟨rfl, hB3⟩; have p2 := j2.below hB3; have p3 := j3.below hB3; have yp2 := p2.lt; have yp3 := p3.lt; have kp2 := p2.cell; have fp2 := p2.frozen; have kp3 := p3.cell; have fp3 := p3.frozen; clear k2' f2' k3' f3' kX' kY')
              exact ⟨KeepsOthers.from (keepsAny) _, kfAny, ⟨⟨⟨Blk.setO (by exact blkAny2) (by omega) _ _, Blk.setO p2 (by omega) _ _⟩, by rw [hL1.out, show offS ol scap (pre.length + 1) = o9 + 3 by (have := ho9.out; have := hc9.out; unfold offS; rw [if_neg (by omega)]; omega), show l.length - (pre.length + 1) = m by have := hm.out; omega, show scap - (pre.length + 1) = c9 by have := hc9.out; omega]; exact blkAny2⟩, ⟨by rw [hL1.out]; have := hm.out; omega, by rw [hsn.out, hok.out]; rfl⟩, belowAny⟩⟩
      · have hne' : (xt != t) = true := by simpa using hne
        have hok := Lib.hid (show backOK r.eps (t, v) (xt, xv, xe) = false by unfold backOK; rw [show ((xt == t) = false) by simpa using hne]; rfl)
        clear hne
        gi_wp2
        refine ⟨trivial, ?_⟩
        gi_wp2
        refine ⟨trivial, ?_⟩
        gi_wp2
        exact ⟨KeepsOthers.from (keepsAny) _, ⟨blkAny2, ⟨rfl, .inr (by rw [hsn.out, hok.out])⟩, belowAny⟩⟩
  case done =>
    rintro D ys W hD hys ⟨⟨⟨i1, i2⟩, i3⟩, i5, i6⟩ hK
    have hz6 := i6.size
    have y1 := i1.lt
    have y2 := i2.lt
    have y3 := i3.lt
    have f2 := i2.frozen
    simp only [Exit.inBlock, Exit.then]
    have hKX := Lib.hid (show DefK D W from hK)
    clear hK d1 d2 d3 s1 s2 s3 c9 hp hv
    obtain ⟨i5, i7⟩ := i5
    obtain ⟨m, hm⟩ : ∃ m, l.length - ys.length = m := ⟨_, rfl⟩
    obtain ⟨c9, hc9⟩ : ∃ c, scap - ys.length = c := ⟨_, rfl⟩
    obtain ⟨o9, ho9⟩ : ∃ o, offS ol scap ys.length = o := ⟨_, rfl⟩
    have hT := Lib.hid (show scanB r.eps e (tellG a b r.pts) l = (((m : Int) == 0) && (e == 0)) by
      unfold allOK at i7
      rw [hys] at i7
      have hlen : (tellG a b r.pts).length = ys.length := by rw [← hys, List.length_map]
      unfold scanB
      rw [if_neg (by omega), i7, Bool.and_true, hlen]
      congr 1
      rw [Bool.eq_iff_iff, decide_eq_true_eq, beq_iff_eq]
      omega)
    rw [hm, hc9, ho9] at i3
    clear hm hc9 ho9 hys i5 i7 hB hlv c9x
    have b1 := i1
    have b2 := i2
    have b3 := i3
    have hW := i6
    clear i1 i2 i3 i6
    have k1 := b1.cell
    have f1 := b1.frozen
    have k2 := b2.cell
    have f2 := b2.frozen
    have k3 := b3.cell
    have f3 := b3.frozen
    go_upto_region 14 with (fail)
    clear k1 f1 k2 f2 k3 f3
    refine wp_cutB w (Bc w.heap.size #[.string r.name, .int .i64 r.eps, .int .i64 r.floor, .int .i64 r.last, .int .i64 r.scale, .slice p r.pts.length cap] 35 <| Bc (w.heap.size + 1) #[.bool false] 4 <| Bc w3.heap.size #[.slice (some ⟨bl, o9, none⟩) m c9] 45 <| Rc (fun W' => DefK D W') <| Bz) ?_ (hI := by exact belowAny) (hR := (Bc.mk (by exact blkAny2) <| Bc.mk (by exact blkAny2) <| Bc.mk (by exact blkAny2) <| Rc.mk (by exact hKX.out) <| trivial))
    clear b1 b2 b3 hW
    rintro W41 hW z42 hL
    obtain ⟨⟨b1, yb1, k1, f1⟩, ⟨b2, yb2, k2, f2⟩, ⟨b3, yb3, k3, f3⟩, b4, -⟩ := id hL
    clear k1 f1 k2 f2 k3 f3
    refine wp_regS 7 63 hW hL ?_
    iterate 4 refine dA ?_
    iterate 2 refine gA ?_
    refine pA ?_
    clear hW hL b1 b2 b3 b4
    rintro W43 hW z44 hL
    simp only [ndR]
    intros
    repeat (rename GDet _ _ _ _ => hgd; clear hgd)
    simp only [ndS]
    obtain ⟨⟨b1, yb1, k1, f1⟩, ⟨b2, yb2, k2, f2⟩, ⟨b3, yb3, k3, f3⟩, b4, -⟩ := hL
    go_wp2
    have b9 : Blk (W43.setCell ⟨w.heap.size + 1, 0, none⟩ (.bool (((m : Int) == 0) && (e == 0)))) (w.heap.size + 1) #[.bool (((m : Int) == 0) && (e == 0))] 4 := blkAny2
    have hK9 : (W43.setCell ⟨w.heap.size + 1, 0, none⟩ (.bool (((m : Int) == 0) && (e == 0)))).heap[D]? = some (.deferred (some [])) := (keepsAny : KeepsOthers _ (W43.setCell ⟨w.heap.size + 1, 0, none⟩ (.bool (((m : Int) == 0) && (e == 0))))).same D _ b4 rfl
    simp only [bodyPostM]
    have hB9 : Below w.heap.size w (W43.setCell ⟨w.heap.size + 1, 0, none⟩ (.bool (((m : Int) == 0) && (e == 0)))) := by exact belowAny
    refine ⟨by simp, .inl ⟨_, _, rfl, run_takeDeferred hK9, ?_⟩⟩
    have hc9 := cell_kept (by simpa using b9.cell 0) (grownBy_putObj' (W43.setCell ⟨w.heap.size + 1, 0, none⟩ (.bool (((m : Int) == 0) && (e == 0)))) D (.deferred none)) (fun r e => by cases e; exact ⟨_, hK9, rfl⟩)
    refine ⟨.bool (((m : Int) == 0) && (e == 0)), by simp [results, Tryz.f27, go_sem, hc9], ?_, hB9.trans (belowK_b (w := w) (Nat.le_refl _) (W43.setCell ⟨w.heap.size + 1, 0, none⟩ (.bool (((m : Int) == 0) && (e == 0)))) D _ _ (by omega) hK9 rfl rfl)⟩
    rw [hT.out]
  case stop =>
    rintro D c pre W hD hpre ⟨i4, ⟨rfl, i5⟩, i6⟩ hK
    have hz6 := i6.size
    have y4 := i4.lt
    have hT := Lib.hid (show scanB r.eps e (tellG a b r.pts) l = false by unfold scanB; rw [if_neg (by omega)]; have hle := hpre.length_le; rw [List.length_map] at hle; rcases i5 with h | h; rw [decide_eq_false (by omega)]; rfl; rw [all_pre hpre h, Bool.and_false]; rfl)
    clear i5 hpre
    gi_wp2
    have b9 := i4
    have hK9 := hK
    have hB9 : Below w.heap.size w W := by exact belowAny
    refine ⟨by simp, .inl ⟨_, _, rfl, run_takeDeferred hK9, ?_⟩⟩
    have hc9 := cell_kept (by simpa using b9.cell 0) (grownBy_putObj' W D (.deferred none)) (fun r e => by cases e; exact ⟨_, hK9, rfl⟩)
    refine ⟨.bool false, by simp [results, Tryz.f27, go_sem, hc9], ?_, hB9.trans (belowK_b (w := w) (Nat.le_refl _) W D _ _ (by omega) hK9 rfl rfl)⟩
    rw [hT.out]
theorem c_mdHoldsScan (r : RawT) (p : Option Addr) (cap : Nat) (a b e : Int) (sp : Option Addr) (l : List (Int × Int × Int)) (scap : Nat) (w : World) (hp : PtsIn w p r.pts) (hl : r.pts.length ≤ 2000) (hB : BksIn w sp l) (hl2 : l.length ≤ scap) (hl3 : l.length ≤ 2000) (hlv : ∀ x, x ∈ l → I64 x.1 ∧ I64 x.2.1 ∧ I64 x.2.2) :
    Calls Tryz.prog 27 #[.agg (rawA r p cap), .int .i64 a, .int .i64 b, .slice sp l.length scap, .int .i64 e] w fun e' w' => e' = .returned (.bool (rawB r && scanB r.eps e (tellG a b r.pts) l)) ∧ Below w.heap.size w w' := by
  have c1 := fun W (hW : Below w.heap.size w W) => c_mdCheckRaw r p cap W (hp.below hW) hl
  unfold rawA at c1 ⊢
  cases hR : rawB r with
  | false =>
    rw [hR] at c1
    exact callsIn_wide.1 (holdsScan_no r p cap a b e sp l.length scap w c1)
  | true =>
    rw [hR, if_pos rfl] at c1
    obtain ⟨_, hlen, hpt⟩ := rawB_parts hR
    cases l with
    | nil => exact callsIn_wide.1 (holdsScan_nil r p cap a b e sp scap w hp hl hpt c1)
    | cons x l =>
      obtain ⟨b0, o0, rfl, _⟩ := hB.at' 0 x rfl
      exact callsIn_wide.1 (holdsScan_some r p cap a b e b0 o0 (x :: l) scap w hp hl hpt hB (by simp) hl2 hl3 hlv c1)
end Go.Proofs.YtdeghcgakkhbmaaGreat
namespace Go.Proofs.YtdeghcgakkhbmaaGreat
open Go.RowKit
def bkR (x : Int × Int × Int) : RunT := ⟨x.1, x.2.1, x.2.2⟩
theorem bks_runs {w : World} {p : Option Addr} {l : List (Int × Int × Int)} (h : BksIn w p l) : RunsIn w p (l.map bkR) := ⟨fun i r hr => by
  rw [List.getElem?_map, Option.map_eq_some_iff] at hr
  obtain ⟨x, hx, rfl⟩ := hr
  exact h.at' i x hx⟩
theorem runs_bks {w : World} {p : Option Addr} {l : List (Int × Int × Int)} (h : RunsIn w p (l.map bkR)) : BksIn w p l := ⟨fun i x hx => h.at' i (bkR x) (by rw [List.getElem?_map, hx]; rfl)⟩
theorem Tryz.infoBack : (Tryz.prog.info? 64).map (fun i => (i.zero, i.size, i.bytes)) = some (some (.agg #[.int .i64 0, .int .i64 0, .int .i64 0]), 3, 24) := by kernel_rfl
set_option maxRecDepth 100000 in
set_option maxHeartbeats 2000000 in
theorem cloneBack_some (a : Addr) (cap : Nat) (l : List RunT) (w : World) (hl : l.length ≤ 2000) (h : RunsIn w (some a) l) : Calls Tryz.prog 22 #[.slice (some a) l.length cap] w (CloneR w (some a) l) := by
  have hnil : ∀ W, (binOp .eql 45 (.slice (some a) l.length cap) (.slice none 0 0)).run Tryz.prog W = .ok (.bool false) W := fun W => Lib.run_eql_slice_nil W 45 64 _ _ _ _ _ (by kernel_rfl)
  go_enter Tryz.func22, Tryz.ntmps22
  go_upto_region 3 with (fail)
  clear hnil
  have hmk : ∀ W, (Instr.buildSlice 45 0 #[]).run Tryz.prog W = .ok (.slice (some ⟨W.heap.size, 0, none⟩) 0 0) (W.alloc (.cells #[] 64)) := fun W => by kernel_rfl
  obtain ⟨i, hi, hz0, hz1, hz2⟩ := info_parts Tryz.infoBack
  have hW : Below w.heap.size w (w.alloc (.cells #[] 64)) := belowAny
  have hown0 := World.ownsRow_made (e := 64) (size := 3) (base := w.heap.size) w #[] 0 (Nat.le_refl _) (by simp [maxLen]) (by simp)
  go_wp2_with (at_builtin; refine wpList_append_own _ rfl (.tmp 5) (.tmp 6) 45 rfl w.heap.size 64 i _ 3 24 (by kernel_rfl) hi hz0 hz1 hz2 rfl (by omega) _ 0 [] rfl hown0 a l.length cap (flatCells l) rfl (by rw [length_flatCells]) ((h.below hW).flat) (fun v hv => by obtain ⟨x, rfl⟩ := flat_mem l v hv; rfl) (by simp [maxLen]; omega) (by omega) (by simp) ?_)
  intro v' w' hown hgr _
  have hB := Lib.hid (clone_below hgr)
  replace hown := Lib.hid hown
  clear hgr
  go_wp2
  go_ret
  obtain ⟨_, h2 | ⟨g, cap', cur, rfl, hg, hb, hn, _, hc, ht⟩⟩ := hown.out
  · obtain ⟨rfl, h0⟩ := h2
    have h0' : l.length = 0 := by omega
    exact ⟨none, 0, by rw [h0']; rfl, hB.out, ⟨fun i r hr => by rw [List.getElem?_eq_none_iff.2 (by omega)] at hr; cases hr⟩, by omega, fun a h => by cases h⟩
  · exact ⟨some ⟨g, 0, none⟩, cap', by simp, hB.out, cloneRun_in hb (by simpa using ht), by omega, fun a h => by cases h; exact hg⟩
set_option maxRecDepth 100000 in
set_option maxHeartbeats 2000000 in
theorem cloneBack_nil (w : World) : Calls Tryz.prog 22 #[.slice none 0 0] w fun e w' => e = .returned (.slice none 0 0) ∧ Below w.heap.size w w' := by
  go_enter Tryz.func22, Tryz.ntmps22
  have hnil : ∀ W, (binOp .eql 45 (.slice none 0 0) (.slice none 0 0)).run Tryz.prog W = .ok (.bool true) W := fun W => by kernel_rfl
  go_wp2
  go_ret
  exact ⟨rfl, belowAny⟩
theorem c_CloneBack (p : Option Addr) (cap : Nat) (l : List (Int × Int × Int)) (w : World) (hl : l.length ≤ 2000) (h : BksIn w p l) (hn : p = none → l.length = 0 ∧ cap = 0) :
    Calls Tryz.prog 22 #[.slice p l.length cap] w fun e w' => ∃ p' cap', e = .returned (.slice p' l.length cap') ∧ Below w.heap.size w w' ∧ BksIn w' p' l ∧ l.length ≤ cap' := by
  cases p with
  | none =>
    obtain ⟨h1, rfl⟩ := hn rfl
    have e : l = [] := List.length_eq_zero_iff.1 h1
    subst e
    refine (cloneBack_nil w).mono ?_
    rintro e w' ⟨rfl, hB⟩
    exact ⟨none, 0, rfl, hB, ⟨fun i r hr => by simp at hr⟩, Nat.le_refl _⟩
  | some a =>
    have t := cloneBack_some a cap (l.map bkR) w (by rw [List.length_map]; exact hl) (bks_runs h)
    rw [List.length_map] at t
    refine t.mono ?_
    rintro e w' ⟨p', cap', rfl, hB, hR, hc, -⟩
    rw [List.length_map] at hc
    exact ⟨p', cap', by rw [List.length_map], hB, runs_bks hR, hc⟩
structure BksP (w : World) (b o : Nat) (l : List (Int × Int × Int)) : Prop where
  bks : BksIn w (some ⟨b, o, none⟩) l
theorem BksP.below {w w' : World} {b o : Nat} {l : List (Int × Int × Int)} (h : BksP w b o l) (hb : Below w.heap.size w w') : BksP w' b o l := ⟨h.bks.below hb⟩
theorem BksP.rex {L : List Nat} {w w' : World} {b o : Nat} {l : List (Int × Int × Int)} (h : BksP w b o l) (hr : Rex L w w') (hL : L = []) : BksP w' b o l := by subst hL; exact h.below hr.below
theorem BksP.drew {w : World} {b o : Nat} {l : List (Int × Int × Int)} (h : BksP w b o l) : BksP w.drew b o l := ⟨h.bks.drew⟩
theorem BksP.cellAt {w : World} {b o i : Nat} {l : List (Int × Int × Int)} {x : Int × Int × Int} (h : BksP w b o l) (hx : l[i]? = some x) : w.cell? ⟨b, o + i * 3, none⟩ = some (.int .i64 x.1) ∧ w.cell? ⟨b, o + i * 3 + 1, none⟩ = some (.int .i64 x.2.1) ∧ w.cell? ⟨b, o + i * 3 + 2, none⟩ = some (.int .i64 x.2.2) := by
  obtain ⟨b', o', e, h1⟩ := h.bks.at' i x hx
  injection e with e
  injection e with e1 e2
  subst e1; subst e2
  exact h1
def eqkRel (w : World) (p : Option Addr) (cap : Nat) (p' : Option Addr) (cap' : Nat) (A : List (Int × Int × Int)) (a' : Act) (W : World) : Prop :=
  Below w.heap.size w W ∧ ∃ (i : Nat), (∃ u : Nat → Value, a' = { tmps := #[.slice p A.length cap, .slice p' A.length cap', u 2, u 3, .bool false, u 5, u 6, u 7, u 8, u 9, u 10, u 11, .int .i64 (A.length : Int), .int .i64 (i : Int), u 14, u 15, u 16, u 17, u 18, u 19, u 20, u 21, u 22, u 23, u 24, u 25], defers := [] }) ∧ i ≤ A.length
set_option maxRecDepth 100000 in
set_option maxHeartbeats 8000000 in
/-- Two slices of the same are the same. -/
theorem c_eqBks (p : Option Addr) (cap : Nat) (p' : Option Addr) (cap' : Nat) (A : List (Int × Int × Int)) (w : World) (hlen : A.length ≤ 1000000) (hA0 : BksIn w p A) (hB0 : BksIn w p' A) :
    Calls Tryz.prog 29 #[.slice p A.length cap, .slice p' A.length cap'] w fun e w' => e = .returned (.bool true) ∧ Below w.heap.size w w' := by
  go_enter Tryz.func29, Tryz.ntmps29
  go_wp2
  refine wp_loop (eqkRel w p cap p' cap' A) (fun a' _ => A.length - (intAt (a'.tmps.getD 13 undef)).toNat) ?_ ?_
  · unfold eqkRel
    exact ⟨Below.refl _ _, 0, frame_ex rfl, by omega⟩
  · rintro a' W ⟨hW0, i, ⟨u, rfl⟩, hi'⟩
    have hz := hW0.size
    rcases Nat.lt_or_ge i A.length with hlt | hge
    · obtain ⟨r, tr⟩ : ∃ r, A[i]? = some r := ⟨A[i]'(by omega), List.getElem?_eq_getElem (by omega)⟩
      obtain ⟨b, o, rfl, -⟩ := hA0.at' i r tr
      obtain ⟨b', o', rfl, -⟩ := hB0.at' i r tr
      have hA : BksP W b o A := ⟨hA0.below hW0⟩
      have hB : BksP W b' o' A := ⟨hB0.below hW0⟩
      replace tr := Lib.hid tr
      have l1 := hlt
      go_upto_region 6 with (fail)
      refine wp_cutB W (Rc (fun W' => BksP W' b o A) <| Rc (fun W' => BksP W' b' o' A) <| Bz) ?_ (hI := by exact belowAny) (hR := (Rc.mk (by exact hA.below belowAny) <| Rc.mk (by exact hB.below belowAny) <| trivial))
      rintro W1 hW z2 hL
      obtain ⟨b1, b2, -⟩ := id hL
      refine wp_regQ 9 26 hW hL ?_
      iterate 9 refine dE (fun W' hC => aI (hC.2.1.cellAt tr.out) (aI (hC.2.2.1.cellAt tr.out) l1)) ?_
      clear hW hL b1 b2
      rintro W3 hW z4 hL
      simp only [ndR]
      intros
      simp only [ndS]
      refine wpList_nil ?_
      obtain ⟨b1, b2, -⟩ := hL
      go_wp2
      rw [show (i : Int) + 1 = ((i + 1 : Nat) : Int) by omega]
      refine ⟨?_, by simp [intAt]; omega⟩
      unfold eqkRel
      exact ⟨hW0.trans (hW.mono hz), i + 1, frame_ex rfl, by omega⟩
    · obtain rfl : i = A.length := by omega
      go_wp2
      go_ret
      exact ⟨rfl, hW0⟩
end Go.Proofs.YtdeghcgakkhbmaaGreat
namespace Go.Proofs.YtdeghcgakkhbmaaGreat
open Go.RowKit
/-- What a guarded step has, if it is carried out. -/
def GS (g : Bool) (Φ : Spec) : Spec := fun v w => if g = true then Φ v w else v = undef
theorem GS.closed {L : List Nat} {Φ : Spec} (g : Bool) (h : Closed L Φ) : Closed L (GS g Φ) := fun v w w' hr hs => by
  unfold GS at *
  split at hs <;> rename_i hg
  · rw [if_pos hg]; exact h _ _ _ hr hs
  · rw [if_neg hg]; exact hs
section
variable {P : Program} {ops : Array Oper} {C : World → Prop} {X : List (Nat × Nat)} {a0 : Act} {Fin : List (Option Tmp × Spec) → Prop} {i : Nat} {o : Oper} {rest : List Oper} {acc : List (Option Tmp × Spec)}
theorem nd_gs (Φ : Spec) (p x want : Bool) (k : Nat) (d : Tmp) (hcl : Closed (others X i) Φ) (hg : o.guard = some (k, want)) (hd : wrOf ops k = some d)
    (hx : ∀ v w, envOf a0 acc d v w → if p = true then v = .bool x else v = undef)
    (h : p = true → x = want → ∀ (a : Act) (w : World), C w → (∀ s ∈ o.looksAt ops, envOf a0 acc s (a.tmps.getD s undef) w) → runND P o (priv X i) Φ w ((execOp a.eval o).run P w))
    (hr : ndWalk P ops C X a0 Fin (i + 1) rest ((o.dst, GS (p && (x == want)) Φ) :: acc)) : ndWalk P ops C X a0 Fin i (o :: rest) acc := by
  refine ⟨GS (p && (x == want)) Φ, GS.closed _ hcl, fun a w hC hE => ?_, hr⟩
  have hin : d ∈ o.looksAt ops := by
    unfold wrOf at hd
    simp [Oper.looksAt, hg, hd]
  have hv := hx _ _ (hE d hin)
  cases p with
  | true =>
    have hw := wanted_some (o := o) hg hd (by simpa using hv)
    refine ⟨fun e => ?_, fun e => ?_⟩
    · rw [hw] at e
      have hxw : x = want := by simpa using e
      have := h rfl hxw a w hC hE
      have eg : GS (true && (x == want)) Φ = Φ := by funext v w; simp [GS, hxw]
      rw [eg]
      exact this
    · rw [hw] at e
      simp [GS, e]
  | false =>
    have hw := wanted_undef (o := o) hg hd (by simpa using hv)
    exact ⟨fun e => (by rw [hw] at e; cases e), fun _ => (by simp [GS])⟩
theorem nd_gcall (Φ : Spec) (p x want : Bool) (k : Nat) (d : Tmp) (hcl : Closed (others X i) Φ) (hg : o.guard = some (k, want)) (hd : wrOf ops k = some d) (hal : isAlloc o = false)
    (hx : ∀ v w, envOf a0 acc d v w → if p = true then v = .bool x else v = undef)
    (h : p = true → x = want → ∀ (a : Act) (w : World), C w → (∀ s ∈ o.looksAt ops, envOf a0 acc s (a.tmps.getD s undef) w) → ∃ f args, (execOp a.eval o).run P w = .ok (.enter f args) w ∧ Calls P f args w fun e w' => ∃ u, e = .returned u ∧ Below w.heap.size w w' ∧ Φ u w')
    (hr : ndWalk P ops C X a0 Fin (i + 1) rest ((o.dst, GS (p && (x == want)) Φ) :: acc)) : ndWalk P ops C X a0 Fin i (o :: rest) acc :=
  nd_gs Φ p x want k d hcl hg hd hx (fun e1 e2 a w hC hE => by
    obtain ⟨f, args, h1, h2⟩ := h e1 e2 a w hC hE
    rw [h1]
    exact ⟨rfl, hal, h2.mono fun e w' ⟨u, he, hb, hΦ⟩ => ⟨u, he, Rex.of_below hb, hΦ⟩⟩) hr
end
set_option maxRecDepth 100000 in
set_option maxHeartbeats 2000000 in
theorem neg_w (sa : Bool) (pa : Option Addr) (la ca m : Nat) (w : World) (ha : Bits w (.slice pa la ca) m) :
    Calls Tryz.prog 115 #[.agg #[.bool sa, .slice pa la ca]] w fun e w' => ∃ sz, e = .returned (.agg #[.bool (!sa && decide (0 < m)), sz]) ∧ Bits w' sz m ∧ Below w.heap.size w w' := by
  go_enter Tryz.func115, Tryz.ntmps115
  go_upto_region 1 with (fail)
  refine wp_cutB w (Bc w.heap.size #[.bool sa, .slice pa la ca] 115 <| Bc (w.heap.size + 1) #[.bool false, .slice none 0 0] 115 <| Rc (fun W' => Bits W' (.slice pa la ca) m) <| Bz) ?_ (hI := by exact belowAny) (hR := (Bc.mk (by exact blkAny2) <| Bc.mk (by exact blkAny2) <| Rc.mk (by first | exact ha.below belowAny | exact b3.below hW) <| trivial))
  rintro W1 hW z2 ⟨⟨b1, yb1, k1, f1⟩, ⟨b2, yb2, k2, f2⟩, b3, -⟩
  go_wp2_with fail
  refine (c_refmade (!sa) (.slice pa la ca) m _ b3).mono ?_
  rintro e w3 ⟨rfl, hb3⟩
  have z4 := hb3.size
  try simp at z4
  clear k1 f1 k2 f2
  refine haveB w w3 (Bc w.heap.size #[.bool sa, .slice pa la ca] 115 <| Bc (w.heap.size + 1) #[.bool false, .slice none 0 0] 115 <| Rc (fun W' => Bits W' (.slice pa la ca) m) <| Bz) ?_ (hR := (Bc.mk (by exact blkAny2) <| Bc.mk (by exact blkAny2) <| Rc.mk (by first | exact ha.below belowAny | exact b3.below hb3) <| trivial))
  clear b1 b2 b3 hW
  rintro hW z5 ⟨⟨b1, yb1, k1, f1⟩, ⟨b2, yb2, k2, f2⟩, b3, -⟩
  clear hb3
  have hq1 := Lib.hid b3
  clear b3
  have y_1 := b1.lt
  have y_2 := b2.lt
  obtain ⟨B, hB⟩ : ∃ B, B = (!sa && decide (0 < m)) := ⟨_, rfl⟩
  rw [← hB]
  replace hB := Lib.hid hB
  go_wp2
  refine bodyPost_ret (v := .agg #[.bool B, .slice pa la ca]) (by simp [results, Tryz.results115, go_sem, k1, f1, k2, f2, y_1, y_2]) rfl ⟨_, by rw [hB.out], ?_, by exact belowAny⟩
  have hS := hq1.out.store b2 (.bool B) (.slice pa la ca)
  simpa using hS
theorem c_refNeg (va : Value) (x : Int) (w : World) (ha : NumIs w va x) : Calls Tryz.prog 115 #[va] w fun e w' => ∃ v, e = .returned v ∧ NumIs w' v (-x) ∧ Below w.heap.size w w' := by
  obtain ⟨pa, la, ca, rfl, ha'⟩ := num_shape ha
  refine (neg_w _ pa la ca _ w ha').mono ?_
  rintro e w' ⟨sz, rfl, h, hB⟩
  refine ⟨_, rfl, ⟨sz, ?_, by rw [Int.natAbs_neg]; exact h⟩, hB⟩
  congr 3
  by_cases h1 : x < 0
  · rw [decide_eq_true h1, decide_eq_false (show ¬ (-x < 0) by omega)]; rfl
  · rw [decide_eq_false h1, Bool.not_false, Bool.true_and]
    by_cases h2 : x = 0
    · rw [decide_eq_false (show ¬ (0 < x.natAbs) by omega), decide_eq_false (show ¬ (-x < 0) by omega)]
    · rw [decide_eq_true (show 0 < x.natAbs by omega), decide_eq_true (show -x < 0 by omega)]
set_option maxRecDepth 100000 in
set_option maxHeartbeats 2000000 in
theorem c_refSub (va vb : Value) (x y : Int) (w : World) (ha : NumIs w va x) (hb : NumIs w vb y) (hx : x.natAbs < 2 ^ 900) (hy : y.natAbs < 2 ^ 900) :
    Calls Tryz.prog 67 #[va, vb] w fun e w' => ∃ v, e = .returned v ∧ NumIs w' v (x - y) ∧ Below w.heap.size w w' := by
  rw [Int.sub_eq_add_neg]
  obtain ⟨pa, la, ca, rfl, ha'⟩ := num_shape ha
  obtain ⟨pb, lb, cb, rfl, hb'⟩ := num_shape hb
  clear ha' hb'
  go_enter Tryz.func67, Tryz.ntmps67
  go_upto_region 1 with (fail)
  refine wp_cutB w (Bc w.heap.size #[.bool (decide (x < 0)), .slice pa la ca] 115 <| Bc (w.heap.size + 1) #[.bool (decide (y < 0)), .slice pb lb cb] 115 <| Bc (w.heap.size + 2) #[.bool false, .slice none 0 0] 115 <| Rc (fun W' => NumIs W' (.agg #[.bool (decide (x < 0)), .slice pa la ca]) x) <| Rc (fun W' => NumIs W' (.agg #[.bool (decide (y < 0)), .slice pb lb cb]) y) <| Bz) ?_ (hI := by exact belowAny) (hR := (Bc.mk (by exact blkAny2) <| Bc.mk (by exact blkAny2) <| Bc.mk (by exact blkAny2) <| Rc.mk (by exact NumIs.below ha belowAny) <| Rc.mk (by exact NumIs.below hb belowAny) <| trivial))
  rintro W1 hW z2 hL
  obtain ⟨⟨b1, yb1, k1, f1⟩, ⟨b2, yb2, k2, f2⟩, ⟨b3, yb3, k3, f3⟩, b4, b5, -⟩ := id hL
  clear k1 f1 k2 f2 k3 f3
  refine wp_regD 4 9 hW hL ?_
  iterate 2 refine dA ?_
  apply nd_call (NI (-y)) (hg := rfl) (hal := rfl)
  · exact NI.closed _
  · intro a' W' hC hE
    obtain ⟨_, ⟨-, -, k1, -⟩, ⟨-, -, k2, -⟩, ⟨-, -, k3, -⟩, k4, k5, -⟩ := hC
    simp [Oper.looksAt, Op.operands, Call.operands, envOf, Det] at hE
    refine ⟨_, _, ?_, (c_refNeg _ y W' k5).mono ?_⟩
    · simp [go_sem, Act.eval, hE]
      try rfl
    · rintro e w' ⟨v, rfl, hB, hR⟩
      exact ⟨_, rfl, hR, hB⟩
  apply nd_call (NI (x + -y)) (hg := rfl) (hal := rfl)
  · exact NI.closed _
  · intro a' W' hC hE
    obtain ⟨_, ⟨-, -, k1, -⟩, ⟨-, -, k2, -⟩, ⟨-, -, k3, -⟩, k4, k5, -⟩ := hC
    simp [Oper.looksAt, Op.operands, Call.operands, envOf, Det] at hE
    refine ⟨_, _, ?_, (c_refAdd _ _ x (-y) W' k4 hE.2 hx (by rw [Int.natAbs_neg]; exact hy)).mono ?_⟩
    · simp [go_sem, Act.eval, hE.1]
      try rfl
    · rintro e w' ⟨v, rfl, hB, hR⟩
      exact ⟨_, rfl, hR, hB⟩
  clear hW hL b1 b2 b3 b4 b5
  rintro W3 hW z4 hL
  simp only [ndR]
  intros
  simp only [ndS]
  obtain ⟨⟨b1, yb1, k1, f1⟩, ⟨b2, yb2, k2, f2⟩, ⟨b3, yb3, k3, f3⟩, b4, b5, -⟩ := hL
  rename NI (x + -y) _ _ => hq
  obtain ⟨p1, l1, k1', rfl, hq1⟩ := num_shape hq
  replace hq1 := Lib.hid hq1
  clear hq
  obtain ⟨B, hB⟩ : ∃ B, B = (decide (x + -y < 0)) := ⟨_, rfl⟩
  rw [← hB]
  replace hB := Lib.hid hB
  go_wp2
  refine bodyPost_ret (v := .agg #[.bool B, .slice p1 l1 k1']) (by simp [results, Tryz.results67, go_sem, k1, f1, k2, f2, k3, f3, yb1, yb2, yb3]) rfl ⟨_, rfl, ⟨_, by rw [hB.out], ?_⟩, by exact belowAny⟩
  have hS := hq1.out.store b3 (.bool B) (.slice p1 l1 k1')
  simpa using hS
set_option maxRecDepth 100000 in
set_option maxHeartbeats 2000000 in
theorem less_apart (sa : Bool) (pa pb : Option Addr) (la ca lb cb : Nat) (w : World) : Calls Tryz.prog 65 #[.agg #[.bool sa, .slice pa la ca], .agg #[.bool (!sa), .slice pb lb cb]] w fun e w' => e = .returned (.bool sa) ∧ Below w.heap.size w w' := by
  cases sa
  ·
    go_enter Tryz.func65, Tryz.ntmps65
    go_upto_region 1 with (fail)
    refine wp_cutB w (Bc w.heap.size #[.bool false, .slice pa la ca] 115 <| Bc (w.heap.size + 1) #[.bool (!false), .slice pb lb cb] 115 <| Bz) ?_
    rintro W1 hW z2 ⟨⟨b1, yb1, k1, f1⟩, ⟨b2, yb2, k2, f2⟩, -⟩
    go_wp2
    refine bodyPost_ret (by simp [results, Tryz.results65, go_sem, k1, f1, k2, f2, yb1, yb2]) rfl ⟨rfl, by exact belowAny⟩
  ·
    go_enter Tryz.func65, Tryz.ntmps65
    go_upto_region 1 with (fail)
    refine wp_cutB w (Bc w.heap.size #[.bool true, .slice pa la ca] 115 <| Bc (w.heap.size + 1) #[.bool (!true), .slice pb lb cb] 115 <| Bz) ?_
    rintro W1 hW z2 ⟨⟨b1, yb1, k1, f1⟩, ⟨b2, yb2, k2, f2⟩, -⟩
    go_wp2
    refine bodyPost_ret (by simp [results, Tryz.results65, go_sem, k1, f1, k2, f2, yb1, yb2]) rfl ⟨rfl, by exact belowAny⟩
set_option maxRecDepth 100000 in
set_option maxHeartbeats 2000000 in
theorem less_neg (pa pb : Option Addr) (la ca lb cb m n : Nat) (w : World) (ha : Bits w (.slice pa la ca) m) (hb : Bits w (.slice pb lb cb) n) (hm : m < 2 ^ 900) (hn : n < 2 ^ 900) : Calls Tryz.prog 65 #[.agg #[.bool true, .slice pa la ca], .agg #[.bool true, .slice pb lb cb]] w fun e w' => e = .returned (.bool (decide (n < m))) ∧ Below w.heap.size w w' := by
  go_enter Tryz.func65, Tryz.ntmps65
  go_upto_region 1 with (fail)
  refine wp_cutB w (Bc w.heap.size #[.bool true, .slice pa la ca] 115 <| Bc (w.heap.size + 1) #[.bool true, .slice pb lb cb] 115 <| Bz) ?_
  rintro W1 hW z2 ⟨⟨b1, yb1, k1, f1⟩, ⟨b2, yb2, k2, f2⟩, -⟩
  go_wp2_with fail
  refine (c_less (.slice pb lb cb) (.slice pa la ca) n m _ (hb.below (by exact belowAny)) (ha.below (by exact belowAny)) hn hm).mono ?_
  rintro e w3 ⟨rfl, hb3⟩
  have z4 := hb3.size
  try simp at z4
  clear k1 f1 k2 f2
  refine haveB w w3 (Bc w.heap.size #[.bool true, .slice pa la ca] 115 <| Bc (w.heap.size + 1) #[.bool true, .slice pb lb cb] 115 <| Bz) ?_
  clear b1 b2 hW
  rintro hW z5 ⟨⟨b1, yb1, k1, f1⟩, ⟨b2, yb2, k2, f2⟩, -⟩
  clear hb3
  go_wp2
  refine bodyPost_ret (by simp [results, Tryz.results65, go_sem, k1, f1, k2, f2, yb1, yb2]) rfl ⟨rfl, by exact belowAny⟩
set_option maxRecDepth 100000 in
set_option maxHeartbeats 2000000 in
theorem less_pos (pa pb : Option Addr) (la ca lb cb m n : Nat) (w : World) (ha : Bits w (.slice pa la ca) m) (hb : Bits w (.slice pb lb cb) n) (hm : m < 2 ^ 900) (hn : n < 2 ^ 900) : Calls Tryz.prog 65 #[.agg #[.bool false, .slice pa la ca], .agg #[.bool false, .slice pb lb cb]] w fun e w' => e = .returned (.bool (decide (m < n))) ∧ Below w.heap.size w w' := by
  go_enter Tryz.func65, Tryz.ntmps65
  go_upto_region 1 with (fail)
  refine wp_cutB w (Bc w.heap.size #[.bool false, .slice pa la ca] 115 <| Bc (w.heap.size + 1) #[.bool false, .slice pb lb cb] 115 <| Bz) ?_
  rintro W1 hW z2 ⟨⟨b1, yb1, k1, f1⟩, ⟨b2, yb2, k2, f2⟩, -⟩
  go_wp2_with fail
  refine (c_less (.slice pa la ca) (.slice pb lb cb) m n _ (ha.below (by exact belowAny)) (hb.below (by exact belowAny)) hm hn).mono ?_
  rintro e w3 ⟨rfl, hb3⟩
  have z4 := hb3.size
  try simp at z4
  clear k1 f1 k2 f2
  refine haveB w w3 (Bc w.heap.size #[.bool false, .slice pa la ca] 115 <| Bc (w.heap.size + 1) #[.bool false, .slice pb lb cb] 115 <| Bz) ?_
  clear b1 b2 hW
  rintro hW z5 ⟨⟨b1, yb1, k1, f1⟩, ⟨b2, yb2, k2, f2⟩, -⟩
  clear hb3
  go_wp2
  refine bodyPost_ret (by simp [results, Tryz.results65, go_sem, k1, f1, k2, f2, yb1, yb2]) rfl ⟨rfl, by exact belowAny⟩
theorem c_refLess (va vb : Value) (x y : Int) (w : World) (ha : NumIs w va x) (hb : NumIs w vb y) (hx : x.natAbs < 2 ^ 900) (hy : y.natAbs < 2 ^ 900) :
    Calls Tryz.prog 65 #[va, vb] w fun e w' => e = .returned (.bool (decide (x < y))) ∧ Below w.heap.size w w' := by
  obtain ⟨pa, la, ca, rfl, ha'⟩ := num_shape ha
  obtain ⟨pb, lb, cb, rfl, hb'⟩ := num_shape hb
  by_cases h1 : x < 0 <;> by_cases h2 : y < 0
  · rw [decide_eq_true h1, decide_eq_true h2, show decide (x < y) = decide (y.natAbs < x.natAbs) from decide_eq_decide.2 (by omega)]
    exact less_neg pa pb la ca lb cb _ _ w ha' hb' hx hy
  · rw [decide_eq_true h1, decide_eq_false h2, decide_eq_true (show x < y by omega)]
    exact less_apart true pa pb la ca lb cb w
  · rw [decide_eq_false h1, decide_eq_true h2, decide_eq_false (show ¬ x < y by omega)]
    exact less_apart false pa pb la ca lb cb w
  · rw [decide_eq_false h1, decide_eq_false h2, show decide (x < y) = decide (x.natAbs < y.natAbs) from decide_eq_decide.2 (by omega)]
    exact less_pos pa pb la ca lb cb _ _ w ha' hb' hx hy
end Go.Proofs.YtdeghcgakkhbmaaGreat
namespace Go.Proofs.YtdeghcgakkhbmaaGreat
open Go.RowKit
/-- A row of numbers of its own, as a drawn step's value. -/
def OV (B : Nat) (T : List Int) : Spec := fun v w => OwnR w B 2 1 v T.length (T.map (Value.int .i64))
theorem OV.closed (B : Nat) (T : List Int) : Closed [] (OV B T) := fun _ _ _ hr h => OwnR.rex h hr rfl
def kindR (R n : Int) : Int := if n = 0 then 1 else if R = 0 then 2 else 3
end Go.Proofs.YtdeghcgakkhbmaaGreat
