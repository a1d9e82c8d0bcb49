/- For every two series that come in, whatever is in them: SeriesTells returns true; the arguments read as before. Condition of the row: slide's numbers are laid as the program's text lays them; the card ties that to the text. -/
import Derived.Test.YtpdhdjlhicceoaaGreatDoorRows
import Derived.ProofKit
import Derived.Deep.Slices
import Derived.OpenShut
import Derived.MakeChecks
import Derived.LaidMore
import Derived.Lay
import Derived.Stop.Joined
import Derived.Test.YtpdhdjlhicceoaaGreatDoorProg
import Derived.Test.YtpdhdjlhicceoaaGreatDoorCards
import Derived.Test.YtpdhdjlhicceoaaGreatDoorTie
import Derived.SevenTiedAt
import Derived.Test.YtpdhdjlhicceoaaGreatDoorTl19
set_option maxRecDepth 100000
set_option maxHeartbeats 8000000
set_option linter.unusedSimpArgs false
set_option linter.unusedVariables false
namespace Go.Proofs.YtpdhdjlhicceoaaGreatDoor
open Go.ChangeShapes Go.WideShapes Go.ChangeAt Go.RowKit Go.Deep
section
variable {H : Type} {enc : TypeId × Value → H} {P : Program}
theorem trodAll_stays (hl : laidOutB P = true) {W W' : World} (hb : Below W.heap.size W W') {sp : Nat → Bool} : ∀ (ts : List TypeId) (vs : List Value) (ds : List (DataW H)) (ps : List MemPlace), (∀ t, t ∈ ts → P.readableRec t = true ∧ t < P.types.size) →
    DataW.TrodAll enc P W 0 (fun _ => true) true ts vs ds ps → (∀ p ∈ ps, p.block < W.heap.size) → (∀ p ∈ ps, sp p.block = true) → DataW.TrodAll enc P W' 0 sp true ts vs ds ps
  | [], vs, ds, ps, _, h, _, _ => by
    obtain ⟨rfl, rfl, rfl⟩ := trodAll_nil h
    rfl
  | t :: ts, vs, ds, ps, hr, h, hlt, hs => by
    obtain ⟨v, vs', d, ds', p, q, rfl, rfl, rfl, h1, h2⟩ := trodAll_cons h
    exact ⟨p, q, WideElems.Trod_stays hl (hr t (by simp)).1 (hr t (by simp)).2 h1 (fun x hx => hb.same (hlt x (by simp [hx]))) (fun x hx => hs x (by simp [hx])),
      trodAll_stays hl hb ts vs' ds' q (fun u hu => hr u (by simp [hu])) h2 (fun x hx => hlt x (by simp [hx])) (fun x hx => hs x (by simp [hx])), rfl⟩
theorem law_post {f : Func} {s : ChangeSpec} {apart fresh handsOn again : Bool} {W W' : World} {args : Array Value} {ds : List (DataW H)} {before : List MemPlace} {tb : TypeId} (hl : laidOutB P = true)
    (hpar : ∀ t, t ∈ f.params.toList → P.readableRec t = true ∧ t < P.types.size) (hres : f.resultTypes = #[tb]) (htb : P.underlying tb = some .bool) (hv : s.vars = [])
    (hW : DataW.Whole enc P f.params.toList s.vars apart W args.toList ds [] before) (hb : Below W.heap.size W W') (hfn : s.fn H ds = { results := [.lit (.bool true)], args := ds }) :
    s.post enc P f apart fresh handsOn again W args (.bool true) W' := by
  have hlt : ∀ p ∈ before, p.block < W.heap.size := fun p hp => hW.lt p hp
  have hold : ∀ p ∈ before, (fun b => decide (b < W.heap.size)) p.block = true := fun p hp => by simpa using hlt p hp
  have hW' := hW
  obtain ⟨p, q, hA, hV, rfl, hz, hn⟩ := hW
  rw [hv] at hV
  obtain ⟨_, rfl⟩ := trodVars_none hV
  have hR : ∀ (b : Nat) (sp : Nat → Bool) (hd : Bool), DataW.TrodAll enc P W' b sp hd f.resultTypes.toList ((Value.bool true).resultList f.resultTypes.size) (s.fn H (ds ++ [])).results [] := fun b sp hd => by
    rw [hres, List.append_nil, hfn]
    exact trodAll_mk1 (shut_bool htb _)
  have hargs : ∀ sp : Nat → Bool, (∀ x ∈ p ++ [], sp x.block = true) → DataW.TrodAll enc P W' 0 sp true f.params.toList args.toList (s.fn H (ds ++ [])).args p := fun sp hsp => by
    rw [List.append_nil, hfn]
    exact trodAll_stays hl hb _ _ _ _ hpar hA (fun x hx => hlt x (by simp [hx])) (fun x hx => hsp x (by simp [hx]))
  have hvars : ∀ sp : Nat → Bool, (∀ x ∈ p ++ [], sp x.block = true) → DataW.TrodVars enc P W' sp s.vars (s.fn H (ds ++ [])).vars [] := fun sp _ => by
    rw [hv, List.append_nil, hfn]
    rfl
  refine ⟨ds, [], p ++ [], [], p, [], hW', hR _ _ _, hargs _ hold, hvars _ hold, World.keptBut_mono (fun x hx => ⟨hx, ?_⟩) (hb.frame (· ∈ p ++ [])), fun _ => ?_⟩
  · exact Or.inr (by simpa using hx)
  · refine ⟨?_, _, _, ([] ++ p) ++ [], ⟨[] ++ p, [], trodAll_append (hargs _ (fun _ _ => rfl)) (hR _ _ _), hvars _ (fun _ _ => rfl), rfl, ?_, ?_⟩, ?_⟩
    · exact ok_one hres rfl (okWide_bool_mk htb _)
    · intro b off hx
      have hin : MemPlace.cell b off ∈ p ++ [] := by simpa using hx
      rw [hb.frozen (hlt _ hin)]
      exact hz b off hin
    · intro ha
      simpa using hn ha
    · intro x hx _
      simpa using hx
end

/-- The fields of a struct: type and place. -/
def fieldsOf (P : Program) (t : TypeId) : Array (TypeId × Nat) := match P.underlying t with | some (.struct fs) => fs.map fun f => (f.type, f.offset) | _ => #[]
section
variable {H : Type} {enc : TypeId × Value → H} {P : Program} {w : World} {base : Nat} {spare : Nat → Bool} {held : Bool}
theorem open_struct {t : TypeId} {fl : Array (TypeId × Nat)} {fuel : Nat} {cs : List Value} {x : DataW H × List MemPlace} (hf : fieldsOf P t = fl) (hne : fl.size ≠ 0) (h : DataW.trod enc P w base spare held fuel t cs = some x) :
    cs.length = P.cellsOf t ∧ ∀ (i : Nat) (ty : TypeId) (off : Nat), fl[i]? = some (ty, off) → ∃ n y, DataW.trod enc P w base spare held n ty ((cs.drop off).take (P.cellsOf ty)) = some y := by
  unfold fieldsOf at hf
  split at hf
  · rename_i fs hu
    obtain ⟨xs, n, _, _, hl, hxl, hat⟩ := DataW.trod_struct hu h
    refine ⟨hl, fun i ty off hi => ?_⟩
    subst hf
    simp only [Array.getElem?_map, Option.map_eq_some_iff, Prod.mk.injEq] at hi
    obtain ⟨f, h1, h2, h3⟩ := hi
    have hh := hat i f h1
    have hlt : i < xs.length := by have := (Array.getElem?_eq_some_iff.1 h1).1; omega
    rw [List.getElem?_eq_getElem hlt] at hh
    subst h2; subst h3
    exact ⟨n, _, hh⟩
  · subst hf; simp at hne
theorem struct_of {t : TypeId} {fl : Array (TypeId × Nat)} (hf : fieldsOf P t = fl) (hne : fl.size ≠ 0) : ∃ fs, P.underlying t = some (.struct fs) := by
  unfold fieldsOf at hf
  split at hf
  · rename_i fs hu
    exact ⟨fs, hu⟩
  · subst hf; simp at hne
/-- A struct whose fields are all numbers of 64 bits. -/
theorem open_ints_struct {t : TypeId} {fl : Array (TypeId × Nat)} {fuel : Nat} {cs : List Value} {x : DataW H × List MemPlace} (hf : fieldsOf P t = fl) (hne : fl.size ≠ 0) (hn : P.cellsOf t = fl.size)
    (ha : ∀ i, i < fl.size → ∃ ty, fl[i]? = some (ty, i) ∧ P.underlying ty = some (.int .i64) ∧ P.cellsOf ty = 1) (h : DataW.trod enc P w base spare held fuel t cs = some x) :
    cs.length = fl.size ∧ ∀ i, i < fl.size → ∃ z : Int, cs[i]? = some (.int .i64 z) ∧ I64 z := by
  obtain ⟨hl, hat⟩ := open_struct hf hne h
  refine ⟨by omega, fun i hi => ?_⟩
  obtain ⟨ty, h1, h2, h3⟩ := ha i hi
  obtain ⟨n, y, hy⟩ := hat i ty i h1
  obtain ⟨z, hz, _, hw⟩ := DataW.trod_int h2 hy
  refine ⟨z, ?_, ?_⟩
  · rw [h3] at hz
    have : ((cs.drop i).take 1)[0]? = some (.int .i64 z) := by rw [hz]; rfl
    simpa using this
  · simp [Lit.wf, IntKind.min, IntKind.max, IntKind.signed, IntKind.bits] at hw
    exact ⟨by omega, by omega⟩
theorem list_of {α : Type} {Q : Nat → α → Prop} : ∀ n, (∀ i, i < n → ∃ x, Q i x) → ∃ l : List α, l.length = n ∧ ∀ i x, l[i]? = some x → Q i x
  | 0, _ => ⟨[], rfl, fun i x h => by simp at h⟩
  | n + 1, h => by
    obtain ⟨l, hl, hq⟩ := list_of n fun i hi => h i (by omega)
    obtain ⟨x, hx⟩ := h n (by omega)
    refine ⟨l ++ [x], by simp [hl], fun i y hy => ?_⟩
    rcases Nat.lt_or_ge i l.length with hlt | hge
    · rw [List.getElem?_append_left hlt] at hy
      exact hq i y hy
    · rw [List.getElem?_append_right hge] at hy
      have : i = l.length := by
        rcases Nat.eq_or_lt_of_le hge with e | e
        · exact e.symm
        · rw [List.getElem?_eq_none (by simp; omega)] at hy; cases hy
      subst this
      simp at hy
      rw [hl, ← hy]
      exact hx
theorem spot_none {a : Addr} {v : Value} (h : w.cell? a = some v) : a = ⟨a.block, a.off, none⟩ := by
  obtain ⟨b, o, s⟩ := a
  cases s with
  | none => rfl
  | some k =>
    unfold World.cell? at h
    simp at h
    split at h <;> cases h
theorem add_at {b o n : Nat} : (⟨b, o, none⟩ : Addr).add n = ⟨b, o + n, none⟩ := by unfold Addr.add; split <;> simp_all
/-- A slice of structs of n numbers each. -/
theorem open_rows {t e : TypeId} {n fuel : Nat} {fl : Array (TypeId × Nat)} {cs : List Value} {x : DataW H × List MemPlace} (ht : P.underlying t = some (.slice e)) (hf : fieldsOf P e = fl) (hfl : fl.size = n) (hn0 : n ≠ 0) (hn : P.cellsOf e = n)
    (ha : ∀ i, i < fl.size → ∃ ty, fl[i]? = some (ty, i) ∧ P.underlying ty = some (.int .i64) ∧ P.cellsOf ty = 1) (h : DataW.trod enc P w base spare held fuel t cs = some x) :
    ∃ (p : Option Addr) (len cap : Nat), cs = [.slice p len cap] ∧ (p = none → len = 0 ∧ cap = 0) ∧ len ≤ cap ∧ cap ≤ maxLen ∧
      ∀ i, i < len → ∃ b o, p = some ⟨b, o, none⟩ ∧ ∀ j, j < n → ∃ z : Int, w.cell? ⟨b, o + i * n + j, none⟩ = some (.int .i64 z) ∧ I64 z := by
  rcases open_slice ht h with ⟨rfl, rfl⟩ | ⟨a, len, cap, m, k, D, Pl, rfl, hb, hl, hm, hmm, hx, hi⟩
  · exact ⟨none, 0, 0, rfl, fun _ => ⟨rfl, rfl⟩, Nat.le_refl _, Nat.zero_le _, fun i hi => by omega⟩
  · refine ⟨some a, len, cap, rfl, (fun e => by cases e), hl, hm, fun i hilt => ?_⟩
    have hlm : len ≤ m := by rw [hmm]; split <;> omega
    have key : ∀ i, i < len → ∀ j, j < n → ∃ z : Int, w.cell? (a.add (i * n + j)) = some (.int .i64 z) ∧ I64 z := by
      intro i hilt j hj
      obtain ⟨cs', hc, ht'⟩ := hi i (by omega)
      obtain ⟨_, hcl, hat⟩ := World.cells?_some hc
      obtain ⟨hl', hz⟩ := open_ints_struct hf (by omega) (by omega) ha ht'
      obtain ⟨z, hz1, hz2⟩ := hz j (by omega)
      have := hat j (by omega)
      rw [add_add, hn, hz1] at this
      exact ⟨z, this, hz2⟩
    obtain ⟨z0, hz0, _⟩ := key 0 (by omega) 0 (by omega)
    simp [Addr.add] at hz0
    have hs := spot_none hz0
    refine ⟨a.block, a.off, by rw [← hs], fun j hj => ?_⟩
    obtain ⟨z, h1, h2⟩ := key i hilt j hj
    rw [hs, add_at] at h1
    exact ⟨z, by rw [Nat.add_assoc]; exact h1, h2⟩
/-- A slice of numbers. -/
theorem open_nums {t e : TypeId} {fuel : Nat} {cs : List Value} {x : DataW H × List MemPlace} (ht : P.underlying t = some (.slice e)) (he : P.underlying e = some (.int .i64)) (hc : P.cellsOf e = 1) (h : DataW.trod enc P w base spare held fuel t cs = some x) :
    ∃ (p : Option Addr) (l : List Int) (cap : Nat), cs = [.slice p l.length cap] ∧ (p = none → l = [] ∧ cap = 0) ∧ l.length ≤ cap ∧ cap ≤ maxLen ∧ IntsIn w p l ∧ ∀ z, z ∈ l → I64 z := by
  rcases open_ints ht he hc h with ⟨rfl, _⟩ | ⟨a, len, cap, zs, rfl, hb, hl, hm, hzl, _, hz, hw⟩
  · exact ⟨none, [], 0, rfl, fun _ => ⟨rfl, rfl⟩, Nat.le_refl _, Nat.zero_le _, ⟨fun i x h => by simp at h⟩, fun z h => by simp at h⟩
  · have hle : len ≤ zs.length := by rw [hzl]; split <;> omega
    refine ⟨some a, zs.take len, cap, by simp [hle], (fun e => by cases e), by simp; omega, hm, ⟨fun i x hx => ?_⟩, fun z hz' => ?_⟩
    · rw [List.getElem?_take] at hx
      split at hx
      · rename_i hil
        have h0 := hz 0 (by omega)
        simp [Addr.add] at h0
        have hs := spot_none h0
        have hi := hz i (by omega)
        rw [hs, add_at] at hi
        refine ⟨a.block, a.off, by rw [← hs], ?_⟩
        rw [hi, List.getD_eq_getElem?_getD, hx]
        rfl
      · cases hx
    · have := hw z (List.mem_of_mem_take hz')
      simp [Lit.wf, IntKind.min, IntKind.max, IntKind.signed, IntKind.bits] at this
      exact ⟨by omega, by omega⟩
end
section
variable {H : Type} {enc : TypeId × Value → H} {w : World} {base : Nat} {spare : Nat → Bool} {held : Bool}
theorem Tryz.fieldsRun : fieldsOf Tryz.prog 69 = #[(2, 0), (2, 1), (3, 2)] := by kernel_rfl
theorem Tryz.fieldsLine : fieldsOf Tryz.prog 46 = #[(2, 0), (2, 1), (2, 2), (2, 3)] := by kernel_rfl
theorem Tryz.fieldsSeg : fieldsOf Tryz.prog 49 = #[(3, 0), (44, 1), (46, 2), (47, 6), (2, 7)] := by kernel_rfl
theorem Tryz.isInt : Tryz.prog.underlying 3 = some (.int .i64) ∧ Tryz.prog.cellsOf 3 = 1 := ⟨by kernel_rfl, by kernel_rfl⟩
theorem Tryz.isInt64 : Tryz.prog.underlying 2 = some (.int .i64) ∧ Tryz.prog.cellsOf 2 = 1 := ⟨by kernel_rfl, by kernel_rfl⟩
set_option maxRecDepth 100000 in
theorem open_run_list {fuel : Nat} {cs : List Value} {x : DataW H × List MemPlace} (h : DataW.trod enc Tryz.prog w base spare held fuel 44 cs = some x) :
    ∃ (p : Option Addr) (l : List RunT) (cap : Nat), cs = [.slice p l.length cap] ∧ (p = none → l = [] ∧ cap = 0) ∧ l.length ≤ cap ∧ cap ≤ maxLen ∧ RunsIn w p l ∧ ∀ r, r ∈ l → I64 r.f ∧ I64 r.s ∧ I64 r.c := by
  obtain ⟨p, len, cap, rfl, hn, hl, hm, hi⟩ := open_rows (n := 3) (by kernel_rfl) Tryz.fieldsRun rfl (by omega) (by kernel_rfl) (fun i hi => by
    match i, hi with
    | 0, _ => exact ⟨_, rfl, Tryz.isInt64⟩
    | 1, _ => exact ⟨_, rfl, Tryz.isInt64⟩
    | 2, _ => exact ⟨_, rfl, Tryz.isInt⟩) h
  obtain ⟨l, rfl, hq⟩ := list_of (Q := fun i (r : RunT) => (∃ b o, p = some ⟨b, o, none⟩ ∧ w.cell? ⟨b, o + i * 3, none⟩ = some (.int .i64 r.f) ∧ w.cell? ⟨b, o + i * 3 + 1, none⟩ = some (.int .i64 r.s) ∧ w.cell? ⟨b, o + i * 3 + 2, none⟩ = some (.int .i64 r.c)) ∧ I64 r.f ∧ I64 r.s ∧ I64 r.c) len (fun i hilt => by
    obtain ⟨b, o, e, hj⟩ := hi i hilt
    obtain ⟨f, f1, f2⟩ := hj 0 (by omega)
    obtain ⟨s, s1, s2⟩ := hj 1 (by omega)
    obtain ⟨c, c1, c2⟩ := hj 2 (by omega)
    exact ⟨⟨f, s, c⟩, ⟨b, o, e, by simpa using f1, s1, c1⟩, f2, s2, c2⟩)
  refine ⟨p, l, cap, rfl, fun e => ⟨List.length_eq_zero_iff.1 (hn e).1, (hn e).2⟩, hl, hm, ⟨fun i r hr => (hq i r hr).1⟩, fun r hr => ?_⟩
  obtain ⟨i, hi⟩ := List.getElem?_of_mem hr
  exact (hq i r hi).2
end
theorem pars_ok {P : Program} {ts : List TypeId} (h : (ts.all fun t => P.readableRec t && decide (t < P.types.size)) = true) : ∀ t, t ∈ ts → P.readableRec t = true ∧ t < P.types.size := fun t ht => by
  have := List.all_eq_true.1 h t ht
  simpa using this
theorem Tryz.ownKnob : ownKnob Tryz.prog.godebug = none := by kernel_rfl
theorem Tryz.laidOut : laidOutB Tryz.prog = true := by kernel_rfl
end Go.Proofs.YtpdhdjlhicceoaaGreatDoor
namespace Go.Proofs.YtpdhdjlhicceoaaGreatDoor
open Go.ChangeShapes Go.WideShapes Go.RowKit
set_option maxRecDepth 100000
abbrev laidL : List (String × DataW Unit) := [("yearbook/slide.all", Rows.laid_yearbook_slide_all)]
def doorV : List Value := [.int .i64 (-4611688217450643456), .int .i64 1, .int .i64 4611688217450643456, .int .i64 1]
theorem trod_two {P : Program} {W : World} {fuel : Nat} {t : TypeId} {t0 t1 : TypeId} {cs : List Value} {a b : Int} {ps : List MemPlace} (hf : fieldsOf P t = #[(t0, 0), (t1, 1)]) (k0 : P.underlying t0 = some (.int .i64) ∧ P.cellsOf t0 = 1) (k1 : P.underlying t1 = some (.int .i64) ∧ P.cellsOf t1 = 1) (hc : P.cellsOf t = 2)
    (h : DataW.trod (fun _ => ()) P W 0 (fun _ => true) false fuel t cs = some ((.agg [.lit (.int .i64 a), .lit (.int .i64 b)] : DataW Unit), ps)) : cs = [.int .i64 a, .int .i64 b] := by
  obtain ⟨fs, hu⟩ := struct_of hf (by simp)
  obtain ⟨xs, n, _, ex, hl, hxl, hat⟩ := DataW.trod_struct hu h
  rw [hc] at hl
  have hfs : fs.map (fun f => (f.type, f.offset)) = #[(t0, 0), (t1, 1)] := by
    unfold fieldsOf at hf
    rw [hu] at hf
    exact hf
  have h0 := congrArg (fun q => q[0]?) hfs
  have h1 := congrArg (fun q => q[1]?) hfs
  simp only [Array.getElem?_map, Option.map_eq_some_iff, List.getElem?_toArray, List.getElem?_cons_zero, List.getElem?_cons_succ, Prod.mk.injEq] at h0 h1
  obtain ⟨f0, e0, e1, e2⟩ := h0
  obtain ⟨f1, g0, g1, g2⟩ := h1
  have a0 := hat 0 f0 e0
  have a1 := hat 1 f1 g0
  rw [e1, e2, k0.2] at a0
  rw [g1, g2, k1.2] at a1
  have ex1 : xs.map (·.1) = [.lit (.int .i64 a), .lit (.int .i64 b)] := (DataW.agg.inj (Prod.mk.inj ex).1).symm
  obtain ⟨x0, x1, rfl⟩ : ∃ x0 x1, xs = [x0, x1] := by
    match xs, ex1 with
    | [x0, x1], _ => exact ⟨x0, x1, rfl⟩
    | [], h => simp at h
    | [_], h => simp at h
    | _ :: _ :: _ :: _, h => simp at h
  simp only [List.map_cons, List.map_nil, List.cons.injEq, and_true] at ex1
  obtain ⟨z0, y0, y1, _⟩ := DataW.trod_int k0.1 a0
  obtain ⟨z1, u0, u1, _⟩ := DataW.trod_int k1.1 a1
  match cs, hl with
  | [c0, c1], _ =>
    simp at y0 u0
    rw [y1, u1] at ex1
    obtain ⟨q0, q1⟩ := ex1
    simp at q0 q1
    rw [y0, u0, q0, q1]
theorem door_cells {W : World} (h : laidMetH Tryz.prog laidL W) : ∃ t, W.heap[0]? = some (.cells ⟨doorV⟩ t (0, 0)) := by
  rw [MakeChecks.laidMetH_plain _ _ _ (by kernel_rfl)] at h
  obtain ⟨ps, ⟨g, t, cs, fuel, p, q, hg, ht, hv, hd, hq, hps⟩, hn, hall⟩ := h
  obtain rfl := Option.some.inj ((show Tryz.prog.globalNamed "yearbook/slide.all" = some 0 by kernel_rfl).symm.trans hg)
  obtain rfl := Option.some.inj ((show (Tryz.prog.globals[0]?).map (·.type) = some 327 by kernel_rfl).symm.trans ht)
  have hA : Tryz.prog.underlying 327 = some (.array 2 186) := by kernel_rfl
  have hcA : Tryz.prog.cellsOf 327 = 4 := by kernel_rfl
  have hcS : Tryz.prog.cellsOf 186 = 2 := by kernel_rfl
  have hI : Tryz.prog.underlying 2 = some (.int .i64) ∧ Tryz.prog.cellsOf 2 = 1 := ⟨by kernel_rfl, by kernel_rfl⟩
  have hfs : fieldsOf Tryz.prog 186 = #[(2, 0), (2, 1)] := by kernel_rfl
  obtain ⟨xs, m, _, ex, hl, hxl, hat⟩ := DataW.trod_array hA hd
  rw [hcA] at hl
  have ex1 : xs.map (·.1) = [.agg [.lit (.int .i64 (-4611688217450643456)), .lit (.int .i64 1)], .agg [.lit (.int .i64 4611688217450643456), .lit (.int .i64 1)]] := (DataW.agg.inj (Prod.mk.inj ex).1).symm
  have hcs : cs.toList = doorV := by
    obtain ⟨x0, x1, rfl⟩ : ∃ x0 x1, xs = [x0, x1] := by
      match xs, hxl with
      | [x0, x1], _ => exact ⟨x0, x1, rfl⟩
    obtain ⟨x0, y0⟩ := x0
    obtain ⟨x1, y1⟩ := x1
    simp only [List.map_cons, List.map_nil, List.cons.injEq, and_true] at ex1
    obtain ⟨rfl, rfl⟩ := ex1
    have a0 := hat 0 (by omega)
    have a1 := hat 1 (by omega)
    rw [hcS] at a0 a1
    have b0 := trod_two hfs hI hI hcS a0
    have b1 := trod_two hfs hI hI hcS a1
    match hq : cs.toList, hl with
    | [c0, c1, c2, c3], _ =>
      rw [hq] at b0 b1
      simp at b0 b1
      obtain ⟨rfl, rfl⟩ := b0
      obtain ⟨rfl, rfl⟩ := b1
      rfl
  have hin : MemPlace.cell 0 0 ∈ ps := by
    rw [hps]
    have : cs.size = 4 := by rw [← Array.length_toList]; exact hl
    rw [this]
    simp [MemPlace.row]
  obtain ⟨⟨c, t', hc⟩, _⟩ := hall 0 0 hin
  refine ⟨t', ?_⟩
  have hv2 : W.var? Tryz.prog "yearbook/slide.all" = some c := by
    unfold World.var?
    rw [hg]
    simp only [Option.bind_some, hc]
  rw [hv] at hv2
  injection hv2 with hv2
  subst hv2
  rw [hc]
  congr 2
  rw [← hcs]
/-- the first state: slide's numbers -/
noncomputable def sDoor (t : TypeId) : St := ⟨Tr.nil.set 24 0 (some (.cells doorV t false)), 3, 3, big, [], 3⟩
def rDoor : Rn := fun k => if k < 3 then some (k, 0) else none
theorem door_get (t : TypeId) (k : Nat) (o : AO) (h : (sDoor t).T.get k = some o) : k = 0 ∧ o = .cells doorV t false := by
  have e : (sDoor t).T.get k = if k = 0 then some (.cells doorV t false) else (Tr.nil : Tr AO).get k := Tr.get_set 24 .nil 0 _ k (by decide)
  rw [e] at h
  split at h
  · rename_i hk
    injection h with h
    exact ⟨hk, h.symm⟩
  · cases h
theorem door_rel {B : Nat} (hB : 3 ≤ B) {w : World} {t : TypeId} (h : w.heap[0]? = some (.cells ⟨doorV⟩ t (0, 0))) : Rel Tryz.prog B rDoor (sDoor t) w := by
  have hget : ∀ k o, (sDoor t).get k = some o → k = 0 ∧ o = .cells doorV t false := fun k o ho => door_get t k o ho
  refine ⟨by show 3 ≤ big; decide, hB, fun k h1 h2 => if_neg (Nat.not_lt.2 h1), fun k o ho => ?_, fun k k' b x x' h1 h2 h3 h4 => ?_, fun k hk => ?_, (fun k hk => by cases hk), fun g hg => if_pos hg, Nat.le_refl _⟩
  · obtain ⟨rfl, rfl⟩ := hget k o ho
    refine ⟨0, 0, _, rfl, h, ⟨doorV⟩, rfl, rfl, fun i v hv => ⟨v, by simpa using hv, ?_⟩⟩
    match i, hv with
    | 0, hv => injection hv with hv; subst hv; exact ⟨.pln rfl, rfl⟩
    | 1, hv => injection hv with hv; subst hv; exact ⟨.pln rfl, rfl⟩
    | 2, hv => injection hv with hv; subst hv; exact ⟨.pln rfl, rfl⟩
    | 3, hv => injection hv with hv; subst hv; exact ⟨.pln rfl, rfl⟩
    | n + 4, hv => cases hv
  · unfold rDoor at h3 h4
    split at h3
    · split at h4
      · injection h3 with h3; injection h4 with h4; injection h3 with h3 _; injection h4 with h4 _
        rw [h3, h4]
      · cases h4
    · cases h3
  · cases e : (sDoor t).T.get k with
    | none => rfl
    | some o => exact absurd (door_get t k o e).1 (by have : 3 ≤ k := hk; omega)
theorem door_inv {w : World} {t : TypeId} (h : w.heap[0]? = some (.cells ⟨doorV⟩ t (0, 0))) : InvS Tryz.prog (.cells doorV t false) rDoor (sDoor t) w w := by
  refine ⟨door_rel (by decide) h, Below.refl _ _, fun k b x hw hg _ => ?_, Tr.get_set 24 .nil 0 _ 0 (by decide), rfl, rfl, Nat.le_refl _⟩
  cases e : (sDoor t).get k with
  | none => exact absurd e hg
  | some o =>
    have hk := (door_get t k o e).1
    subst hk
    rcases hw with h1 | h1
    · have h1 : 3 ≤ 0 := h1
      omega
    · have h1 : 0 = big := h1
      exact absurd h1 (by decide)
end Go.Proofs.YtpdhdjlhicceoaaGreatDoor
namespace Go.Proofs.YtpdhdjlhicceoaaGreatDoor
open Go.RowKit
set_option maxRecDepth 1000000
def tabs240 : List (List Value × Value) := [([.agg #[.int .i64 5, .int .i64 6]], .tuple #[.int .i64 5, .int .i64 0]),
  ([.agg #[.int .i64 8, .int .i64 10]], .tuple #[.int .i64 9, .int .i64 0])]
theorem tabs240_ok : runL Tryz.prog 307 tabs240 = true := by kernel_rfl
def tabs241 : List (List Value × Value) := [([.agg #[.int .i64 5, .int .i64 0, .int .i64 0, .int .i64 1]], .int .i64 1),
  ([.agg #[.int .i64 9, .int .i64 0, .int .i64 0, .int .i64 1]], .int .i64 1),
  ([.agg #[.int .i64 5, .int .i64 0, .int .i64 3, .int .i64 2]], .int .i64 2),
  ([.agg #[.int .i64 6, .int .i64 0, .int .i64 1, .int .i64 1]], .int .i64 2)]
theorem tabs241_ok : runL Tryz.prog 273 tabs241 = true := by kernel_rfl
def tabs242 : List (List Value × Value) := [([.agg #[.int .i64 5, .int .i64 0, .int .i64 0, .int .i64 1], .int .i64 0, .int .i64 1], .tuple #[.agg #[.int .i64 5, .int .i64 5], .int .i64 0]),
  ([.agg #[.int .i64 9, .int .i64 0, .int .i64 0, .int .i64 1], .int .i64 0, .int .i64 0], .tuple #[.agg #[.int .i64 9, .int .i64 9], .int .i64 0]),
  ([.agg #[.int .i64 5, .int .i64 0, .int .i64 3, .int .i64 2], .int .i64 0, .int .i64 2], .tuple #[.agg #[.int .i64 5, .int .i64 8], .int .i64 0]),
  ([.agg #[.int .i64 6, .int .i64 0, .int .i64 1, .int .i64 1], .int .i64 0, .int .i64 2], .tuple #[.agg #[.int .i64 6, .int .i64 8], .int .i64 0])]
theorem tabs242_ok : runL Tryz.prog 221 tabs242 = true := by kernel_rfl
def tabs243 : List (List Value × Value) := [([.agg #[.int .i64 5, .int .i64 0, .int .i64 0, .int .i64 1], .int .i64 0], .tuple #[.int .i64 5, .int .i64 0]),
  ([.agg #[.int .i64 5, .int .i64 0, .int .i64 0, .int .i64 1], .int .i64 1], .tuple #[.int .i64 5, .int .i64 0]),
  ([.agg #[.int .i64 9, .int .i64 0, .int .i64 0, .int .i64 1], .int .i64 0], .tuple #[.int .i64 9, .int .i64 0]),
  ([.agg #[.int .i64 5, .int .i64 0, .int .i64 3, .int .i64 2], .int .i64 0], .tuple #[.int .i64 5, .int .i64 0]),
  ([.agg #[.int .i64 5, .int .i64 0, .int .i64 3, .int .i64 2], .int .i64 1], .tuple #[.int .i64 6, .int .i64 0]),
  ([.agg #[.int .i64 5, .int .i64 0, .int .i64 3, .int .i64 2], .int .i64 2], .tuple #[.int .i64 8, .int .i64 0]),
  ([.agg #[.int .i64 6, .int .i64 0, .int .i64 1, .int .i64 1], .int .i64 0], .tuple #[.int .i64 6, .int .i64 0]),
  ([.agg #[.int .i64 6, .int .i64 0, .int .i64 1, .int .i64 1], .int .i64 1], .tuple #[.int .i64 7, .int .i64 0]),
  ([.agg #[.int .i64 6, .int .i64 0, .int .i64 1, .int .i64 1], .int .i64 2], .tuple #[.int .i64 8, .int .i64 0])]
theorem tabs243_ok : runL Tryz.prog 142 tabs243 = true := by kernel_rfl
def tabs244 : List (List Value × Value) := [([.agg #[.int .i64 0, .int .i64 4, .int .i64 6]], .agg #[.int .i64 0, .int .i64 5])]
theorem tabs244_ok : runL Tryz.prog 350 tabs244 = true := by kernel_rfl
def tabs245 : List (List Value × Value) := [([.agg #[.int .i64 0, .int .i64 1]], .tuple #[.agg #[.int .i64 0, .int .i64 1], .int .i64 0]),
  ([.agg #[.int .i64 2, .int .i64 1]], .tuple #[.agg #[.int .i64 2, .int .i64 1], .int .i64 0]),
  ([.agg #[.int .i64 3, .int .i64 2]], .tuple #[.agg #[.int .i64 3, .int .i64 2], .int .i64 0]),
  ([.agg #[.int .i64 5, .int .i64 2]], .tuple #[.agg #[.int .i64 5, .int .i64 2], .int .i64 0])]
theorem tabs245_ok : runL Tryz.prog 356 tabs245 = true := by kernel_rfl
def tabs246 : List (List Value × Value) := [([.agg #[.int .i64 0, .int .i64 1], .agg #[.int .i64 0, .int .i64 0]], .tuple #[.int .i64 0, .bool false]),
  ([.agg #[.int .i64 2, .int .i64 1], .agg #[.int .i64 0, .int .i64 0]], .tuple #[.int .i64 0, .bool false]),
  ([.agg #[.int .i64 0, .int .i64 1], .agg #[.int .i64 2, .int .i64 1]], .tuple #[.int .i64 (-1), .bool true]),
  ([.agg #[.int .i64 3, .int .i64 2], .agg #[.int .i64 0, .int .i64 1]], .tuple #[.int .i64 1, .bool true]),
  ([.agg #[.int .i64 5, .int .i64 2], .agg #[.int .i64 2, .int .i64 1]], .tuple #[.int .i64 1, .bool true]),
  ([.agg #[.int .i64 3, .int .i64 2], .agg #[.int .i64 2, .int .i64 1]], .tuple #[.int .i64 (-1), .bool true])]
theorem tabs246_ok : runL Tryz.prog 313 tabs246 = true := by kernel_rfl
def tabs247 : List (List Value × Value) := [([.agg #[.int .i64 3, .int .i64 2], .agg #[.int .i64 2, .int .i64 1]], .tuple #[.agg #[.int .i64 3, .int .i64 2], .int .i64 0]),
  ([.agg #[.int .i64 2, .int .i64 2], .agg #[.int .i64 3, .int .i64 1]], .tuple #[.agg #[.int .i64 1, .int .i64 1], .int .i64 0])]
theorem tabs247_ok : runL Tryz.prog 268 tabs247 = true := by kernel_rfl
def tabs248 : List (List Value × Value) := [([.int .i64 5, .agg #[.int .i64 3, .int .i64 2]], .tuple #[.agg #[.int .i64 5, .int .i64 0, .int .i64 3, .int .i64 2], .int .i64 0])]
theorem tabs248_ok : runL Tryz.prog 310 tabs248 = true := by kernel_rfl
def tabs249 : List (List Value × Value) := [([.agg #[.int .i64 4611688217450643456, .int .i64 1], .agg #[.int .i64 (-4611688217450643456), .int .i64 1]], .bool false),
  ([.agg #[.int .i64 (-4611688217450643456), .int .i64 1], .agg #[.int .i64 (-1), .int .i64 1]], .bool true),
  ([.agg #[.int .i64 3, .int .i64 1], .agg #[.int .i64 4611688217450643456, .int .i64 1]], .bool true),
  ([.agg #[.int .i64 3, .int .i64 1], .agg #[.int .i64 (-1), .int .i64 1]], .bool false),
  ([.agg #[.int .i64 (-1), .int .i64 1], .agg #[.int .i64 2, .int .i64 2]], .bool true),
  ([.agg #[.int .i64 6, .int .i64 2], .agg #[.int .i64 3, .int .i64 1]], .bool false),
  ([.agg #[.int .i64 2, .int .i64 2], .agg #[.int .i64 1, .int .i64 1]], .bool false),
  ([.agg #[.int .i64 5, .int .i64 1], .agg #[.int .i64 3, .int .i64 1]], .bool false),
  ([.agg #[.int .i64 3, .int .i64 1], .agg #[.int .i64 2, .int .i64 2]], .bool false)]
theorem tabs249_ok : runL Tryz.prog 349 tabs249 = true := by kernel_rfl
def tabs2410 : List (List Value × Value) := [([.int .i64 4, .int .i64 1], .agg #[.int .i64 0, .int .u64 4]),
  ([.int .i64 1, .int .i64 0], .agg #[.int .i64 0, .int .u64 0]),
  ([.int .i64 5, .int .i64 1], .agg #[.int .i64 0, .int .u64 5]),
  ([.int .i64 1, .int .i64 1], .agg #[.int .i64 0, .int .u64 1]),
  ([.int .i64 8, .int .i64 1], .agg #[.int .i64 0, .int .u64 8]),
  ([.int .i64 1, .int .i64 2], .agg #[.int .i64 0, .int .u64 2])]
theorem tabs2410_ok : runL Tryz.prog 283 tabs2410 = true := by kernel_rfl
def tabs2411 : List (List Value × Value) := [([.agg #[.int .i64 0, .int .u64 4], .agg #[.int .i64 0, .int .u64 0]], .tuple #[.agg #[.int .i64 0, .int .u64 4], .int .i64 0]),
  ([.agg #[.int .i64 0, .int .u64 5], .agg #[.int .i64 0, .int .u64 1]], .tuple #[.agg #[.int .i64 0, .int .u64 4], .int .i64 0]),
  ([.agg #[.int .i64 0, .int .u64 8], .agg #[.int .i64 0, .int .u64 2]], .tuple #[.agg #[.int .i64 0, .int .u64 6], .int .i64 0])]
theorem tabs2411_ok : runL Tryz.prog 314 tabs2411 = true := by kernel_rfl
def tabs2412 : List (List Value × Value) := [([.agg #[.int .i64 0, .int .u64 6], .agg #[.int .i64 0, .int .u64 4]], .int .i64 1)]
theorem tabs2412_ok : runL Tryz.prog 315 tabs2412 = true := by kernel_rfl
def tabs2413 : List (List Value × Value) := [([.agg #[.int .i64 0, .int .u64 6], .agg #[.int .i64 1, .int .i64 1]], .tuple #[.agg #[.int .i64 6, .int .i64 0, .int .i64 1, .int .i64 1], .int .i64 0])]
theorem tabs2413_ok : runL Tryz.prog 269 tabs2413 = true := by kernel_rfl
def tabs24 : List (Nat × List (List Value × Value)) := [(307, tabs240), (273, tabs241), (221, tabs242), (142, tabs243), (350, tabs244), (356, tabs245), (313, tabs246), (268, tabs247), (310, tabs248), (349, tabs249), (283, tabs2410), (314, tabs2411), (315, tabs2412), (269, tabs2413)]
theorem tabs24_ok : ∀ q ∈ tabs24, runL Tryz.prog q.1 q.2 = true := by
  intro q hq
  simp only [tabs24, List.mem_cons, List.not_mem_nil, or_false] at hq
  rcases hq with rfl | rfl | rfl | rfl | rfl | rfl | rfl | rfl | rfl | rfl | rfl | rfl | rfl | rfl
  · exact tabs240_ok
  · exact tabs241_ok
  · exact tabs242_ok
  · exact tabs243_ok
  · exact tabs244_ok
  · exact tabs245_ok
  · exact tabs246_ok
  · exact tabs247_ok
  · exact tabs248_ok
  · exact tabs249_ok
  · exact tabs2410_ok
  · exact tabs2411_ok
  · exact tabs2412_ok
  · exact tabs2413_ok
set_option maxRecDepth 1000000
noncomputable def wk24O : Orc := orcT (mkT tabs24) (orcR Tryz.prog 137)
theorem wk24O_ok : OrcOk Tryz.prog wk24O := orc_mkT orc_rises (by kernel_rfl) (by kernel_rfl) tabs24_ok
noncomputable def wk24c : Code := match Tryz.f11.body with | some c => c | none => .skip
def wk24v1 : List Value := [.bool false, .pointer (some ⟨5, 0, none⟩), .int .i64 0, .int .i64 0, .pointer (some ⟨80, 0, none⟩), .int .i64 342, .tuple #[], .tuple #[], .tuple #[], .tuple #[], .tuple #[], .tuple #[], .tuple #[], .tuple #[], .tuple #[], .tuple #[], .tuple #[.agg #[.string ⟨#[97]⟩, .int .i64 1, .int .i64 0, .int .i64 (-1), .int .i64 0, .slice none 0 0, .slice none 0 0], .int .i64 0], .tuple #[.agg #[.string ⟨#[97]⟩, .int .i64 1, .int .i64 0, .int .i64 (-1), .int .i64 0, .slice none 0 0, .slice none 0 0], .int .i64 0], .agg #[.string ⟨#[97]⟩, .int .i64 1, .int .i64 0, .int .i64 (-1), .int .i64 0, .slice none 0 0, .slice none 0 0], .int .i64 0, .tuple #[.agg #[.string ⟨#[97]⟩, .int .i64 1, .int .i64 0, .int .i64 2, .int .i64 0, .slice (some ⟨26, 0, none⟩) 0 0, .slice (some ⟨47, 0, some 0⟩) 3 3], .int .i64 0], .agg #[.string ⟨#[97]⟩, .int .i64 1, .int .i64 0, .int .i64 (-1), .int .i64 0, .slice none 0 0, .slice none 0 0], .agg #[.int .i64 0, .int .i64 5], .agg #[.int .i64 1, .int .i64 6], .agg #[.int .i64 2, .int .i64 9], .slice (some ⟨6, 0, none⟩) 3 3, .tuple #[.agg #[.string ⟨#[97]⟩, .int .i64 1, .int .i64 0, .int .i64 2, .int .i64 0, .slice (some ⟨26, 0, none⟩) 0 0, .slice (some ⟨47, 0, some 0⟩) 3 3], .int .i64 0], .agg #[.string ⟨#[97]⟩, .int .i64 1, .int .i64 0, .int .i64 2, .int .i64 0, .slice (some ⟨26, 0, none⟩) 0 0, .slice (some ⟨47, 0, some 0⟩) 3 3], .int .i64 0, .tuple #[.agg #[.string ⟨#[]⟩, .int .i64 0, .int .i64 0, .int .i64 0, .int .i64 0, .slice none 0 0, .slice none 0 0], .int .i64 342], .agg #[.string ⟨#[97]⟩, .int .i64 1, .int .i64 0, .int .i64 2, .int .i64 0, .slice (some ⟨26, 0, none⟩) 0 0, .slice (some ⟨47, 0, some 0⟩) 3 3], .agg #[.int .i64 2, .int .i64 7], .slice (some ⟨48, 0, none⟩) 1 1, .tuple #[.agg #[.string ⟨#[]⟩, .int .i64 0, .int .i64 0, .int .i64 0, .int .i64 0, .slice none 0 0, .slice none 0 0], .int .i64 342], .agg #[.string ⟨#[]⟩, .int .i64 0, .int .i64 0, .int .i64 0, .int .i64 0, .slice none 0 0, .slice none 0 0], .int .i64 342, .tuple #[], .tuple #[], .tuple #[], .tuple #[], .tuple #[], .tuple #[], .tuple #[], .tuple #[], .tuple #[], .tuple #[], .tuple #[], .tuple #[], .tuple #[], .tuple #[], .tuple #[], .tuple #[], .tuple #[], .tuple #[], .tuple #[], .tuple #[], .tuple #[], .tuple #[], .tuple #[], .tuple #[], .tuple #[], .tuple #[], .tuple #[], .tuple #[], .tuple #[], .tuple #[], .tuple #[], .tuple #[], .tuple #[], .tuple #[], .tuple #[], .tuple #[], .tuple #[], .tuple #[], .tuple #[], .tuple #[], .tuple #[], .tuple #[], .tuple #[], .tuple #[], .tuple #[], .tuple #[], .tuple #[], .tuple #[], .tuple #[], .tuple #[], .tuple #[], .tuple #[], .tuple #[], .tuple #[], .tuple #[], .tuple #[], .tuple #[], .tuple #[], .tuple #[], .tuple #[], .tuple #[], .tuple #[], .tuple #[], .tuple #[], .tuple #[], .tuple #[], .tuple #[], .tuple #[], .tuple #[], .tuple #[], .tuple #[], .tuple #[], .tuple #[], .tuple #[], .tuple #[], .tuple #[], .tuple #[], .tuple #[], .tuple #[], .tuple #[], .tuple #[], .tuple #[], .tuple #[], .tuple #[], .tuple #[], .tuple #[], .tuple #[], .tuple #[], .tuple #[], .tuple #[], .tuple #[], .tuple #[], .tuple #[], .tuple #[], .tuple #[], .tuple #[], .tuple #[], .tuple #[], .tuple #[], .tuple #[], .tuple #[], .tuple #[], .tuple #[], .tuple #[], .tuple #[], .tuple #[], .tuple #[], .tuple #[], .tuple #[]]
def wk24m1 : Mem := [(5, [.string ⟨#[97]⟩, .int .i64 1, .int .i64 0, .int .i64 2, .int .i64 0, .slice (some ⟨26, 0, none⟩) 0 0, .slice (some ⟨47, 0, some 0⟩) 3 3], 26, false), (26, [], 49, false), (47, [.int .i64 0, .int .i64 5, .int .i64 1, .int .i64 6, .int .i64 2, .int .i64 9], 53, true), (80, [.string ⟨#[]⟩, .int .i64 0, .int .i64 0, .int .i64 0, .int .i64 0, .slice none 0 0, .slice none 0 0], 26, false), (6, [.int .i64 0, .int .i64 5, .int .i64 1, .int .i64 6, .int .i64 2, .int .i64 9], 53, false), (48, [.int .i64 2, .int .i64 7], 53, false)]
def wk24v2 : List Value := [.bool false, .pointer (some ⟨5, 0, none⟩), .int .i64 0, .int .i64 0, .pointer (some ⟨80, 0, none⟩), .int .i64 342, .pointer (some ⟨1301, 0, none⟩), .int .i64 0, .tuple #[], .tuple #[], .tuple #[], .tuple #[], .tuple #[], .tuple #[], .tuple #[], .tuple #[], .tuple #[.agg #[.string ⟨#[97]⟩, .int .i64 1, .int .i64 0, .int .i64 (-1), .int .i64 0, .slice none 0 0, .slice none 0 0], .int .i64 0], .tuple #[.agg #[.string ⟨#[97]⟩, .int .i64 1, .int .i64 0, .int .i64 (-1), .int .i64 0, .slice none 0 0, .slice none 0 0], .int .i64 0], .agg #[.string ⟨#[97]⟩, .int .i64 1, .int .i64 0, .int .i64 (-1), .int .i64 0, .slice none 0 0, .slice none 0 0], .int .i64 0, .tuple #[.agg #[.string ⟨#[97]⟩, .int .i64 1, .int .i64 0, .int .i64 2, .int .i64 0, .slice (some ⟨26, 0, none⟩) 0 0, .slice (some ⟨47, 0, some 0⟩) 3 3], .int .i64 0], .agg #[.string ⟨#[97]⟩, .int .i64 1, .int .i64 0, .int .i64 (-1), .int .i64 0, .slice none 0 0, .slice none 0 0], .agg #[.int .i64 0, .int .i64 5], .agg #[.int .i64 1, .int .i64 6], .agg #[.int .i64 2, .int .i64 9], .slice (some ⟨6, 0, none⟩) 3 3, .tuple #[.agg #[.string ⟨#[97]⟩, .int .i64 1, .int .i64 0, .int .i64 2, .int .i64 0, .slice (some ⟨26, 0, none⟩) 0 0, .slice (some ⟨47, 0, some 0⟩) 3 3], .int .i64 0], .agg #[.string ⟨#[97]⟩, .int .i64 1, .int .i64 0, .int .i64 2, .int .i64 0, .slice (some ⟨26, 0, none⟩) 0 0, .slice (some ⟨47, 0, some 0⟩) 3 3], .int .i64 0, .tuple #[.agg #[.string ⟨#[]⟩, .int .i64 0, .int .i64 0, .int .i64 0, .int .i64 0, .slice none 0 0, .slice none 0 0], .int .i64 342], .agg #[.string ⟨#[97]⟩, .int .i64 1, .int .i64 0, .int .i64 2, .int .i64 0, .slice (some ⟨26, 0, none⟩) 0 0, .slice (some ⟨47, 0, some 0⟩) 3 3], .agg #[.int .i64 2, .int .i64 7], .slice (some ⟨48, 0, none⟩) 1 1, .tuple #[.agg #[.string ⟨#[]⟩, .int .i64 0, .int .i64 0, .int .i64 0, .int .i64 0, .slice none 0 0, .slice none 0 0], .int .i64 342], .agg #[.string ⟨#[]⟩, .int .i64 0, .int .i64 0, .int .i64 0, .int .i64 0, .slice none 0 0, .slice none 0 0], .int .i64 342, .tuple #[.agg #[.string ⟨#[97]⟩, .int .i64 1, .int .i64 0, .int .i64 2, .int .i64 0, .slice (some ⟨1300, 0, some 0⟩) 1 1, .slice none 0 0], .int .i64 0], .agg #[.string ⟨#[97]⟩, .int .i64 1, .int .i64 0, .int .i64 2, .int .i64 0, .slice (some ⟨26, 0, none⟩) 0 0, .slice (some ⟨47, 0, some 0⟩) 3 3], .tuple #[.agg #[.string ⟨#[97]⟩, .int .i64 1, .int .i64 0, .int .i64 2, .int .i64 0, .slice (some ⟨1300, 0, some 0⟩) 1 1, .slice none 0 0], .int .i64 0], .agg #[.string ⟨#[97]⟩, .int .i64 1, .int .i64 0, .int .i64 2, .int .i64 0, .slice (some ⟨1300, 0, some 0⟩) 1 1, .slice none 0 0], .int .i64 0, .tuple #[], .tuple #[], .tuple #[], .tuple #[], .tuple #[], .tuple #[], .tuple #[], .tuple #[], .tuple #[], .tuple #[], .tuple #[], .tuple #[], .tuple #[], .tuple #[], .tuple #[], .tuple #[], .tuple #[], .tuple #[], .tuple #[], .tuple #[], .tuple #[], .tuple #[], .tuple #[], .tuple #[], .tuple #[], .tuple #[], .tuple #[], .tuple #[], .tuple #[], .tuple #[], .tuple #[], .tuple #[], .tuple #[], .tuple #[], .tuple #[], .tuple #[], .tuple #[], .tuple #[], .tuple #[], .tuple #[], .tuple #[], .tuple #[], .tuple #[], .tuple #[], .tuple #[], .tuple #[], .tuple #[], .tuple #[], .tuple #[], .tuple #[], .tuple #[], .tuple #[], .tuple #[], .tuple #[], .tuple #[], .tuple #[], .tuple #[], .tuple #[], .tuple #[], .tuple #[], .tuple #[], .tuple #[], .tuple #[], .tuple #[], .tuple #[], .tuple #[], .tuple #[], .tuple #[], .tuple #[], .tuple #[], .tuple #[], .tuple #[], .tuple #[], .tuple #[], .tuple #[], .tuple #[], .tuple #[], .tuple #[], .tuple #[], .tuple #[], .tuple #[], .tuple #[], .tuple #[], .tuple #[], .tuple #[], .tuple #[], .tuple #[], .tuple #[], .tuple #[], .tuple #[], .tuple #[], .tuple #[], .tuple #[], .tuple #[], .tuple #[], .tuple #[], .tuple #[], .tuple #[], .tuple #[], .tuple #[], .tuple #[], .tuple #[], .tuple #[], .tuple #[]]
def wk24m2 : Mem := [(5, [.string ⟨#[97]⟩, .int .i64 1, .int .i64 0, .int .i64 2, .int .i64 0, .slice (some ⟨26, 0, none⟩) 0 0, .slice (some ⟨47, 0, some 0⟩) 3 3], 26, false), (26, [], 49, false), (47, [.int .i64 0, .int .i64 5, .int .i64 1, .int .i64 6, .int .i64 2, .int .i64 9], 53, true), (80, [.string ⟨#[]⟩, .int .i64 0, .int .i64 0, .int .i64 0, .int .i64 0, .slice none 0 0, .slice none 0 0], 26, false), (1301, [.string ⟨#[97]⟩, .int .i64 1, .int .i64 0, .int .i64 2, .int .i64 0, .slice (some ⟨1300, 0, some 0⟩) 1 1, .slice none 0 0], 26, false), (1300, [.int .i64 2, .slice (some ⟨721, 0, some 0⟩) 1 1, .int .i64 5, .int .i64 0, .int .i64 3, .int .i64 2, .slice none 0 0, .int .i64 1], 49, true), (721, [.int .i64 0, .int .i64 1, .int .i64 3], 69, true), (6, [.int .i64 0, .int .i64 5, .int .i64 1, .int .i64 6, .int .i64 2, .int .i64 9], 53, false), (48, [.int .i64 2, .int .i64 7], 53, false)]
def wk24v3 : List Value := [.bool false, .pointer (some ⟨5, 0, none⟩), .int .i64 0, .int .i64 0, .pointer (some ⟨80, 0, none⟩), .int .i64 342, .pointer (some ⟨1301, 0, none⟩), .int .i64 0, .pointer (some ⟨1390, 0, none⟩), .int .i64 0, .pointer (some ⟨1460, 0, none⟩), .int .i64 0, .tuple #[], .tuple #[], .tuple #[], .tuple #[], .tuple #[.agg #[.string ⟨#[97]⟩, .int .i64 1, .int .i64 0, .int .i64 (-1), .int .i64 0, .slice none 0 0, .slice none 0 0], .int .i64 0], .tuple #[.agg #[.string ⟨#[97]⟩, .int .i64 1, .int .i64 0, .int .i64 (-1), .int .i64 0, .slice none 0 0, .slice none 0 0], .int .i64 0], .agg #[.string ⟨#[97]⟩, .int .i64 1, .int .i64 0, .int .i64 (-1), .int .i64 0, .slice none 0 0, .slice none 0 0], .int .i64 0, .tuple #[.agg #[.string ⟨#[97]⟩, .int .i64 1, .int .i64 0, .int .i64 2, .int .i64 0, .slice (some ⟨26, 0, none⟩) 0 0, .slice (some ⟨47, 0, some 0⟩) 3 3], .int .i64 0], .agg #[.string ⟨#[97]⟩, .int .i64 1, .int .i64 0, .int .i64 (-1), .int .i64 0, .slice none 0 0, .slice none 0 0], .agg #[.int .i64 0, .int .i64 5], .agg #[.int .i64 1, .int .i64 6], .agg #[.int .i64 2, .int .i64 9], .slice (some ⟨6, 0, none⟩) 3 3, .tuple #[.agg #[.string ⟨#[97]⟩, .int .i64 1, .int .i64 0, .int .i64 2, .int .i64 0, .slice (some ⟨26, 0, none⟩) 0 0, .slice (some ⟨47, 0, some 0⟩) 3 3], .int .i64 0], .agg #[.string ⟨#[97]⟩, .int .i64 1, .int .i64 0, .int .i64 2, .int .i64 0, .slice (some ⟨26, 0, none⟩) 0 0, .slice (some ⟨47, 0, some 0⟩) 3 3], .int .i64 0, .tuple #[.agg #[.string ⟨#[]⟩, .int .i64 0, .int .i64 0, .int .i64 0, .int .i64 0, .slice none 0 0, .slice none 0 0], .int .i64 342], .agg #[.string ⟨#[97]⟩, .int .i64 1, .int .i64 0, .int .i64 2, .int .i64 0, .slice (some ⟨26, 0, none⟩) 0 0, .slice (some ⟨47, 0, some 0⟩) 3 3], .agg #[.int .i64 2, .int .i64 7], .slice (some ⟨48, 0, none⟩) 1 1, .tuple #[.agg #[.string ⟨#[]⟩, .int .i64 0, .int .i64 0, .int .i64 0, .int .i64 0, .slice none 0 0, .slice none 0 0], .int .i64 342], .agg #[.string ⟨#[]⟩, .int .i64 0, .int .i64 0, .int .i64 0, .int .i64 0, .slice none 0 0, .slice none 0 0], .int .i64 342, .tuple #[.agg #[.string ⟨#[97]⟩, .int .i64 1, .int .i64 0, .int .i64 2, .int .i64 0, .slice (some ⟨1300, 0, some 0⟩) 1 1, .slice none 0 0], .int .i64 0], .agg #[.string ⟨#[97]⟩, .int .i64 1, .int .i64 0, .int .i64 2, .int .i64 0, .slice (some ⟨26, 0, none⟩) 0 0, .slice (some ⟨47, 0, some 0⟩) 3 3], .tuple #[.agg #[.string ⟨#[97]⟩, .int .i64 1, .int .i64 0, .int .i64 2, .int .i64 0, .slice (some ⟨1300, 0, some 0⟩) 1 1, .slice none 0 0], .int .i64 0], .agg #[.string ⟨#[97]⟩, .int .i64 1, .int .i64 0, .int .i64 2, .int .i64 0, .slice (some ⟨1300, 0, some 0⟩) 1 1, .slice none 0 0], .int .i64 0, .tuple #[.agg #[.string ⟨#[97]⟩, .int .i64 1, .int .i64 0, .int .i64 2, .int .i64 0, .slice (some ⟨1389, 0, some 0⟩) 1 1, .slice (some ⟨1362, 0, none⟩) 0 0], .int .i64 0], .agg #[.string ⟨#[97]⟩, .int .i64 1, .int .i64 0, .int .i64 2, .int .i64 0, .slice (some ⟨1300, 0, some 0⟩) 1 1, .slice none 0 0], .tuple #[.agg #[.string ⟨#[97]⟩, .int .i64 1, .int .i64 0, .int .i64 2, .int .i64 0, .slice (some ⟨1389, 0, some 0⟩) 1 1, .slice (some ⟨1362, 0, none⟩) 0 0], .int .i64 0], .agg #[.string ⟨#[97]⟩, .int .i64 1, .int .i64 0, .int .i64 2, .int .i64 0, .slice (some ⟨1389, 0, some 0⟩) 1 1, .slice (some ⟨1362, 0, none⟩) 0 0], .int .i64 0, .tuple #[.agg #[.string ⟨#[97]⟩, .int .i64 1, .int .i64 1, .int .i64 2, .int .i64 0, .slice (some ⟨1451, 0, none⟩) 1 1, .slice (some ⟨1452, 0, none⟩) 0 0], .int .i64 0], .agg #[.string ⟨#[97]⟩, .int .i64 1, .int .i64 0, .int .i64 2, .int .i64 0, .slice (some ⟨1389, 0, some 0⟩) 1 1, .slice (some ⟨1362, 0, none⟩) 0 0], .tuple #[.agg #[.string ⟨#[97]⟩, .int .i64 1, .int .i64 1, .int .i64 2, .int .i64 0, .slice (some ⟨1451, 0, none⟩) 1 1, .slice (some ⟨1452, 0, none⟩) 0 0], .int .i64 0], .agg #[.string ⟨#[97]⟩, .int .i64 1, .int .i64 1, .int .i64 2, .int .i64 0, .slice (some ⟨1451, 0, none⟩) 1 1, .slice (some ⟨1452, 0, none⟩) 0 0], .int .i64 0, .tuple #[], .tuple #[], .tuple #[], .tuple #[], .tuple #[], .tuple #[], .tuple #[], .tuple #[], .tuple #[], .tuple #[], .tuple #[], .tuple #[], .tuple #[], .tuple #[], .tuple #[], .tuple #[], .tuple #[], .tuple #[], .tuple #[], .tuple #[], .tuple #[], .tuple #[], .tuple #[], .tuple #[], .tuple #[], .tuple #[], .tuple #[], .tuple #[], .tuple #[], .tuple #[], .tuple #[], .tuple #[], .tuple #[], .tuple #[], .tuple #[], .tuple #[], .tuple #[], .tuple #[], .tuple #[], .tuple #[], .tuple #[], .tuple #[], .tuple #[], .tuple #[], .tuple #[], .tuple #[], .tuple #[], .tuple #[], .tuple #[], .tuple #[], .tuple #[], .tuple #[], .tuple #[], .tuple #[], .tuple #[], .tuple #[], .tuple #[], .tuple #[], .tuple #[], .tuple #[], .tuple #[], .tuple #[], .tuple #[], .tuple #[], .tuple #[], .tuple #[], .tuple #[], .tuple #[], .tuple #[], .tuple #[], .tuple #[], .tuple #[], .tuple #[], .tuple #[], .tuple #[], .tuple #[], .tuple #[], .tuple #[], .tuple #[], .tuple #[], .tuple #[], .tuple #[], .tuple #[], .tuple #[], .tuple #[], .tuple #[], .tuple #[], .tuple #[], .tuple #[], .tuple #[], .tuple #[], .tuple #[], .tuple #[], .tuple #[]]
def wk24m3 : Mem := [(5, [.string ⟨#[97]⟩, .int .i64 1, .int .i64 0, .int .i64 2, .int .i64 0, .slice (some ⟨26, 0, none⟩) 0 0, .slice (some ⟨47, 0, some 0⟩) 3 3], 26, false), (26, [], 49, false), (47, [.int .i64 0, .int .i64 5, .int .i64 1, .int .i64 6, .int .i64 2, .int .i64 9], 53, true), (80, [.string ⟨#[]⟩, .int .i64 0, .int .i64 0, .int .i64 0, .int .i64 0, .slice none 0 0, .slice none 0 0], 26, false), (1301, [.string ⟨#[97]⟩, .int .i64 1, .int .i64 0, .int .i64 2, .int .i64 0, .slice (some ⟨1300, 0, some 0⟩) 1 1, .slice none 0 0], 26, false), (1300, [.int .i64 2, .slice (some ⟨721, 0, some 0⟩) 1 1, .int .i64 5, .int .i64 0, .int .i64 3, .int .i64 2, .slice none 0 0, .int .i64 1], 49, true), (721, [.int .i64 0, .int .i64 1, .int .i64 3], 69, true), (1390, [.string ⟨#[97]⟩, .int .i64 1, .int .i64 0, .int .i64 2, .int .i64 0, .slice (some ⟨1389, 0, some 0⟩) 1 1, .slice (some ⟨1362, 0, none⟩) 0 0], 26, false), (1389, [.int .i64 2, .slice (some ⟨1387, 0, some 0⟩) 1 1, .int .i64 5, .int .i64 0, .int .i64 3, .int .i64 2, .slice none 0 0, .int .i64 1], 49, true), (1387, [.int .i64 0, .int .i64 1, .int .i64 3], 69, true), (1362, [], 53, false), (1460, [.string ⟨#[97]⟩, .int .i64 1, .int .i64 1, .int .i64 2, .int .i64 0, .slice (some ⟨1451, 0, none⟩) 1 1, .slice (some ⟨1452, 0, none⟩) 0 0], 26, false), (1451, [.int .i64 2, .slice (some ⟨1455, 0, some 0⟩) 1 1, .int .i64 5, .int .i64 0, .int .i64 3, .int .i64 2, .slice none 0 0, .int .i64 1], 49, false), (1455, [.int .i64 0, .int .i64 1, .int .i64 3], 69, true), (1452, [], 53, false), (6, [.int .i64 0, .int .i64 5, .int .i64 1, .int .i64 6, .int .i64 2, .int .i64 9], 53, false), (48, [.int .i64 2, .int .i64 7], 53, false)]
theorem wk24_1 (t : TypeId) : pieceB Tryz.prog wk24O (hdC 4 wk24c) ⟨.nil, Tryz.f11.ntmps, [], none⟩ (sDoor t) wk24v1 wk24m1 81 = true := by kernel_rfl
theorem wk24_2 (t : TypeId) : pieceB Tryz.prog wk24O (hdC 1 (tlC 4 wk24c)) (frX wk24v1) (stX (.cells doorV t false) wk24m1 81) wk24v2 wk24m2 1302 = true := by kernel_rfl
theorem wk24_3 (t : TypeId) : pieceB Tryz.prog wk24O (hdC 2 (tlC 1 (tlC 4 wk24c))) (frX wk24v2) (stX (.cells doorV t false) wk24m2 1302) wk24v3 wk24m3 1461 = true := by kernel_rfl
theorem wk24_last (t : TypeId) : lastX Tryz.prog wk24O Tryz.f11 (tlC 2 (tlC 1 (tlC 4 wk24c))) (frX wk24v3) (stX (.cells doorV t false) wk24m3 1461) = true := by kernel_rfl
theorem wk24_goes (t : TypeId) : GoesT Tryz.prog (.cells doorV t false) Tryz.f11 wk24c ⟨.nil, Tryz.f11.ntmps, [], none⟩ (sDoor t) :=
  goes_cut wk24O_ok (by kernel_rfl) 4 rfl (wk24_1 t) (by kernel_rfl) (goes_cut wk24O_ok (by kernel_rfl) 1 rfl (wk24_2 t) (by kernel_rfl) (goes_cut wk24O_ok (by kernel_rfl) 2 rfl (wk24_3 t) (by kernel_rfl) (goes_last wk24O_ok (by kernel_rfl) rfl (wk24_last t))))
theorem wk24_w {w W : World} (h : laidMetH Tryz.prog laidL w) (hb : Below w.heap.size w W) : Calls Tryz.prog 11 #[] W fun e w' => e = .returned (.bool true) ∧ Below W.heap.size W w' := by
  obtain ⟨t, ht⟩ := door_cells h
  exact goes_call Tryz.func11 (c := wk24c) (by kernel_rfl) (by kernel_rfl) (wk24_goes t) (door_inv ((hb.block 0 (Array.getElem?_eq_some_iff.1 ht).1).trans ht))
end Go.Proofs.YtpdhdjlhicceoaaGreatDoor
namespace Go.Proofs.YtpdhdjlhicceoaaGreatDoor
open Go.ChangeShapes Go.WideShapes Go.ChangeAt Go.RowKit Go.Deep
section
variable {H : Type} {enc : TypeId × Value → H} {w : World} {base : Nat} {spare : Nat → Bool} {held : Bool}
theorem Tryz.fieldsSer : fieldsOf Tryz.prog 26 = #[(9, 0), (2, 1), (2, 2), (2, 3), (3, 4), (23, 5), (24, 6)] := by kernel_rfl
theorem Tryz.fieldsPoint : fieldsOf Tryz.prog 53 = #[(2, 0), (2, 1)] := by kernel_rfl
set_option maxRecDepth 100000 in
theorem open_seg_trod {fuel : Nat} {cs : List Value} {x : DataW H × List MemPlace} (hf : DataW.trod enc Tryz.prog w base spare held fuel 49 cs = some x) :
    ∃ r : SegR, cs = (segRA r).toList ∧ Came w r.s r.p r.q r.cap r.vc := by
  have hC : Tryz.prog.cellsOf 49 = 8 := by kernel_rfl
  have hR : Tryz.prog.cellsOf 44 = 1 := by kernel_rfl
  have hV : Tryz.prog.cellsOf 47 = 1 := by kernel_rfl
  have hL : Tryz.prog.cellsOf 46 = 4 := by kernel_rfl
  obtain ⟨hsz, hat⟩ := open_struct Tryz.fieldsSeg (by simp) hf
  rw [hC] at hsz
  match cs, hsz with
  | [c0, c1, c2, c3, c4, c5, c6, c7], _ =>
    obtain ⟨n0, y0, h0⟩ := hat 0 _ _ rfl
    obtain ⟨n1, y1, h1⟩ := hat 1 _ _ rfl
    obtain ⟨n2, y2, h2⟩ := hat 2 _ _ rfl
    obtain ⟨n3, y3, h3⟩ := hat 3 _ _ rfl
    obtain ⟨n4, y4, h4⟩ := hat 4 _ _ rfl
    rw [Tryz.isInt.2] at h0
    rw [hR] at h1
    rw [hL] at h2
    rw [hV] at h3
    rw [Tryz.isInt64.2] at h4
    obtain ⟨K, eK, _, wK⟩ := DataW.trod_int Tryz.isInt.1 h0
    obtain ⟨p, l, cap, e1, r1, r2, r3, r4, r5⟩ := open_run_list h1
    obtain ⟨_, hln⟩ := open_ints_struct Tryz.fieldsLine (by simp) (by rw [hL]; rfl) (fun i hi => by
      match i, hi with
      | 0, _ => exact ⟨_, rfl, Tryz.isInt64⟩
      | 1, _ => exact ⟨_, rfl, Tryz.isInt64⟩
      | 2, _ => exact ⟨_, rfl, Tryz.isInt64⟩
      | 3, _ => exact ⟨_, rfl, Tryz.isInt64⟩) h2
    obtain ⟨A, a1, a2⟩ := hln 0 (by simp)
    obtain ⟨R, b1, b2⟩ := hln 1 (by simp)
    obtain ⟨N, g1, g2⟩ := hln 2 (by simp)
    obtain ⟨D, d1, d2⟩ := hln 3 (by simp)
    obtain ⟨q, v, vc, e3, q1, q2, q3, q4, q5⟩ := open_nums (by kernel_rfl) Tryz.isInt64.1 Tryz.isInt64.2 h3
    obtain ⟨E, eE, _, wE⟩ := DataW.trod_int Tryz.isInt64.1 h4
    simp at eK e1 a1 b1 g1 d1 e3 eE
    subst eK; subst e1; subst a1; subst b1; subst g1; subst d1; subst e3; subst eE
    unfold maxLen at r3 q3
    exact ⟨⟨⟨K, l, A, R, N, D, v, E⟩, p, q, cap, vc⟩, rfl, ⟨r4, q4, r1, q1, r2, q2, by show l.length ≤ _; omega, by show v.length ≤ _; omega⟩⟩
set_option maxRecDepth 100000 in
theorem open_segs {fuel : Nat} {cs : List Value} {x : DataW H × List MemPlace} (h : DataW.trod enc Tryz.prog w base spare held fuel 23 cs = some x) :
    ∃ (p : Option Addr) (rows : List SegR) (cap : Nat), cs = [.slice p rows.length cap] ∧ (p = none → rows.length = 0 ∧ cap = 0) ∧ rows.length ≤ cap ∧ SegsCame w p rows := by
  have hC : Tryz.prog.cellsOf 49 = 8 := by kernel_rfl
  rcases open_slice (e := 49) (by kernel_rfl) h with ⟨rfl, rfl⟩ | ⟨a, len, cap, m, k, D, Pl, rfl, hb, hl, hm, hmm, hx, hi⟩
  · exact ⟨none, [], 0, rfl, fun _ => ⟨rfl, rfl⟩, Nat.le_refl _, fun i r hr => by simp at hr⟩
  · have hlm : len ≤ m := by rw [hmm]; split <;> omega
    have hs : 0 < len → a = ⟨a.block, a.off, none⟩ := fun h0 => by
      obtain ⟨cs', hc, ht'⟩ := hi 0 (by omega)
      rw [hC] at hc
      obtain ⟨_, hcl, hat⟩ := World.cells?_some hc
      have h1 := hat 0 (by omega)
      rw [List.getElem?_eq_getElem (by omega)] at h1
      simp [Addr.add] at h1
      exact spot_none h1
    obtain ⟨rows, rfl, hq⟩ := list_of (Q := fun i (r : SegR) => (∃ b o, a = ⟨b, o, none⟩ ∧ (∀ j v, (segRA r)[j]? = some v → w.cell? ⟨b, o + i * 8 + j, none⟩ = some v)) ∧ Came w r.s r.p r.q r.cap r.vc) len (fun i hilt => by
      obtain ⟨cs', hc, ht'⟩ := hi i (by omega)
      rw [hC] at hc
      obtain ⟨_, hcl, hat⟩ := World.cells?_some hc
      obtain ⟨r, rfl, hcm⟩ := open_seg_trod ht'
      refine ⟨r, ⟨a.block, a.off, hs (by omega), fun j v hv => ?_⟩, hcm⟩
      have hj : j < 8 := by have := (Array.getElem?_eq_some_iff.1 hv).1; rw [show (segRA r).size = 8 from rfl] at this; exact this
      have h1 := hat j hj
      rw [add_add, hs (by omega), add_at, Array.getElem?_toList, hv] at h1
      rw [Nat.add_assoc]
      exact h1)
    exact ⟨some a, rows, cap, rfl, (fun e => by cases e), hl, fun i r hr => by
      obtain ⟨⟨b, o, e, h1⟩, h2⟩ := hq i r hr
      exact ⟨b, o, by rw [e], h1, h2⟩⟩
theorem open_pts {fuel : Nat} {cs : List Value} {x : DataW H × List MemPlace} (h : DataW.trod enc Tryz.prog w base spare held fuel 24 cs = some x) :
    ∃ (p : Option Addr) (l : List (Int × Int)) (cap : Nat), cs = [.slice p l.length cap] ∧ (p = none → l.length = 0 ∧ cap = 0) ∧ l.length ≤ cap ∧ PtsIn w p l := by
  obtain ⟨p, len, cap, rfl, hn, hl, hm, hi⟩ := open_rows (n := 2) (by kernel_rfl) Tryz.fieldsPoint rfl (by omega) (by kernel_rfl) (fun i hi => by
    match i, hi with
    | 0, _ => exact ⟨_, rfl, Tryz.isInt64⟩
    | 1, _ => exact ⟨_, rfl, Tryz.isInt64⟩) h
  obtain ⟨l, rfl, hq⟩ := list_of (Q := fun i (r : Int × Int) => ∃ b o, p = some ⟨b, o, none⟩ ∧ w.cell? ⟨b, o + i * 2, none⟩ = some (.int .i64 r.1) ∧ w.cell? ⟨b, o + i * 2 + 1, none⟩ = some (.int .i64 r.2)) len (fun i hilt => by
    obtain ⟨b, o, e, hj⟩ := hi i hilt
    obtain ⟨f, f1, f2⟩ := hj 0 (by omega)
    obtain ⟨s, s1, s2⟩ := hj 1 (by omega)
    exact ⟨(f, s), b, o, e, by simpa using f1, s1⟩)
  exact ⟨p, l, cap, rfl, hn, hl, ⟨fun i r hr => hq i r hr⟩⟩
set_option maxRecDepth 100000 in
/-- A series that came in. -/
theorem open_ser {r : Reach} {b0 : Nat} {v : Value} {d : DataW H} {ps : List MemPlace} (hv : Value.okWide Tryz.prog w r b0 26 v) (h : DataW.Trod enc Tryz.prog w base spare held 26 v d ps) :
    ∃ nm ep fl la sc p cs rows q co pts, v = .agg #[.string nm, .int .i64 ep, .int .i64 fl, .int .i64 la, .int .i64 sc, .slice p rows.length cs, .slice q pts.length co] ∧ SerCame w p q cs co rows pts := by
  obtain ⟨fs, hfs⟩ : ∃ fs, Tryz.prog.underlying 26 = some (.struct fs) := struct_of Tryz.fieldsSer (by simp)
  obtain ⟨cs, rfl, hsz⟩ := okWide_struct hfs hv
  have hC : Tryz.prog.cellsOf 26 = 7 := by kernel_rfl
  have hR : Tryz.prog.cellsOf 23 = 1 := by kernel_rfl
  have hV : Tryz.prog.cellsOf 24 = 1 := by kernel_rfl
  have hS : Tryz.prog.cellsOf 9 = 1 := by kernel_rfl
  obtain ⟨fuel, hf⟩ := h
  obtain ⟨l⟩ := cs
  obtain ⟨_, hat⟩ := open_struct Tryz.fieldsSer (by simp) hf
  rw [hC] at hsz
  match l, hsz with
  | [c0, c1, c2, c3, c4, c5, c6], _ =>
    obtain ⟨n0, y0, h0⟩ := hat 0 _ _ rfl
    obtain ⟨n1, y1, h1⟩ := hat 1 _ _ rfl
    obtain ⟨n2, y2, h2⟩ := hat 2 _ _ rfl
    obtain ⟨n3, y3, h3⟩ := hat 3 _ _ rfl
    obtain ⟨n4, y4, h4⟩ := hat 4 _ _ rfl
    obtain ⟨n5, y5, h5⟩ := hat 5 _ _ rfl
    obtain ⟨n6, y6, h6⟩ := hat 6 _ _ rfl
    rw [hS] at h0
    rw [Tryz.isInt64.2] at h1 h2 h3
    rw [Tryz.isInt.2] at h4
    rw [hR] at h5
    rw [hV] at h6
    obtain ⟨nm, e0, _⟩ := DataW.trod_string (by kernel_rfl) h0
    obtain ⟨ep, e1, _, _⟩ := DataW.trod_int Tryz.isInt64.1 h1
    obtain ⟨fl, e2, _, _⟩ := DataW.trod_int Tryz.isInt64.1 h2
    obtain ⟨la, e3, _, _⟩ := DataW.trod_int Tryz.isInt64.1 h3
    obtain ⟨sc, e4, _, _⟩ := DataW.trod_int Tryz.isInt.1 h4
    obtain ⟨p, rows, cs, e5, r1, r2, r3⟩ := open_segs h5
    obtain ⟨q, pts, co, e6, s1, s2, s3⟩ := open_pts h6
    simp [Value.cells] at e0 e1 e2 e3 e4 e5 e6
    subst e0; subst e1; subst e2; subst e3; subst e4; subst e5; subst e6
    exact ⟨nm, ep, fl, la, sc, p, cs, rows, q, co, pts, rfl, ⟨r3, s3, r1, s1, r2, s2⟩⟩
end
theorem chk_segs24 {s : SerT} (h : checkB s = true) : ∀ x, x ∈ s.segs → segB x = true := by
  unfold checkB at h
  simp only [Bool.and_eq_true] at h
  exact rowB_seg h.2.1
theorem few_nm (nm : ByteArray) : (nm.extract 0 (mn (nm.size : Int) 20).toNat).size ≤ 1000 := by
  have h0 := mn_spec (nm.size : Int) 20
  rw [ByteArray.size_extract]
  omega
set_option maxRecDepth 100000 in
theorem c_stells (nm : ByteArray) (ep fl la sc : Int) (ps po : Option Addr) (cs co : Nat) (rows : List SegR) (pts : List (Int × Int)) (nm' : ByteArray) (ep' fl' la' sc' : Int) (ps' po' : Option Addr) (cs' co' : Nat) (rows' : List SegR) (pts' : List (Int × Int)) (w : World) (h : SerCame w ps po cs co rows pts) (h' : SerCame w ps' po' cs' co' rows' pts')
    (c1 : ∀ W, Below w.heap.size w W → Calls Tryz.prog 11 #[] W fun e w' => e = .returned (.bool true) ∧ Below W.heap.size W w') :
    Calls Tryz.prog 8 #[.agg #[.string nm, .int .i64 ep, .int .i64 fl, .int .i64 la, .int .i64 sc, .slice ps rows.length cs, .slice po pts.length co], .agg #[.string nm', .int .i64 ep', .int .i64 fl', .int .i64 la', .int .i64 sc', .slice ps' rows'.length cs', .slice po' pts'.length co']] w fun e w' => e = .returned (.bool true) ∧ Below w.heap.size w w' := by
  have c2 : ∀ W, Below w.heap.size w W → Calls Tryz.prog 15 #[.agg #[.string nm, .int .i64 ep, .int .i64 fl, .int .i64 la, .int .i64 sc, .slice ps rows.length cs, .slice po pts.length co]] W fun e w' => ∃ v, e = .returned v ∧ Below W.heap.size W w' ∧ OSer (ownSer26 nm ep fl la sc rows pts) v w' := fun W hb =>
    (c_own24D nm ep fl la sc ps po cs co rows pts W (h.below hb)).mono fun e w' ⟨pS, capS, pP, capP, e1, hB, hS⟩ => ⟨_, e1, hB, pS, pP, capS, capP, rfl, hS⟩
  have c3 : ∀ W, Below w.heap.size w W → Calls Tryz.prog 15 #[.agg #[.string nm', .int .i64 ep', .int .i64 fl', .int .i64 la', .int .i64 sc', .slice ps' rows'.length cs', .slice po' pts'.length co']] W fun e w' => ∃ v, e = .returned v ∧ Below W.heap.size W w' ∧ OSer (ownSer26 nm' ep' fl' la' sc' rows' pts') v w' := fun W hb =>
    (c_own24D nm' ep' fl' la' sc' ps' po' cs' co' rows' pts' W (h'.below hb)).mono fun e w' ⟨pS, capS, pP, capP, e1, hB, hS⟩ => ⟨_, e1, hB, pS, pP, capS, capP, rfl, hS⟩
  have hnm : (ownSer26 nm ep fl la sc rows pts).name.size ≤ 1000 := few_nm nm
  generalize ownSer26 nm ep fl la sc rows pts = a at c2 hnm
  generalize ownSer26 nm' ep' fl' la' sc' rows' pts' = b at c3
  have c4 := fun (W : World) (pa qa : Option Addr) (ca va : Nat) (hi : SerIn W a pa qa) => c_r24Right a pa ca qa va W hi hnm
  have c5 := fun (W : World) (pa qa : Option Addr) (ca va : Nat) (hi : SerIn W a pa qa) => c_srCheck a pa qa ca va W hi
  have c8 := fun (W : World) (pa qa : Option Addr) (ca va : Nat) (pb qb : Option Addr) (cb vb : Nat) (hi : SerIn W a pa qa) (hj : SerIn W b pb qb) => c_srSame a b pa pb ca cb qa qb va vb W hi hj
  have c9 := fun (W : World) (pa qa : Option Addr) (ca va : Nat) (pb qb : Option Addr) (cb vb : Nat) (hi : SerIn W a pa qa) (hj : SerIn W b pb qb) => c_r24SameG a b pa pb ca cb qa qb va vb W hi hj
  have c10 := fun (W : World) (pa qa : Option Addr) (ca va : Nat) (p9 q9 : Option Addr) (c9 v9 : Nat) (hi : SerIn W a pa qa) (hj : SerIn W a p9 q9) => c_srSame a a pa p9 ca c9 qa q9 va v9 W hi hj
  have c11 := fun (W : World) (pa qa : Option Addr) (ca va : Nat) (p9 q9 : Option Addr) (c9 v9 : Nat) (hi : SerIn W a pa qa) (hj : SerIn W a p9 q9) => c_r24SameG a a pa p9 ca c9 qa q9 va v9 W hi hj
  simp only [sameS_refl] at c10 c11
  unfold checkE at c5
  cases hc : checkB a with
  | true =>
    simp only [hc, if_true] at c4 c5
    have hv := chk_segs24 hc
    have c6 := fun (W : World) (pa qa : Option Addr) (ca va : Nat) (hi : SerIn W a pa qa) => c_r24Kept a pa ca qa va W hi hv
    have ck := fun (W : World) (pa qa : Option Addr) (ca va : Nat) (hi : SerIn W a pa qa) => c_srKept a pa qa ca va W hi hv
    unfold serA at c4 c5 c6 c8 c9 ck
    have c7 := fun (W : World) (pa qa : Option Addr) (ca va : Nat) (hi : SerIn W a pa qa) => keptY_w a pa qa ca va (keptN a) W hi (fun W' _ hi' => c5 W' pa qa ca va hi') (fun W' _ hi' => ck W' pa qa ca va hi')
    refine tells_yes nm nm' ep fl la sc ep' fl' la' sc' ps po ps' po' _ cs _ co _ cs' _ co' a b (sameS a b) (keptN a) w c1 c2 c3 c4 c5 c7 c8 c9 (fun W pa qa ca va p9 q9 c9 v9 hi hj => ?_) (fun W pa qa ca va p9 q9 c9 v9 hi hj => ?_) c6
    · exact c10 W pa qa ca va p9 q9 c9 v9 hi hj
    · exact c11 W pa qa ca va p9 q9 c9 v9 hi hj
  | false =>
    simp only [hc, if_neg Bool.false_ne_true] at c4 c5
    unfold serA at c4 c5 c8 c9
    have c7 := fun (W : World) (pa qa : Option Addr) (ca va : Nat) (hi : SerIn W a pa qa) => keptN_w a pa qa ca va W hi (fun W' _ hi' => c5 W' pa qa ca va hi')
    refine tells_no nm nm' ep fl la sc ep' fl' la' sc' ps po ps' po' _ cs _ co _ cs' _ co' a b (sameS a b) 0 w c1 c2 c3 c4 c5 c7 c8 c9 (fun W pa qa ca va p9 q9 c9 v9 hi hj => ?_) (fun W pa qa ca va p9 q9 c9 v9 hi hj => ?_)
    · exact c10 W pa qa ca va p9 q9 c9 v9 hi hj
    · exact c11 W pa qa ca va p9 q9 c9 v9 hi hj
set_option maxRecDepth 100000 in
theorem stells_lifted (os : Os) (started : os.Started) (H : Type) (enc : TypeId × Value → H) :
    ReturnsInHanded {} Tryz.checked os 8 .any (fun w args => (Rows.seriesTellsSpec.pre enc Tryz.prog Tryz.f8 Rows.seriesTellsRow.domain false w args ∧ laidMetH Tryz.prog laidL w) ∧ sizedMet enc Tryz.prog Tryz.f8 (OpenSpec.ofChange Rows.seriesTellsSpec) false w args)
      (Rows.seriesTellsSpec.post enc Tryz.prog Tryz.f8 false true false false) := by
  refine returnsInHanded_of_change_and (C := Tryz.checked) (X := fun w _ => laidMetH Tryz.prog laidL w) (fun _ _ _ hh h => h.of_heap hh) Tryz.ownKnob started (by kernel_rfl) Tryz.func8
    (ChangeSpec.witness_shaped (enc := enc) (C := Tryz.checked) (os := os) (X := fun w _ => laidMetH Tryz.prog laidL w) false (World.laidAll Tryz.prog os laidL) #[.agg #[.string .empty, .int .i64 0, .int .i64 0, .int .i64 0, .int .i64 0, .slice none 0 0, .slice none 0 0], .agg #[.string .empty, .int .i64 0, .int .i64 0, .int .i64 0, .int .i64 0, .slice none 0 0, .slice none 0 0]] 8 (World.laidAll_os _ _ _)
      (World.shaped_of_ZipB (by kernel_rfl) (by kernel_rfl)) (by kernel_rfl) (by kernel_rfl) (by kernel_rfl)
      (by rw [MakeChecks.laidMetH_plain _ _ _ (by kernel_rfl)]; exact laidMet_laidAll _ (by kernel_rfl) (by kernel_rfl))) ?_
  intro W base args ds gs before hval0 hW hcnd _ hL _
  have hval : ∀ (j : Nat) t v, Tryz.f8.params[j]? = some t → args[j]? = some v → Value.okWide Tryz.prog W .any base t v := hval0
  have hW' := hW
  obtain ⟨p, q, hA0, hV, rfl, hfz, hnd⟩ := hW
  have hA : DataW.TrodAll enc Tryz.prog W 0 (fun _ => true) true Tryz.f8.params.toList args.toList ds p := hA0
  rw [Tryz.params8] at hA hval
  obtain ⟨v0, vs0, d0, ds0, p0, q0, hargs, rfl, rfl, h0, hA⟩ := trodAll_cons hA
  obtain ⟨v1, vs1, d1, ds1, p1, q1, rfl, rfl, rfl, h1, hA⟩ := trodAll_cons hA
  obtain ⟨rfl, rfl, rfl⟩ := trodAll_nil hA
  obtain rfl : args = #[v0, v1] := by rw [← Array.toList_inj, hargs]
  obtain ⟨rfl, rfl⟩ := trodVars_none hV
  obtain ⟨nm, ep, fl, la, sc, p', cs, rows, q', co, pts, rfl, hs⟩ := open_ser (hval 0 _ v0 rfl rfl) h0
  obtain ⟨nm', ep', fl', la', sc', p'', cs', rows', q'', co', pts', rfl, hs'⟩ := open_ser (hval 1 _ v1 rfl rfl) h1
  clear hA0 hval0
  refine (c_stells nm ep fl la sc p' q' cs co rows pts nm' ep' fl' la' sc' p'' q'' cs' co' rows' pts' W hs hs' fun W' hb => wk24_w hL hb).mono fun e W' ⟨he, hb⟩ => ?_
  subst he
  exact ⟨_, rfl, law_post Tryz.laidOut (pars_ok (by kernel_rfl)) rfl (by kernel_rfl) rfl hW' hb rfl⟩
theorem st_in : Tryz.prog.inPlace 8 = Rows.seriesTellsRow.inPlace := by kernel_rfl
theorem st_unf : Tryz.prog.unfollowed 8 = true := by kernel_rfl
theorem st_rec : Tryz.prog.recurses 8 = true := by kernel_rfl
theorem st_named : Tryz.prog.varsNamed 8 = Rows.seriesTellsRow.named := by kernel_rfl
theorem k_heard : Tryz.prog.stopsHeard = true := by kernel_rfl
theorem k_may : Tryz.prog.mayEnter = true := by kernel_rfl
theorem k_lift : (Rows.seriesTellsRow.lifted == Tryz.prog.liftsFinal) = true := by kernel_rfl
theorem k_make : (Tryz.prog.make == some Rows.seriesTellsRow.make) = true := by kernel_rfl
theorem k_keys : (Rows.seriesTellsRow.plainKeys == Tryz.prog.plainKeys) = true := by kernel_rfl
theorem k_looks : false = Tryz.prog.looks [] := by kernel_rfl
theorem st_goes : false = Rows.seriesTellsRow.goesBy Tryz.prog := by kernel_rfl
theorem st_main : Tryz.prog.mainIs = some (Rows.seriesTellsCard.stood.harness.1, Rows.seriesTellsCard.stood.harness.2.toList) := by kernel_rfl
theorem st_stand : ([26].all fun u => !Tryz.prog.wantsStandIn u) = true := by kernel_rfl
theorem st_closed : joinedFacts Tryz.prog 8 Tryz.f8 Rows.seriesTellsSpec Rows.seriesTellsRow = true := by
  unfold joinedFacts
  rw [st_in, st_unf, st_rec, st_named, k_heard, k_may, k_lift, k_make, k_keys, Tryz.laidOut]
  kernel_rfl
theorem stells_row : Rows.SeriesTellsSaid :=
  OpenClaim.holds_of_wide 8 Tryz.f8 rfl rfl rfl rfl rfl rfl rfl ⟨rfl, rfl, rfl, rfl, rfl⟩ rfl rfl rfl rfl rfl (by kernel_rfl) Tryz.func8 st_closed
    (of_decide_eq_true (by kernel_rfl)) (by unfold Func.isWrapper; first | (rw [if_pos (by decide +kernel)]; kernel_rfl) | (rw [if_neg (by decide +kernel)]; exact ⟨rfl, rfl⟩))
    (fun os started H enc _ => stells_lifted os started H enc)
theorem seriesTells_holds : Rows.SeriesTellsCardSaid :=
  Claim7.holds_tied_plain_at .later [] [.data] true Rows.seriesTellsCard.stood.harness false stells_row (fun _ h => by cases h) (by kernel_rfl) (fun _ h => by cases h) seriesTells_row_tie rfl ⟨rfl, rfl⟩ st_main rfl
    (fun f fn hf hfn => by
      obtain rfl : f = 8 := Option.some.inj ((show Tryz.prog.funcNamed "yearbook/yearbooklaw24.SeriesTells" = some 8 by kernel_rfl).symm.trans hf) |>.symm
      obtain rfl : fn = Tryz.f8 := (Option.some.inj (Tryz.func8.symm.trans hfn)).symm
      exact ⟨k_looks, fun j t ht => by
        rw [Tryz.params8] at ht
        have hm : t ∈ [26] := by
          have h2 := Array.mem_of_getElem? ht
          simp at h2
          simp [h2]
        exact (show Tryz.prog.wantsStandIn t = false by simpa using List.all_eq_true.1 st_stand t hm)⟩)
    st_goes
#print axioms seriesTells_holds
end Go.Proofs.YtpdhdjlhicceoaaGreatDoor
