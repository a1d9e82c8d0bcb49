/- Parts of the proof that follows: The last step of a law, for every law: an argument that came in is opened; behind the call each reads as it did. No condition. | What a world holds in which slide's numbers are laid as the program's text lays them; closed code behind that. No condition. | Calls that read memory and make memory, each known by a run on what it reads: an Orc. No condition. | Calls with plain arguments that the chapter's closed code comes to, each known by a run. No condition. -/
import Derived.Test.YtbanjolokkghdaaGreatDoorRows
import Derived.ProofKit
import Derived.Deep.Slices
import Derived.OpenShut
import Derived.MakeChecks
import Derived.LaidMore
import Derived.Lay
import Derived.Stop.Joined
import Derived.Test.YtbanjolokkghdaaGreatDoorProg
import Derived.Test.YtbanjolokkghdaaGreatDoorWz35
set_option linter.unusedSimpArgs false
set_option linter.unusedVariables false
namespace Go.Proofs.YtbanjolokkghdaaGreatDoor
open Go.ChangeShapes Go.WideShapes Go.ChangeAt Go.RowKit Go.Deep

section
variable {H : Type} {enc : TypeId × Value → H} {P : Program}
theorem trodAll_stays (hl : laidOutB P = true) {W W' : World} (hb : Below W.heap.size W W') {sp : Nat → Bool} : ∀ (ts : List TypeId) (vs : List Value) (ds : List (DataW H)) (ps : List MemPlace), (∀ t, t ∈ ts → P.readableRec t = true ∧ t < P.types.size) →
    DataW.TrodAll enc P W 0 (fun _ => true) true ts vs ds ps → (∀ p ∈ ps, p.block < W.heap.size) → (∀ p ∈ ps, sp p.block = true) → DataW.TrodAll enc P W' 0 sp true ts vs ds ps
  | [], vs, ds, ps, _, h, _, _ => by
    obtain ⟨rfl, rfl, rfl⟩ := trodAll_nil h
    rfl
  | t :: ts, vs, ds, ps, hr, h, hlt, hs => by
    obtain ⟨v, vs', d, ds', p, q, rfl, rfl, rfl, h1, h2⟩ := trodAll_cons h
    exact ⟨p, q, WideElems.Trod_stays hl (hr t (by simp)).1 (hr t (by simp)).2 h1 (fun x hx => hb.same (hlt x (by simp [hx]))) (fun x hx => hs x (by simp [hx])),
      trodAll_stays hl hb ts vs' ds' q (fun u hu => hr u (by simp [hu])) h2 (fun x hx => hlt x (by simp [hx])) (fun x hx => hs x (by simp [hx])), rfl⟩
theorem law_post {f : Func} {s : ChangeSpec} {apart fresh handsOn again : Bool} {W W' : World} {args : Array Value} {ds : List (DataW H)} {before : List MemPlace} {tb : TypeId} (hl : laidOutB P = true)
    (hpar : ∀ t, t ∈ f.params.toList → P.readableRec t = true ∧ t < P.types.size) (hres : f.resultTypes = #[tb]) (htb : P.underlying tb = some .bool) (hv : s.vars = [])
    (hW : DataW.Whole enc P f.params.toList s.vars apart W args.toList ds [] before) (hb : Below W.heap.size W W') (hfn : s.fn H ds = { results := [.lit (.bool true)], args := ds }) :
    s.post enc P f apart fresh handsOn again W args (.bool true) W' := by
  have hlt : ∀ p ∈ before, p.block < W.heap.size := fun p hp => hW.lt p hp
  have hold : ∀ p ∈ before, (fun b => decide (b < W.heap.size)) p.block = true := fun p hp => by simpa using hlt p hp
  have hW' := hW
  obtain ⟨p, q, hA, hV, rfl, hz, hn⟩ := hW
  rw [hv] at hV
  obtain ⟨_, rfl⟩ := trodVars_none hV
  have hR : ∀ (b : Nat) (sp : Nat → Bool) (hd : Bool), DataW.TrodAll enc P W' b sp hd f.resultTypes.toList ((Value.bool true).resultList f.resultTypes.size) (s.fn H (ds ++ [])).results [] := fun b sp hd => by
    rw [hres, List.append_nil, hfn]
    exact trodAll_mk1 (shut_bool htb _)
  have hargs : ∀ sp : Nat → Bool, (∀ x ∈ p ++ [], sp x.block = true) → DataW.TrodAll enc P W' 0 sp true f.params.toList args.toList (s.fn H (ds ++ [])).args p := fun sp hsp => by
    rw [List.append_nil, hfn]
    exact trodAll_stays hl hb _ _ _ _ hpar hA (fun x hx => hlt x (by simp [hx])) (fun x hx => hsp x (by simp [hx]))
  have hvars : ∀ sp : Nat → Bool, (∀ x ∈ p ++ [], sp x.block = true) → DataW.TrodVars enc P W' sp s.vars (s.fn H (ds ++ [])).vars [] := fun sp _ => by
    rw [hv, List.append_nil, hfn]
    rfl
  refine ⟨ds, [], p ++ [], [], p, [], hW', hR _ _ _, hargs _ hold, hvars _ hold, World.keptBut_mono (fun x hx => ⟨hx, ?_⟩) (hb.frame (· ∈ p ++ [])), fun _ => ?_⟩
  · exact Or.inr (by simpa using hx)
  · refine ⟨?_, _, _, ([] ++ p) ++ [], ⟨[] ++ p, [], trodAll_append (hargs _ (fun _ _ => rfl)) (hR _ _ _), hvars _ (fun _ _ => rfl), rfl, ?_, ?_⟩, ?_⟩
    · exact ok_one hres rfl (okWide_bool_mk htb _)
    · intro b off hx
      have hin : MemPlace.cell b off ∈ p ++ [] := by simpa using hx
      rw [hb.frozen (hlt _ hin)]
      exact hz b off hin
    · intro ha
      simpa using hn ha
    · intro x hx _
      simpa using hx
end

/-- The fields of a struct: type and place. -/
def fieldsOf (P : Program) (t : TypeId) : Array (TypeId × Nat) := match P.underlying t with | some (.struct fs) => fs.map fun f => (f.type, f.offset) | _ => #[]
section
variable {H : Type} {enc : TypeId × Value → H} {P : Program} {w : World} {base : Nat} {spare : Nat → Bool} {held : Bool}
theorem open_struct {t : TypeId} {fl : Array (TypeId × Nat)} {fuel : Nat} {cs : List Value} {x : DataW H × List MemPlace} (hf : fieldsOf P t = fl) (hne : fl.size ≠ 0) (h : DataW.trod enc P w base spare held fuel t cs = some x) :
    cs.length = P.cellsOf t ∧ ∀ (i : Nat) (ty : TypeId) (off : Nat), fl[i]? = some (ty, off) → ∃ n y, DataW.trod enc P w base spare held n ty ((cs.drop off).take (P.cellsOf ty)) = some y := by
  unfold fieldsOf at hf
  split at hf
  · rename_i fs hu
    obtain ⟨xs, n, _, _, hl, hxl, hat⟩ := DataW.trod_struct hu h
    refine ⟨hl, fun i ty off hi => ?_⟩
    subst hf
    simp only [Array.getElem?_map, Option.map_eq_some_iff, Prod.mk.injEq] at hi
    obtain ⟨f, h1, h2, h3⟩ := hi
    have hh := hat i f h1
    have hlt : i < xs.length := by have := (Array.getElem?_eq_some_iff.1 h1).1; omega
    rw [List.getElem?_eq_getElem hlt] at hh
    subst h2; subst h3
    exact ⟨n, _, hh⟩
  · subst hf; simp at hne
theorem struct_of {t : TypeId} {fl : Array (TypeId × Nat)} (hf : fieldsOf P t = fl) (hne : fl.size ≠ 0) : ∃ fs, P.underlying t = some (.struct fs) := by
  unfold fieldsOf at hf
  split at hf
  · rename_i fs hu
    exact ⟨fs, hu⟩
  · subst hf; simp at hne
/-- A struct whose fields are all numbers of 64 bits. -/
theorem open_ints_struct {t : TypeId} {fl : Array (TypeId × Nat)} {fuel : Nat} {cs : List Value} {x : DataW H × List MemPlace} (hf : fieldsOf P t = fl) (hne : fl.size ≠ 0) (hn : P.cellsOf t = fl.size)
    (ha : ∀ i, i < fl.size → ∃ ty, fl[i]? = some (ty, i) ∧ P.underlying ty = some (.int .i64) ∧ P.cellsOf ty = 1) (h : DataW.trod enc P w base spare held fuel t cs = some x) :
    cs.length = fl.size ∧ ∀ i, i < fl.size → ∃ z : Int, cs[i]? = some (.int .i64 z) ∧ I64 z := by
  obtain ⟨hl, hat⟩ := open_struct hf hne h
  refine ⟨by omega, fun i hi => ?_⟩
  obtain ⟨ty, h1, h2, h3⟩ := ha i hi
  obtain ⟨n, y, hy⟩ := hat i ty i h1
  obtain ⟨z, hz, _, hw⟩ := DataW.trod_int h2 hy
  refine ⟨z, ?_, ?_⟩
  · rw [h3] at hz
    have : ((cs.drop i).take 1)[0]? = some (.int .i64 z) := by rw [hz]; rfl
    simpa using this
  · simp [Lit.wf, IntKind.min, IntKind.max, IntKind.signed, IntKind.bits] at hw
    exact ⟨by omega, by omega⟩
theorem list_of {α : Type} {Q : Nat → α → Prop} : ∀ n, (∀ i, i < n → ∃ x, Q i x) → ∃ l : List α, l.length = n ∧ ∀ i x, l[i]? = some x → Q i x
  | 0, _ => ⟨[], rfl, fun i x h => by simp at h⟩
  | n + 1, h => by
    obtain ⟨l, hl, hq⟩ := list_of n fun i hi => h i (by omega)
    obtain ⟨x, hx⟩ := h n (by omega)
    refine ⟨l ++ [x], by simp [hl], fun i y hy => ?_⟩
    rcases Nat.lt_or_ge i l.length with hlt | hge
    · rw [List.getElem?_append_left hlt] at hy
      exact hq i y hy
    · rw [List.getElem?_append_right hge] at hy
      have : i = l.length := by
        rcases Nat.eq_or_lt_of_le hge with e | e
        · exact e.symm
        · rw [List.getElem?_eq_none (by simp; omega)] at hy; cases hy
      subst this
      simp at hy
      rw [hl, ← hy]
      exact hx
theorem spot_none {a : Addr} {v : Value} (h : w.cell? a = some v) : a = ⟨a.block, a.off, none⟩ := by
  obtain ⟨b, o, s⟩ := a
  cases s with
  | none => rfl
  | some k =>
    unfold World.cell? at h
    simp at h
    split at h <;> cases h
theorem add_at {b o n : Nat} : (⟨b, o, none⟩ : Addr).add n = ⟨b, o + n, none⟩ := by unfold Addr.add; split <;> simp_all
/-- A slice of structs of n numbers each. -/
theorem open_rows {t e : TypeId} {n fuel : Nat} {fl : Array (TypeId × Nat)} {cs : List Value} {x : DataW H × List MemPlace} (ht : P.underlying t = some (.slice e)) (hf : fieldsOf P e = fl) (hfl : fl.size = n) (hn0 : n ≠ 0) (hn : P.cellsOf e = n)
    (ha : ∀ i, i < fl.size → ∃ ty, fl[i]? = some (ty, i) ∧ P.underlying ty = some (.int .i64) ∧ P.cellsOf ty = 1) (h : DataW.trod enc P w base spare held fuel t cs = some x) :
    ∃ (p : Option Addr) (len cap : Nat), cs = [.slice p len cap] ∧ (p = none → len = 0 ∧ cap = 0) ∧ len ≤ cap ∧ cap ≤ maxLen ∧
      ∀ i, i < len → ∃ b o, p = some ⟨b, o, none⟩ ∧ ∀ j, j < n → ∃ z : Int, w.cell? ⟨b, o + i * n + j, none⟩ = some (.int .i64 z) ∧ I64 z := by
  rcases open_slice ht h with ⟨rfl, rfl⟩ | ⟨a, len, cap, m, k, D, Pl, rfl, hb, hl, hm, hmm, hx, hi⟩
  · exact ⟨none, 0, 0, rfl, fun _ => ⟨rfl, rfl⟩, Nat.le_refl _, Nat.zero_le _, fun i hi => by omega⟩
  · refine ⟨some a, len, cap, rfl, (fun e => by cases e), hl, hm, fun i hilt => ?_⟩
    have hlm : len ≤ m := by rw [hmm]; split <;> omega
    have key : ∀ i, i < len → ∀ j, j < n → ∃ z : Int, w.cell? (a.add (i * n + j)) = some (.int .i64 z) ∧ I64 z := by
      intro i hilt j hj
      obtain ⟨cs', hc, ht'⟩ := hi i (by omega)
      obtain ⟨_, hcl, hat⟩ := World.cells?_some hc
      obtain ⟨hl', hz⟩ := open_ints_struct hf (by omega) (by omega) ha ht'
      obtain ⟨z, hz1, hz2⟩ := hz j (by omega)
      have := hat j (by omega)
      rw [add_add, hn, hz1] at this
      exact ⟨z, this, hz2⟩
    obtain ⟨z0, hz0, _⟩ := key 0 (by omega) 0 (by omega)
    simp [Addr.add] at hz0
    have hs := spot_none hz0
    refine ⟨a.block, a.off, by rw [← hs], fun j hj => ?_⟩
    obtain ⟨z, h1, h2⟩ := key i hilt j hj
    rw [hs, add_at] at h1
    exact ⟨z, by rw [Nat.add_assoc]; exact h1, h2⟩
/-- A slice of numbers. -/
theorem open_nums {t e : TypeId} {fuel : Nat} {cs : List Value} {x : DataW H × List MemPlace} (ht : P.underlying t = some (.slice e)) (he : P.underlying e = some (.int .i64)) (hc : P.cellsOf e = 1) (h : DataW.trod enc P w base spare held fuel t cs = some x) :
    ∃ (p : Option Addr) (l : List Int) (cap : Nat), cs = [.slice p l.length cap] ∧ (p = none → l = [] ∧ cap = 0) ∧ l.length ≤ cap ∧ cap ≤ maxLen ∧ IntsIn w p l ∧ ∀ z, z ∈ l → I64 z := by
  rcases open_ints ht he hc h with ⟨rfl, _⟩ | ⟨a, len, cap, zs, rfl, hb, hl, hm, hzl, _, hz, hw⟩
  · exact ⟨none, [], 0, rfl, fun _ => ⟨rfl, rfl⟩, Nat.le_refl _, Nat.zero_le _, ⟨fun i x h => by simp at h⟩, fun z h => by simp at h⟩
  · have hle : len ≤ zs.length := by rw [hzl]; split <;> omega
    refine ⟨some a, zs.take len, cap, by simp [hle], (fun e => by cases e), by simp; omega, hm, ⟨fun i x hx => ?_⟩, fun z hz' => ?_⟩
    · rw [List.getElem?_take] at hx
      split at hx
      · rename_i hil
        have h0 := hz 0 (by omega)
        simp [Addr.add] at h0
        have hs := spot_none h0
        have hi := hz i (by omega)
        rw [hs, add_at] at hi
        refine ⟨a.block, a.off, by rw [← hs], ?_⟩
        rw [hi, List.getD_eq_getElem?_getD, hx]
        rfl
      · cases hx
    · have := hw z (List.mem_of_mem_take hz')
      simp [Lit.wf, IntKind.min, IntKind.max, IntKind.signed, IntKind.bits] at this
      exact ⟨by omega, by omega⟩
end
section
variable {H : Type} {enc : TypeId × Value → H} {w : World} {base : Nat} {spare : Nat → Bool} {held : Bool}
theorem Tryz.fieldsRun : fieldsOf Tryz.prog 94 = #[(2, 0), (2, 1), (3, 2)] := by kernel_rfl
theorem Tryz.fieldsLine : fieldsOf Tryz.prog 26 = #[(2, 0), (2, 1), (2, 2), (2, 3)] := by kernel_rfl
theorem Tryz.fieldsSeg : fieldsOf Tryz.prog 29 = #[(3, 0), (24, 1), (26, 2), (27, 6), (2, 7)] := by kernel_rfl
theorem Tryz.isInt : Tryz.prog.underlying 3 = some (.int .i64) ∧ Tryz.prog.cellsOf 3 = 1 := ⟨by kernel_rfl, by kernel_rfl⟩
theorem Tryz.isInt64 : Tryz.prog.underlying 2 = some (.int .i64) ∧ Tryz.prog.cellsOf 2 = 1 := ⟨by kernel_rfl, by kernel_rfl⟩
set_option maxRecDepth 100000 in
theorem open_run_list {fuel : Nat} {cs : List Value} {x : DataW H × List MemPlace} (h : DataW.trod enc Tryz.prog w base spare held fuel 24 cs = some x) :
    ∃ (p : Option Addr) (l : List RunT) (cap : Nat), cs = [.slice p l.length cap] ∧ (p = none → l = [] ∧ cap = 0) ∧ l.length ≤ cap ∧ cap ≤ maxLen ∧ RunsIn w p l ∧ ∀ r, r ∈ l → I64 r.f ∧ I64 r.s ∧ I64 r.c := by
  obtain ⟨p, len, cap, rfl, hn, hl, hm, hi⟩ := open_rows (n := 3) (by kernel_rfl) Tryz.fieldsRun rfl (by omega) (by kernel_rfl) (fun i hi => by
    match i, hi with
    | 0, _ => exact ⟨_, rfl, Tryz.isInt64⟩
    | 1, _ => exact ⟨_, rfl, Tryz.isInt64⟩
    | 2, _ => exact ⟨_, rfl, Tryz.isInt⟩) h
  obtain ⟨l, rfl, hq⟩ := list_of (Q := fun i (r : RunT) => (∃ b o, p = some ⟨b, o, none⟩ ∧ w.cell? ⟨b, o + i * 3, none⟩ = some (.int .i64 r.f) ∧ w.cell? ⟨b, o + i * 3 + 1, none⟩ = some (.int .i64 r.s) ∧ w.cell? ⟨b, o + i * 3 + 2, none⟩ = some (.int .i64 r.c)) ∧ I64 r.f ∧ I64 r.s ∧ I64 r.c) len (fun i hilt => by
    obtain ⟨b, o, e, hj⟩ := hi i hilt
    obtain ⟨f, f1, f2⟩ := hj 0 (by omega)
    obtain ⟨s, s1, s2⟩ := hj 1 (by omega)
    obtain ⟨c, c1, c2⟩ := hj 2 (by omega)
    exact ⟨⟨f, s, c⟩, ⟨b, o, e, by simpa using f1, s1, c1⟩, f2, s2, c2⟩)
  refine ⟨p, l, cap, rfl, fun e => ⟨List.length_eq_zero_iff.1 (hn e).1, (hn e).2⟩, hl, hm, ⟨fun i r hr => (hq i r hr).1⟩, fun r hr => ?_⟩
  obtain ⟨i, hi⟩ := List.getElem?_of_mem hr
  exact (hq i r hi).2
end
theorem pars_ok {P : Program} {ts : List TypeId} (h : (ts.all fun t => P.readableRec t && decide (t < P.types.size)) = true) : ∀ t, t ∈ ts → P.readableRec t = true ∧ t < P.types.size := fun t ht => by
  have := List.all_eq_true.1 h t ht
  simpa using this
theorem Tryz.ownKnob : ownKnob Tryz.prog.godebug = none := by kernel_rfl
theorem Tryz.laidOut : laidOutB Tryz.prog = true := by kernel_rfl
end Go.Proofs.YtbanjolokkghdaaGreatDoor
namespace Go.Proofs.YtbanjolokkghdaaGreatDoor
open Go.ChangeShapes Go.WideShapes Go.RowKit
set_option maxRecDepth 100000
abbrev laidL : List (String × DataW Unit) := [("yearbook/slide.all", Rows.laid_yearbook_slide_all)]
def doorV : List Value := [.int .i64 (-4611688217450643456), .int .i64 1, .int .i64 4611688217450643456, .int .i64 1]
theorem trod_two {P : Program} {W : World} {fuel : Nat} {t : TypeId} {t0 t1 : TypeId} {cs : List Value} {a b : Int} {ps : List MemPlace} (hf : fieldsOf P t = #[(t0, 0), (t1, 1)]) (k0 : P.underlying t0 = some (.int .i64) ∧ P.cellsOf t0 = 1) (k1 : P.underlying t1 = some (.int .i64) ∧ P.cellsOf t1 = 1) (hc : P.cellsOf t = 2)
    (h : DataW.trod (fun _ => ()) P W 0 (fun _ => true) false fuel t cs = some ((.agg [.lit (.int .i64 a), .lit (.int .i64 b)] : DataW Unit), ps)) : cs = [.int .i64 a, .int .i64 b] := by
  obtain ⟨fs, hu⟩ := struct_of hf (by simp)
  obtain ⟨xs, n, _, ex, hl, hxl, hat⟩ := DataW.trod_struct hu h
  rw [hc] at hl
  have hfs : fs.map (fun f => (f.type, f.offset)) = #[(t0, 0), (t1, 1)] := by
    unfold fieldsOf at hf
    rw [hu] at hf
    exact hf
  have h0 := congrArg (fun q => q[0]?) hfs
  have h1 := congrArg (fun q => q[1]?) hfs
  simp only [Array.getElem?_map, Option.map_eq_some_iff, List.getElem?_toArray, List.getElem?_cons_zero, List.getElem?_cons_succ, Prod.mk.injEq] at h0 h1
  obtain ⟨f0, e0, e1, e2⟩ := h0
  obtain ⟨f1, g0, g1, g2⟩ := h1
  have a0 := hat 0 f0 e0
  have a1 := hat 1 f1 g0
  rw [e1, e2, k0.2] at a0
  rw [g1, g2, k1.2] at a1
  have ex1 : xs.map (·.1) = [.lit (.int .i64 a), .lit (.int .i64 b)] := (DataW.agg.inj (Prod.mk.inj ex).1).symm
  obtain ⟨x0, x1, rfl⟩ : ∃ x0 x1, xs = [x0, x1] := by
    match xs, ex1 with
    | [x0, x1], _ => exact ⟨x0, x1, rfl⟩
    | [], h => simp at h
    | [_], h => simp at h
    | _ :: _ :: _ :: _, h => simp at h
  simp only [List.map_cons, List.map_nil, List.cons.injEq, and_true] at ex1
  obtain ⟨z0, y0, y1, _⟩ := DataW.trod_int k0.1 a0
  obtain ⟨z1, u0, u1, _⟩ := DataW.trod_int k1.1 a1
  match cs, hl with
  | [c0, c1], _ =>
    simp at y0 u0
    rw [y1, u1] at ex1
    obtain ⟨q0, q1⟩ := ex1
    simp at q0 q1
    rw [y0, u0, q0, q1]
theorem door_cells {W : World} (h : laidMetH Tryz.prog laidL W) : ∃ t, W.heap[0]? = some (.cells ⟨doorV⟩ t (0, 0)) := by
  rw [MakeChecks.laidMetH_plain _ _ _ (by kernel_rfl)] at h
  obtain ⟨ps, ⟨g, t, cs, fuel, p, q, hg, ht, hv, hd, hq, hps⟩, hn, hall⟩ := h
  obtain rfl := Option.some.inj ((show Tryz.prog.globalNamed "yearbook/slide.all" = some 0 by kernel_rfl).symm.trans hg)
  obtain rfl := Option.some.inj ((show (Tryz.prog.globals[0]?).map (·.type) = some 229 by kernel_rfl).symm.trans ht)
  have hA : Tryz.prog.underlying 229 = some (.array 2 96) := by kernel_rfl
  have hcA : Tryz.prog.cellsOf 229 = 4 := by kernel_rfl
  have hcS : Tryz.prog.cellsOf 96 = 2 := by kernel_rfl
  have hI : Tryz.prog.underlying 2 = some (.int .i64) ∧ Tryz.prog.cellsOf 2 = 1 := ⟨by kernel_rfl, by kernel_rfl⟩
  have hfs : fieldsOf Tryz.prog 96 = #[(2, 0), (2, 1)] := by kernel_rfl
  obtain ⟨xs, m, _, ex, hl, hxl, hat⟩ := DataW.trod_array hA hd
  rw [hcA] at hl
  have ex1 : xs.map (·.1) = [.agg [.lit (.int .i64 (-4611688217450643456)), .lit (.int .i64 1)], .agg [.lit (.int .i64 4611688217450643456), .lit (.int .i64 1)]] := (DataW.agg.inj (Prod.mk.inj ex).1).symm
  have hcs : cs.toList = doorV := by
    obtain ⟨x0, x1, rfl⟩ : ∃ x0 x1, xs = [x0, x1] := by
      match xs, hxl with
      | [x0, x1], _ => exact ⟨x0, x1, rfl⟩
    obtain ⟨x0, y0⟩ := x0
    obtain ⟨x1, y1⟩ := x1
    simp only [List.map_cons, List.map_nil, List.cons.injEq, and_true] at ex1
    obtain ⟨rfl, rfl⟩ := ex1
    have a0 := hat 0 (by omega)
    have a1 := hat 1 (by omega)
    rw [hcS] at a0 a1
    have b0 := trod_two hfs hI hI hcS a0
    have b1 := trod_two hfs hI hI hcS a1
    match hq : cs.toList, hl with
    | [c0, c1, c2, c3], _ =>
      rw [hq] at b0 b1
      simp at b0 b1
      obtain ⟨rfl, rfl⟩ := b0
      obtain ⟨rfl, rfl⟩ := b1
      rfl
  have hin : MemPlace.cell 0 0 ∈ ps := by
    rw [hps]
    have : cs.size = 4 := by rw [← Array.length_toList]; exact hl
    rw [this]
    simp [MemPlace.row]
  obtain ⟨⟨c, t', hc⟩, _⟩ := hall 0 0 hin
  refine ⟨t', ?_⟩
  have hv2 : W.var? Tryz.prog "yearbook/slide.all" = some c := by
    unfold World.var?
    rw [hg]
    simp only [Option.bind_some, hc]
  rw [hv] at hv2
  injection hv2 with hv2
  subst hv2
  rw [hc]
  congr 2
  rw [← hcs]
/-- the first state: slide's numbers -/
noncomputable def sDoor (t : TypeId) : St := ⟨Tr.nil.set 24 0 (some (.cells doorV t false)), 3, 3, big, [], 3⟩
def rDoor : Rn := fun k => if k < 3 then some (k, 0) else none
theorem door_get (t : TypeId) (k : Nat) (o : AO) (h : (sDoor t).T.get k = some o) : k = 0 ∧ o = .cells doorV t false := by
  have e : (sDoor t).T.get k = if k = 0 then some (.cells doorV t false) else (Tr.nil : Tr AO).get k := Tr.get_set 24 .nil 0 _ k (by decide)
  rw [e] at h
  split at h
  · rename_i hk
    injection h with h
    exact ⟨hk, h.symm⟩
  · cases h
theorem door_rel {B : Nat} (hB : 3 ≤ B) {w : World} {t : TypeId} (h : w.heap[0]? = some (.cells ⟨doorV⟩ t (0, 0))) : Rel Tryz.prog B rDoor (sDoor t) w := by
  have hget : ∀ k o, (sDoor t).get k = some o → k = 0 ∧ o = .cells doorV t false := fun k o ho => door_get t k o ho
  refine ⟨by show 3 ≤ big; decide, hB, fun k h1 h2 => if_neg (Nat.not_lt.2 h1), fun k o ho => ?_, fun k k' b x x' h1 h2 h3 h4 => ?_, fun k hk => ?_, (fun k hk => by cases hk), fun g hg => if_pos hg, Nat.le_refl _⟩
  · obtain ⟨rfl, rfl⟩ := hget k o ho
    refine ⟨0, 0, _, rfl, h, ⟨doorV⟩, rfl, rfl, fun i v hv => ⟨v, by simpa using hv, ?_⟩⟩
    match i, hv with
    | 0, hv => injection hv with hv; subst hv; exact ⟨.pln rfl, rfl⟩
    | 1, hv => injection hv with hv; subst hv; exact ⟨.pln rfl, rfl⟩
    | 2, hv => injection hv with hv; subst hv; exact ⟨.pln rfl, rfl⟩
    | 3, hv => injection hv with hv; subst hv; exact ⟨.pln rfl, rfl⟩
    | n + 4, hv => cases hv
  · unfold rDoor at h3 h4
    split at h3
    · split at h4
      · injection h3 with h3; injection h4 with h4; injection h3 with h3 _; injection h4 with h4 _
        rw [h3, h4]
      · cases h4
    · cases h3
  · cases e : (sDoor t).T.get k with
    | none => rfl
    | some o => exact absurd (door_get t k o e).1 (by have : 3 ≤ k := hk; omega)
theorem door_inv {w : World} {t : TypeId} (h : w.heap[0]? = some (.cells ⟨doorV⟩ t (0, 0))) : InvS Tryz.prog (.cells doorV t false) rDoor (sDoor t) w w := by
  refine ⟨door_rel (by decide) h, Below.refl _ _, fun k b x hw hg _ => ?_, Tr.get_set 24 .nil 0 _ 0 (by decide), rfl, rfl, Nat.le_refl _⟩
  cases e : (sDoor t).get k with
  | none => exact absurd e hg
  | some o =>
    have hk := (door_get t k o e).1
    subst hk
    rcases hw with h1 | h1
    · have h1 : 3 ≤ 0 := h1
      omega
    · have h1 : 0 = big := h1
      exact absurd h1 (by decide)
end Go.Proofs.YtbanjolokkghdaaGreatDoor
namespace Go.Proofs.YtbanjolokkghdaaGreatDoor
open Go.RowKit
set_option maxRecDepth 100000
/-- A call: the function, the arguments, the next number, what it reads of the memory, its value, what it makes, the next number behind it. -/
structure MCall where
  f : FuncId
  args : List Value
  next : Nat
  mi : Mem
  v : Value
  mo : Mem
  next' : Nat
noncomputable def addM : Mem → Tr AO → Tr AO
  | [], T => T
  | (k, cs, t, op) :: l, T => (addM l T).set 24 k (some (.cells cs t op))
/-- the memory that it reads, and nothing more; what is there may not be written -/
noncomputable def stM (d : AO) (M : Mem) (next : Nat) : St := ⟨(memT M).set 24 0 (some d), next, next, big, [], 3⟩
noncomputable def inB (s : St) : Mem → Bool
  | [] => true
  | (k, cs, t, op) :: l => (Nat.blt k s.next && Nat.blt 0 k) && ((match s.get k with | some (.cells cs' t' op') => eqWs cs' cs && (Nat.beq t' t && decide (op' = op)) | _ => false) && inB s l)
noncomputable def outB (s1 : St) (next : Nat) : Mem → Bool
  | [] => true
  | (k, cs, t, op) :: l => (Nat.ble next k && Nat.blt k s1.next) && ((match s1.T.get k with | some (.cells cs' t' op') => eqWs cs' cs && (Nat.beq t' t && decide (op' = op)) | _ => false) && outB s1 next l)
/-- block 0 holds these cells -/
noncomputable def doorB (dv : List Value) (s : St) : Bool := match s.get 0 with | some (.cells cs _ op) => eqWs cs dv && !op | _ => false
/-- a call is known by a run -/
noncomputable def subB (P : Program) (O : Orc) (dv : List Value) (t : TypeId) (c : MCall) : Bool := match (ev P O 1000000).call c.f c.args (stM (.cells dv t false) c.mi c.next) with
  | some (v, s1) => eqW v c.v && (Nat.beq s1.next c.next' && outB s1 c.next c.mo)
  | none => false
noncomputable def hitB (dv : List Value) (c : MCall) (f : FuncId) (args : List Value) (s : St) : Bool := Nat.beq c.f f && (Nat.beq c.next s.next && (eqWs args c.args && (Nat.beq s.ng 3 && (doorB dv s && inB s c.mi))))
noncomputable def orcM (dv : List Value) (O : Orc) : List MCall → Orc
  | [] => O
  | c :: l => fun f args s => bif hitB dv c f args s then some (c.v, { s with T := addM c.mo s.T, next := c.next' }) else orcM dv O l f args s
section
variable {P : Program} {B : Nat} {r : Rn} {s s1 : St} {w : World}
theorem addM_get : ∀ {M : Mem} {next : Nat} {T : Tr AO}, outB s1 next M = true → s1.next ≤ big → ∀ k, (addM M T).get k = T.get k ∨ (next ≤ k ∧ k < s1.next ∧ (addM M T).get k = s1.T.get k ∧ s1.T.get k ≠ none)
  | [], _, _, _, _, k => .inl rfl
  | (k0, cs, t, op) :: l, next, T, h, hb, k => by
    simp only [outB, Bool.and_eq_true] at h
    obtain ⟨h1, h2, h3⟩ := h
    have hlt := blt_lt h1.2
    have hge : next ≤ k0 := Nat.le_of_ble_eq_true h1.1
    have e : (addM ((k0, cs, t, op) :: l) T).get k = if k = k0 then some (.cells cs t op) else (addM l T).get k := Tr.get_set 24 _ k0 _ k (by unfold big at hb; omega)
    rw [e]
    by_cases hk : k = k0
    · subst hk
      rw [if_pos rfl]
      refine .inr ⟨hge, hlt, ?_⟩
      split at h2
      · rename_i cs' t' op' hq
        simp only [Bool.and_eq_true, decide_eq_true_eq] at h2
        rw [hq, eqWs_eq h2.1, Nat.eq_of_beq_eq_true h2.2.1, h2.2.2]
        exact ⟨rfl, by simp⟩
      · cases h2
    · rw [if_neg hk]
      exact addM_get h3 hb k
theorem inB_get : ∀ {M : Mem}, inB s M = true → s.next ≤ big → ∀ k o, (memT M).get k = some o → s.get k = some o ∧ k < s.next ∧ 0 < k
  | [], _, _, k, o, h => by cases h
  | (k0, cs, t, op) :: l, hm, hb, k, o, h => by
    simp only [inB, Bool.and_eq_true] at hm
    obtain ⟨h1, h2, h3⟩ := hm
    have hlt := blt_lt h1.1
    have hlt0 := blt_lt h1.2
    unfold memT at h
    rw [Tr.get_set 24 _ k0 _ k (by unfold big at hb; omega)] at h
    split at h
    · rename_i e
      subst e
      injection h with h
      split at h2
      · rename_i cs' t' op' hq
        simp only [Bool.and_eq_true, decide_eq_true_eq] at h2
        rw [hq, ← h, eqWs_eq h2.1, Nat.eq_of_beq_eq_true h2.2.1, h2.2.2]
        exact ⟨rfl, hlt, hlt0⟩
      · cases h2
    · exact inB_get h3 hb k o h
theorem door_at {dv : List Value} (h : doorB dv s = true) : ∃ t, s.get 0 = some (.cells dv t false) := by
  unfold doorB at h
  split at h
  · rename_i cs t op hq
    simp only [Bool.and_eq_true, Bool.not_eq_true'] at h
    exact ⟨t, by rw [hq, eqWs_eq h.1, h.2]⟩
  · cases h
theorem stM_rel {d : AO} {M : Mem} (h : Rel P B r s w) (hm : inB s M = true) (hd : s.get 0 = some d) (hng : s.ng = 3) : Rel P B r (stM d M s.next) w := by
  have hT : ∀ k, (stM d M s.next).T.get k = if k = 0 then some d else (memT M).get k := fun k => Tr.get_set 24 (memT M) 0 _ k (by decide)
  have hne0 : 0 < s.next := h.lt (by rw [hd]; simp)
  have hsub : ∀ k o, (stM d M s.next).T.get k = some o → s.get k = some o ∧ k < s.next := fun k o ho => by
    rw [hT k] at ho
    split at ho
    · rename_i e; subst e
      exact ⟨hd.trans ho, hne0⟩
    · have := inB_get hm h.nb k o ho
      exact ⟨this.1, this.2.1⟩
  have hne : ∀ k, (stM d M s.next).get k ≠ none → s.get k ≠ none := fun k hk => by
    cases e : (stM d M s.next).T.get k with
    | none => exact absurd e hk
    | some o => rw [(hsub k o e).1]; simp
  refine ⟨h.nb, h.le, h.dom, fun k o ho => h.obj k o (hsub k o ho).1, fun k k' b x x' h1 h2 h3 h4 => h.inj k k' b x x' (hne k h1) (hne k' h2) h3 h4, fun k hk => ?_, (fun k hk => by cases hk), fun g hg => h.gl g (by rw [hng]; exact hg), ?_⟩
  · cases e : (stM d M s.next).T.get k with
    | none => rfl
    | some o => exact absurd (hsub k o e).2 (Nat.not_lt.2 hk)
  · show 3 ≤ s.next
    have := h.gn; rw [hng] at this; exact this
theorem addM_st_get {M : Mem} {next : Nat} (ho : outB s1 next M = true) (hb : s1.next ≤ big) (hnx : next = s.next) (k : Nat) :
    ((k < s.next → (addM M s.T).get k = s.T.get k) ∧ (s.next ≤ k → s.T.get k = none → (addM M s.T).get k ≠ none → (addM M s.T).get k = s1.T.get k ∧ k < s1.next)) := by
  rcases addM_get (T := s.T) ho hb k with h | ⟨h1, h2, h3, h4⟩
  · exact ⟨fun _ => h, fun _ h0 hn => absurd (h.trans h0) hn⟩
  · exact ⟨fun hk => by omega, fun _ _ _ => ⟨h3, h2⟩⟩
theorem hit_good {c : MCall} {dv : List Value} {t : TypeId} {r' : Rn} {w' : World} (h : Rel P B r s w) (hB : c.next' ≤ B) (hnx : c.next = s.next) (hn1 : s1.next = c.next') (ho : outB s1 c.next c.mo = true)
    (g : Good P B (stM (.cells dv t false) c.mi s.next) s1 r r' w w') (hrM : Rel P B r (stM (.cells dv t false) c.mi s.next) w) : Good P B s { s with T := addM c.mo s.T, next := c.next' } r r' w w' := by
  have hb1 : s1.next ≤ big := g.rel.nb
  have hle : s.next ≤ c.next' := by rw [← hn1]; exact g.mono.next
  have hA := addM_st_get (s := s) ho hb1 hnx
  have hnw : ∀ k, k < s.next → ¬ wrt (stM (.cells dv t false) c.mi s.next) k := fun k hk hw => by
    rcases hw with h1 | h1
    · exact absurd hk (Nat.not_lt.2 h1)
    · have h1 : k = big := h1
      have := h.nb
      omega
  have hup : ∀ k p, r k = some p → r' k = some p := g.up hrM
  have hfr : ∀ b, b < w.heap.size → w'.heap[b]? = w.heap[b]? := fun b hb => g.ext.frame b hb fun k x hk hw _ => absurd hw (hnw k hk)
  have hrr : ∀ k, k < s.next ∨ c.next' ≤ k → r' k = r k := fun k hk => g.ext.rr k (by rw [hn1]; exact hk)
  have hhid : s1.hid = [] := g.mono.hid
  have hnewT : ∀ k, s.next ≤ k → (addM c.mo s.T).get k ≠ none → (addM c.mo s.T).get k = s1.T.get k ∧ k < s1.next := fun k hk hn => (hA k).2 hk (h.up k hk) hn
  have hg1 : ∀ k, s1.get k = s1.T.get k := fun k => by unfold St.get; rw [hhid]; rfl
  have hnew : ∀ k o, s.next ≤ k → ({ s with T := addM c.mo s.T, next := c.next' } : St).get k = some o → s1.get k = some o ∧ k < c.next' := fun k o hk hgk => by
    have hh : hidden s.hid k = false := by
      cases e : hidden s.hid k with
      | false => rfl
      | true => exact absurd (h.hlt k e) (Nat.not_lt.2 hk)
    unfold St.get at hgk
    rw [hh] at hgk
    have hgk : (addM c.mo s.T).get k = some o := hgk
    have := hnewT k hk (by rw [hgk]; simp)
    rw [hg1, ← this.1, ← hn1]
    exact ⟨hgk, this.2⟩
  have hold : ∀ k, k < s.next → ({ s with T := addM c.mo s.T, next := c.next' } : St).get k = s.get k := fun k hk => by
    unfold St.get
    show (bif hidden s.hid k then none else (addM c.mo s.T).get k) = _
    rw [(hA k).1 hk]
  have hblk : ∀ k b x, s.next ≤ k → s1.get k ≠ none → r' k = some (b, x) → w.heap.size ≤ b := fun k b x hk hn hr => by
    rcases g.ext.new k b x hk hn hr with h1 | ⟨k0, x0, h1, h2, _⟩
    · exact h1
    · exact absurd h2 (hnw k0 h1)
  have hlt : ∀ k b x, s.get k ≠ none → r k = some (b, x) → b < w.heap.size := fun k b x hn hr => by
    cases e : s.get k with
    | none => exact absurd e hn
    | some o =>
      obtain ⟨b', x', o', h1, h2, _⟩ := h.obj k o e
      rw [h1] at hr
      injection hr with hr; injection hr with e1 _
      rw [← e1]
      exact (Array.getElem?_eq_some_iff.1 h2).1
  refine ⟨⟨hle, rfl, rfl, rfl, fun k hk _ => (hA k).1 hk, fun k hk h0 => ((hA k).1 hk).trans h0, fun hu k hk => ?_, rfl⟩, ⟨hrr, g.ext.size, g.ext.os, g.ext.tape, g.ext.output, fun b hb _ => hfr b hb, fun k b x hk hn hr => ?_⟩, ⟨by rw [← hn1]; exact hb1, hB, fun k h1 h2 => g.rel.dom k (by rw [hn1]; exact h1) h2, fun k o hk => ?_, fun k k' b x x' h1 h2 h3 h4 => ?_, fun k hk => ?_, fun k hk => Nat.lt_of_lt_of_le (h.hlt k hk) hle, fun gg hg => ?_, Nat.le_trans h.gn hle⟩⟩
  · cases e : (addM c.mo s.T).get k with
    | none => first | exact e | rfl
    | some o =>
      have := hnewT k (Nat.le_trans hle hk) (by rw [e]; simp)
      rw [hn1] at this
      exact absurd this.2 (Nat.not_lt.2 hk)
  · cases e : ({ s with T := addM c.mo s.T, next := c.next' } : St).get k with
    | none => exact absurd e hn
    | some o => exact .inl (hblk k b x hk (by rw [(hnew k o hk e).1]; simp) hr)
  · rcases Nat.lt_or_ge k s.next with hk1 | hk1
    · rw [hold k hk1] at hk
      obtain ⟨b, x, o', h1, h2, h3⟩ := h.obj k o hk
      exact ⟨b, x, o', hup _ _ h1, by rw [hfr b (Array.getElem?_eq_some_iff.1 h2).1]; exact h2, h3.mono hup⟩
    · exact g.rel.obj k o (hnew k o hk1 hk).1
  · have hn1' : ∀ k, s.next ≤ k → ({ s with T := addM c.mo s.T, next := c.next' } : St).get k ≠ none → s1.get k ≠ none := fun k hk hn => by
      cases e : ({ s with T := addM c.mo s.T, next := c.next' } : St).get k with
      | none => exact absurd e hn
      | some o => rw [(hnew k o hk e).1]; simp
    rcases Nat.lt_or_ge k s.next with a1 | a1 <;> rcases Nat.lt_or_ge k' s.next with a2 | a2
    · rw [hold k a1] at h1; rw [hold k' a2] at h2
      rw [hrr k (.inl a1)] at h3; rw [hrr k' (.inl a2)] at h4
      exact h.inj k k' b x x' h1 h2 h3 h4
    · rw [hold k a1] at h1
      rw [hrr k (.inl a1)] at h3
      have b1 := hlt k b x h1 h3
      have b2 := hblk k' b x' a2 (hn1' k' a2 h2) h4
      omega
    · rw [hold k' a2] at h2
      rw [hrr k' (.inl a2)] at h4
      have b1 := hlt k' b x' h2 h4
      have b2 := hblk k b x a1 (hn1' k a1 h1) h3
      omega
    · exact g.rel.inj k k' b x x' (hn1' k a1 h1) (hn1' k' a2 h2) h3 h4
  · cases e : (addM c.mo s.T).get k with
    | none => first | exact e | rfl
    | some o =>
      have hk : c.next' ≤ k := hk
      have := hnewT k (Nat.le_trans hle hk) (by rw [e]; simp)
      rw [hn1] at this
      exact absurd this.2 (Nat.not_lt.2 hk)
  · have hg : gg < s.ng := hg
    exact hup _ _ (h.gl gg hg)
theorem hit_mb {O : Orc} (hO : OrcOk P O) (hfo : P.follows .mixedOrders = true) {dv : List Value} {c : MCall} (hc : ∀ t, subB P O dv t c = true) {f : FuncId} {args : List Value} (hh : hitB dv c f args s = true) : MB s { s with T := addM c.mo s.T, next := c.next' } := by
  unfold hitB at hh
  simp only [Bool.and_eq_true] at hh
  obtain ⟨h1, h2, h3, h4, h5, h6⟩ := hh
  have e2 := Nat.eq_of_beq_eq_true h2
  obtain ⟨t, ht⟩ := door_at h5
  have hs := hc t
  unfold subB at hs
  rw [e2] at hs
  split at hs
  · rename_i v s1 hcall
    simp only [Bool.and_eq_true] at hs
    obtain ⟨k1, k2, k3⟩ := hs
    have q2 := Nat.eq_of_beq_eq_true k2
    obtain ⟨hM, hK⟩ := ev_all (P := P) hO hfo 1000000
    have hmb := hM.call _ _ _ _ _ hcall
    intro hb
    have hm := hmb hb
    have hA := addM_st_get (s := s) k3 hm.2 rfl
    refine ⟨⟨by show s.next ≤ c.next'; rw [← q2]; exact hm.1.next, rfl, rfl, rfl, fun k hk _ => (hA k).1 hk, fun k hk h0 => ((hA k).1 hk).trans h0, fun hu k hk => ?_, rfl⟩, by show c.next' ≤ big; rw [← q2]; exact hm.2⟩
    cases e : (addM c.mo s.T).get k with
    | none => first | exact e | rfl
    | some o =>
      have hk : c.next' ≤ k := hk
      have hle : s.next ≤ c.next' := by rw [← q2]; exact hm.1.next
      have := (hA k).2 (Nat.le_trans hle hk) (hu k (Nat.le_trans hle hk)) (by rw [e]; simp)
      rw [q2] at this
      exact absurd this.2 (Nat.not_lt.2 hk)
  · cases hs
theorem hit_ok {O : Orc} (hO : OrcOk P O) (hfo : P.follows .mixedOrders = true) {dv : List Value} {c : MCall} (hc : ∀ t, subB P O dv t c = true) {f : FuncId} {args args' : List Value} (hh : hitB dv c f args s = true) (hr : Rel P B r s w) (hB : c.next' ≤ B) (ha : LR r args args') :
    Upon P (Res P B s { s with T := addM c.mo s.T, next := c.next' } r w c.v) ((callFunc f args'.toArray).run P w) := by
  unfold hitB at hh
  simp only [Bool.and_eq_true] at hh
  obtain ⟨h1, h2, h3, h4, h5, h6⟩ := hh
  have e1 := Nat.eq_of_beq_eq_true h1
  have e2 := Nat.eq_of_beq_eq_true h2
  have e3 := eqWs_eq h3
  have e4 := Nat.eq_of_beq_eq_true h4
  obtain ⟨t, ht⟩ := door_at h5
  have hs := hc t
  unfold subB at hs
  rw [e1, ← e3, e2] at hs
  split at hs
  · rename_i v s1 hcall
    simp only [Bool.and_eq_true] at hs
    obtain ⟨k1, k2, k3⟩ := hs
    have q1 := eqW_eq k1
    have q2 := Nat.eq_of_beq_eq_true k2
    have hrM := stM_rel (P := P) hr h6 ht e4
    obtain ⟨hM, hK⟩ := ev_all (P := P) hO hfo 1000000
    have hup := hK.call _ _ _ _ _ hcall B r w args' hrM (by rw [q2]; exact hB) ha
    refine hup.mono ?_
    rintro v' w' ⟨r', hv, hg⟩
    exact ⟨r', by rw [← q1]; exact hv, hit_good hr hB e2 q2 (by rw [e2]; exact k3) hg hrM⟩
  · cases hs
theorem orc_mem {O : Orc} (hO : OrcOk P O) (hfo : P.follows .mixedOrders = true) {dv : List Value} : ∀ {l : List MCall}, (∀ c ∈ l, ∃ O', OrcOk P O' ∧ ∀ t, subB P O' dv t c = true) → OrcOk P (orcM dv O l)
  | [], _ => hO
  | c :: l, h => by
    obtain ⟨O', hO', hc⟩ := h c (List.mem_cons_self ..)
    have ih := orc_mem hO hfo (dv := dv) (l := l) fun c' hc' => h c' (List.mem_cons_of_mem _ hc')
    refine ⟨fun f args s v s' hh => ?_, fun f args s v s' hh B r w args' hr hB ha => ?_⟩
    · unfold orcM at hh
      rcases bif_or hh with ⟨hq, hh⟩ | ⟨_, hh⟩
      · injection hh with hh; injection hh with _ e2
        rw [← e2]
        exact hit_mb hO' hfo hc hq
      · exact ih.mb _ _ _ _ _ hh
    · unfold orcM at hh
      rcases bif_or hh with ⟨hq, hh⟩ | ⟨_, hh⟩
      · injection hh with hh; injection hh with e1 e2
        subst e1; subst e2
        exact hit_ok hO' hfo hc hq hr hB ha
      · exact ih.ok _ _ _ _ _ hh B r w args' hr hB ha
end
end Go.Proofs.YtbanjolokkghdaaGreatDoor
namespace Go.Proofs.YtbanjolokkghdaaGreatDoor
open Go.RowKit
set_option maxRecDepth 1000000
def tw0 : List (List Value × Value) := [([.agg #[.int .i64 0, .int .i64 0]], .tuple #[.int .i64 0, .int .i64 0]),
  ([.agg #[.int .i64 1, .int .i64 1]], .tuple #[.int .i64 1, .int .i64 0]),
  ([.agg #[.int .i64 2, .int .i64 2]], .tuple #[.int .i64 2, .int .i64 0]),
  ([.agg #[.int .i64 3, .int .i64 3]], .tuple #[.int .i64 3, .int .i64 0])]
theorem tw0_ok : runL Tryz.prog 205 tw0 = true := by kernel_rfl
def tw1 : List (List Value × Value) := [([.agg #[.int .i64 0, .int .i64 0, .int .i64 0, .int .i64 1]], .int .i64 1),
  ([.agg #[.int .i64 1, .int .i64 0, .int .i64 0, .int .i64 1]], .int .i64 1),
  ([.agg #[.int .i64 2, .int .i64 0, .int .i64 0, .int .i64 1]], .int .i64 1),
  ([.agg #[.int .i64 3, .int .i64 0, .int .i64 0, .int .i64 1]], .int .i64 1),
  ([.agg #[.int .i64 0, .int .i64 0, .int .i64 1, .int .i64 1]], .int .i64 2)]
theorem tw1_ok : runL Tryz.prog 168 tw1 = true := by kernel_rfl
def tw2 : List (List Value × Value) := [([.agg #[.int .i64 0, .int .i64 0, .int .i64 0, .int .i64 1], .int .i64 0, .int .i64 0], .tuple #[.agg #[.int .i64 0, .int .i64 0], .int .i64 0]),
  ([.agg #[.int .i64 1, .int .i64 0, .int .i64 0, .int .i64 1], .int .i64 0, .int .i64 0], .tuple #[.agg #[.int .i64 1, .int .i64 1], .int .i64 0]),
  ([.agg #[.int .i64 2, .int .i64 0, .int .i64 0, .int .i64 1], .int .i64 0, .int .i64 0], .tuple #[.agg #[.int .i64 2, .int .i64 2], .int .i64 0]),
  ([.agg #[.int .i64 3, .int .i64 0, .int .i64 0, .int .i64 1], .int .i64 0, .int .i64 0], .tuple #[.agg #[.int .i64 3, .int .i64 3], .int .i64 0]),
  ([.agg #[.int .i64 0, .int .i64 0, .int .i64 1, .int .i64 1], .int .i64 0, .int .i64 3], .tuple #[.agg #[.int .i64 0, .int .i64 3], .int .i64 0])]
theorem tw2_ok : runL Tryz.prog 190 tw2 = true := by kernel_rfl
def tw3 : List (List Value × Value) := [([.agg #[.int .i64 0, .int .i64 0, .int .i64 0, .int .i64 1], .int .i64 0], .tuple #[.int .i64 0, .int .i64 0]),
  ([.agg #[.int .i64 1, .int .i64 0, .int .i64 0, .int .i64 1], .int .i64 0], .tuple #[.int .i64 1, .int .i64 0]),
  ([.agg #[.int .i64 2, .int .i64 0, .int .i64 0, .int .i64 1], .int .i64 0], .tuple #[.int .i64 2, .int .i64 0]),
  ([.agg #[.int .i64 3, .int .i64 0, .int .i64 0, .int .i64 1], .int .i64 0], .tuple #[.int .i64 3, .int .i64 0]),
  ([.agg #[.int .i64 0, .int .i64 0, .int .i64 1, .int .i64 1], .int .i64 0], .tuple #[.int .i64 0, .int .i64 0]),
  ([.agg #[.int .i64 0, .int .i64 0, .int .i64 1, .int .i64 1], .int .i64 1], .tuple #[.int .i64 1, .int .i64 0]),
  ([.agg #[.int .i64 0, .int .i64 0, .int .i64 1, .int .i64 1], .int .i64 2], .tuple #[.int .i64 2, .int .i64 0]),
  ([.agg #[.int .i64 0, .int .i64 0, .int .i64 1, .int .i64 1], .int .i64 3], .tuple #[.int .i64 3, .int .i64 0])]
theorem tw3_ok : runL Tryz.prog 200 tw3 = true := by kernel_rfl
def tw4 : List (List Value × Value) := [([.agg #[.int .i64 0, .int .i64 0, .int .i64 0]], .agg #[.int .i64 0, .int .i64 0])]
theorem tw4_ok : runL Tryz.prog 265 tw4 = true := by kernel_rfl
def tw5 : List (List Value × Value) := [([.agg #[.int .i64 1, .int .i64 1]], .tuple #[.agg #[.int .i64 1, .int .i64 1], .int .i64 0]),
  ([.agg #[.int .i64 2, .int .i64 2]], .tuple #[.agg #[.int .i64 1, .int .i64 1], .int .i64 0]),
  ([.agg #[.int .i64 3, .int .i64 3]], .tuple #[.agg #[.int .i64 1, .int .i64 1], .int .i64 0])]
theorem tw5_ok : runL Tryz.prog 274 tw5 = true := by kernel_rfl
def tw6 : List (List Value × Value) := [([.agg #[.int .i64 1, .int .i64 1], .agg #[.int .i64 0, .int .i64 0]], .tuple #[.int .i64 0, .bool false]),
  ([.agg #[.int .i64 1, .int .i64 1], .agg #[.int .i64 1, .int .i64 1]], .tuple #[.int .i64 0, .bool true])]
theorem tw6_ok : runL Tryz.prog 213 tw6 = true := by kernel_rfl
def tw7 : List (List Value × Value) := [([.agg #[.int .i64 1, .int .i64 1], .agg #[.int .i64 1, .int .i64 1]], .tuple #[.agg #[.int .i64 1, .int .i64 1], .int .i64 0])]
theorem tw7_ok : runL Tryz.prog 162 tw7 = true := by kernel_rfl
def tw8 : List (List Value × Value) := [([.int .i64 0, .agg #[.int .i64 1, .int .i64 1]], .tuple #[.agg #[.int .i64 0, .int .i64 0, .int .i64 1, .int .i64 1], .int .i64 0])]
theorem tw8_ok : runL Tryz.prog 209 tw8 = true := by kernel_rfl
def tw9 : List (List Value × Value) := [([.agg #[.int .i64 4611688217450643456, .int .i64 1], .agg #[.int .i64 (-4611688217450643456), .int .i64 1]], .bool false),
  ([.agg #[.int .i64 (-4611688217450643456), .int .i64 1], .agg #[.int .i64 1, .int .i64 1]], .bool true),
  ([.agg #[.int .i64 1, .int .i64 1], .agg #[.int .i64 4611688217450643456, .int .i64 1]], .bool true),
  ([.agg #[.int .i64 1, .int .i64 1], .agg #[.int .i64 1, .int .i64 1]], .bool false),
  ([.agg #[.int .i64 1, .int .i64 1], .agg #[.int .i64 2, .int .i64 2]], .bool false),
  ([.agg #[.int .i64 2, .int .i64 2], .agg #[.int .i64 1, .int .i64 1]], .bool false),
  ([.agg #[.int .i64 1, .int .i64 1], .agg #[.int .i64 3, .int .i64 3]], .bool false),
  ([.agg #[.int .i64 3, .int .i64 3], .agg #[.int .i64 1, .int .i64 1]], .bool false)]
theorem tw9_ok : runL Tryz.prog 249 tw9 = true := by kernel_rfl
def tw10 : List (List Value × Value) := [([.int .i64 0, .int .i64 1], .agg #[.int .i64 0, .int .u64 0]),
  ([.int .i64 1, .int .i64 0], .agg #[.int .i64 0, .int .u64 0]),
  ([.int .i64 1, .int .i64 1], .agg #[.int .i64 0, .int .u64 1]),
  ([.int .i64 2, .int .i64 1], .agg #[.int .i64 0, .int .u64 2]),
  ([.int .i64 1, .int .i64 2], .agg #[.int .i64 0, .int .u64 2]),
  ([.int .i64 3, .int .i64 1], .agg #[.int .i64 0, .int .u64 3]),
  ([.int .i64 1, .int .i64 3], .agg #[.int .i64 0, .int .u64 3])]
theorem tw10_ok : runL Tryz.prog 220 tw10 = true := by kernel_rfl
def tw11 : List (List Value × Value) := [([.agg #[.int .i64 0, .int .u64 0], .agg #[.int .i64 0, .int .u64 0]], .tuple #[.agg #[.int .i64 0, .int .u64 0], .int .i64 0]),
  ([.agg #[.int .i64 0, .int .u64 1], .agg #[.int .i64 0, .int .u64 1]], .tuple #[.agg #[.int .i64 0, .int .u64 0], .int .i64 0]),
  ([.agg #[.int .i64 0, .int .u64 2], .agg #[.int .i64 0, .int .u64 2]], .tuple #[.agg #[.int .i64 0, .int .u64 0], .int .i64 0]),
  ([.agg #[.int .i64 0, .int .u64 3], .agg #[.int .i64 0, .int .u64 3]], .tuple #[.agg #[.int .i64 0, .int .u64 0], .int .i64 0])]
theorem tw11_ok : runL Tryz.prog 219 tw11 = true := by kernel_rfl
def tw12 : List (List Value × Value) := [([.agg #[.int .i64 0, .int .u64 0], .agg #[.int .i64 1, .int .i64 1]], .tuple #[.agg #[.int .i64 0, .int .i64 0, .int .i64 1, .int .i64 1], .int .i64 0])]
theorem tw12_ok : runL Tryz.prog 163 tw12 = true := by kernel_rfl
def tw : List (Nat × List (List Value × Value)) := [(205, tw0), (168, tw1), (190, tw2), (200, tw3), (265, tw4), (274, tw5), (213, tw6), (162, tw7), (209, tw8), (249, tw9), (220, tw10), (219, tw11), (163, tw12)]
theorem tw_ok : ∀ q ∈ tw, runL Tryz.prog q.1 q.2 = true := by
  intro q hq
  simp only [tw, List.mem_cons, List.not_mem_nil, or_false] at hq
  rcases hq with rfl | rfl | rfl | rfl | rfl | rfl | rfl | rfl | rfl | rfl | rfl | rfl | rfl
  · exact tw0_ok
  · exact tw1_ok
  · exact tw2_ok
  · exact tw3_ok
  · exact tw4_ok
  · exact tw5_ok
  · exact tw6_ok
  · exact tw7_ok
  · exact tw8_ok
  · exact tw9_ok
  · exact tw10_ok
  · exact tw11_ok
  · exact tw12_ok
end Go.Proofs.YtbanjolokkghdaaGreatDoor
