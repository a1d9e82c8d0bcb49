/- For every two models and every name that come in: ModelTells returns true; the arguments read as before. No condition. -/
import Derived.Test.YtdeghcgakkhbmaaGreatTe21
set_option linter.unusedSimpArgs false
set_option linter.unusedVariables false
namespace Go.Proofs.YtdeghcgakkhbmaaGreat
open Go.ChangeShapes Go.WideShapes Go.ChangeAt Go.RowKit Go.Deep
section
variable {H : Type} {enc : TypeId × Value → H} {w : World} {base : Nat} {spare : Nat → Bool} {held : Bool}
theorem Tryz.fieldsRaw : fieldsOf Tryz.prog 35 = #[(9, 0), (2, 1), (2, 2), (2, 3), (3, 4), (33, 5)] := by kernel_rfl
set_option maxRecDepth 100000 in
theorem open_raw_trod {fuel : Nat} {cs : List Value} {x : DataW H × List MemPlace} (hf : DataW.trod enc Tryz.prog w base spare held fuel 35 cs = some x) :
    ∃ r p cap, cs = (rawA r p cap).toList ∧ RawCame w r p cap := by
  have hC : Tryz.prog.cellsOf 35 = 6 := by kernel_rfl
  have hV : Tryz.prog.cellsOf 33 = 1 := by kernel_rfl
  have hS : Tryz.prog.cellsOf 9 = 1 := by kernel_rfl
  obtain ⟨hsz, hat⟩ := open_struct Tryz.fieldsRaw (by simp) hf
  rw [hC] at hsz
  match cs, hsz with
  | [c0, c1, c2, c3, c4, c5], _ =>
    obtain ⟨n0, y0, h0⟩ := hat 0 _ _ rfl
    obtain ⟨n1, y1, h1⟩ := hat 1 _ _ rfl
    obtain ⟨n2, y2, h2⟩ := hat 2 _ _ rfl
    obtain ⟨n3, y3, h3⟩ := hat 3 _ _ rfl
    obtain ⟨n4, y4, h4⟩ := hat 4 _ _ rfl
    obtain ⟨n5, y5, h5⟩ := hat 5 _ _ rfl
    rw [hS] at h0
    rw [Tryz.isInt64.2] at h1 h2 h3
    rw [Tryz.isInt.2] at h4
    rw [hV] at h5
    obtain ⟨nm, e0, _⟩ := DataW.trod_string (by kernel_rfl) h0
    obtain ⟨ep, e1, _, _⟩ := DataW.trod_int Tryz.isInt64.1 h1
    obtain ⟨fl, e2, _, _⟩ := DataW.trod_int Tryz.isInt64.1 h2
    obtain ⟨la, e3, _, _⟩ := DataW.trod_int Tryz.isInt64.1 h3
    obtain ⟨sc, e4, _, _⟩ := DataW.trod_int Tryz.isInt.1 h4
    obtain ⟨q, pts, co, e5, s1, s2, s3⟩ := open_pts h5
    simp [Value.cells] at e0 e1 e2 e3 e4 e5
    subst e0; subst e1; subst e2; subst e3; subst e4; subst e5
    exact ⟨⟨nm, ep, fl, la, sc, pts⟩, q, co, rfl, ⟨s3, s1, s2⟩⟩
/-- A row of what is told at times. -/
structure BksIn (w : World) (p : Option Addr) (l : List (Int × Int × Int)) : Prop where
  at' : ∀ (i : Nat) (r : Int × Int × Int), l[i]? = some r → ∃ b o, p = some ⟨b, o, none⟩ ∧ w.cell? ⟨b, o + i * 3, none⟩ = some (.int .i64 r.1) ∧ w.cell? ⟨b, o + i * 3 + 1, none⟩ = some (.int .i64 r.2.1) ∧ w.cell? ⟨b, o + i * 3 + 2, none⟩ = some (.int .i64 r.2.2)
end
end Go.Proofs.YtdeghcgakkhbmaaGreat
namespace Go.Proofs.YtdeghcgakkhbmaaGreat
open Go.ChangeShapes Go.WideShapes Go.ChangeAt Go.RowKit Go.Deep
section
variable {H : Type} {enc : TypeId × Value → H} {w : World} {base : Nat} {spare : Nat → Bool} {held : Bool}
theorem open_raws {fuel : Nat} {cs : List Value} {x : DataW H × List MemPlace} (h : DataW.trod enc Tryz.prog w base spare held fuel 25 cs = some x) :
    ∃ (p : Option Addr) (rows : List RawT) (cap : Nat), cs = [.slice p rows.length cap] ∧ (p = none → rows.length = 0 ∧ cap = 0) ∧ rows.length ≤ cap ∧ RawsCame w p rows ∧ rows.length ≤ 9223372036854775807 := by
  have hC : Tryz.prog.cellsOf 35 = 6 := by kernel_rfl
  rcases open_slice (e := 35) (by kernel_rfl) h with ⟨rfl, rfl⟩ | ⟨a, len, cap, m, k, D, Pl, rfl, hb, hl, hm, hmm, hx, hi⟩
  · exact ⟨none, [], 0, rfl, fun _ => ⟨rfl, rfl⟩, Nat.le_refl _, ⟨fun i r hr => by simp at hr⟩, by simp⟩
  · have hlm : len ≤ m := by rw [hmm]; split <;> omega
    have hs : 0 < len → a = ⟨a.block, a.off, none⟩ := fun h0 => by
      obtain ⟨cs', hc, ht'⟩ := hi 0 (by omega)
      rw [hC] at hc
      obtain ⟨_, hcl, hat⟩ := World.cells?_some hc
      have h1 := hat 0 (by omega)
      rw [List.getElem?_eq_getElem (by omega)] at h1
      simp [Addr.add] at h1
      exact spot_none h1
    obtain ⟨rows, rfl, hq⟩ := list_of (Q := fun i (r : RawT) => ∃ b o p' cap', a = ⟨b, o, none⟩ ∧ (∀ j v, (rawA r p' cap')[j]? = some v → w.cell? ⟨b, o + i * 6 + j, none⟩ = some v) ∧ RawCame w r p' cap') len (fun i hilt => by
      obtain ⟨cs', hc, ht'⟩ := hi i (by omega)
      rw [hC] at hc
      obtain ⟨_, hcl, hat⟩ := World.cells?_some hc
      obtain ⟨r, p', cap', rfl, hcm⟩ := open_raw_trod ht'
      refine ⟨r, a.block, a.off, p', cap', hs (by omega), fun j v hv => ?_, hcm⟩
      have hj : j < 6 := by have := (Array.getElem?_eq_some_iff.1 hv).1; rw [show (rawA r p' cap').size = 6 from rfl] at this; exact this
      have h1 := hat j hj
      rw [add_add, hs (by omega), add_at, Array.getElem?_toList, hv] at h1
      rw [Nat.add_assoc]
      exact h1)
    exact ⟨some a, rows, cap, rfl, (fun e => by cases e), hl, ⟨fun i r hr => by
      obtain ⟨b, o, p', cap', e, h1, h2⟩ := hq i r hr
      exact ⟨b, o, p', cap', by rw [e], h1, h2⟩⟩, by have := hm; simp [maxLen] at *; omega⟩
theorem Tryz.fieldsModel : fieldsOf Tryz.prog 27 = #[(25, 0)] := by kernel_rfl
set_option maxRecDepth 100000 in
theorem open_model {r : Reach} {b0 : Nat} {v : Value} {d : DataW H} {ps : List MemPlace} (hv : Value.okWide Tryz.prog w r b0 27 v) (h : DataW.Trod enc Tryz.prog w base spare held 27 v d ps) :
    ∃ p rows cap, v = .agg #[.slice p rows.length cap] ∧ RawsCame w p rows ∧ rows.length ≤ 9223372036854775807 := by
  have hC : Tryz.prog.cellsOf 27 = 1 := by kernel_rfl
  have hV : Tryz.prog.cellsOf 25 = 1 := by kernel_rfl
  obtain ⟨fs, hfs⟩ : ∃ fs, Tryz.prog.underlying 27 = some (.struct fs) := struct_of Tryz.fieldsModel (by simp)
  obtain ⟨cs, rfl, hsz⟩ := okWide_struct hfs hv
  obtain ⟨fuel, hf⟩ := h
  obtain ⟨hsz, hat⟩ := open_struct Tryz.fieldsModel (by simp) hf
  rw [hC] at hsz
  obtain ⟨n0, y0, h0⟩ := hat 0 _ _ rfl
  rw [hV] at h0
  obtain ⟨p, rows, cap, e, _, _, h1, h2⟩ := open_raws h0
  refine ⟨p, rows, cap, ?_, h1, h2⟩
  congr 1
  rw [← Array.toList_inj]
  have h3 : cs.toList.length = 1 := by simpa [Value.cells] using hsz
  match hcs : cs.toList, h3 with
  | [c0], _ => simp [Value.cells, hcs] at e; rw [e]
end
set_option maxRecDepth 100000 in
theorem tells_lifted (os : Os) (started : os.Started) (H : Type) (enc : TypeId × Value → H) :
    ReturnsInHanded {} Tryz.checked os 7 .any (Rows.modelTellsSpec.pre6 enc Tryz.prog Tryz.f7 Rows.modelTellsRow.domain false) (Rows.modelTellsSpec.post enc Tryz.prog Tryz.f7 false true false false) := by
  refine returnsInHanded_of_change (C := Tryz.checked) Tryz.ownKnob started (by kernel_rfl) Tryz.func7
    (ChangeSpec.witness6 (enc := enc) (C := Tryz.checked) false ⟨#[], #[.agg #[.slice none 0 0], .agg #[.slice none 0 0], .string .empty], []⟩ 8 (by kernel_rfl) (by kernel_rfl) (by kernel_rfl) (by kernel_rfl)) ?_
  intro W base args ds gs before hval0 hW hcnd _
  have hval : ∀ (j : Nat) t v, Tryz.f7.params[j]? = some t → args[j]? = some v → Value.okWide Tryz.prog W .any base t v := hval0
  have hW' := hW
  obtain ⟨p, q, hA0, hV, rfl, hfz, hnd⟩ := hW
  have hA : DataW.TrodAll enc Tryz.prog W 0 (fun _ => true) true Tryz.f7.params.toList args.toList ds p := hA0
  rw [Tryz.params7] at hA hval
  obtain ⟨v0, vs0, d0, ds0, p0, q0, hargs, rfl, rfl, h0, hA⟩ := trodAll_cons hA
  obtain ⟨v1, vs1, d1, ds1, p1, q1, rfl, rfl, rfl, h1, hA⟩ := trodAll_cons hA
  obtain ⟨v2, vs2, d2, ds2, p2, q2, rfl, rfl, rfl, h2, hA⟩ := trodAll_cons hA
  obtain ⟨rfl, rfl, rfl⟩ := trodAll_nil hA
  obtain rfl : args = #[v0, v1, v2] := by rw [← Array.toList_inj, hargs]
  obtain ⟨rfl, rfl⟩ := trodVars_none hV
  obtain ⟨px, X, cx, rfl, hx, hlx⟩ := open_model (hval 0 _ v0 rfl rfl) h0
  obtain ⟨py, Y, cy, rfl, hy, hly⟩ := open_model (hval 1 _ v1 rfl rfl) h1
  obtain ⟨nm, rfl⟩ := okWide_string (by kernel_rfl) (hval 2 _ v2 rfl rfl)
  clear hA0 hval0
  refine (c_modelTells px py cx cy X Y nm W hx hy hlx hly (fun W' _ => wakes28_w W')).mono fun e W' ⟨he, hb⟩ => ?_
  subst he
  exact ⟨_, rfl, law_post Tryz.laidOut (pars_ok (by kernel_rfl)) rfl (by kernel_rfl) rfl hW' hb rfl⟩
theorem modelTells_holds : Rows.ModelTellsSaid :=
  OpenClaim.holds_of_wide 7 Tryz.f7 rfl rfl rfl rfl rfl rfl rfl ⟨rfl, rfl, rfl, rfl, rfl⟩ rfl rfl rfl rfl rfl (by kernel_rfl) Tryz.func7 (by kernel_rfl)
    (of_decide_eq_true (by kernel_rfl)) (by unfold Func.isWrapper; first | (rw [if_pos (by decide +kernel)]; kernel_rfl) | (rw [if_neg (by decide +kernel)]; exact ⟨rfl, rfl⟩))
    (fun os started H enc _ => tells_lifted os started H enc)
#print axioms modelTells_holds
end Go.Proofs.YtdeghcgakkhbmaaGreat
