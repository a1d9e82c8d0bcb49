/- For every segment and all points that come in, whatever is in them: SegFar returns true; the arguments read as before. No condition. -/
import Derived.Test.YtgblmlefmohgnaaGreatFar15
set_option linter.unusedSimpArgs false
set_option linter.unusedVariables false
namespace Go.Proofs.YtgblmlefmohgnaaGreat
open Go.ChangeShapes Go.WideShapes Go.ChangeAt Go.RowKit
theorem PtsIn.takeF {w : World} {p : Option Addr} {l : List (Int × Int)} (h : PtsIn w p l) (k : Nat) : PtsIn w p (l.take k) := ⟨fun i r hr => h.at' i r (by
  rw [List.getElem?_take] at hr
  split at hr
  · exact hr
  · cases hr)⟩
theorem OwnR.ptsF {w : World} {B n : Nat} {t : TypeId} {v : Value} {l : List (Int × Int)} (h : OwnR w B t 2 v n (flatPts l)) (hn : 0 < n) : ∃ g cp, v = .slice (some ⟨g, 0, none⟩) n cp ∧ PtsIn w (some ⟨g, 0, none⟩) l := by
  rcases h.own.2 with ⟨_, h0⟩ | ⟨g, cap, cur, rfl, _, hb, _, _, _, ht⟩
  · omega
  · exact ⟨g, cap, rfl, pts_in hb ht⟩
theorem Came.callsF {w w' : World} {s : SegT} {p q : Option Addr} {cap vc : Nat} (h : Came w s p q cap vc) (hb : Below w.heap.size w w') : Came w' s p q cap vc := ⟨h.runs.below hb, h.raw.below hb, h.nilR, h.nilV, h.capR, h.capV, h.maxR, h.maxV⟩
theorem c_refPointsF (s : SegT) (p q : Option Addr) (cap vc : Nat) (w : World) (h : SegIn w s p q) (hs : segB s = true) :
    Calls Tryz.prog 14 #[.agg (segA s p q cap vc)] w fun e w' => ∃ g cp, e = .returned (.tuple #[.slice (some ⟨g, 0, none⟩) (ptsL s).length cp, .bool true]) ∧ Below w.heap.size w w' ∧ PtsIn w' (some ⟨g, 0, none⟩) (ptsL s) := by
  refine (c_refPoints s p q cap vc w h hs).mono ?_
  rintro e w' ⟨v, rfl, hv, hB⟩
  have hn := length_pts hs
  have hc := cnt_pos (segB_runs hs)
  obtain ⟨g, cp, rfl, hp⟩ := hv.ptsF (by omega)
  exact ⟨g, cp, rfl, hB, hp⟩
/-- What the document answers of a segment and points. -/
def refFarO (S : SegT) (L : List (Int × Int)) : Int × Bool := if L.length = (ptsL S).length then (refFarV (ptsL S) L, ((ptsL S).zip L).all okZ) else (0, false)
theorem c_refFar (S : SegT) (L : List (Int × Int)) (hs : segB S = true) (W : World) (p q : Option Addr) (cap vc : Nat) (p9 : Option Addr) (cap9 : Nat) (h1 : SegIn W S p q) (hP : PtsIn W p9 L) (hL : L.length ≤ 300) :
    Calls Tryz.prog 30 #[.agg (segA S p q cap vc), .slice p9 L.length cap9] W fun e w' => e = .returned (.tuple #[.int .i64 (refFarO S L).1, .bool (refFarO S L).2]) ∧ Below W.heap.size W w' := by
  have c1 := fun W' (hW' : Below W.heap.size W W') => c_refPointsF S p q cap vc W' (h1.below hW') hs
  have hn := length_pts hs
  have hc := cnt_pos (segB_runs hs)
  by_cases he : L.length = (ptsL S).length
  · have e1 : refFarO S L = (refFarV (ptsL S) L, ((ptsL S).zip L).all okZ) := by unfold refFarO; rw [if_pos he]
    rw [e1]
    obtain ⟨x, hx⟩ : ∃ x, L[0]? = some x := ⟨L[0]'(by omega), List.getElem?_eq_getElem (by omega)⟩
    obtain ⟨b, o, rfl, -, -⟩ := hP.at' 0 x hx
    rw [← he] at c1
    exact reffar_w _ _ _ _ _ _ p q _ cap _ vc W (ptsL S) L b o cap9 he.symm (by omega) (fun x hx => vals_back hs (by rw [← map_pts hs]; exact List.mem_map_of_mem hx)) hP c1
  · have e1 : refFarO S L = (0, false) := by unfold refFarO; rw [if_neg he]
    rw [e1]
    exact reffar_len _ _ _ _ _ _ p q _ cap _ vc W (ptsL S) p9 L.length cap9 (fun h => he h.symm) c1
theorem farCase (S : SegT) (L : List (Int × Int)) :
    (segB S = false ∧ farV S L = (0, 210) ∧ holdsB S L = false) ∨
    (segB S = true ∧ farV S L = (0, 2) ∧ holdsB S L = false ∧ refFarO S L = (0, false)) ∨
    (segB S = true ∧ L.length = (ptsL S).length ∧ farV S L = (farOf ((ptsL S).zip L), 0) ∧ holdsB S L = decide (farOf ((ptsL S).zip L) ≤ S.E) ∧ refFarO S L = (farOf ((ptsL S).zip L), true)) := by
  cases hs : segB S with
  | false =>
    have hf : farV S L = (0, 210) := by unfold farV; rw [hs]; rfl
    exact .inl ⟨rfl, hf, by unfold holdsB; rw [hf]; rfl⟩
  | true =>
    have hf : farV S L = farR S L := by unfold farV; rw [hs]; rfl
    refine .inr ?_
    by_cases he : L.length = (ptsL S).length
    · cases ha : ((ptsL S).zip L).all okZ with
      | false =>
        have h2 : farV S L = (0, 2) := by rw [hf]; unfold farR; rw [if_pos he, ha]; rfl
        refine .inl ⟨rfl, h2, by unfold holdsB; rw [h2]; rfl, ?_⟩
        unfold refFarO refFarV
        rw [if_pos he, ha]; rfl
      | true =>
        have h2 : farV S L = (farOf ((ptsL S).zip L), 0) := by rw [hf]; unfold farR; rw [if_pos he, ha]; rfl
        refine .inr ⟨rfl, he, h2, by unfold holdsB; rw [h2]; rfl, ?_⟩
        unfold refFarO refFarV
        rw [if_pos he, ha]; rfl
    · have h2 : farV S L = (0, 2) := by rw [hf]; unfold farR; rw [if_neg he]
      refine .inl ⟨rfl, h2, by unfold holdsB; rw [h2]; rfl, ?_⟩
      unfold refFarO
      rw [if_neg he]
theorem c_farNil (s : SegT) (p q : Option Addr) (cap vc : Nat) (w : World) (h : Came w s p q cap vc) :
    Calls Tryz.prog 7 #[.agg (segA s p q cap vc), .slice none 0 0] w fun e w' => e = .returned (.bool true) ∧ Below w.heap.size w w' := by
  have c1 := fun W (_ : Below w.heap.size w W) => c_wakes W
  have c2 := fun W (hW : Below w.heap.size w W) => c_own s p q cap vc W (h.callsF hW)
  have hv : ∀ x, x ∈ ([] : List (Int × Int)) → I64 x.2 := fun x hx => by cases hx
  have hlen : ([] : List (Int × Int)).length ≤ 9223372036854775807 := by simp
  have hn : ([] : List (Int × Int)).length ≤ 300 := by simp
  rcases farCase (ownS s) [] with ⟨hs, hf, hh⟩ | ⟨hs, hf, hh, hr⟩ | ⟨hs, he, hf, hh, hr⟩
  · exact far_nil_no _ _ _ _ _ _ p q _ cap _ vc w _ _ (ownS s) c1 c2 (fun W p' q' cap' vc' p9 cap9 h1 _ hP => by have := c_Far (ownS s) p' q' cap' vc' p9 cap9 [] W h1 hP hv hlen; rw [hf] at this; exact this)
        (fun W p' q' cap' vc' p9 cap9 h1 _ hP => by have := c_Holds (ownS s) p' q' cap' vc' p9 cap9 [] W h1 hP hv hlen; rw [hh] at this; exact this)
        (fun W p' q' cap' vc' h1 _ => by have := c_refRight (ownS s) p' q' cap' vc' W h1; rw [hs] at this; exact this)
  · exact far_nil_bad _ _ _ _ _ _ p q _ cap _ vc w _ _ (ownS s) c1 c2 (fun W p' q' cap' vc' p9 cap9 h1 _ hP => by have := c_Far (ownS s) p' q' cap' vc' p9 cap9 [] W h1 hP hv hlen; rw [hf] at this; exact this)
        (fun W p' q' cap' vc' p9 cap9 h1 _ hP => by have := c_Holds (ownS s) p' q' cap' vc' p9 cap9 [] W h1 hP hv hlen; rw [hh] at this; exact this)
        (fun W p' q' cap' vc' h1 _ => by have := c_refRight (ownS s) p' q' cap' vc' W h1; rw [hs] at this; exact this) (fun W p' q' cap' vc' p9 cap9 h1 _ hP => by have := c_refFar (ownS s) [] hs W p' q' cap' vc' p9 cap9 h1 hP hn; rw [hr] at this; exact this)
  · exact absurd he (by have := segB_runs hs; have := cnt_pos this; have := length_pts hs; simp; omega)
theorem c_farShort (s : SegT) (p q : Option Addr) (cap vc : Nat) (w : World) (h : Came w s p q cap vc) (l : List (Int × Int)) (pa : Addr) (cl : Nat) (hl0 : l.length ≤ 300) (hl1 : l.length ≤ cl) (hl : PtsIn w (some pa) l) (hv : ∀ x, x ∈ l → I64 x.2) :
    Calls Tryz.prog 7 #[.agg (segA s p q cap vc), .slice (some pa) l.length cl] w fun e w' => e = .returned (.bool true) ∧ Below w.heap.size w w' := by
  have c1 := fun W (_ : Below w.heap.size w W) => c_wakes W
  have c2 := fun W (hW : Below w.heap.size w W) => c_own s p q cap vc W (h.callsF hW)
  have hlen : l.length ≤ 9223372036854775807 := by omega
  have hn := hl0
  rcases farCase (ownS s) l with ⟨hs, hf, hh⟩ | ⟨hs, hf, hh, hr⟩ | ⟨hs, he, hf, hh, hr⟩
  · exact far_short_no _ _ _ _ _ _ p q _ cap _ vc w _ _ (ownS s) l pa cl hl0 hl1 hl c1 c2 (fun W p' q' cap' vc' p9 cap9 h1 _ hP => by have := c_Far (ownS s) p' q' cap' vc' p9 cap9 l W h1 hP hv hlen; rw [hf] at this; exact this)
        (fun W p' q' cap' vc' p9 cap9 h1 _ hP => by have := c_Holds (ownS s) p' q' cap' vc' p9 cap9 l W h1 hP hv hlen; rw [hh] at this; exact this)
        (fun W p' q' cap' vc' h1 _ => by have := c_refRight (ownS s) p' q' cap' vc' W h1; rw [hs] at this; exact this)
  · exact far_short_bad _ _ _ _ _ _ p q _ cap _ vc w _ _ (ownS s) l pa cl hl0 hl1 hl c1 c2 (fun W p' q' cap' vc' p9 cap9 h1 _ hP => by have := c_Far (ownS s) p' q' cap' vc' p9 cap9 l W h1 hP hv hlen; rw [hf] at this; exact this)
        (fun W p' q' cap' vc' p9 cap9 h1 _ hP => by have := c_Holds (ownS s) p' q' cap' vc' p9 cap9 l W h1 hP hv hlen; rw [hh] at this; exact this)
        (fun W p' q' cap' vc' h1 _ => by have := c_refRight (ownS s) p' q' cap' vc' W h1; rw [hs] at this; exact this) (fun W p' q' cap' vc' p9 cap9 h1 _ hP => by have := c_refFar (ownS s) l hs W p' q' cap' vc' p9 cap9 h1 hP hn; rw [hr] at this; exact this)
  · exact far_short_ok _ _ _ _ _ _ p q _ cap _ vc w _ _ (ownS s) (farOf ((ptsL (ownS s)).zip l)) l pa cl hl0 hl1 hl c1 c2 (fun W p' q' cap' vc' p9 cap9 h1 _ hP => by have := c_Far (ownS s) p' q' cap' vc' p9 cap9 l W h1 hP hv hlen; rw [hf] at this; exact this)
        (fun W p' q' cap' vc' p9 cap9 h1 _ hP => by have := c_Holds (ownS s) p' q' cap' vc' p9 cap9 l W h1 hP hv hlen; rw [hh] at this; exact this)
        (fun W p' q' cap' vc' h1 _ => by have := c_refRight (ownS s) p' q' cap' vc' W h1; rw [hs] at this; exact this) (fun W p' q' cap' vc' p9 cap9 h1 _ hP => by have := c_refFar (ownS s) l hs W p' q' cap' vc' p9 cap9 h1 hP hn; rw [hr] at this; exact this)
theorem c_farLong (s : SegT) (p q : Option Addr) (cap vc : Nat) (w : World) (h : Came w s p q cap vc) (l : List (Int × Int)) (pa : Addr) (cl : Nat) (hl0 : 300 < l.length) (hl1 : l.length ≤ cl) (hl2 : l.length ≤ 9223372036854775807) (hl : PtsIn w (some pa) l) (hv0 : ∀ x, x ∈ l → I64 x.2) :
    Calls Tryz.prog 7 #[.agg (segA s p q cap vc), .slice (some pa) l.length cl] w fun e w' => e = .returned (.bool true) ∧ Below w.heap.size w w' := by
  have c1 := fun W (_ : Below w.heap.size w W) => c_wakes W
  have c2 := fun W (hW : Below w.heap.size w W) => c_own s p q cap vc W (h.callsF hW)
  have h9 : (l.take 300).length = 300 := by rw [List.length_take]; omega
  have hv : ∀ x, x ∈ l.take 300 → I64 x.2 := fun x hx => hv0 x (List.mem_of_mem_take hx)
  have hlen : (l.take 300).length ≤ 9223372036854775807 := by omega
  have hn : (l.take 300).length ≤ 300 := by omega
  rcases farCase (ownS s) (l.take 300) with ⟨hs, hf, hh⟩ | ⟨hs, hf, hh, hr⟩ | ⟨hs, he, hf, hh, hr⟩
  · exact far_long_no _ _ _ _ _ _ p q _ cap _ vc w _ _ (ownS s) l (l.take 300) pa cl hl0 hl1 hl2 (hl.takeF 300) h9 c1 c2 (fun W p' q' cap' vc' p9 cap9 h1 _ hP => by have := c_Far (ownS s) p' q' cap' vc' p9 cap9 (l.take 300) W h1 hP hv hlen; rw [hf] at this; exact this)
        (fun W p' q' cap' vc' p9 cap9 h1 _ hP => by have := c_Holds (ownS s) p' q' cap' vc' p9 cap9 (l.take 300) W h1 hP hv hlen; rw [hh] at this; exact this)
        (fun W p' q' cap' vc' h1 _ => by have := c_refRight (ownS s) p' q' cap' vc' W h1; rw [hs] at this; exact this)
  · exact far_long_bad _ _ _ _ _ _ p q _ cap _ vc w _ _ (ownS s) l (l.take 300) pa cl hl0 hl1 hl2 (hl.takeF 300) h9 c1 c2 (fun W p' q' cap' vc' p9 cap9 h1 _ hP => by have := c_Far (ownS s) p' q' cap' vc' p9 cap9 (l.take 300) W h1 hP hv hlen; rw [hf] at this; exact this)
        (fun W p' q' cap' vc' p9 cap9 h1 _ hP => by have := c_Holds (ownS s) p' q' cap' vc' p9 cap9 (l.take 300) W h1 hP hv hlen; rw [hh] at this; exact this)
        (fun W p' q' cap' vc' h1 _ => by have := c_refRight (ownS s) p' q' cap' vc' W h1; rw [hs] at this; exact this) (fun W p' q' cap' vc' p9 cap9 h1 _ hP => by have := c_refFar (ownS s) (l.take 300) hs W p' q' cap' vc' p9 cap9 h1 hP hn; rw [hr] at this; exact this)
  · exact far_long_ok _ _ _ _ _ _ p q _ cap _ vc w _ _ (ownS s) (farOf ((ptsL (ownS s)).zip (l.take 300))) l (l.take 300) pa cl hl0 hl1 hl2 (hl.takeF 300) h9 c1 c2 (fun W p' q' cap' vc' p9 cap9 h1 _ hP => by have := c_Far (ownS s) p' q' cap' vc' p9 cap9 (l.take 300) W h1 hP hv hlen; rw [hf] at this; exact this)
        (fun W p' q' cap' vc' p9 cap9 h1 _ hP => by have := c_Holds (ownS s) p' q' cap' vc' p9 cap9 (l.take 300) W h1 hP hv hlen; rw [hh] at this; exact this)
        (fun W p' q' cap' vc' h1 _ => by have := c_refRight (ownS s) p' q' cap' vc' W h1; rw [hs] at this; exact this) (fun W p' q' cap' vc' p9 cap9 h1 _ hP => by have := c_refFar (ownS s) (l.take 300) hs W p' q' cap' vc' p9 cap9 h1 hP hn; rw [hr] at this; exact this)
section
variable {H : Type} {enc : TypeId × Value → H} {w : World} {base : Nat} {spare : Nat → Bool} {held : Bool}
theorem trodAll_twoF {P : Program} {t0 t1 : TypeId} {vs : List Value} {ds : List (DataW H)} {ps : List MemPlace} (h : DataW.TrodAll enc P w base spare held [t0, t1] vs ds ps) :
    ∃ v0 v1 d0 d1 p0 p1, vs = [v0, v1] ∧ ds = [d0, d1] ∧ ps = p0 ++ p1 ∧ DataW.Trod enc P w base spare held t0 v0 d0 p0 ∧ DataW.Trod enc P w base spare held t1 v1 d1 p1 := by
  obtain ⟨v0, vs', d0, ds', p0, q0, rfl, rfl, rfl, h0, hr⟩ := trodAll_cons h
  obtain ⟨v1, vs2, d1, ds2, p1, q1, rfl, rfl, rfl, h1, hr2⟩ := trodAll_cons hr
  obtain ⟨rfl, rfl, rfl⟩ := trodAll_nil hr2
  exact ⟨v0, v1, d0, d1, p0, p1, rfl, rfl, by simp, h0, h1⟩
theorem Tryz.fieldsPoint : fieldsOf Tryz.prog 58 = #[(2, 0), (2, 1)] := by kernel_rfl
set_option maxRecDepth 100000 in
theorem open_pts_arg {r : Reach} {b0 : Nat} {v : Value} {d : DataW H} {ps : List MemPlace} (hv : Value.okWide Tryz.prog w r b0 39 v) (h : DataW.Trod enc Tryz.prog w base spare held 39 v d ps) :
    ∃ (p : Option Addr) (l : List (Int × Int)) (cap : Nat), v = .slice p l.length cap ∧ (p = none → l = [] ∧ cap = 0) ∧ l.length ≤ cap ∧ cap ≤ maxLen ∧ PtsIn w p l ∧ ∀ x, x ∈ l → I64 x.1 ∧ I64 x.2 := by
  have hu : Tryz.prog.underlying 39 = some (.slice 58) := by kernel_rfl
  obtain ⟨a, len, cap, rfl⟩ := okWide_slice hu hv
  obtain ⟨fuel, hf⟩ := h
  obtain ⟨p, len', c, e, hn, hl, hm, hi⟩ := open_rows (n := 2) hu Tryz.fieldsPoint rfl (by omega) (by kernel_rfl) (fun i hi => by
    match i, hi with
    | 0, _ => exact ⟨_, rfl, Tryz.isInt64⟩
    | 1, _ => exact ⟨_, rfl, Tryz.isInt64⟩) hf
  simp [Value.cells] at e
  obtain ⟨rfl, rfl, rfl⟩ := e
  obtain ⟨l, rfl, hq⟩ := list_of (Q := fun i (x : Int × Int) => (∃ b o, a = some ⟨b, o, none⟩ ∧ w.cell? ⟨b, o + i * 2, none⟩ = some (.int .i64 x.1) ∧ w.cell? ⟨b, o + i * 2 + 1, none⟩ = some (.int .i64 x.2)) ∧ I64 x.1 ∧ I64 x.2) len (fun i hilt => by
    obtain ⟨b, o, e, hj⟩ := hi i hilt
    obtain ⟨f, f1, f2⟩ := hj 0 (by omega)
    obtain ⟨s, s1, s2⟩ := hj 1 (by omega)
    exact ⟨⟨f, s⟩, ⟨b, o, e, by simpa using f1, s1⟩, f2, s2⟩)
  refine ⟨a, l, cap, rfl, fun e => ⟨List.length_eq_zero_iff.1 (hn e).1, (hn e).2⟩, hl, hm, ⟨fun i r hr => (hq i r hr).1⟩, fun r hr => ?_⟩
  obtain ⟨i, hi⟩ := List.getElem?_of_mem hr
  exact (hq i r hi).2
end
theorem c_segFarLaw (s : SegT) (p q : Option Addr) (cap vc : Nat) (w : World) (h : Came w s p q cap vc) (pp : Option Addr) (l : List (Int × Int)) (cl : Nat) (hn : pp = none → l = [] ∧ cl = 0) (hl1 : l.length ≤ cl) (hl2 : cl ≤ maxLen) (hl : PtsIn w pp l) (hv : ∀ x, x ∈ l → I64 x.1 ∧ I64 x.2) :
    Calls Tryz.prog 7 #[.agg (segA s p q cap vc), .slice pp l.length cl] w fun e w' => e = .returned (.bool true) ∧ Below w.heap.size w w' := by
  unfold maxLen at hl2
  cases pp with
  | none =>
    obtain ⟨rfl, rfl⟩ := hn rfl
    exact c_farNil s p q cap vc w h
  | some pa =>
    by_cases hl0 : l.length ≤ 300
    · exact c_farShort s p q cap vc w h l pa cl hl0 hl1 hl (fun x hx => (hv x hx).2)
    · exact c_farLong s p q cap vc w h l pa cl (by omega) hl1 (by omega) hl (fun x hx => (hv x hx).2)
set_option maxRecDepth 100000 in
theorem far_lifted (os : Os) (started : os.Started) (H : Type) (enc : TypeId × Value → H) :
    ReturnsInHanded {} Tryz.checked os 7 .any (Rows.segFarSpec.pre6 enc Tryz.prog Tryz.f7 Rows.segFarRow.domain false) (Rows.segFarSpec.post enc Tryz.prog Tryz.f7 false true false false) := by
  refine returnsInHanded_of_change (C := Tryz.checked) Tryz.ownKnob started (by kernel_rfl) Tryz.func7
    (ChangeSpec.witness6 (enc := enc) (C := Tryz.checked) false ⟨#[], #[.agg #[.int .i64 0, .slice none 0 0, .int .i64 0, .int .i64 0, .int .i64 0, .int .i64 0, .slice none 0 0, .int .i64 0], .slice none 0 0], []⟩ 8 (by kernel_rfl) (by kernel_rfl) (by kernel_rfl) (by kernel_rfl)) ?_
  intro W base args ds gs before hval0 hW hcnd _
  have hval : ∀ (j : Nat) t v, Tryz.f7.params[j]? = some t → args[j]? = some v → Value.okWide Tryz.prog W .any base t v := hval0
  have hW' := hW
  obtain ⟨p, q, hA0, hV, rfl, hfz, hnd⟩ := hW
  have hA : DataW.TrodAll enc Tryz.prog W 0 (fun _ => true) true Tryz.f7.params.toList args.toList ds p := hA0
  rw [Tryz.params7] at hA hval
  obtain ⟨v0, v1, d0, d1, p0, p1, hargs, rfl, rfl, h0, h1⟩ := trodAll_twoF hA
  obtain ⟨args⟩ := args
  simp at hargs
  subst hargs
  obtain ⟨rfl, rfl⟩ := trodVars_none hV
  obtain ⟨s, p', q', cap, vc, rfl, hs, _⟩ := open_seg (hval 0 _ v0 rfl rfl) h0
  obtain ⟨pb, l, bc, rfl, hbn, hbl, hbm, hby, hbv⟩ := open_pts_arg (hval 1 _ v1 rfl rfl) h1
  clear hA0 hval0
  refine (c_segFarLaw s p' q' cap vc W hs pb l bc hbn hbl hbm hby hbv).mono fun e W' ⟨he, hb⟩ => ?_
  subst he
  exact ⟨_, rfl, law_post Tryz.laidOut (pars_ok (by kernel_rfl)) rfl (by kernel_rfl) rfl hW' hb rfl⟩
theorem segFar_holds : Rows.SegFarSaid :=
  OpenClaim.holds_of_wide 7 Tryz.f7 rfl rfl rfl rfl rfl rfl rfl ⟨rfl, rfl, rfl, rfl, rfl⟩ rfl rfl rfl rfl rfl (by kernel_rfl) Tryz.func7 (by kernel_rfl)
    (of_decide_eq_true (by kernel_rfl)) (by unfold Func.isWrapper; first | (rw [if_pos (by decide +kernel)]; kernel_rfl) | (rw [if_neg (by decide +kernel)]; exact ⟨rfl, rfl⟩))
    (fun os started H enc _ => far_lifted os started H enc)
end Go.Proofs.YtgblmlefmohgnaaGreat
