/- For every segment that comes in, whatever is in it, and all a, b: SegParts returns true; the arguments read as before. No condition. -/
import Derived.Test.YtgblmlefmohgnaaGreatParts5
set_option linter.unusedSimpArgs false
set_option linter.unusedVariables false
namespace Go.Proofs.YtgblmlefmohgnaaGreat
open Go.ChangeShapes Go.WideShapes Go.ChangeAt Go.RowKit
theorem OwnR.pts {w : World} {B n : Nat} {t : TypeId} {v : Value} {l : List (Int × Int)} (h : OwnR w B t 2 v n (flatPts l)) (hn : 0 < n) : ∃ g cp, v = .slice (some ⟨g, 0, none⟩) n cp ∧ PtsIn w (some ⟨g, 0, none⟩) l := by
  rcases h.own.2 with ⟨_, h0⟩ | ⟨g, cap, cur, rfl, _, hb, _, _, _, ht⟩
  · omega
  · exact ⟨g, cap, rfl, pts_in hb ht⟩
theorem Came.calls {w w' : World} {s : SegT} {p q : Option Addr} {cap vc : Nat} (h : Came w s p q cap vc) (hb : Below w.heap.size w w') : Came w' s p q cap vc := ⟨h.runs.below hb, h.raw.below hb, h.nilR, h.nilV, h.capR, h.capV, h.maxR, h.maxV⟩
theorem partOut_bad {s : SegT} (h : segB s = false) (a b : Int) : partOut s a b = (#[.int .i64 0, .int .i64 0, .int .i64 0, .int .i64 0, .int .u64 0], 210) := by unfold partOut; rw [h]; rfl
theorem c_refPointsIn (s : SegT) (p q : Option Addr) (cap vc : Nat) (w : World) (h : SegIn w s p q) (hs : segB s = true) :
    Calls Tryz.prog 14 #[.agg (segA s p q cap vc)] w fun e w' => ∃ g cp, e = .returned (.tuple #[.slice (some ⟨g, 0, none⟩) (ptsL s).length cp, .bool true]) ∧ Below w.heap.size w w' ∧ PtsIn w' (some ⟨g, 0, none⟩) (ptsL s) := by
  refine (c_refPoints s p q cap vc w h hs).mono ?_
  rintro e w' ⟨v, rfl, hv, hB⟩
  have hn := length_pts hs
  have hc := cnt_pos (segB_runs hs)
  obtain ⟨g, cp, rfl, hp⟩ := hv.pts (by omega)
  exact ⟨g, cp, rfl, hB, hp⟩
theorem pts_bk {s : SegT} (hs : segB s = true) {x : Int × Int} (hx : x ∈ ptsL s) : -2305844108725321728 ≤ x.2 ∧ x.2 ≤ 2305844108725321728 := vals_back hs (by rw [← map_pts hs]; exact List.mem_map_of_mem hx)
theorem c_refFold {s : SegT} (hs : segB s = true) (a b : Int) (W : World) (g cp : Nat) (h : PtsIn W (some ⟨g, 0, none⟩) (ptsL s)) :
    Calls Tryz.prog 15 #[.slice (some ⟨g, 0, none⟩) (ptsL s).length cp, .int .i64 a, .int .i64 b] W fun e w' => e = .returned (.agg (partA (selL a b (ptsL s)))) ∧ Below W.heap.size W w' := by
  have hn := length_pts hs
  have hc := cnt_pos (segB_runs hs)
  exact reffold_w (some ⟨g, 0, none⟩) cp (ptsL s) a b W (by omega) (fun x hx => pts_bk hs hx) h
theorem c_segPartsLaw (s : SegT) (p q : Option Addr) (cap vc : Nat) (a b : Int) (w : World) (h : Came w s p q cap vc) (hb : I64 b) :
    Calls Tryz.prog 3 #[.agg (segA s p q cap vc), .int .i64 a, .int .i64 b] w fun e w' => e = .returned (.bool true) ∧ Below w.heap.size w w' := by
  have c1 := fun W (_ : Below w.heap.size w W) => c_wakes W
  have c2 := fun W (hW : Below w.heap.size w W) => c_own s p q cap vc W (h.calls hW)
  have key : ∀ (R : Array Value) (er : Int), partOut (ownS s) a b = (R, er) → ∀ W p' q' cap' vc', SegIn W (ownS s) p' q' → (ownS s).raw.length ≤ vc' → Calls Tryz.prog 12 #[.agg (segA (ownS s) p' q' cap' vc'), .int .i64 a, .int .i64 b] W fun e w' => e = .returned (.tuple #[.agg R, .int .i64 er]) ∧ Below W.heap.size W w' := by
    intro R er he W p' q' cap' vc' h1 h2
    have := c_Part (ownS s) p' q' cap' vc' a b W h1 h2 hb.1
    rw [he] at this
    exact this
  cases hs : segB (ownS s) with
  | false => exact parts_no _ _ _ _ _ _ p q _ cap _ vc w _ _ (ownS s) a b c1 c2 (key _ _ (partOut_bad hs _ _)) (fun W p' q' cap' vc' h1 _ => by have := c_refRight (ownS s) p' q' cap' vc' W h1; rw [hs] at this; exact this)
  | true =>
    have hsel := partOut_sel hs a b
    have c4 := fun (W : World) (p' q' : Option Addr) (cap' vc' : Nat) (h1 : SegIn W (ownS s) p' q') (_ : (ownS s).raw.length ≤ vc') => by have := c_refRight (ownS s) p' q' cap' vc' W h1; rw [hs] at this; exact this
    have c5 := fun (W : World) (p' q' : Option Addr) (cap' vc' : Nat) (h1 : SegIn W (ownS s) p' q') => c_refPointsIn (ownS s) p' q' cap' vc' W h1 hs
    have c6 := fun (W : World) (g cp : Nat) (hp : PtsIn W (some ⟨g, 0, none⟩) (ptsL (ownS s))) => c_refFold hs a b W g cp hp
    by_cases he : selL a b (ptsL (ownS s)) = []
    · rw [if_pos he] at hsel
      rw [he] at c6
      exact parts_none _ _ _ _ _ _ p q _ cap _ vc w _ _ (ownS s) a b (ptsL (ownS s)) c1 c2 (key _ _ hsel) c4 c5 c6
    · rw [if_neg he] at hsel
      exact parts_some _ _ _ _ _ _ p q _ cap _ vc w _ _ (ownS s) a b _ _ _ _ _ (ptsL (ownS s)) (by simpa using he) c1 c2 (key _ _ hsel) c4 c5 c6
set_option maxRecDepth 100000 in
theorem parts_lifted (os : Os) (started : os.Started) (H : Type) (enc : TypeId × Value → H) :
    ReturnsInHanded {} Tryz.checked os 3 .any (Rows.segPartsSpec.pre6 enc Tryz.prog Tryz.f3 Rows.segPartsRow.domain false) (Rows.segPartsSpec.post enc Tryz.prog Tryz.f3 false true false false) := by
  refine returnsInHanded_of_change (C := Tryz.checked) Tryz.ownKnob started (by kernel_rfl) Tryz.func3
    (ChangeSpec.witness6 (enc := enc) (C := Tryz.checked) false ⟨#[], #[.agg #[.int .i64 0, .slice none 0 0, .int .i64 0, .int .i64 0, .int .i64 0, .int .i64 0, .slice none 0 0, .int .i64 0], .int .i64 0, .int .i64 0], []⟩ 8 (by kernel_rfl) (by kernel_rfl) (by kernel_rfl) (by kernel_rfl)) ?_
  intro W base args ds gs before hval0 hW hcnd _
  have hval : ∀ (j : Nat) t v, Tryz.f3.params[j]? = some t → args[j]? = some v → Value.okWide Tryz.prog W .any base t v := hval0
  have hW' := hW
  obtain ⟨p, q, hA0, hV, rfl, hfz, hnd⟩ := hW
  have hA : DataW.TrodAll enc Tryz.prog W 0 (fun _ => true) true Tryz.f3.params.toList args.toList ds p := hA0
  rw [Tryz.params3] at hA hval
  obtain ⟨v0, v1, v2, d0, d1, d2, p0, p1, p2, rfl, rfl, rfl, h0, h1, h2⟩ := trodAll_three hA
  obtain ⟨rfl, rfl⟩ := trodVars_none hV
  obtain ⟨s, p', q', cap, vc, rfl, hs, _⟩ := open_seg (hval 0 _ v0 rfl rfl) h0
  obtain ⟨a, rfl, rfl, rfl, wa⟩ := open_int Tryz.isInt64.1 (hval 1 _ v1 rfl rfl) h1
  obtain ⟨b, rfl, rfl, rfl, wb⟩ := open_int Tryz.isInt64.1 (hval 2 _ v2 rfl rfl) h2
  clear hA0 hval0
  refine (c_segPartsLaw s p' q' cap vc a b W hs (wf_I64 wb)).mono fun e W' ⟨he, hb⟩ => ?_
  subst he
  exact ⟨_, rfl, law_post Tryz.laidOut (pars_ok (by kernel_rfl)) rfl (by kernel_rfl) rfl hW' hb rfl⟩
theorem segParts_holds : Rows.SegPartsSaid :=
  OpenClaim.holds_of_wide 3 Tryz.f3 rfl rfl rfl rfl rfl rfl rfl ⟨rfl, rfl, rfl, rfl, rfl⟩ rfl rfl rfl rfl rfl (by kernel_rfl) Tryz.func3 (by kernel_rfl)
    (of_decide_eq_true (by kernel_rfl)) (by unfold Func.isWrapper; first | (rw [if_pos (by decide +kernel)]; kernel_rfl) | (rw [if_neg (by decide +kernel)]; exact ⟨rfl, rfl⟩))
    (fun os started H enc _ => parts_lifted os started H enc)
end Go.Proofs.YtgblmlefmohgnaaGreat
