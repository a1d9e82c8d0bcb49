/- Parts of the proof that follows: The document's models, the layer's models: whether two are the same. Of whatever two. | The document's models: which may be. | Layer model: whether a model may be. | Layer model: where a name stands (slices.BinarySearchFunc). | Layer model: a model in memory of its own (model.own). | Layer model: a model in memory of its own (model.own), with the room of its rows. | A row that grows by append: it stays in its block, or goes into a new one. No condition but the bounds of the append law. | slices.Delete of one raw series of a row in a block of its own. No condition. | Layer model: place, Get. | Layer model: drop, of a model in memory of its own. No condition. | The laws of chapter 28: a mutation in memory of its own. No condition but that its points can be read. | Layer model: why points may not come. No condition. -/
import Derived.Laws.Cover1
import Derived.Test.YtdeghcgakkhbmaaGreatDo10
set_option linter.unusedSimpArgs false
set_option linter.unusedVariables false
namespace Go.Proofs.YtdeghcgakkhbmaaGreat
open Go.RowKit
/-- the same raw series, one by one -/
def sameM : List RawT → List RawT → Bool
  | [], [] => true
  | s :: l, t :: m => sameR s t && sameM l m
  | _, _ => false
theorem sameM_refl : ∀ l : List RawT, sameM l l = true
  | [] => rfl
  | s :: l => by simp [sameM, sameR_refl, sameM_refl l]
theorem sameM_len : ∀ {l m : List RawT}, ¬ l.length = m.length → sameM l m = false
  | [], [], h => absurd rfl h
  | [], _ :: _, _ => rfl
  | _ :: _, [], _ => rfl
  | s :: l, t :: m, h => by simp only [sameM, sameM_len (l := l) (m := m) (by simpa using h), Bool.and_false]
theorem sameM_no : ∀ {l m : List RawT} {i : Nat} {x y : RawT}, l[i]? = some x → m[i]? = some y → sameR x y = false → sameM l m = false
  | [], _, _, _, _, h1, _, _ => by simp at h1
  | _ :: _, [], _, _, _, _, h2, _ => by simp at h2
  | s :: l, t :: m, 0, x, y, h1, h2, h => by
    simp at h1 h2; subst h1; subst h2
    simp [sameM, h]
  | s :: l, t :: m, i + 1, x, y, h1, h2, h => by
    rw [List.getElem?_cons_succ] at h1 h2
    show (sameR s t && sameM l m) = false
    rw [sameM_no h1 h2 h, Bool.and_false]
theorem sameM_yes : ∀ {l m : List RawT}, l.length = m.length → (∀ (i : Nat) x y, l[i]? = some x → m[i]? = some y → sameR x y = true) → sameM l m = true
  | [], [], _, _ => rfl
  | s :: l, t :: m, hl, h => by
    simp only [sameM, h 0 s t rfl rfl, Bool.true_and]
    exact sameM_yes (by simpa using hl) fun i x y h1 h2 => h (i + 1) x y (by simpa using h1) (by simpa using h2)
def UptoM (l m : List RawT) (i : Nat) : Prop := ∀ (k : Nat) x y, k < i → l[k]? = some x → m[k]? = some y → sameR x y = true
theorem UptoM.next {l m : List RawT} {i : Nat} {x y : RawT} (h : UptoM l m i) (h1 : l[i]? = some x) (h2 : m[i]? = some y) (h3 : sameR x y = true) : UptoM l m (i + 1) := fun k u v hk hu hv => by
  rcases Nat.lt_or_ge k i with hlt | hge
  · exact h k u v hlt hu hv
  · obtain rfl : k = i := by omega
    rw [h1] at hu; rw [h2] at hv
    injection hu with hu; injection hv with hv
    rw [← hu, ← hv]; exact h3
/-- No raw series of these is greater than what can be gone through. -/
def FewP (l : List RawT) : Prop := ∀ (i : Nat) r, l[i]? = some r → r.pts.length ≤ 2000
def mefRel (w : World) (p p' : Option Addr) (cap cap' : Nat) (l m : List RawT) (a' : Act) (W : World) : Prop :=
  Below w.heap.size w W ∧ ∃ i : Nat, (∃ u : Nat → Value, a' = { tmps := #[.slice p l.length cap, .slice p' l.length cap', .func (.func 72) #[] #[], u 3, u 4, u 5, .bool false, u 7, u 8, u 9, u 10, u 11, u 12, u 13, u 14, .slice p l.length cap, .int .i64 (l.length : Int), .int .i64 (i : Int), u 18, u 19, u 20, u 21, u 22, u 23, u 24, u 25, u 26, u 27, u 28, u 29, u 30, u 31], defers := [] }) ∧ i ≤ l.length ∧ UptoM l m i
def rsmRel (w : World) (p p' : Option Addr) (cap cap' : Nat) (l m : List RawT) (a' : Act) (W : World) : Prop :=
  Below w.heap.size w W ∧ Blk W w.heap.size #[.slice p l.length cap] 27 ∧ Blk W (w.heap.size + 1) #[.slice p' l.length cap'] 27 ∧ ∃ i : Nat, (∃ u : Nat → Value, a' = { tmps := #[u 0, u 1, .pointer (some ⟨w.heap.size, 0, none⟩), .pointer (some ⟨(w.heap.size + 1), 0, none⟩), .bool false, u 5, u 6, u 7, u 8, u 9, u 10, u 11, u 12, u 13, u 14, .int .i64 (l.length : Int), .int .i64 (i : Int), u 17, u 18, u 19, u 20, u 21, u 22, u 23, u 24, u 25, u 26, u 27, u 28, u 29, u 30, u 31], defers := [] }) ∧ i ≤ l.length ∧ UptoM l m i
set_option maxRecDepth 100000 in
set_option maxHeartbeats 2000000 in
theorem refSameM_w (l m : List RawT) (p p' : Option Addr) (cap cap' : Nat) (w : World) (h : RawsIn w p l) (h' : RawsIn w p' m) (hl : l.length ≤ 100) (hfw : FewP l) (hfm : FewP m) (hlm : l.length = m.length) :
    Calls Tryz.prog 13 #[.agg #[.slice p l.length cap], .agg #[.slice p' l.length cap']] w fun e w' => e = .returned (.bool (sameM l m)) ∧ Below w.heap.size w w' := by
  replace hlm := Lib.hid hlm
  go_enter Tryz.func13, Tryz.ntmps13
  go_upto_region 1 with (fail)
  refine wp_cutB w (Bc w.heap.size #[.slice p l.length cap] 27 <| Bc (w.heap.size + 1) #[.slice p' l.length cap'] 27 <| Bz) ?_
  rintro W1 hW z2 ⟨⟨b1, yb1, k1, f1⟩, ⟨b2, yb2, k2, f2⟩, -⟩
  go_wp2
  clear k1 f1 k2 f2
  refine wp_loop (rsmRel w p p' cap cap' l m) (fun a' _ => l.length - (intAt (a'.tmps.getD 16 undef)).toNat) ?_ ?_
  · unfold rsmRel
    exact ⟨hW, b1, b2, 0, frame_ex rfl, by omega, fun k x y hk => by omega⟩
  clear b1 b2 hW
  rintro a' W ⟨hW0, b1, b2, i, ⟨u, rfl⟩, hi, hup⟩
  have hz := hW0.size
  replace hup := Lib.hid hup
  rcases Nat.lt_or_ge i l.length with hlt | hge
  · obtain ⟨x, tr⟩ : ∃ r, l[i]? = some r := ⟨l[i]'(by omega), List.getElem?_eq_getElem (by omega)⟩
    obtain ⟨y, tq⟩ : ∃ r, m[i]? = some r := ⟨m[i]'(by have := hlm.out; omega), List.getElem?_eq_getElem (by have := hlm.out; omega)⟩
    obtain ⟨g1, o1, p1, co1, rfl, h1, r1, -⟩ := (h.below hW0).at' i x tr
    obtain ⟨g2, o2, p2, co2, rfl, h2, r2, -⟩ := (h'.below hW0).at' i y tq
    have hx9 := hfw i x tr
    have hy9 := hfm i y tq
    have c1 := fun W' (hW' : Below W.heap.size W W') => c_ref28SameRaw x y p1 p2 co1 co2 W' (r1.below hW') (r2.below hW') hx9 hy9
    replace tr := Lib.hid tr
    replace tq := Lib.hid tq
    have zb1 := b1.lt
    have zb2 := b2.lt
    cases hB : sameR x y with
    | true =>
      have hup' := Lib.hid (hup.out.next tr.out tq.out hB)
      rw [hB] at c1
      unfold rawA at c1 h1 h2
      replace c1 := Lib.hid c1
      clear r1 r2 hB
      go_upto_region 6 with (fail)
      refine wp_cutB W (Bc w.heap.size #[.slice (some ⟨g1, o1, none⟩) l.length cap] 27 <| Bc (w.heap.size + 1) #[.slice (some ⟨g2, o2, none⟩) l.length cap'] 27 <| Rc (fun W' => CellsP W' g1 (o1 + i * 6) #[.string x.name, .int .i64 x.eps, .int .i64 x.floor, .int .i64 x.last, .int .i64 x.scale, .slice p1 x.pts.length co1]) <| Rc (fun W' => CellsP W' g2 (o2 + i * 6) #[.string y.name, .int .i64 y.eps, .int .i64 y.floor, .int .i64 y.last, .int .i64 y.scale, .slice p2 y.pts.length co2]) <| Bz) ?_ (hI := by exact belowAny) (hR := (Bc.mk (by exact blkAny2) <| Bc.mk (by exact blkAny2) <| Rc.mk (by first | exact ⟨h1⟩ | (exact (CellsP.mk h1).below belowAny)) <| Rc.mk (by first | exact ⟨h2⟩ | (exact (CellsP.mk h2).below belowAny)) <| trivial))
      clear b1 b2
      rintro W21 hW z22 hL
      obtain ⟨⟨b1, yb1, k1, f1⟩, ⟨b2, yb2, k2, f2⟩, b3, b4, -⟩ := id hL
      clear k1 f1 k2 f2
      refine wp_regQ 12 32 hW hL ?_
      iterate 10 refine dE (fun W' hC => aI hlt (aI (Nat.not_le.2 hlt) (aI (hC.2.2.2.1.at' 0 _ rfl) (aI (hC.2.2.2.1.at' 1 _ rfl) (aI (hC.2.2.2.1.at' 2 _ rfl) (aI (hC.2.2.2.1.at' 3 _ rfl) (aI (hC.2.2.2.1.at' 4 _ rfl) (aI (hC.2.2.2.1.at' 5 _ rfl) (aI (hC.2.2.2.2.1.at' 0 _ rfl) (aI (hC.2.2.2.2.1.at' 1 _ rfl) (aI (hC.2.2.2.2.1.at' 2 _ rfl) (aI (hC.2.2.2.2.1.at' 3 _ rfl) (aI (hC.2.2.2.2.1.at' 4 _ rfl) (hC.2.2.2.2.1.at' 5 _ rfl)))))))))))))) ?_
      refine cE (fun W' hC => aI hlt (aI (Nat.not_le.2 hlt) (aI (hC.2.2.2.1.at' 0 _ rfl) (aI (hC.2.2.2.1.at' 1 _ rfl) (aI (hC.2.2.2.1.at' 2 _ rfl) (aI (hC.2.2.2.1.at' 3 _ rfl) (aI (hC.2.2.2.1.at' 4 _ rfl) (aI (hC.2.2.2.1.at' 5 _ rfl) (aI (hC.2.2.2.2.1.at' 0 _ rfl) (aI (hC.2.2.2.2.1.at' 1 _ rfl) (aI (hC.2.2.2.2.1.at' 2 _ rfl) (aI (hC.2.2.2.2.1.at' 3 _ rfl) (aI (hC.2.2.2.2.1.at' 4 _ rfl) (hC.2.2.2.2.1.at' 5 _ rfl)))))))))))))) (fun W' hC => c1.out W' (hW.trans (hC.1.of_priv hW.size))) ?_
      refine dE (fun W' hC => aI hlt (aI (Nat.not_le.2 hlt) (aI (hC.2.2.2.1.at' 0 _ rfl) (aI (hC.2.2.2.1.at' 1 _ rfl) (aI (hC.2.2.2.1.at' 2 _ rfl) (aI (hC.2.2.2.1.at' 3 _ rfl) (aI (hC.2.2.2.1.at' 4 _ rfl) (aI (hC.2.2.2.1.at' 5 _ rfl) (aI (hC.2.2.2.2.1.at' 0 _ rfl) (aI (hC.2.2.2.2.1.at' 1 _ rfl) (aI (hC.2.2.2.2.1.at' 2 _ rfl) (aI (hC.2.2.2.2.1.at' 3 _ rfl) (aI (hC.2.2.2.2.1.at' 4 _ rfl) (hC.2.2.2.2.1.at' 5 _ rfl)))))))))))))) ?_
      clear hW hL b1 b2 b3 b4
      rintro W23 hW z24 hL
      simp only [ndR]
      intros
      simp only [ndS]
      refine wpList_nil ?_
      obtain ⟨⟨b1, yb1, k1, f1⟩, ⟨b2, yb2, k2, f2⟩, b3, b4, -⟩ := hL
      go_wp2
      rw [show (i : Int) + 1 = ((i + 1 : Nat) : Int) by omega]
      refine ⟨?_, by simp [intAt]; omega⟩
      unfold rsmRel
      exact ⟨hW0.trans (hW.mono hz), b1, b2, i + 1, frame_ex rfl, by omega, hup'.out⟩
    | false =>
      have hno := Lib.hid (sameM_no tr.out tq.out hB)
      rw [hB] at c1
      unfold rawA at c1 h1 h2
      replace c1 := Lib.hid c1
      clear r1 r2 hB
      go_upto_region 6 with (fail)
      refine wp_cutB W (Bc w.heap.size #[.slice (some ⟨g1, o1, none⟩) l.length cap] 27 <| Bc (w.heap.size + 1) #[.slice (some ⟨g2, o2, none⟩) l.length cap'] 27 <| Rc (fun W' => CellsP W' g1 (o1 + i * 6) #[.string x.name, .int .i64 x.eps, .int .i64 x.floor, .int .i64 x.last, .int .i64 x.scale, .slice p1 x.pts.length co1]) <| Rc (fun W' => CellsP W' g2 (o2 + i * 6) #[.string y.name, .int .i64 y.eps, .int .i64 y.floor, .int .i64 y.last, .int .i64 y.scale, .slice p2 y.pts.length co2]) <| Bz) ?_ (hI := by exact belowAny) (hR := (Bc.mk (by exact blkAny2) <| Bc.mk (by exact blkAny2) <| Rc.mk (by first | exact ⟨h1⟩ | (exact (CellsP.mk h1).below belowAny)) <| Rc.mk (by first | exact ⟨h2⟩ | (exact (CellsP.mk h2).below belowAny)) <| trivial))
      clear b1 b2
      rintro W21 hW z22 hL
      obtain ⟨⟨b1, yb1, k1, f1⟩, ⟨b2, yb2, k2, f2⟩, b3, b4, -⟩ := id hL
      clear k1 f1 k2 f2
      refine wp_regQ 12 32 hW hL ?_
      iterate 10 refine dE (fun W' hC => aI hlt (aI (Nat.not_le.2 hlt) (aI (hC.2.2.2.1.at' 0 _ rfl) (aI (hC.2.2.2.1.at' 1 _ rfl) (aI (hC.2.2.2.1.at' 2 _ rfl) (aI (hC.2.2.2.1.at' 3 _ rfl) (aI (hC.2.2.2.1.at' 4 _ rfl) (aI (hC.2.2.2.1.at' 5 _ rfl) (aI (hC.2.2.2.2.1.at' 0 _ rfl) (aI (hC.2.2.2.2.1.at' 1 _ rfl) (aI (hC.2.2.2.2.1.at' 2 _ rfl) (aI (hC.2.2.2.2.1.at' 3 _ rfl) (aI (hC.2.2.2.2.1.at' 4 _ rfl) (hC.2.2.2.2.1.at' 5 _ rfl)))))))))))))) ?_
      refine cE (fun W' hC => aI hlt (aI (Nat.not_le.2 hlt) (aI (hC.2.2.2.1.at' 0 _ rfl) (aI (hC.2.2.2.1.at' 1 _ rfl) (aI (hC.2.2.2.1.at' 2 _ rfl) (aI (hC.2.2.2.1.at' 3 _ rfl) (aI (hC.2.2.2.1.at' 4 _ rfl) (aI (hC.2.2.2.1.at' 5 _ rfl) (aI (hC.2.2.2.2.1.at' 0 _ rfl) (aI (hC.2.2.2.2.1.at' 1 _ rfl) (aI (hC.2.2.2.2.1.at' 2 _ rfl) (aI (hC.2.2.2.2.1.at' 3 _ rfl) (aI (hC.2.2.2.2.1.at' 4 _ rfl) (hC.2.2.2.2.1.at' 5 _ rfl)))))))))))))) (fun W' hC => c1.out W' (hW.trans (hC.1.of_priv hW.size))) ?_
      refine dE (fun W' hC => aI hlt (aI (Nat.not_le.2 hlt) (aI (hC.2.2.2.1.at' 0 _ rfl) (aI (hC.2.2.2.1.at' 1 _ rfl) (aI (hC.2.2.2.1.at' 2 _ rfl) (aI (hC.2.2.2.1.at' 3 _ rfl) (aI (hC.2.2.2.1.at' 4 _ rfl) (aI (hC.2.2.2.1.at' 5 _ rfl) (aI (hC.2.2.2.2.1.at' 0 _ rfl) (aI (hC.2.2.2.2.1.at' 1 _ rfl) (aI (hC.2.2.2.2.1.at' 2 _ rfl) (aI (hC.2.2.2.2.1.at' 3 _ rfl) (aI (hC.2.2.2.2.1.at' 4 _ rfl) (hC.2.2.2.2.1.at' 5 _ rfl)))))))))))))) ?_
      clear hW hL b1 b2 b3 b4
      rintro W23 hW z24 hL
      simp only [ndR]
      intros
      simp only [ndS]
      refine wpList_nil ?_
      obtain ⟨⟨b1, yb1, k1, f1⟩, ⟨b2, yb2, k2, f2⟩, b3, b4, -⟩ := hL
      go_wp2
      go_ret
      exact ⟨by rw [hno.out]; rfl, hW0.trans (hW.mono hz)⟩
  · obtain rfl : i = l.length := by omega
    have hyes := Lib.hid (sameM_yes hlm.out fun k x y h1 h2 => hup.out k x y (List.getElem?_eq_some_iff.1 h1).1 h1 h2)
    go_wp2
    go_ret
    exact ⟨by rw [hyes.out]; rfl, hW0⟩
set_option maxRecDepth 100000 in
set_option maxHeartbeats 2000000 in
theorem refSameM_len (p : Option Addr) (n cap : Nat) (p' : Option Addr) (k cap' : Nat) (w : World) (hl : ¬ n = k) :
    Calls Tryz.prog 13 #[.agg #[.slice p n cap], .agg #[.slice p' k cap']] w fun e w' => e = .returned (.bool false) ∧ Below w.heap.size w w' := by
  go_enter Tryz.func13, Tryz.ntmps13
  go_upto_region 1 with (fail)
  refine wp_cutB w (Bc w.heap.size #[.slice p n cap] 27 <| Bc (w.heap.size + 1) #[.slice p' k cap'] 27 <| Bz) ?_
  rintro W1 hW z2 ⟨⟨b1, yb1, k1, f1⟩, ⟨b2, yb2, k2, f2⟩, -⟩
  go_wp2
  go_ret
  exact ⟨rfl, by exact belowAny⟩
theorem c_ref28Same (l m : List RawT) (p p' : Option Addr) (cap cap' : Nat) (w : World) (h : RawsIn w p l) (h' : RawsIn w p' m) (hl : l.length ≤ 100) (hfw : FewP l) (hfm : FewP m) :
    Calls Tryz.prog 13 #[.agg #[.slice p l.length cap], .agg #[.slice p' m.length cap']] w fun e w' => e = .returned (.bool (sameM l m)) ∧ Below w.heap.size w w' := by
  by_cases e : l.length = m.length
  · rw [← e]; exact refSameM_w l m p p' cap cap' w h h' hl hfw hfm e
  · rw [sameM_len e]; exact refSameM_len p _ cap p' _ cap' w e
end Go.Proofs.YtdeghcgakkhbmaaGreat
namespace Go.Proofs.YtdeghcgakkhbmaaGreat
open Go.RowKit
theorem strGeq (t : TypeId) (a b : ByteArray) : binOp .geq t (.string a) (.string b) = pure (.bool (!Op.bytesLess a.toList b.toList)) := by simp [binOp, Op.stringOp]
/-- Whether a raw series may stand at a place of a model. -/
def okAtB (rows : List RawT) (i : Nat) (r : RawT) : Bool := rawB r && match i with
  | 0 => true
  | j + 1 => match rows[j]? with
    | some q => Op.bytesLess q.name.toList r.name.toList
    | none => true
def okN (rows : List RawT) : Nat → Bool
  | 0 => true
  | i + 1 => okN rows i && match rows[i]? with
    | some r => okAtB rows i r
    | none => true
theorem okN_next {rows : List RawT} {i : Nat} {r : RawT} (hr : rows[i]? = some r) : okN rows (i + 1) = (okN rows i && okAtB rows i r) := by
  simp only [okN, hr]
theorem okN_more {rows : List RawT} {i : Nat} (h : okN rows i = false) : ∀ k, okN rows (i + k) = false
  | 0 => h
  | k + 1 => by
    rw [← Nat.add_assoc]
    simp only [okN, okN_more h k, Bool.false_and]
theorem okN_no {rows : List RawT} {i : Nat} (h : okN rows i = false) (hi : i ≤ rows.length) : okN rows rows.length = false := by
  have := okN_more h (rows.length - i)
  rwa [show i + (rows.length - i) = rows.length by omega] at this
/-- Whether a model may be. -/
def modelB (rows : List RawT) : Bool := okN rows rows.length && decide (rows.length ≤ 8)
def FewN (l : List RawT) : Prop := ∀ (i : Nat) r, l[i]? = some r → r.name.size ≤ 1000
def rgtRel (w : World) (p : Option Addr) (cap : Nat) (rows : List RawT) (a' : Act) (W : World) : Prop :=
  Below w.heap.size w W ∧ Blk W w.heap.size #[.slice p rows.length cap] 27 ∧ ∃ i : Nat, (∃ u : Nat → Value, a' = { tmps := #[u 0, .pointer (some ⟨w.heap.size, 0, none⟩), .bool false, u 3, u 4, u 5, .slice p rows.length cap, .int .i64 (rows.length : Int), .int .i64 (i : Int), u 9, u 10, u 11, u 12, u 13, u 14, u 15, u 16, u 17, u 18, u 19, u 20, u 21, u 22, u 23, u 24, u 25, u 26, u 27, u 28, u 29, u 30, u 31, u 32, u 33, u 34, u 35, u 36], defers := [] }) ∧ okN rows i = true ∧ i ≤ rows.length
set_option maxRecDepth 100000 in
set_option maxHeartbeats 2000000 in
theorem c_ref28Right (p : Option Addr) (cap : Nat) (rows : List RawT) (w : World) (h : RawsIn w p rows) (hfw : FewP rows) (hfn : FewN rows) (hmx : rows.length ≤ 100) :
    Calls Tryz.prog 18 #[.agg #[.slice p rows.length cap]] w fun e w' => e = .returned (.bool (modelB rows)) ∧ Below w.heap.size w w' := by
  obtain ⟨RES, hRES⟩ : ∃ x, modelB rows = x := ⟨_, rfl⟩
  rw [hRES]
  replace hRES := Lib.hid hRES
  go_enter Tryz.func18, Tryz.ntmps18
  go_upto_region 1 with (fail)
  refine wp_cutB w (Bc w.heap.size #[.slice p rows.length cap] 27 <| Bz) ?_
  rintro W1 hW z2 ⟨⟨b1, yb1, k1, f1⟩, -⟩
  go_wp2
  clear k1 f1
  refine wp_loop (rgtRel w p cap rows) (fun a' _ => rows.length - (intAt (a'.tmps.getD 8 undef)).toNat) ?_ ?_
  · unfold rgtRel
    exact ⟨hW, b1, 0, frame_ex rfl, rfl, Nat.zero_le _⟩
  clear b1 hW
  rintro a' W ⟨hW0, b1, i, ⟨u, rfl⟩, hi, hi'⟩
  have hz := hW0.size
  have yb1 := b1.lt
  rcases Nat.lt_or_ge i rows.length with hlt | hge
  · obtain ⟨r0, tr⟩ : ∃ x, rows[i]? = some x := ⟨rows[i]'(by omega), List.getElem?_eq_getElem (by omega)⟩
    have hR := h.below hW0
    obtain ⟨b0, o0, p0, c0, rfl, h1, hps, hpc⟩ := hR.at' i _ tr
    have hf1 := hfw i _ tr
    have hf2 := hfn i _ tr
    have hnx := okN_next tr
    rw [hi, Bool.true_and] at hnx
    have cP := fun W' (hW' : Below W.heap.size W W') => c_ref28Raw r0 p0 c0 W' (hps.below hW') hf1 hf2
    obtain ⟨PB, hPB⟩ : ∃ B, rawB r0 = B := ⟨_, rfl⟩
    obtain ⟨F, hF⟩ : ∃ B, okAtB rows i r0 = B := ⟨_, rfl⟩
    rw [hF] at hnx
    have hno := Lib.hid (fun (e : F = false) => (show RES = false by rw [← hRES.out, modelB, okN_no (hnx.trans e) hlt, Bool.false_and]))
    have hst := Lib.hid (fun (e : F = true) => (show okN rows (i + 1) = true from hnx.trans e))
    rw [hPB] at cP
    unfold rawA at cP h1
    replace cP := Lib.hid cP
    have s0 := h1 0 _ rfl
    have s1 := h1 1 _ rfl
    have s2 := h1 2 _ rfl
    have s3 := h1 3 _ rfl
    have s4 := h1 4 _ rfl
    have s5 := h1 5 _ rfl
    simp only [Nat.add_zero] at s0
    by_cases h0 : i = 0
    · have E0 := Lib.hid (show decide (0 < i) = false from decide_eq_false (by omega))
      have hv := Lib.hid (show (!PB || false) = !F by rw [← hF, h0]; simp [okAtB, hPB])
      clear hps hpc hPB tr hi h0 h1 hF hnx
      have k1 := b1.cell
      have f1 := b1.frozen
      go_upto_region 4 with (fail)
      clear k1 f1
      refine wp_cutB W (Bc w.heap.size #[.slice (some ⟨b0, o0, none⟩) rows.length cap] 27 <| Bc W.heap.size #[.string r0.name, .int .i64 r0.eps, .int .i64 r0.floor, .int .i64 r0.last, .int .i64 r0.scale, .slice p0 r0.pts.length c0] 35 <| Bz) ?_
      clear b1
      rintro W21 hW z22 hL
      obtain ⟨⟨b1, yb1, k1, f1⟩, ⟨b2, yb2, k2, f2⟩, -⟩ := id hL
      clear k1 f1 k2 f2
      refine wp_regD 19 37 hW hL ?_
      refine dE (fun W' hC => E0.out) ?_
      refine cE (fun W' hC => E0.out) (fun W' hC => cP.out W' (hW.trans (hC.1.of_priv hW.size))) ?_
      iterate 2 refine dE (fun W' hC => E0.out) ?_
      iterate 3 refine gE (fun W' hC => E0.out) ?_
      apply nd_detg (c := undef) (hg := rfl) (hd := rfl) (hal := rfl)
      · intro v W' h
        exact h
      · intro hp hx
        cases hx
      apply nd_detg (c := undef) (hg := rfl) (hd := rfl) (hal := rfl)
      · intro v W' h
        exact h
      · intro hp hx
        cases hx
      apply nd_detg (c := undef) (hg := rfl) (hd := rfl) (hal := rfl)
      · intro v W' h
        exact h
      · intro hp hx
        cases hx
      apply nd_detg (c := undef) (hg := rfl) (hd := rfl) (hal := rfl)
      · intro v W' h
        exact h
      · intro hp hx
        cases hx
      apply nd_detg (c := undef) (hg := rfl) (hd := rfl) (hal := rfl)
      · intro v W' h
        exact h
      · intro hp hx
        cases hx
      apply nd_detg (c := undef) (hg := rfl) (hd := rfl) (hal := rfl)
      · intro v W' h
        exact h
      · intro hp hx
        cases hx
      apply nd_detg (c := undef) (hg := rfl) (hd := rfl) (hal := rfl)
      · intro v W' h
        exact h
      · intro hp hx
        cases hx
      apply nd_detg (c := undef) (hg := rfl) (hd := rfl) (hal := rfl)
      · intro v W' h
        exact h
      · intro hp hx
        cases hx
      apply nd_detg (c := undef) (hg := rfl) (hd := rfl) (hal := rfl)
      · intro v W' h
        exact h
      · intro hp hx
        cases hx
      apply nd_detg (c := undef) (hg := rfl) (hd := rfl) (hal := rfl)
      · intro v W' h
        exact h
      · intro hp hx
        cases hx
      apply nd_pickg_and (p := true) (x := false) (y := false) (ho := rfl) (hg := rfl) (hd := rfl)
      · intro v W' h
        simp [envOf, Det, GDet] at h
        simp
        exact h
      · intro _ hx v W' h
        simp [envOf, Det, GDet, hx] at h
        exact h
      · intro _ hx v W' h hy
        cases hy
      refine pO ?_
      clear hW hL b1 b2
      rintro W23 hW z24 hL
      simp only [ndR]
      intros
      repeat (rename GDet _ _ _ _ => hgd; clear hgd)
      simp only [ndS]
      refine wpList_nil ?_
      obtain ⟨⟨b1, yb1, k1, f1⟩, ⟨b2, yb2, k2, f2⟩, -⟩ := hL
      rw [hv.out]
      cases F with
      | false =>
        go_wp2
        go_ret
        exact ⟨by rw [hno.out (by trivial)]; rfl, hW0.trans (hW.mono hz)⟩
      | true =>
        go_wp2
        rw [show (i : Int) + 1 = ((i + 1 : Nat) : Int) by omega]
        refine ⟨?_, by simp [intAt]; omega⟩
        unfold rgtRel
        exact ⟨hW0.trans (hW.mono hz), b1, i + 1, frame_ex rfl, hst.out (by trivial), by omega⟩
    · obtain ⟨j, hj⟩ : ∃ j, i = j + 1 := ⟨i - 1, by omega⟩
      obtain ⟨n0, tn⟩ : ∃ x, rows[j]? = some x := ⟨rows[j]'(by omega), List.getElem?_eq_getElem (by omega)⟩
      obtain ⟨b9, o9, p1, c1, e9, h2, -, -⟩ := hR.at' j _ tn
      injection e9 with e9
      injection e9 with e91 e92 _
      subst e91
      subst e92
      have E0 := Lib.hid (show decide (0 < i) = true from decide_eq_true (by omega))
      have E1 := Lib.hid (show wrap64 ((i : Int) - 1) = (j : Int) by rw [wrap64_eq]; omega)
      have g1 : j < rows.length := by omega
      have hv := Lib.hid (show (!PB || !Op.bytesLess n0.name.toList r0.name.toList) = !F by rw [← hF, hj]; simp [okAtB, hPB, tn, Bool.not_and])
      unfold rawA at h2
      clear hps hpc hPB tr hi h0 h1 hj tn hF hnx
      have k1 := b1.cell
      have f1 := b1.frozen
      go_upto_region 4 with (fail)
      clear k1 f1
      refine wp_cutB W (Bc w.heap.size #[.slice (some ⟨b0, o0, none⟩) rows.length cap] 27 <| Bc W.heap.size #[.string r0.name, .int .i64 r0.eps, .int .i64 r0.floor, .int .i64 r0.last, .int .i64 r0.scale, .slice p0 r0.pts.length c0] 35 <| Rc (fun W' => CellsP W' b0 (o0 + j * 6) #[.string n0.name, .int .i64 n0.eps, .int .i64 n0.floor, .int .i64 n0.last, .int .i64 n0.scale, .slice p1 n0.pts.length c1]) <| Bz) ?_ (hI := by exact belowAny) (hR := (Bc.mk (by exact blkAny2) <| Bc.mk (by exact blkAny2) <| Rc.mk (by first | exact ⟨h2⟩ | (exact (CellsP.mk h2).below belowAny)) <| trivial))
      clear b1
      rintro W21 hW z22 hL
      obtain ⟨⟨b1, yb1, k1, f1⟩, ⟨b2, yb2, k2, f2⟩, b3, -⟩ := id hL
      clear k1 f1 k2 f2
      refine wp_regD 19 37 hW hL ?_
      refine dE (fun W' hC => aI E0.out (aI strGeq (aI hlt (aI (Nat.not_le.2 hlt) (aI E1.out (aI g1 (aI (Nat.not_le.2 g1) (hC.2.2.2.1.at' 0 _ rfl)))))))) ?_
      refine cE (fun W' hC => aI E0.out (aI strGeq (aI hlt (aI (Nat.not_le.2 hlt) (aI E1.out (aI g1 (aI (Nat.not_le.2 g1) (hC.2.2.2.1.at' 0 _ rfl)))))))) (fun W' hC => cP.out W' (hW.trans (hC.1.of_priv hW.size))) ?_
      iterate 2 refine dE (fun W' hC => aI E0.out (aI strGeq (aI hlt (aI (Nat.not_le.2 hlt) (aI E1.out (aI g1 (aI (Nat.not_le.2 g1) (hC.2.2.2.1.at' 0 _ rfl)))))))) ?_
      iterate 3 refine gE (fun W' hC => aI E0.out (aI strGeq (aI hlt (aI (Nat.not_le.2 hlt) (aI E1.out (aI g1 (aI (Nat.not_le.2 g1) (hC.2.2.2.1.at' 0 _ rfl)))))))) ?_
      iterate 10 refine gF (fun W' hC => aI E0.out (aI strGeq (aI hlt (aI (Nat.not_le.2 hlt) (aI E1.out (aI g1 (aI (Nat.not_le.2 g1) (hC.2.2.2.1.at' 0 _ rfl)))))))) ?_
      refine pgA ?_
      refine pO ?_
      clear hW hL b1 b2 b3
      rintro W23 hW z24 hL
      simp only [ndR]
      intros
      repeat (rename GDet _ _ _ _ => hgd; clear hgd)
      simp only [ndS]
      refine wpList_nil ?_
      obtain ⟨⟨b1, yb1, k1, f1⟩, ⟨b2, yb2, k2, f2⟩, b3, -⟩ := hL
      rw [hv.out]
      cases F with
      | false =>
        go_wp2
        go_ret
        exact ⟨by rw [hno.out (by trivial)]; rfl, hW0.trans (hW.mono hz)⟩
      | true =>
        go_wp2
        rw [show (i : Int) + 1 = ((i + 1 : Nat) : Int) by omega]
        refine ⟨?_, by simp [intAt]; omega⟩
        unfold rgtRel
        exact ⟨hW0.trans (hW.mono hz), b1, i + 1, frame_ex rfl, hst.out (by trivial), by omega⟩
  · obtain rfl : i = rows.length := by omega
    have hres := Lib.hid (show RES = decide (rows.length ≤ 8) by rw [← hRES.out, modelB, hi, Bool.true_and])
    clear hi hRES
    have k1 := b1.cell
    go_wp2
    go_ret
    exact ⟨by rw [hres.out, show decide ((rows.length : Int) ≤ 8) = decide (rows.length ≤ 8) by rw [Bool.eq_iff_iff]; simp; omega]; rfl, hW0⟩
end Go.Proofs.YtdeghcgakkhbmaaGreat
namespace Go.Proofs.YtdeghcgakkhbmaaGreat
open Go.RowKit
def ckRel (w : World) (p : Option Addr) (cap : Nat) (rows : List RawT) (a' : Act) (W : World) : Prop :=
  Below w.heap.size w W ∧ Blk W w.heap.size #[.slice p rows.length cap] 27 ∧ ∃ (i : Nat) (ok : Bool), (∃ u : Nat → Value, a' = { tmps := #[u 0, .pointer (some ⟨w.heap.size, 0, none⟩), .int .i64 0, .bool ok, u 4, u 5, u 6, u 7, u 8, u 9, u 10, .slice p rows.length cap, .int .i64 (rows.length : Int), .int .i64 (i : Int), u 14, u 15, u 16, u 17, u 18, u 19, u 20, u 21, u 22, u 23, u 24, u 25, u 26, u 27, u 28, u 29, u 30, u 31, u 32, u 33, u 34, u 35, u 36, u 37, u 38, u 39, u 40, u 41, u 42], defers := [] }) ∧ ok = (decide (rows.length ≤ 8) && okN rows i) ∧ i ≤ rows.length
set_option maxRecDepth 100000 in
set_option maxHeartbeats 2000000 in
theorem c_mdCheck (p : Option Addr) (cap : Nat) (rows : List RawT) (w : World) (h : RawsIn w p rows) (hfw : FewP rows) (hmx : rows.length ≤ 100) :
    Calls Tryz.prog 30 #[.agg #[.slice p rows.length cap]] w fun e w' => e = .returned (.int .i64 (if modelB rows = true then 0 else 380)) ∧ Below w.heap.size w w' := by
  obtain ⟨RES, hRES⟩ : ∃ x : Int, (if modelB rows = true then 0 else 380) = x := ⟨_, rfl⟩
  rw [hRES]
  replace hRES := Lib.hid hRES
  go_enter Tryz.func30, Tryz.ntmps30
  go_upto_region 1 with (fail)
  refine wp_cutB w (Bc w.heap.size #[.slice p rows.length cap] 27 <| Bz) ?_
  rintro W1 hW z2 ⟨⟨b1, yb1, k1, f1⟩, -⟩
  go_wp2
  clear k1 f1
  refine wp_loop (ckRel w p cap rows) (fun a' _ => rows.length - (intAt (a'.tmps.getD 13 undef)).toNat) ?_ ?_
  · unfold ckRel
    exact ⟨hW, b1, 0, _, frame_ex rfl, by rw [show decide ((rows.length : Int) ≤ 8) = decide (rows.length ≤ 8) by rw [Bool.eq_iff_iff]; simp; omega]; simp [okN], Nat.zero_le _⟩
  clear b1 hW
  rintro a' W ⟨hW0, b1, i, ok, ⟨u, rfl⟩, hi, hi'⟩
  have hz := hW0.size
  have yb1 := b1.lt
  rcases Nat.lt_or_ge i rows.length with hlt | hge
  · obtain ⟨r0, tr⟩ : ∃ x, rows[i]? = some x := ⟨rows[i]'(by omega), List.getElem?_eq_getElem (by omega)⟩
    have hR := h.below hW0
    obtain ⟨b0, o0, p0, c0, rfl, h1, hps, hpc⟩ := hR.at' i _ tr
    have hf1 := hfw i _ tr
    have hnx := okN_next tr
    have cP := fun W' (hW' : Below W.heap.size W W') => c_mdCheckRaw r0 p0 c0 W' (hps.below hW') hf1
    obtain ⟨PB, hPB⟩ : ∃ B, rawB r0 = B := ⟨_, rfl⟩
    rw [hPB] at cP
    obtain ⟨EV, hEV⟩ : ∃ B : Int, (if PB = true then 0 else 380) = B := ⟨_, rfl⟩
    rw [hEV] at cP
    have hE9 : PB = (EV == 0) := by rw [← hEV]; cases PB <;> rfl
    unfold rawA at cP h1
    replace cP := Lib.hid cP
    have s0 := h1 0 _ rfl
    have s1 := h1 1 _ rfl
    have s2 := h1 2 _ rfl
    have s3 := h1 3 _ rfl
    have s4 := h1 4 _ rfl
    have s5 := h1 5 _ rfl
    simp only [Nat.add_zero] at s0
    by_cases h0 : i = 0
    · have E0 := Lib.hid (show ((i : Int) == 0) = true by rw [h0]; rfl)
      have F0 := Lib.hid (show decide (i = 0) = true from decide_eq_true h0)
      have hv := Lib.hid (show ((ok && EV == 0) && true) = (decide (rows.length ≤ 8) && okN rows (i + 1)) by rw [hnx, hi, ← hE9, h0]; simp [okAtB, hPB, Bool.and_assoc])
      clear hps hpc hPB tr hi h0 h1 hnx hEV hE9
      have k1 := b1.cell
      have f1 := b1.frozen
      go_upto_region 5 with (fail)
      clear k1 f1
      refine wp_cutB W (Bc w.heap.size #[.slice (some ⟨b0, o0, none⟩) rows.length cap] 27 <| Bc W.heap.size #[.string r0.name, .int .i64 r0.eps, .int .i64 r0.floor, .int .i64 r0.last, .int .i64 r0.scale, .slice p0 r0.pts.length c0] 35 <| Bz) ?_
      clear b1
      rintro W21 hW z22 hL
      obtain ⟨⟨b1, yb1, k1, f1⟩, ⟨b2, yb2, k2, f2⟩, -⟩ := id hL
      clear k1 f1 k2 f2
      refine wp_regD 23 43 hW hL ?_
      iterate 2 refine dE (fun W' hC => aI E0.out F0.out) ?_
      refine gE (fun W' hC => aI E0.out F0.out) ?_
      apply nd_callvg2 (p := true) (hg := rfl) (hd := rfl) (hal := rfl)
      · intro v W' h
        simp [envOf, Det] at h
        simp
        exact h
      · intro hp hx W' hC
        exact cP.out W' (hW.trans (hC.1.of_priv hW.size))
      · intro hp hx a W' hC hE
        obtain ⟨_, ⟨-, -, k1, -⟩, ⟨-, -, k2, -⟩, -⟩ := hC
        first
          | (simp [Oper.looksAt, Op.operands, Call.operands, envOf, Det, GDet, hx] at hE; simp [go_sem, Act.eval, IntWalk.i64_left, hE, k1, k2, E0.out, F0.out]; try rfl)
          | (clear hE; simp [go_sem, Act.eval, IntWalk.i64_left, k1, k2, E0.out, F0.out]; try rfl)
      refine gE (fun W' hC => aI E0.out F0.out) ?_
      refine pA ?_
      refine dE (fun W' hC => aI E0.out F0.out) ?_
      iterate 3 refine gE (fun W' hC => aI E0.out F0.out) ?_
      apply nd_detg (c := undef) (hg := rfl) (hd := rfl) (hal := rfl)
      · intro v W' h
        exact h
      · intro hp hx
        cases hx
      apply nd_detg (c := undef) (hg := rfl) (hd := rfl) (hal := rfl)
      · intro v W' h
        exact h
      · intro hp hx
        cases hx
      apply nd_detg (c := undef) (hg := rfl) (hd := rfl) (hal := rfl)
      · intro v W' h
        exact h
      · intro hp hx
        cases hx
      apply nd_detg (c := undef) (hg := rfl) (hd := rfl) (hal := rfl)
      · intro v W' h
        exact h
      · intro hp hx
        cases hx
      apply nd_detg (c := undef) (hg := rfl) (hd := rfl) (hal := rfl)
      · intro v W' h
        exact h
      · intro hp hx
        cases hx
      apply nd_detg (c := undef) (hg := rfl) (hd := rfl) (hal := rfl)
      · intro v W' h
        exact h
      · intro hp hx
        cases hx
      apply nd_detg (c := undef) (hg := rfl) (hd := rfl) (hal := rfl)
      · intro v W' h
        exact h
      · intro hp hx
        cases hx
      apply nd_detg (c := undef) (hg := rfl) (hd := rfl) (hal := rfl)
      · intro v W' h
        exact h
      · intro hp hx
        cases hx
      apply nd_detg (c := undef) (hg := rfl) (hd := rfl) (hal := rfl)
      · intro v W' h
        exact h
      · intro hp hx
        cases hx
      apply nd_detg (c := undef) (hg := rfl) (hd := rfl) (hal := rfl)
      · intro v W' h
        exact h
      · intro hp hx
        cases hx
      apply nd_pickg_or (p := true) (x := true) (y := false) (ho := rfl) (hg := rfl) (hd := rfl)
      · intro v W' h
        simp [envOf, Det, GDet] at h
        simp
        exact h
      · intro _ hx v W' h
        simp [envOf, Det, GDet, hx] at h
        exact h
      · intro _ hx v W' h hy
        cases hy
      refine pA ?_
      refine dE (fun W' hC => aI E0.out F0.out) ?_
      clear hW hL b1 b2
      rintro W23 hW z24 hL
      simp only [ndR]
      intros
      repeat (rename GDet _ _ _ _ => hgd; clear hgd)
      simp only [ndS]
      refine wpList_nil ?_
      obtain ⟨⟨b1, yb1, k1, f1⟩, ⟨b2, yb2, k2, f2⟩, -⟩ := hL
      go_wp2
      rw [show (i : Int) + 1 = ((i + 1 : Nat) : Int) by omega]
      refine ⟨?_, by simp [intAt]; omega⟩
      unfold ckRel
      exact ⟨hW0.trans (hW.mono hz), b1, i + 1, _, frame_ex rfl, (by first | exact hv.out | (rw [← hv.out, Bool.and_true])), by omega⟩
    · obtain ⟨j, hj⟩ : ∃ j, i = j + 1 := ⟨i - 1, by omega⟩
      obtain ⟨n0, tn⟩ : ∃ x, rows[j]? = some x := ⟨rows[j]'(by omega), List.getElem?_eq_getElem (by omega)⟩
      obtain ⟨b9, o9, p1, c1, e9, h2, -, -⟩ := hR.at' j _ tn
      injection e9 with e9
      injection e9 with e91 e92 _
      subst e91
      subst e92
      have E0 := Lib.hid (show ((i : Int) == 0) = false by rw [beq_eq_false_iff_ne]; omega)
      have F0 := Lib.hid (show decide (i = 0) = false from decide_eq_false h0)
      have E1 := Lib.hid (show wrap64 ((i : Int) - 1) = (j : Int) by rw [wrap64_eq]; omega)
      have g1 : j < rows.length := by omega
      have hv := Lib.hid (show ((ok && EV == 0) && Op.bytesLess n0.name.toList r0.name.toList) = (decide (rows.length ≤ 8) && okN rows (i + 1)) by rw [hnx, hi, ← hE9, hj]; simp [okAtB, hPB, tn, Bool.and_assoc])
      unfold rawA at h2
      clear hps hpc hPB tr hi h0 h1 hj tn hnx hEV hE9
      have k1 := b1.cell
      have f1 := b1.frozen
      go_upto_region 5 with (fail)
      clear k1 f1
      refine wp_cutB W (Bc w.heap.size #[.slice (some ⟨b0, o0, none⟩) rows.length cap] 27 <| Bc W.heap.size #[.string r0.name, .int .i64 r0.eps, .int .i64 r0.floor, .int .i64 r0.last, .int .i64 r0.scale, .slice p0 r0.pts.length c0] 35 <| Rc (fun W' => CellsP W' b0 (o0 + j * 6) #[.string n0.name, .int .i64 n0.eps, .int .i64 n0.floor, .int .i64 n0.last, .int .i64 n0.scale, .slice p1 n0.pts.length c1]) <| Bz) ?_ (hI := by exact belowAny) (hR := (Bc.mk (by exact blkAny2) <| Bc.mk (by exact blkAny2) <| Rc.mk (by first | exact ⟨h2⟩ | (exact (CellsP.mk h2).below belowAny)) <| trivial))
      clear b1
      rintro W21 hW z22 hL
      obtain ⟨⟨b1, yb1, k1, f1⟩, ⟨b2, yb2, k2, f2⟩, b3, -⟩ := id hL
      clear k1 f1 k2 f2
      refine wp_regD 23 43 hW hL ?_
      iterate 2 refine dE (fun W' hC => aI E0.out (aI F0.out (aI hlt (aI (Nat.not_le.2 hlt) (aI E1.out (aI g1 (aI (Nat.not_le.2 g1) (hC.2.2.2.1.at' 0 _ rfl)))))))) ?_
      refine gE (fun W' hC => aI E0.out (aI F0.out (aI hlt (aI (Nat.not_le.2 hlt) (aI E1.out (aI g1 (aI (Nat.not_le.2 g1) (hC.2.2.2.1.at' 0 _ rfl)))))))) ?_
      apply nd_callvg2 (p := true) (hg := rfl) (hd := rfl) (hal := rfl)
      · intro v W' h
        simp [envOf, Det] at h
        simp
        exact h
      · intro hp hx W' hC
        exact cP.out W' (hW.trans (hC.1.of_priv hW.size))
      · intro hp hx a W' hC hE
        obtain ⟨_, ⟨-, -, k1, -⟩, ⟨-, -, k2, -⟩, k3, -⟩ := hC
        have t0 := k3.at' 0 _ rfl; simp only [Nat.add_zero] at t0
        first
          | (simp [Oper.looksAt, Op.operands, Call.operands, envOf, Det, GDet, hx] at hE; simp [go_sem, Act.eval, IntWalk.i64_left, hE, k1, k2, k3, E0.out, F0.out, hlt, Nat.not_le.2 hlt, E1.out, g1, Nat.not_le.2 g1, t0]; try rfl)
          | (clear hE; simp [go_sem, Act.eval, IntWalk.i64_left, k1, k2, k3, E0.out, F0.out, hlt, Nat.not_le.2 hlt, E1.out, g1, Nat.not_le.2 g1, t0]; try rfl)
      refine gE (fun W' hC => aI E0.out (aI F0.out (aI hlt (aI (Nat.not_le.2 hlt) (aI E1.out (aI g1 (aI (Nat.not_le.2 g1) (hC.2.2.2.1.at' 0 _ rfl)))))))) ?_
      refine pA ?_
      refine dE (fun W' hC => aI E0.out (aI F0.out (aI hlt (aI (Nat.not_le.2 hlt) (aI E1.out (aI g1 (aI (Nat.not_le.2 g1) (hC.2.2.2.1.at' 0 _ rfl)))))))) ?_
      iterate 3 refine gE (fun W' hC => aI E0.out (aI F0.out (aI hlt (aI (Nat.not_le.2 hlt) (aI E1.out (aI g1 (aI (Nat.not_le.2 g1) (hC.2.2.2.1.at' 0 _ rfl)))))))) ?_
      iterate 10 refine gF (fun W' hC => aI E0.out (aI F0.out (aI hlt (aI (Nat.not_le.2 hlt) (aI E1.out (aI g1 (aI (Nat.not_le.2 g1) (hC.2.2.2.1.at' 0 _ rfl)))))))) ?_
      refine pgO ?_
      refine pA ?_
      refine dE (fun W' hC => aI E0.out (aI F0.out (aI hlt (aI (Nat.not_le.2 hlt) (aI E1.out (aI g1 (aI (Nat.not_le.2 g1) (hC.2.2.2.1.at' 0 _ rfl)))))))) ?_
      clear hW hL b1 b2 b3
      rintro W23 hW z24 hL
      simp only [ndR]
      intros
      repeat (rename GDet _ _ _ _ => hgd; clear hgd)
      simp only [ndS]
      refine wpList_nil ?_
      obtain ⟨⟨b1, yb1, k1, f1⟩, ⟨b2, yb2, k2, f2⟩, b3, -⟩ := hL
      go_wp2
      rw [show (i : Int) + 1 = ((i + 1 : Nat) : Int) by omega]
      refine ⟨?_, by simp [intAt]; omega⟩
      unfold ckRel
      exact ⟨hW0.trans (hW.mono hz), b1, i + 1, _, frame_ex rfl, (by first | exact hv.out | (rw [← hv.out, Bool.and_true])), by omega⟩
  · obtain rfl : i = rows.length := by omega
    have hres := Lib.hid (show RES = if ok = true then 0 else 380 by rw [← hRES.out, modelB, hi, Bool.and_comm])
    clear hi hRES
    cases ok with
    | true =>
      go_wp2
      go_ret
      exact ⟨by rw [hres.out]; rfl, hW0⟩
    | false =>
      go_wp2
      go_ret
      exact ⟨by rw [hres.out]; rfl, hW0⟩
end Go.Proofs.YtdeghcgakkhbmaaGreat
namespace Go.Proofs.YtdeghcgakkhbmaaGreat
open Go.RowKit
theorem blt_eq : ∀ (x y : List UInt8), Op.bytesLess x y = decide (x < y)
  | [], [] => by simp [Op.bytesLess]
  | _ :: _, [] => by simp [Op.bytesLess]
  | [], _ :: _ => by simp [Op.bytesLess]
  | a :: x, b :: y => by
    rw [Op.bytesLess, blt_eq x y]
    simp only [List.cons_lt_cons_iff]
    by_cases h1 : a < b <;> by_cases h2 : a = b <;> by_cases h3 : x < y <;> simp [h1, h2, h3]
theorem blt_trans {x y z : List UInt8} (h : Op.bytesLess x y = true) (h' : Op.bytesLess y z = true) : Op.bytesLess x z = true := by
  rw [blt_eq, decide_eq_true_eq] at h h' ⊢
  exact List.lt_trans h h'
theorem blt_irrefl (x : List UInt8) : Op.bytesLess x x = false := by
  rw [blt_eq, decide_eq_false_iff_not]
  exact List.lt_irrefl x
theorem blt_or {x y : List UInt8} (h : Op.bytesLess x y = false) (h' : (x == y) = false) : Op.bytesLess y x = true := by
  rw [blt_eq, decide_eq_false_iff_not] at h
  rw [blt_eq, decide_eq_true_eq]
  have hne : x ≠ y := by simpa using h'
  exact Classical.byContradiction fun hc => hne (List.le_antisymm (List.not_lt.1 hc) (List.not_lt.1 h))
/-- what the layer's comparison of names says -/
def cmpN (a b : ByteArray) : Int := if Op.bytesLess a.toList b.toList then -1 else if a.toList == b.toList then 0 else 1
theorem cmpN_neg (a b : ByteArray) : decide (cmpN a b < 0) = Op.bytesLess a.toList b.toList := by
  unfold cmpN
  cases Op.bytesLess a.toList b.toList <;> cases (a.toList == b.toList) <;> rfl
theorem cmpN_zero (a b : ByteArray) (h : Op.bytesLess a.toList b.toList = false) : (cmpN a b == 0) = (a.toList == b.toList) := by
  unfold cmpN
  rw [h]
  cases (a.toList == b.toList) <;> rfl
set_option maxRecDepth 100000 in
set_option maxHeartbeats 2000000 in
theorem c_mdCmp (r : RawT) (p : Option Addr) (cap : Nat) (nm : ByteArray) (w : World) : Calls Tryz.prog 120 #[.agg (rawA r p cap), .string nm] w fun e w' => e = .returned (.int .i64 (cmpN r.name nm)) ∧ Below w.heap.size w w' := by
  unfold rawA
  obtain ⟨RES, hRES⟩ : ∃ x, cmpN r.name nm = x := ⟨_, rfl⟩
  rw [hRES]
  replace hRES := Lib.hid hRES
  go_enter Tryz.func120, Tryz.ntmps120
  go_upto_region 1 with (fail)
  refine wp_cutB w (Bc w.heap.size #[.string r.name, .int .i64 r.eps, .int .i64 r.floor, .int .i64 r.last, .int .i64 r.scale, .slice p r.pts.length cap] 35 <| Bz) ?_
  rintro W1 hW z2 ⟨⟨b1, yb1, k1, f1⟩, -⟩
  cases hA : Op.bytesLess r.name.toList nm.toList with
  | true =>
    have hv := Lib.hid (show RES = -1 by rw [← hRES.out, cmpN, hA]; rfl)
    go_wp2
    go_ret
    exact ⟨by rw [hv.out]; rfl, by exact belowAny⟩
  | false =>
    cases hB : (r.name.toList == nm.toList) with
    | true =>
      have hv := Lib.hid (show RES = 0 by rw [← hRES.out, cmpN, hA, hB]; rfl)
      go_wp2
      go_ret
      exact ⟨by rw [hv.out]; rfl, by exact belowAny⟩
    | false =>
      have hv := Lib.hid (show RES = 1 by rw [← hRES.out, cmpN, hA, hB]; rfl)
      go_wp2
      go_ret
      exact ⟨by rw [hv.out]; rfl, by exact belowAny⟩
/-- The names of a model's raw series go up. -/
def SortedN (rows : List RawT) : Prop := ∀ (k l : Nat) a b, k < l → rows[k]? = some a → rows[l]? = some b → Op.bytesLess a.name.toList b.name.toList = true
theorem okN_adj {rows : List RawT} : ∀ {n : Nat}, okN rows n = true → ∀ (j : Nat) a b, j + 1 < n → rows[j]? = some a → rows[j + 1]? = some b → Op.bytesLess a.name.toList b.name.toList = true
  | 0, _, j, _, _, hj, _, _ => by omega
  | n + 1, h, j, a, b, hj, ha, hb => by
    rcases Nat.lt_or_ge (j + 1) n with h1 | h1
    · simp only [okN, Bool.and_eq_true] at h
      exact okN_adj h.1 j a b h1 ha hb
    · obtain rfl : n = j + 1 := by omega
      rw [okN_next hb, Bool.and_eq_true] at h
      have h2 := h.2
      simp only [okAtB, ha, Bool.and_eq_true] at h2
      exact h2.2
theorem okN_sorted {rows : List RawT} (h : okN rows rows.length = true) : SortedN rows := fun k l a b hkl ha hb => by
  obtain ⟨d, rfl⟩ : ∃ d, l = k + 1 + d := ⟨l - (k + 1), by omega⟩
  clear hkl
  induction d generalizing b with
  | zero => exact okN_adj h k a b (List.getElem?_eq_some_iff.1 hb).1 ha hb
  | succ d ih =>
    have hl := (List.getElem?_eq_some_iff.1 hb).1
    have hc : rows[k + 1 + d]? = some (rows[k + 1 + d]'(by omega)) := List.getElem?_eq_getElem (by omega)
    exact blt_trans (ih _ hc) (okN_adj h (k + 1 + d) _ b (by omega) hc hb)
/-- Where a name stands, or would. -/
structure PosAt (rows : List RawT) (nm : ByteArray) (i : Nat) : Prop where
  le : i ≤ rows.length
  lo : ∀ (k : Nat) r, k < i → rows[k]? = some r → Op.bytesLess r.name.toList nm.toList = true
  hi : ∀ (k : Nat) r, i ≤ k → rows[k]? = some r → Op.bytesLess r.name.toList nm.toList = false
def foundB (rows : List RawT) (nm : ByteArray) (i : Nat) : Bool := match rows[i]? with
  | some r => r.name.toList == nm.toList
  | none => false
theorem lo_more {rows : List RawT} {nm : ByteArray} {m : Nat} {r : RawT} (hs : SortedN rows) (hr : rows[m]? = some r) (h : Op.bytesLess r.name.toList nm.toList = true) : ∀ (k : Nat) q, k < m + 1 → rows[k]? = some q → Op.bytesLess q.name.toList nm.toList = true := fun k q hk hq => by
  rcases Nat.lt_or_ge k m with h1 | h1
  · exact blt_trans (hs k m q r h1 hq hr) h
  · obtain rfl : k = m := by omega
    rw [hr] at hq
    obtain rfl := Option.some.inj hq
    exact h
theorem hi_more {rows : List RawT} {nm : ByteArray} {m : Nat} {r : RawT} (hs : SortedN rows) (hr : rows[m]? = some r) (h : Op.bytesLess r.name.toList nm.toList = false) : ∀ (k : Nat) q, m ≤ k → rows[k]? = some q → Op.bytesLess q.name.toList nm.toList = false := fun k q hk hq => by
  rcases Nat.lt_or_ge m k with h1 | h1
  · cases hc : Op.bytesLess q.name.toList nm.toList with
    | false => rfl
    | true => rw [blt_trans (hs m k r q h1 hr hq) hc] at h; cases h
  · obtain rfl : k = m := by omega
    rw [hr] at hq
    obtain rfl := Option.some.inj hq
    exact h
theorem pos_found {rows : List RawT} {nm : ByteArray} {i : Nat} (hs : SortedN rows) (h : PosAt rows nm i) (hf : foundB rows nm i = true) : atR rows nm = (i : Int) := by
  unfold foundB at hf
  cases hr : rows[i]? with
  | none => rw [hr] at hf; cases hf
  | some r =>
    rw [hr] at hf
    refine atR_here (fun k q hk hq => ?_) hr hf
    cases hc : (q.name.toList == nm.toList) with
    | false => rfl
    | true =>
      have h1 := h.lo k q hk hq
      rw [beq_iff_eq.1 hc, blt_irrefl] at h1
      cases h1
theorem pos_none {rows : List RawT} {nm : ByteArray} {i : Nat} (hs : SortedN rows) (h : PosAt rows nm i) (hf : foundB rows nm i = false) : atR rows nm = -1 := by
  refine atR_none (i := rows.length) (fun k q hk hq => ?_) (Nat.le_refl _)
  cases hc : (q.name.toList == nm.toList) with
  | false => rfl
  | true =>
    have hc' := beq_iff_eq.1 hc
    rcases Nat.lt_or_ge k i with h1 | h1
    · have h2 := h.lo k q h1 hq
      rw [hc', blt_irrefl] at h2
      cases h2
    · rcases Nat.lt_or_ge i k with h2 | h2
      · have hi : rows[i]? = some (rows[i]'(by omega)) := List.getElem?_eq_getElem (by omega)
        have h3 := h.hi i _ (Nat.le_refl _) hi
        have h4 := hs i k _ q h2 hi hq
        rw [hc', h3] at h4
        cases h4
      · obtain rfl : k = i := by omega
        unfold foundB at hf
        rw [hq] at hf
        exact absurd (hc.symm.trans hf) (by decide)
def bsRel (w : World) (p : Option Addr) (cap : Nat) (rows : List RawT) (nm : ByteArray) (a' : Act) (W : World) : Prop :=
  Below w.heap.size w W ∧ ∃ i j : Nat, (∃ u : Nat → Value, a' = { tmps := #[.slice p rows.length cap, .string nm, .func (.func 120) #[] #[], u 3, u 4, u 5, u 6, u 7, .int .i64 (rows.length : Int), .int .i64 (i : Int), .int .i64 (j : Int), u 11, u 12, u 13, u 14, u 15, u 16, u 17, u 18, u 19, u 20, u 21, u 22, u 23, u 24, u 25, u 26, u 27, u 28, u 29, u 30, u 31, u 32, u 33, u 34, u 35, u 36, u 37, u 38, u 39, u 40, u 41, u 42, u 43, u 44, u 45, u 46, u 47, u 48], defers := [] }) ∧ i ≤ j ∧ j ≤ rows.length ∧ (∀ (k : Nat) r, k < i → rows[k]? = some r → Op.bytesLess r.name.toList nm.toList = true) ∧ (∀ (k : Nat) r, j ≤ k → rows[k]? = some r → Op.bytesLess r.name.toList nm.toList = false)
set_option maxRecDepth 100000 in
set_option maxHeartbeats 2000000 in
theorem c_mdBin (p : Option Addr) (cap : Nat) (rows : List RawT) (nm : ByteArray) (w : World) (h : RawsIn w p rows) (hmx : rows.length ≤ 100) (hs : SortedN rows) :
    Calls Tryz.prog 119 #[.slice p rows.length cap, .string nm, .func (.func 120) #[] #[]] w fun e w' => ∃ i : Nat, e = .returned (.tuple #[.int .i64 (i : Int), .bool (foundB rows nm i)]) ∧ PosAt rows nm i ∧ Below w.heap.size w w' := by
  go_enter Tryz.func119, Tryz.ntmps119
  go_wp2
  refine wp_loop (bsRel w p cap rows nm) (fun a' _ => (intAt (a'.tmps.getD 10 undef)).toNat - (intAt (a'.tmps.getD 9 undef)).toNat) ?_ ?_
  · unfold bsRel
    exact ⟨Below.refl _ _, 0, rows.length, frame_ex rfl, Nat.zero_le _, Nat.le_refl _, fun k r hk => by omega, fun k r hk hr => by have := (List.getElem?_eq_some_iff.1 hr).1; omega⟩
  rintro a' W ⟨hW0, i, j, ⟨u, rfl⟩, hij, hj, hlo, hhi⟩
  have hz := hW0.size
  have hR := h.below hW0
  replace hlo := Lib.hid hlo
  replace hhi := Lib.hid hhi
  rcases Nat.lt_or_ge i j with hlt | hge
  · obtain ⟨r0, tr⟩ : ∃ x, rows[(i + j) / 2]? = some x := ⟨rows[(i + j) / 2]'(by omega), List.getElem?_eq_getElem (by omega)⟩
    obtain ⟨b0, o0, p0, c0, rfl, h1, hps, hpc⟩ := hR.at' _ _ tr
    have cP := fun W' (hW' : Below W.heap.size W W') => c_mdCmp r0 p0 c0 nm W'
    unfold rawA at cP h1
    obtain ⟨CV, hCV⟩ : ∃ B : Int, cmpN r0.name nm = B := ⟨_, rfl⟩
    have hneg := cmpN_neg r0.name nm
    rw [hCV] at cP hneg
    have c1 := Lib.hid cP
    clear cP hR hCV
    have s0 := h1 0 _ rfl
    have s1 := h1 1 _ rfl
    have s2 := h1 2 _ rfl
    have s3 := h1 3 _ rfl
    have s4 := h1 4 _ rfl
    have s5 := h1 5 _ rfl
    simp only [Nat.add_zero] at s0
    have g1 : (i + j) / 2 < rows.length := by omega
    cases hB : Op.bytesLess r0.name.toList nm.toList with
    | true =>
      have hn : CV < 0 := by rw [hB] at hneg; exact of_decide_eq_true hneg
      have hlo' := Lib.hid (lo_more hs tr hB)
      replace tr := Lib.hid tr
      clear hneg hB hlo
      go_wp2_with fail
      refine (c1.out _ (by first | exact Below.refl _ _ | exact belowAny)).mono ?_
      rintro e w21 ⟨rfl, hb21⟩
      have z22 := hb21.size
      try simp at z22
      refine haveB W w21 (Bz) ?_
      rintro hW z23 ⟨-⟩
      clear hb21
      go_wp2
      rw [show ((i : Int) + (j : Int)) / 2 + 1 = (((i + j) / 2 + 1 : Nat) : Int) by omega]
      refine ⟨?_, by simp [intAt]; omega⟩
      unfold bsRel
      exact ⟨hW0.trans (hW.mono hz), (i + j) / 2 + 1, j, frame_ex rfl, by omega, hj, hlo'.out, hhi.out⟩
    | false =>
      have hn : ¬ CV < 0 := by rw [hB] at hneg; exact of_decide_eq_false hneg
      have hhi' := Lib.hid (hi_more hs tr hB)
      replace tr := Lib.hid tr
      clear hneg hB hhi
      go_wp2_with fail
      refine (c1.out _ (by first | exact Below.refl _ _ | exact belowAny)).mono ?_
      rintro e w21 ⟨rfl, hb21⟩
      have z22 := hb21.size
      try simp at z22
      refine haveB W w21 (Bz) ?_
      rintro hW z23 ⟨-⟩
      clear hb21
      go_wp2
      rw [show ((i : Int) + (j : Int)) / 2 = (((i + j) / 2 : Nat) : Int) by omega]
      refine ⟨?_, by simp [intAt]; omega⟩
      unfold bsRel
      exact ⟨hW0.trans (hW.mono hz), i, (i + j) / 2, frame_ex rfl, by omega, by omega, hlo.out, hhi'.out⟩
  · obtain rfl : i = j := by omega
    have hpos : PosAt rows nm i := ⟨hj, hlo.out, hhi.out⟩
    rcases Nat.lt_or_ge i rows.length with hlt | hge2
    · obtain ⟨r0, tr⟩ : ∃ x, rows[i]? = some x := ⟨rows[i]'(by omega), List.getElem?_eq_getElem (by omega)⟩
      obtain ⟨b0, o0, p0, c0, rfl, h1, hps, hpc⟩ := hR.at' _ _ tr
      have cP := fun W' (hW' : Below W.heap.size W W') => c_mdCmp r0 p0 c0 nm W'
      unfold rawA at cP h1
      obtain ⟨CV, hCV⟩ : ∃ B : Int, cmpN r0.name nm = B := ⟨_, rfl⟩
      have hfd : foundB rows nm i = (CV == 0) := by
        rw [← hCV, cmpN_zero _ _ (hhi.out i r0 (Nat.le_refl _) tr)]
        simp [foundB, tr]
      rw [hCV] at cP
      have c1 := Lib.hid cP
      replace hfd := Lib.hid hfd
      replace hpos := Lib.hid hpos
      clear cP hR hCV tr hlo hhi
      have s0 := h1 0 _ rfl
      have s1 := h1 1 _ rfl
      have s2 := h1 2 _ rfl
      have s3 := h1 3 _ rfl
      have s4 := h1 4 _ rfl
      have s5 := h1 5 _ rfl
      simp only [Nat.add_zero] at s0
      go_wp2_with fail
      refine (c1.out _ (by first | exact Below.refl _ _ | exact belowAny)).mono ?_
      rintro e w21 ⟨rfl, hb21⟩
      have z22 := hb21.size
      try simp at z22
      refine haveB W w21 (Bz) ?_
      rintro hW z23 ⟨-⟩
      clear hb21
      go_wp2
      refine bodyPost_ret (v := .tuple #[.int .i64 (i : Int), .bool (CV == 0)]) (by simp [results, Tryz.results119, go_sem]) rfl ⟨i, by rw [hfd.out], hpos.out, hW0.trans (hW.mono hz)⟩
    · have hfd := Lib.hid (show foundB rows nm i = false by rw [foundB, List.getElem?_eq_none (by omega)])
      replace hpos := Lib.hid hpos
      clear hlo hhi
      go_wp2
      refine bodyPost_ret (v := .tuple #[.int .i64 (i : Int), .bool false]) (by simp [results, Tryz.results119, go_sem]) rfl ⟨i, by rw [hfd.out], hpos.out, hW0⟩
end Go.Proofs.YtdeghcgakkhbmaaGreat
namespace Go.Proofs.YtdeghcgakkhbmaaGreat
open Go.RowKit
theorem flatRaws_of : ∀ (l : List RawR) (j : Nat) (v : Value), (flatRaws l)[j]? = some v → ∃ i x k, l[i]? = some x ∧ (rawRA x)[k]? = some v ∧ j = i * 6 + k
  | [], j, v, h => by simp [flatRaws] at h
  | y :: l, j, v, h => by
    have e : flatRaws (y :: l) = (rawRA y).toList ++ flatRaws l := rfl
    rw [e] at h
    rcases Nat.lt_or_ge j 6 with h1 | h1
    · rw [List.getElem?_append_left (by rw [rawRA_len]; exact h1), Array.getElem?_toList] at h
      exact ⟨0, y, j, rfl, h, by omega⟩
    · rw [List.getElem?_append_right (by rw [rawRA_len]; exact h1), rawRA_len] at h
      obtain ⟨i, x, k, h2, h3, h4⟩ := flatRaws_of l (j - 6) v h
      exact ⟨i + 1, x, k, by simpa using h2, h3, by omega⟩
theorem flatRaws_one (l : List RawR) : ∀ v ∈ flatRaws l, v.oneCell' = true := fun v hv => by
  obtain ⟨j, hj⟩ := List.getElem?_of_mem hv
  obtain ⟨i, x, k, -, h, -⟩ := flatRaws_of l j v hj
  have hk : k < 6 := (Array.getElem?_eq_some_iff.1 h).1
  have hc : k = 0 ∨ k = 1 ∨ k = 2 ∨ k = 3 ∨ k = 4 ∨ k = 5 := by omega
  rcases hc with rfl | rfl | rfl | rfl | rfl | rfl <;> (injection h with h; subst h; rfl)
theorem flatRaws_set : ∀ (l : List RawR) (i : Nat) (r : RawT) (p p' : Option Addr) (c c' : Nat), l[i]? = some ⟨r, p, c⟩ → (flatRaws l).set (i * 6 + 5) (.slice p' r.pts.length c') = flatRaws (l.set i ⟨r, p', c'⟩)
  | [], i, r, p, p', c, c', h => by simp at h
  | y :: l, 0, r, p, p', c, c', h => by
    have e : y = ⟨r, p, c⟩ := by simpa using h
    subst e
    rfl
  | y :: l, i + 1, r, p, p', c, c', h => by
    have ih := flatRaws_set l i r p p' c c' (by simpa using h)
    show ((rawRA y).toList ++ flatRaws l).set ((i + 1) * 6 + 5) _ = (rawRA y).toList ++ flatRaws (l.set i ⟨r, p', c'⟩)
    rw [List.set_append_right _ _ (by rw [rawRA_len]; omega), rawRA_len, show (i + 1) * 6 + 5 - 6 = i * 6 + 5 by omega, ih]
/-- Raw series of a row, each with the place of its points. -/
theorem RawsIn.list {w : World} {ad : Addr} {rows : List RawT} (h : RawsIn w (some ad) rows) : ∃ RL : List RawR, RL.map (·.r) = rows ∧ (∀ j v, (flatRaws RL)[j]? = some v → w.cell? (ad.add j) = some v) ∧ ∀ x ∈ RL, PtsIn w x.p x.r.pts ∧ x.r.pts.length ≤ x.cap ∧ (x.p = none → x.cap = 0) := by
  have key : ∀ n, n ≤ rows.length → ∃ RL : List RawR, RL.map (·.r) = rows.take n ∧ (∀ j v, (flatRaws RL)[j]? = some v → w.cell? (ad.add j) = some v) ∧ ∀ x ∈ RL, PtsIn w x.p x.r.pts ∧ x.r.pts.length ≤ x.cap ∧ (x.p = none → x.cap = 0) := by
    intro n
    induction n with
    | zero => exact fun _ => ⟨[], by simp, fun j v hj => by simp [flatRaws] at hj, fun x hx => by cases hx⟩
    | succ n ih =>
      intro hn
      obtain ⟨RL, h1, h2, h3⟩ := ih (by omega)
      have hr : rows[n]? = some (rows[n]'(by omega)) := List.getElem?_eq_getElem (by omega)
      obtain ⟨b, o, p', cap', e, hc, hp⟩ := h.at' n _ hr
      injection e with e
      subst e
      have hl : RL.length = n := by
        have := congrArg List.length h1
        rw [List.length_map, List.length_take] at this
        omega
      refine ⟨RL ++ [⟨rows[n]'(by omega), p', cap'⟩], ?_, fun j v hj => ?_, fun x hx => ?_⟩
      · rw [List.map_append, h1, List.take_add_one, hr]; rfl
      · rw [flatRaws_snoc] at hj
        rcases Nat.lt_or_ge j (flatRaws RL).length with h4 | h4
        · rw [List.getElem?_append_left h4] at hj
          exact h2 j v hj
        · rw [List.getElem?_append_right h4, flatRaws_len, hl] at hj
          rw [flatRaws_len, hl] at h4
          have hadd : (⟨b, o, none⟩ : Addr).add j = ⟨b, o + j, none⟩ := by unfold Addr.add; split <;> simp_all
          have h5 := hc (j - n * 6) v (by rw [Array.getElem?_toList] at hj; exact hj)
          rw [hadd, show o + j = o + n * 6 + (j - n * 6) by omega]
          exact h5
      · rcases List.mem_append.1 hx with h4 | h4
        · exact h3 x h4
        · rw [List.mem_singleton.1 h4]
          exact hp
  obtain ⟨RL, h1, h2, h3⟩ := key rows.length (Nat.le_refl _)
  exact ⟨RL, by rw [h1, List.take_length], h2, h3⟩
/-- Where the points of a raw series are: where they were at the beginning, or in a block of their own. -/
structure OwnX (w W : World) (x : RawR) : Prop where
  src : PtsIn w x.p x.r.pts ∨ PtRow W w.heap.size x.p x.r.pts
  cap : x.r.pts.length ≤ x.cap
  nil : x.p = none → x.cap = 0
theorem OwnX.pts {w W : World} {x : RawR} (h : OwnX w W x) (hW : Below w.heap.size w W) : PtsIn W x.p x.r.pts := by
  rcases h.src with h1 | h1
  · exact h1.below hW
  · exact h1.pts
structure OwnK (w W : World) (RL : List RawR) : Prop where
  at' : ∀ x, x ∈ RL → OwnX w W x
theorem OwnK.below {w W W' : World} {RL : List RawR} (h : OwnK w W RL) (hb : Below W.heap.size W W') : OwnK w W' RL := ⟨fun x hx => ⟨(h.at' x hx).src.imp (fun a => a) (fun a => a.below hb), (h.at' x hx).cap, (h.at' x hx).nil⟩⟩
theorem OwnK.set {w W : World} {RL : List RawR} {i j G c' : Nat} {r0 : RawT} {p' : Option Addr} {cs : Array Value} {u : Value} (h : OwnK w W RL) (hG : Blk W G cs 35) (hP : PtRow W w.heap.size p' r0.pts) (hc : r0.pts.length ≤ c') (hn : p' = none → c' = 0) : OwnK w (W.setCell ⟨G, j, none⟩ u) (RL.set i ⟨r0, p', c'⟩) := ⟨fun x hx => by
  rcases List.mem_or_eq_of_mem_set hx with h1 | h1
  · exact ⟨(h.at' x h1).src.imp (fun a => a) (fun a => a.other hG (by decide)), (h.at' x h1).cap, (h.at' x h1).nil⟩
  · rw [h1]
    exact ⟨.inr (hP.other hG (by decide)), hc, hn⟩⟩
theorem own_map {RL : List RawR} {rows : List RawT} {i c0 c' : Nat} {r0 : RawT} {p0 p' : Option Addr} (h : RL.map (·.r) = rows) (tx : RL[i]? = some ⟨r0, p0, c0⟩) : (RL.set i ⟨r0, p', c'⟩).map (·.r) = rows := by
  rw [List.map_set, ← h]
  apply List.ext_getElem?
  intro k
  rw [List.getElem?_set]
  by_cases hk : i = k
  · subst hk
    have hl := (List.getElem?_eq_some_iff.1 tx).1
    rw [if_pos rfl, List.length_map, if_pos hl, List.getElem?_map, tx]
    rfl
  · rw [if_neg hk]
theorem OwnK.raws {w W : World} {RL : List RawR} {rows : List RawT} {G : Nat} (h : OwnK w W RL) (hRL : RL.map (·.r) = rows) (hG : Blk W G (flatRaws RL).toArray 35) (hW : Below w.heap.size w W) : RawsIn W (some ⟨G, 0, none⟩) rows := ⟨fun i r hr => by
  rw [← hRL, List.getElem?_map] at hr
  obtain ⟨x, hx, rfl⟩ := Option.map_eq_some_iff.1 hr
  have hm := h.at' x (List.mem_of_getElem? hx)
  refine ⟨G, 0, x.p, x.cap, rfl, fun j v hv => ?_, hm.pts hW, hm.cap, hm.nil⟩
  rw [hG.cell, Nat.zero_add, List.getElem?_toArray]
  exact flatRaws_get RL i x j v hx hv⟩
/-- The points of the first raw series are in blocks of their own. -/
def OwnD (w W : World) (RL : List RawR) (i : Nat) : Prop := ∀ (k : Nat) x, k < i → RL[k]? = some x → PtRow W w.heap.size x.p x.r.pts
theorem OwnD.below {w W W' : World} {RL : List RawR} {i : Nat} (h : OwnD w W RL i) (hb : Below W.heap.size W W') : OwnD w W' RL i := fun k x hk hx => (h k x hk hx).below hb
theorem OwnD.set {w W : World} {RL : List RawR} {i j G c' : Nat} {r0 : RawT} {p' : Option Addr} {cs : Array Value} {u : Value} (h : OwnD w W RL i) (hG : Blk W G cs 35) (hP : PtRow W w.heap.size p' r0.pts) : OwnD w (W.setCell ⟨G, j, none⟩ u) (RL.set i ⟨r0, p', c'⟩) (i + 1) := fun k x hk hx => by
  rw [List.getElem?_set] at hx
  by_cases hik : i = k
  · rw [if_pos hik] at hx
    by_cases hl : i < RL.length
    · rw [if_pos hl] at hx
      obtain rfl := Option.some.inj hx
      exact hP.other hG (by decide)
    · rw [if_neg hl] at hx; cases hx
  · rw [if_neg hik] at hx
    exact (h k x (by omega) hx).other hG (by decide)
theorem OwnD.rows {w W : World} {RL : List RawR} {i o j : Nat} {cs : Array Value} {u : Value} (h : OwnD w W RL i) (hi : RL.length ≤ i) (hK : OwnK w W RL) (hB : Blk W o cs 27) : PtRows (W.setCell ⟨o, j, none⟩ u) w.heap.size RL := ⟨fun x hx => by
  obtain ⟨k, hk⟩ := List.getElem?_of_mem hx
  have hl := (List.getElem?_eq_some_iff.1 hk).1
  exact ⟨(h k x (by omega) hk).other hB (by decide), (hK.at' x hx).cap, (hK.at' x hx).nil⟩⟩
/-- A row of raw series in a block known whole, with their points. -/
theorem raws_blk {W : World} {B G : Nat} {RL : List RawR} (hG : Blk W G (flatRaws RL).toArray 35) (hP : PtRows W B RL) : RawsIn W (some ⟨G, 0, none⟩) (RL.map (·.r)) := ⟨fun i r hr => by
  rw [List.getElem?_map] at hr
  obtain ⟨x, hx, rfl⟩ := Option.map_eq_some_iff.1 hr
  have hm := hP.at' x (List.mem_of_getElem? hx)
  refine ⟨G, 0, x.p, x.cap, rfl, fun j v hv => ?_, hm.1.pts, hm.2⟩
  rw [hG.cell, Nat.zero_add, List.getElem?_toArray]
  exact flatRaws_get RL i x j v hx hv⟩
def mdoRel (w : World) (p : Option Addr) (cap : Nat) (rows : List RawT) (G : Nat) (a' : Act) (W : World) : Prop :=
  Below w.heap.size w W ∧ Blk W w.heap.size #[.slice p rows.length cap] 27 ∧ Blk W (w.heap.size + 1) #[.slice none 0 0] 27 ∧ ∃ (i : Nat) (RL : List RawR), (∃ u : Nat → Value, a' = { tmps := #[u 0, .pointer (some ⟨w.heap.size, 0, none⟩), .pointer (some ⟨(w.heap.size + 1), 0, none⟩), .slice (some ⟨G, 0, none⟩) rows.length rows.length, u 4, u 5, u 6, u 7, u 8, u 9, u 10, u 11, u 12, u 13, .slice (some ⟨G, 0, none⟩) rows.length rows.length, .int .i64 (rows.length : Int), .int .i64 (i : Int), u 17, u 18, u 19, u 20, u 21, u 22, u 23, u 24, u 25, u 26, u 27, u 28, u 29, u 30], defers := [] }) ∧ Blk W G (flatRaws RL).toArray 35 ∧ RL.map (·.r) = rows ∧ OwnK w W RL ∧ i ≤ rows.length ∧ OwnD w W RL i
end Go.Proofs.YtdeghcgakkhbmaaGreat
namespace Go.Proofs.YtdeghcgakkhbmaaGreat
open Go.RowKit
/-- Points in a block of one's own, whose room is known. -/
def PtO (W : World) (B : Nat) (p : Option Addr) (cap : Nat) (l : List (Int × Int)) : Prop := OwnR W B 58 2 (.slice p l.length cap) l.length (flatPts l)
theorem PtO.below {w w' : World} {B : Nat} {p : Option Addr} {cap : Nat} {l : List (Int × Int)} (h : PtO w B p cap l) (hb : Below w.heap.size w w') : PtO w' B p cap l := OwnR.below h hb
theorem PtO.mono {w : World} {B B' : Nat} {p : Option Addr} {cap : Nat} {l : List (Int × Int)} (h : PtO w B p cap l) (hB : B' ≤ B) : PtO w B' p cap l := OwnR.mono h hB
theorem PtO.other {w : World} {B o j : Nat} {cs : Array Value} {t : TypeId} {u : Value} {p : Option Addr} {cap : Nat} {l : List (Int × Int)} (h : PtO w B p cap l) (hb : Blk w o cs t) (ht : t ≠ 58) : PtO (w.setCell ⟨o, j, none⟩ u) B p cap l := OwnR.setX h (own_apart h.own hb ht)
theorem PtO.row {w : World} {B : Nat} {p : Option Addr} {cap : Nat} {l : List (Int × Int)} (h : PtO w B p cap l) : PtRow w B p l := by
  rcases h.own.2 with ⟨h1, h0⟩ | ⟨g, cap', cur, h1, hg, hb, hn, hmx, _, ht⟩
  · injection h1 with h1 _ _
    exact ⟨.inl ⟨h1, List.length_eq_zero_iff.1 h0⟩⟩
  · injection h1 with h1 _ _
    exact ⟨.inr ⟨g, cur, _, h1, hg, hb, ht⟩⟩
theorem PtO.cap {w : World} {B : Nat} {p : Option Addr} {cap : Nat} {l : List (Int × Int)} (h : PtO w B p cap l) : l.length ≤ cap ∧ (p = none → cap = 0) := by
  rcases h.own.2 with ⟨h1, h0⟩ | ⟨g, cap', cur, h1, hg, hb, hn, hmx, _, ht⟩
  · injection h1 with _ _ h3
    exact ⟨by omega, fun _ => h3⟩
  · injection h1 with h1 _ h3
    exact ⟨by omega, fun e => by rw [h1] at e; cases e⟩
theorem PtO.lt {w : World} {B : Nat} {p : Option Addr} {cap : Nat} {l : List (Int × Int)} (h : PtO w B p cap l) {a : Addr} (e : p = some a) : B ≤ a.block ∧ a.block < w.heap.size := by
  rcases h.own.2 with ⟨h1, h0⟩ | ⟨g, cap', cur, h1, hg, hb, hn, hmx, _, ht⟩
  · injection h1 with h1 _ _
    rw [h1] at e; cases e
  · injection h1 with h1 _ _
    rw [h1] at e
    injection e with e
    subst e
    exact ⟨hg, (Array.getElem?_eq_some_iff.1 hb).1⟩
theorem PtO.nil (w : World) (B : Nat) : PtO w B none 0 [] := OwnR.nil _ _ _ _
structure PtRowsO (w : World) (B : Nat) (l : List RawR) : Prop where
  at' : ∀ x, x ∈ l → PtO w B x.p x.cap x.r.pts
theorem PtRowsO.below {w w' : World} {B : Nat} {l : List RawR} (h : PtRowsO w B l) (hb : Below w.heap.size w w') : PtRowsO w' B l := ⟨fun x hx => (h.at' x hx).below hb⟩
theorem PtRowsO.mono {w : World} {B B' : Nat} {l : List RawR} (h : PtRowsO w B l) (hB : B' ≤ B) : PtRowsO w B' l := ⟨fun x hx => (h.at' x hx).mono hB⟩
theorem PtRowsO.rows {w : World} {B : Nat} {l : List RawR} (h : PtRowsO w B l) : PtRows w B l := ⟨fun x hx => ⟨(h.at' x hx).row, (h.at' x hx).cap⟩⟩
/-- No two rows of points are in one block. -/
def ApartP (l : List RawR) : Prop := ∀ (k m : Nat) x y, k < m → l[k]? = some x → l[m]? = some y → ∀ a b, x.p = some a → y.p = some b → a.block ≠ b.block
set_option maxRecDepth 100000 in
set_option maxHeartbeats 2000000 in
theorem c_clonePtsO (p : Option Addr) (cap : Nat) (l : List (Int × Int)) (w : World) (hl : l.length ≤ 2000) (h : PtsIn w p l) (hc : l.length ≤ cap) (hn : p = none → cap = 0) :
    Calls Tryz.prog 41 #[.slice p l.length cap] w fun e w' => ∃ p' c', e = .returned (.slice p' l.length c') ∧ Below w.heap.size w w' ∧ PtO w' w.heap.size p' c' l := by
  cases p with
  | none =>
    have h0 := hn rfl
    subst h0
    have h1 : l = [] := List.length_eq_zero_iff.1 (by omega)
    subst h1
    refine (clonePt_nil w).mono ?_
    rintro e w' ⟨rfl, hB⟩
    exact ⟨none, 0, rfl, hB, PtO.nil _ _⟩
  | some a =>
    have hnil : ∀ W, (binOp .eql 33 (.slice (some a) l.length cap) (.slice none 0 0)).run Tryz.prog W = .ok (.bool false) W := fun W => Lib.run_eql_slice_nil W 33 58 _ _ _ _ _ (by kernel_rfl)
    go_enter Tryz.func41, Tryz.ntmps41
    go_upto_region 3 with (fail)
    clear hnil
    have hmk : ∀ W, (Instr.buildSlice 33 0 #[]).run Tryz.prog W = .ok (.slice (some ⟨W.heap.size, 0, none⟩) 0 0) (W.alloc (.cells #[] 58)) := fun W => by kernel_rfl
    obtain ⟨i, hi, hz0, hz1, hz2⟩ := info_parts Tryz.infoPt
    have hW : Below w.heap.size w (w.alloc (.cells #[] 58)) := belowAny
    have hown0 := World.ownsRow_made (e := 58) (size := 2) (base := w.heap.size) w #[] 0 (Nat.le_refl _) (by simp [maxLen]) (by simp)
    go_wp2_with (at_builtin; refine wpList_append_own _ rfl (.tmp 5) (.tmp 6) 33 rfl w.heap.size 58 i _ 2 16 (by kernel_rfl) hi hz0 hz1 hz2 rfl (by omega) _ 0 [] rfl hown0 a l.length cap (flatPts l) rfl (by rw [flatPts_len9]) (fun j u hu => pts_flat9 (h.below hW) j u hu) (fun v hv => flatPts_one9 l v hv) (by simp [maxLen]; omega) (by omega) (by simp) ?_)
    intro v' w' hown hgr hvn
    have hB := Lib.hid (clone_below hgr)
    replace hown := Lib.hid hown
    clear hgr hvn
    go_wp2
    go_ret
    have ho := hown.out
    obtain ⟨p2, c2, e2, -⟩ := (OwnR.mk ho).form
    exact ⟨p2, c2, by rw [← e2]; rfl, hB.out, by unfold PtO; rw [← e2]; exact ⟨ho⟩⟩
/-- Where the points of a raw series are: where they were at the beginning, or in a block of their own. -/
structure OwnXo (w W : World) (x : RawR) : Prop where
  src : PtsIn w x.p x.r.pts ∨ PtO W w.heap.size x.p x.cap x.r.pts
  cap : x.r.pts.length ≤ x.cap
  nil : x.p = none → x.cap = 0
theorem OwnXo.pts {w W : World} {x : RawR} (h : OwnXo w W x) (hW : Below w.heap.size w W) : PtsIn W x.p x.r.pts := by
  rcases h.src with h1 | h1
  · exact h1.below hW
  · exact h1.row.pts
structure OwnKo (w W : World) (RL : List RawR) : Prop where
  at' : ∀ x, x ∈ RL → OwnXo w W x
theorem OwnKo.below {w W W' : World} {RL : List RawR} (h : OwnKo w W RL) (hb : Below W.heap.size W W') : OwnKo w W' RL := ⟨fun x hx => ⟨(h.at' x hx).src.imp (fun a => a) (fun a => a.below hb), (h.at' x hx).cap, (h.at' x hx).nil⟩⟩
theorem OwnKo.set {w W : World} {RL : List RawR} {i j G c' : Nat} {r0 : RawT} {p' : Option Addr} {cs : Array Value} {u : Value} (h : OwnKo w W RL) (hG : Blk W G cs 35) (hP : PtO W w.heap.size p' c' r0.pts) : OwnKo w (W.setCell ⟨G, j, none⟩ u) (RL.set i ⟨r0, p', c'⟩) := ⟨fun x hx => by
  rcases List.mem_or_eq_of_mem_set hx with h1 | h1
  · exact ⟨(h.at' x h1).src.imp (fun a => a) (fun a => a.other hG (by decide)), (h.at' x h1).cap, (h.at' x h1).nil⟩
  · rw [h1]
    exact ⟨.inr (hP.other hG (by decide)), hP.cap.1, hP.cap.2⟩⟩
/-- The points of the first raw series are in blocks of their own, no two in one. -/
structure OwnDo (w W : World) (RL : List RawR) (i : Nat) : Prop where
  row : ∀ (k : Nat) x, k < i → RL[k]? = some x → PtO W w.heap.size x.p x.cap x.r.pts
  apart : ∀ (k m : Nat) x y, k < m → m < i → RL[k]? = some x → RL[m]? = some y → ∀ a b, x.p = some a → y.p = some b → a.block ≠ b.block
theorem OwnDo.below {w W W' : World} {RL : List RawR} {i : Nat} (h : OwnDo w W RL i) (hb : Below W.heap.size W W') : OwnDo w W' RL i := ⟨fun k x hk hx => (h.row k x hk hx).below hb, h.apart⟩
theorem OwnDo.next {w W W' : World} {RL : List RawR} {i j G c' c0 : Nat} {r0 : RawT} {p' p0 : Option Addr} {cs : Array Value} {u : Value} (h : OwnDo w W RL i) (hb : Below W.heap.size W W') (hP : PtO W' W.heap.size p' c' r0.pts) (hG : Blk W' G cs 35) (tx : RL[i]? = some ⟨r0, p0, c0⟩) (hz : w.heap.size ≤ W.heap.size := by omega) : OwnDo w (W'.setCell ⟨G, j, none⟩ u) (RL.set i ⟨r0, p', c'⟩) (i + 1) := by
  have hl := (List.getElem?_eq_some_iff.1 tx).1
  refine ⟨fun k x hk hx => ?_, fun k m x y hkm hm hx hy a b ha hb' => ?_⟩
  · rw [List.getElem?_set] at hx
    by_cases hik : i = k
    · rw [if_pos hik, if_pos hl] at hx
      obtain rfl := Option.some.inj hx
      exact (hP.mono hz).other hG (by decide)
    · rw [if_neg hik] at hx
      exact ((h.row k x (by omega) hx).below hb).other hG (by decide)
  · rw [List.getElem?_set_ne (by omega)] at hx
    rw [List.getElem?_set] at hy
    by_cases hik : i = m
    · rw [if_pos hik, if_pos hl] at hy
      obtain rfl := Option.some.inj hy
      have h1 := ((h.row k x (by omega) hx).lt ha).2
      have h2 := (hP.lt hb').1
      omega
    · rw [if_neg hik] at hy
      exact h.apart k m x y hkm (by omega) hx hy a b ha hb'
theorem OwnDo.rows {w W : World} {RL : List RawR} {i o j : Nat} {cs : Array Value} {u : Value} (h : OwnDo w W RL i) (hi : RL.length ≤ i) (hB : Blk W o cs 27) : PtRowsO (W.setCell ⟨o, j, none⟩ u) w.heap.size RL := ⟨fun x hx => by
  obtain ⟨k, hk⟩ := List.getElem?_of_mem hx
  have hl := (List.getElem?_eq_some_iff.1 hk).1
  exact (h.row k x (by omega) hk).other hB (by decide)⟩
theorem OwnDo.all {w W : World} {RL : List RawR} {i : Nat} (h : OwnDo w W RL i) (hi : RL.length ≤ i) : ApartP RL := fun k m x y hkm hx hy => h.apart k m x y hkm (by have := (List.getElem?_eq_some_iff.1 hy).1; omega) hx hy
def mdoRel2 (w : World) (p : Option Addr) (cap : Nat) (rows : List RawT) (G : Nat) (a' : Act) (W : World) : Prop :=
  Below w.heap.size w W ∧ Blk W w.heap.size #[.slice p rows.length cap] 27 ∧ Blk W (w.heap.size + 1) #[.slice none 0 0] 27 ∧ ∃ (i : Nat) (RL : List RawR), (∃ u : Nat → Value, a' = { tmps := #[u 0, .pointer (some ⟨w.heap.size, 0, none⟩), .pointer (some ⟨(w.heap.size + 1), 0, none⟩), .slice (some ⟨G, 0, none⟩) rows.length rows.length, u 4, u 5, u 6, u 7, u 8, u 9, u 10, u 11, u 12, u 13, .slice (some ⟨G, 0, none⟩) rows.length rows.length, .int .i64 (rows.length : Int), .int .i64 (i : Int), u 17, u 18, u 19, u 20, u 21, u 22, u 23, u 24, u 25, u 26, u 27, u 28, u 29, u 30], defers := [] }) ∧ Blk W G (flatRaws RL).toArray 35 ∧ RL.map (·.r) = rows ∧ OwnKo w W RL ∧ i ≤ rows.length ∧ OwnDo w W RL i
set_option maxRecDepth 100000 in
set_option maxHeartbeats 2000000 in
theorem mdOwnO_w (p : Option Addr) (cap : Nat) (rows : List RawT) (w : World) (h : RawsIn w p rows) (hfw : FewP rows) (hmx : rows.length ≤ 100) (hcap : p = none → cap = 0) :
    Calls Tryz.prog 46 #[.agg #[.slice p rows.length cap]] w fun e w' => ∃ (G : Nat) (RL : List RawR), e = .returned (.agg #[.slice (some ⟨G, 0, none⟩) rows.length rows.length]) ∧ Below w.heap.size w w' ∧ w.heap.size ≤ G ∧ Blk w' G (flatRaws RL).toArray 35 ∧ RL.map (·.r) = rows ∧ PtRowsO w' w.heap.size RL ∧ ApartP RL := by
  obtain ⟨i0, hi0, hz0, hz1, hz2⟩ := info_parts Tryz.infoRaw
  go_enter Tryz.func46, Tryz.ntmps46
  go_upto_region 1 with (fail)
  refine wp_cutB w (Bc w.heap.size #[.slice p rows.length cap] 27 <| Bc (w.heap.size + 1) #[.slice none 0 0] 27 <| Bz) ?_
  rintro W1 hW z2 ⟨⟨b1, yb1, k1, f1⟩, ⟨b2, yb2, k2, f2⟩, -⟩
  go_wp2_with (at_make; refine wpList_make_full _ rfl (.tmp 8) (.tmp 8) 25 rfl w.heap.size 35 i0 _ 6 (by kernel_rfl) hi0 hz0 hz1 .i64 .i64 _ _ rows.length rfl rfl rfl rfl (by rw [hz2]; omega) (by simp [maxLen]; omega) (by omega) ?_)
  intro w5 hown5 hgr5
  have h5 : Below W1.heap.size W1 w5 := Below.grown (Below.refl _ _) hgr5 (Nat.le_refl _) (fun k hk => by cases hk)
  have hz5 := h5.size
  obtain ⟨cur, hb5, hs5⟩ : ∃ cur, Blk w5 W1.heap.size cur 35 ∧ cur.size = rows.length * 6 := by
    rcases hown5.2 with ⟨e, _⟩ | ⟨g, c, cur, e, _, h1, _, _, h2, _⟩
    · injection e with e _ _; cases e
    · have e1 : W1.heap.size = g := by simpa [Value.ownBlock] using congrArg Value.ownBlock e
      injection e with _ _ e3
      subst e1
      exact ⟨cur, h1, by rw [h2, ← e3]⟩
  replace hW := hW.trans (h5.mono hW.size)
  replace b1 := b1.below h5
  replace b2 := b2.below h5
  have hGl : w.heap.size + 1 < W1.heap.size := by omega
  generalize W1.heap.size = G at *
  clear hown5 hgr5 h5 k1 k2 f1 f2
  have k1 := b1.cell
  have f1 := b1.frozen
  have k2 := b2.cell
  have f2 := b2.frozen
  obtain ⟨RL, Wc, hcp, hbc, hBc, hRLr, hRLp⟩ : ∃ (RL : List RawR) (Wc : World), (Builtin.copy_ #[25, 25] 3 #[.slice (some ⟨G, 0, none⟩) rows.length rows.length, .slice p rows.length cap]).run Tryz.prog w5 = .ok (goInt (rows.length : Nat)) Wc ∧ Blk Wc G (flatRaws RL).toArray 35 ∧ Below G w5 Wc ∧ RL.map (·.r) = rows ∧ ∀ x ∈ RL, PtsIn w x.p x.r.pts ∧ x.r.pts.length ≤ x.cap ∧ (x.p = none → x.cap = 0) := by
    cases p with
    | none =>
      have hc0 := hcap rfl
      subst hc0
      have hr0 : rows = [] := by
        cases hr : rows with
        | nil => rfl
        | cons r l =>
          obtain ⟨_, _, _, _, e, _⟩ := h.at' 0 r (by rw [hr]; rfl)
          cases e
      subst hr0
      have hcur : cur = #[] := Array.eq_empty_of_size_eq_zero (by rw [hs5]; rfl)
      subst hcur
      exact ⟨[], w5, run_copy_nil Tryz.prog w5 25 25 3 35 ⟨G, 0, none⟩ 0 0 (by kernel_rfl) (by kernel_rfl), hb5, Below.refl _ _, rfl, fun x hx => by cases hx⟩
    | some ad =>
      obtain ⟨RL, h1, h2, h3⟩ := h.list
      have hl : (flatRaws RL).length = rows.length * 6 := by rw [flatRaws_len, ← h1, List.length_map]
      have hsrc : ∀ j v, (flatRaws RL)[j]? = some v → w5.cell? (ad.add j) = some v := fun j v hj => by
        have h4 := h2 j v hj
        obtain ⟨b, o, n⟩ := ad
        exact (hW.cell (World.block_lt_of_cell? w _ h4)).trans h4
      have hrun := run_copyK Tryz.prog w5 25 25 3 35 6 G rows.length rows.length ad rows.length cap cur 35 (flatRaws RL) (by kernel_rfl) (by kernel_rfl) hb5 (by rw [hl, show Nat.min rows.length rows.length = rows.length from Nat.min_self _]) hsrc (by rw [hl, hs5]) (flatRaws_one RL)
      rw [show Nat.min rows.length rows.length = rows.length from Nat.min_self _] at hrun
      exact ⟨RL, _, hrun, setRow_heap w5 G cur _ 35 (0, 0) hb5, below_setRow (Below.refl _ _) (Nat.le_refl _) _, h1, h3⟩
  replace hW := hW.trans (hBc.mono (by omega))
  clear hb5 hs5
  replace hRLr := Lib.hid hRLr
  replace hRLp := Lib.hid hRLp
  have d1 : Blk Wc w.heap.size #[.slice p rows.length cap] 27 := (hBc.block _ (by omega)).trans b1
  have d2 : Blk Wc (w.heap.size + 1) #[.slice none 0 0] 27 := (hBc.block _ (by omega)).trans b2
  go_wp2_with fail
  refine wp_loop (mdoRel2 w p cap rows G) (fun a' _ => rows.length - (intAt (a'.tmps.getD 16 undef)).toNat) ?_ ?_
  · unfold mdoRel2
    exact ⟨hW, d1, d2, 0, RL, frame_ex rfl, hbc, hRLr.out, ⟨fun x hx => ⟨.inl (hRLp.out x hx).1, (hRLp.out x hx).2.1, (hRLp.out x hx).2.2⟩⟩, Nat.zero_le _, ⟨fun k x hk => by omega, fun k l x y _ hl => by omega⟩⟩
  clear b1 b2 d1 d2 hbc hRLr hRLp k1 k2 f1 f2 hcp hBc hW RL Wc
  rintro a' W ⟨hW, b1, b2, i, RL, ⟨u, rfl⟩, hG, hRL, hK, hi', hD⟩
  replace hD := Lib.hid hD
  have hz := hW.size
  have yb1 := b1.lt
  have yb2 := b2.lt
  have yG := hG.lt
  replace hRL := Lib.hid hRL
  rcases Nat.lt_or_ge i rows.length with hlt | hge
  · obtain ⟨⟨r0, p0, c0⟩, tx⟩ : ∃ x, RL[i]? = some x := ⟨RL[i]'(by have := congrArg List.length hRL.out; rw [List.length_map] at this; omega), List.getElem?_eq_getElem _⟩
    have hlen := hfw i r0 (by rw [← hRL.out, List.getElem?_map, tx]; rfl)
    have hcl : ∀ (k : Nat) (v : Value), (rawRA ⟨r0, p0, c0⟩)[k]? = some v → W.cell? ⟨G, i * 6 + k, none⟩ = some v := fun k v hv => (hG.cell (i * 6 + k)).trans (by rw [List.getElem?_toArray]; exact flatRaws_get RL i _ k v tx hv)
    have q0 : W.cell? ⟨G, i * 6, none⟩ = some (.string r0.name) := hcl 0 _ rfl
    have q1 : W.cell? ⟨G, i * 6 + 1, none⟩ = some (.int .i64 r0.eps) := hcl 1 _ rfl
    have q2 : W.cell? ⟨G, i * 6 + 2, none⟩ = some (.int .i64 r0.floor) := hcl 2 _ rfl
    have q3 : W.cell? ⟨G, i * 6 + 3, none⟩ = some (.int .i64 r0.last) := hcl 3 _ rfl
    have q4 : W.cell? ⟨G, i * 6 + 4, none⟩ = some (.int .i64 r0.scale) := hcl 4 _ rfl
    have q5 : W.cell? ⟨G, i * 6 + 5, none⟩ = some (.slice p0 r0.pts.length c0) := hcl 5 _ rfl
    clear hcl
    have k1 := b1.cell
    have f1 := b1.frozen
    have k2 := b2.cell
    have f2 := b2.frozen
    go_upto_region 6 with (fail)
    clear k1 f1 k2 f2
    refine wp_cutB w (Bc w.heap.size #[.slice p rows.length cap] 27 <| Bc (w.heap.size + 1) #[.slice none 0 0] 27 <| Bc W.heap.size #[.string r0.name, .int .i64 r0.eps, .int .i64 r0.floor, .int .i64 r0.last, .int .i64 r0.scale, .slice p0 r0.pts.length c0] 35 <| Rc (fun W' => Blk W' G (flatRaws RL).toArray 35) <| Rc (fun W' => OwnKo w W' RL) <| Rc (fun W' => OwnDo w W' RL i) <| Bz) ?_ (hI := by exact belowAny) (hR := (Bc.mk (by exact blkAny2) <| Bc.mk (by exact blkAny2) <| Bc.mk (by exact blkAny2) <| Rc.mk (by exact hG.below (by exact belowAny)) <| Rc.mk (by exact hK.below (by exact belowAny)) <| Rc.mk (by exact hD.out.below (by exact belowAny)) <| trivial))
    clear b1 b2 hW
    rintro W21 hW z22 ⟨⟨b1, yb1, k1, f1⟩, ⟨b2, yb2, k2, f2⟩, ⟨b3, yb3, k3, f3⟩, b4, b5, b6, -⟩
    clear q0 q1 q2 q3 q4 q5
    have hx := b5.at' _ (List.mem_of_getElem? tx)
    have hpts := hx.pts hW
    have hg5 : W21.cell? ⟨G, i * 6 + 5, none⟩ = some (.slice p0 r0.pts.length c0) := (b4.cell (i * 6 + 5)).trans (by rw [List.getElem?_toArray]; exact flatRaws_get RL i _ 5 _ tx rfl)
    have hzW := hW.size
    have hzG := b4.lt
    go_wp2_with fail
    refine (c_clonePtsO p0 c0 r0.pts _ hlen hpts hx.cap hx.nil).mono ?_
    rintro e w9 ⟨p', c', rfl, hB9, hP9⟩
    have d1 := b1.below hB9
    have d2 := b2.below hB9
    have d4 := b4.below hB9
    have d5 := b5.below hB9
    have d6 := Lib.hid (fun u => b6.next (j := i * 6 + 5) (u := u) (r0 := r0) hB9 hP9 d4 tx)
    have g5 := (d4.cell (i * 6 + 5)).trans ((b4.cell (i * 6 + 5)).symm.trans hg5)
    have gf := d4.frozen (i * 6 + 5)
    have hz9 := hB9.size
    have e1 := hW.trans (hB9.mono hzW)
    have eP := hP9.mono hzW
    clear hB9 b1 b2 b3 b4 b5 b6 hg5 hW hP9 k1 k2 k3 f1 f2 f3 hpts
    replace d1 := Lib.hid d1
    replace d2 := Lib.hid d2
    replace d4 := Lib.hid d4
    go_wp2
    refine ⟨?_, by simp [intAt]; omega⟩
    unfold mdoRel2
    exact ⟨e1.setCell (by simp; omega) _, d1.out.setO (by omega) _ _, d2.out.setO (by omega) _ _, i + 1, RL.set i ⟨r0, p', c'⟩, frame_ex rfl, d4.out.set2 (by rw [List.setIfInBounds_toArray, flatRaws_set RL i r0 p0 p' c0 c' tx]), own_map hRL.out tx, d5.set d4.out eP, hlt, d6.out _⟩
  · have hlen : rows.length ≤ i := hge
    have k1 := b1.cell
    have f1 := b1.frozen
    have k2 := b2.cell
    have f2 := b2.frozen
    replace hG := Lib.hid hG
    go_wp2
    have d2 : Blk (W.setCell ⟨w.heap.size + 1, 0, none⟩ (.slice (some ⟨G, 0, none⟩) rows.length rows.length)) (w.heap.size + 1) #[.slice (some ⟨G, 0, none⟩) rows.length rows.length] 27 := b2.set2 (by rfl)
    have d0 := d2.cell 0
    simp only [List.getElem?_toArray, List.getElem?_cons_zero] at d0
    refine bodyPost_ret (v := .agg #[.slice (some ⟨G, 0, none⟩) rows.length rows.length]) (by simp [results, Tryz.results46, go_sem, d0]) rfl ⟨G, RL, rfl, by exact belowAny, by omega, hG.out.setO (by omega) _ _, hRL.out, hD.out.rows (by have := congrArg List.length hRL.out; rw [List.length_map] at this; omega) b2, hD.out.all (by have := congrArg List.length hRL.out; rw [List.length_map] at this; omega)⟩
end Go.Proofs.YtdeghcgakkhbmaaGreat
namespace Go.Proofs.YtdeghcgakkhbmaaGreat
open Go.RowKit
theorem wpList_append_run {P : Program} {ops : Array Oper} {rest : List Oper} {o : Oper} {a : Act} {Q : Exit → Act → World → Prop} {w : World} (hgd : o.guard = none) (s x : Operand) (t : TypeId)
    (ho : o.op = .call { callee := .builtin .append, args := #[s, x], argTypes := #[t, t] }) (v sv v' : Value) (w' : World) (hs : a.eval s = v) (hx : a.eval x = sv)
    (hr : (Builtin.append_ #[t, t] o.type #[v, sv]).run P w = .ok v' w') (h : wpList P ops Q rest (a.put o.dst v') w') : wpList P ops Q (o :: rest) a w :=
  wpList_plain hgd fun K hK => by
    unfold Oper.wp execOp
    simp only [ho, resolve, invoke, builtin, Sem.run_bind, Sem.run_pure, Result.andThen_ok, List.map_toArray, List.map_cons, List.map_nil, hs, hx, hr]
    exact hK _ _ h
end Go.Proofs.YtdeghcgakkhbmaaGreat
namespace Go.Proofs.YtdeghcgakkhbmaaGreat
open Go.RowKit
theorem Rex.setRow {w : World} {g : Nat} {cs cs' : Array Value} {t : TypeId} (hg : Blk w g cs t) (hs : cs'.size = cs.size) : Rex [g] w (w.setRow g cs') := by
  refine ⟨rfl, rfl, rfl, ?_, fun k hk hn => setRow_other w g k cs' (by simpa using hn), fun k hk c t' f hc => ?_⟩
  · unfold World.setRow; simp
  · obtain rfl : k = g := by simpa using hk
    have h1 : w.heap[k]? = some (.cells cs t (0, 0)) := hg
    rw [h1] at hc
    injection hc with hc
    injection hc with e1 e2 e3
    subst e1; subst e2; subst e3
    exact ⟨cs', hs, setRow_heap w k cs cs' t (0, 0) hg⟩
def zRaw : Array Value := #[.string .empty, .int .i64 0, .int .i64 0, .int .i64 0, .int .i64 0, .slice none 0 0]
theorem zero_raw (w : World) : (zeroValue 35).run Tryz.prog w = .ok (.agg zRaw) w := by kernel_rfl
theorem run_clear_row {P : Program} (t ty e : TypeId) (z : Array Value) (ht : P.underlying t = some (.slice e)) (hz : ∀ w, (zeroValue e).run P w = .ok (.agg z) w) (w : World) (g off n c : Nat) (cur : Array Value) {e' : TypeId} (hg : w.heap[g]? = some (.cells cur e' (0, 0)))
    (hn : 0 < n) (hfit : off + (Builtin.zeroCells z n).toList.length ≤ cur.size) (h1 : ∀ v ∈ (Builtin.zeroCells z n).toList, v.oneCell' = true) :
    (Builtin.clear_ #[t] ty #[.slice (some ⟨g, off, none⟩) n c]).run P w = .ok (.tuple #[]) (w.setRow g (cur.toList.take off ++ (Builtin.zeroCells z n).toList ++ cur.toList.drop (off + (Builtin.zeroCells z n).toList.length)).toArray) := by
  have hst := run_storeCells_at (P := P) g off e' (Builtin.zeroCells z n).toList 0 cur w hg (by simpa using hfit) h1
  simp only [Nat.add_zero] at hst
  obtain ⟨k, rfl⟩ : ∃ k, n = k + 1 := ⟨n - 1, by omega⟩
  simp [Builtin.clear_, run_underlying ht, hz, Value.cells, hst]
theorem zRaw_cells : (Builtin.zeroCells zRaw 1).toList = zRaw.toList := by simp [Builtin.zeroCells, zRaw, List.range, List.range.loop]
theorem zRaw_len : (Builtin.zeroCells zRaw 1).toList.length = 6 := by rw [zRaw_cells]; rfl
theorem zRaw_one : ∀ v ∈ (Builtin.zeroCells zRaw 1).toList, v.oneCell' = true := by
  rw [zRaw_cells]
  unfold zRaw
  simp [Value.oneCell']
def clr (c : Array Value) (m : Nat) : Array Value := (c.toList.take (m * 6) ++ (Builtin.zeroCells zRaw 1).toList ++ c.toList.drop (m * 6 + (Builtin.zeroCells zRaw 1).toList.length)).toArray
theorem clr_size (c : Array Value) (m : Nat) (h : c.size = (m + 1) * 6) : (clr c m).size = c.size := by
  have := zRaw_len
  unfold clr
  simp only [List.size_toArray, List.length_append, List.length_take, List.length_drop, Array.length_toList, this]
  omega
theorem clr_take (c : Array Value) (m : Nat) (h : c.size = (m + 1) * 6) : (clr c m).toList.take (m * 6) = c.toList.take (m * 6) := by
  unfold clr
  rw [List.append_assoc, List.take_append_of_le_length (by rw [List.length_take, Array.length_toList]; omega), List.take_take, Nat.min_self]
theorem flatRaws_take (l : List RawR) (k : Nat) : (flatRaws l).take (k * 6) = flatRaws (l.take k) := by
  induction l generalizing k with
  | nil => simp [flatRaws]
  | cons x l ih =>
    cases k with
    | zero => simp [flatRaws]
    | succ k =>
      have h : flatRaws (x :: l) = (rawRA x).toList ++ flatRaws l := by unfold flatRaws; rw [List.flatMap_cons]
      have h2 : flatRaws (x :: l.take k) = (rawRA x).toList ++ flatRaws (l.take k) := by unfold flatRaws; rw [List.flatMap_cons]
      rw [h, List.take_succ_cons, h2, show (k + 1) * 6 = (rawRA x).toList.length + k * 6 by rw [rawRA_len]; omega, List.take_length_add_append, ih]
theorem flatRaws_drop (l : List RawR) (k : Nat) : (flatRaws l).drop (k * 6) = flatRaws (l.drop k) := by
  induction l generalizing k with
  | nil => simp [flatRaws]
  | cons x l ih =>
    cases k with
    | zero => simp [flatRaws]
    | succ k =>
      have h : flatRaws (x :: l) = (rawRA x).toList ++ flatRaws l := by unfold flatRaws; rw [List.flatMap_cons]
      rw [h, List.drop_succ_cons, show (k + 1) * 6 = (rawRA x).toList.length + k * 6 by rw [rawRA_len]; omega, List.drop_length_add_append, ih]
theorem flatRaws_append (a b : List RawR) : flatRaws (a ++ b) = flatRaws a ++ flatRaws b := by unfold flatRaws; rw [List.flatMap_append]
theorem del_cells (RL : List RawR) (m i : Nat) (hn : RL.length = m + 1) (hi : i ≤ m) {c : Array Value} (hc : c = ((flatRaws RL).toArray.toList.take (i * 6) ++ flatRaws (RL.drop (i + 1)) ++ (flatRaws RL).toArray.toList.drop (i * 6 + (flatRaws (RL.drop (i + 1))).length)).toArray) :
    c.size = (m + 1) * 6 ∧ c.toList.take (m * 6) = flatRaws (RL.eraseIdx i) := by
  have l1 : (flatRaws (RL.drop (i + 1))).length = (m - i) * 6 := by rw [flatRaws_len, List.length_drop, hn]; omega
  have l2 : ((flatRaws RL).take (i * 6)).length = i * 6 := by rw [List.length_take, flatRaws_len, hn]; omega
  subst hc
  constructor
  · simp only [List.size_toArray, List.length_append, l1, l2, List.length_drop, flatRaws_len, hn]
    omega
  · rw [List.take_append_of_le_length (by rw [List.length_append, l2, l1]; omega), List.take_of_length_le (by rw [List.length_append, l2, l1]; omega), flatRaws_take, ← flatRaws_append, List.eraseIdx_eq_take_drop_succ]
set_option maxRecDepth 100000 in
set_option maxHeartbeats 2000000 in
theorem c_delRaw (G m i : Nat) (RL : List RawR) (w : World) (hG : Blk w G (flatRaws RL).toArray 35) (hn : Hid (RL.length = m + 1)) (him : i ≤ m) (hmx : m ≤ 100) :
    Calls Tryz.prog 98 #[.slice (some ⟨G, 0, none⟩) (m + 1) (m + 1), .int .i64 i, .int .i64 ((i : Int) + 1)] w fun e w' => e = .returned (.slice (some ⟨G, 0, none⟩) m (m + 1)) ∧ Rex [G] w w' ∧ ∃ cur, Blk w' G cur 35 ∧ cur.size = (m + 1) * 6 ∧ cur.toList.take (m * 6) = flatRaws (RL.eraseIdx i) := by
  obtain ⟨i0, hi0, hz0, hz1, hz2⟩ := info_parts Tryz.infoRaw
  have hi1 : i ≤ m + 1 := by omega
  have hi2 : (m + 1) - (i + 1) = m - i := by omega
  have hE0 : ((i : Int) == (i : Int) + 1) = false := beq_eq_false_iff_ne.2 (by omega)
  obtain ⟨A, hA, hsrc⟩ : ∃ A : Addr, Hid ((if m = i then some (⟨G, 0, none⟩ : Addr) else some ⟨G, (i + 1) * 6, none⟩) = some A) ∧ Hid (∀ W, Blk W G (flatRaws RL).toArray 35 → ∀ t u, (flatRaws (RL.drop (i + 1)))[t]? = some u → W.cell? (A.add t) = some u) := by
    by_cases h : m = i
    · refine ⟨⟨G, 0, none⟩, Lib.hid (by simp [h]), Lib.hid fun W hb t u hu => ?_⟩
      rw [List.drop_of_length_le (by rw [hn.out]; omega)] at hu
      simp [flatRaws] at hu
    · refine ⟨⟨G, (i + 1) * 6, none⟩, Lib.hid (by simp [h]), Lib.hid fun W hb t u hu => ?_⟩
      rw [← flatRaws_drop, List.getElem?_drop] at hu
      rw [Addr.add_lit, hb.cell, List.getElem?_toArray]
      exact hu
  go_enter Tryz.func98, Tryz.ntmps98
  go_upto_region 5 with (fail)
  refine wp_cutB w (Bc G (flatRaws RL).toArray 35 <| Bz) ?_
  rintro W1 hW z2 ⟨⟨b1, yb1, k1, f1⟩, -⟩
  clear k1 f1
  refine wp_cutB w (Bc G (flatRaws RL).toArray 35 <| Bz) ?_
  clear b1 hW
  rintro W3 hW z4 hL
  obtain ⟨⟨b1, yb1, k1, f1⟩, -⟩ := id hL
  clear k1 f1
  refine wp_regD 6 33 hW hL ?_
  iterate 2 refine dA ?_
  apply nd_det (.slice (some ⟨G, 0, none⟩) i (m + 1)) (hg := rfl) (hal := rfl)
  · intro a' W' hC hE
    simp [Oper.looksAt, Op.operands, Call.operands, envOf, Det] at hE
    simp [go_sem, Act.eval, hE, hi1]
    intro h9
    exfalso
    first | omega | (have h8 := h9 (by omega); omega)
  iterate 2 refine dA ?_
  apply nd_det (.slice (some A) (m - i) (m - i)) (hg := rfl) (hal := rfl)
  · intro a' W' hC hE
    simp [Oper.looksAt, Op.operands, Call.operands, envOf, Det] at hE
    simp [go_sem, Act.eval, hE, hA.out, hi2]
    intro h9
    exfalso
    first | omega | (have h8 := h9 (by omega); omega)
  clear hW hL b1
  rintro W5 hW z6 hL
  simp only [ndR]
  intros
  simp only [ndS]
  obtain ⟨⟨b1, yb1, k1, f1⟩, -⟩ := hL
  clear k1 f1
  have hap := run_append_room (P := Tryz.prog) W5 25 25 35 i0 (by kernel_rfl) hi0 G i (m + 1) (flatRaws RL).toArray b1 A (m - i) (m - i) (flatRaws (RL.drop (i + 1))) (by rw [hz1, flatRaws_len, List.length_drop, hn.out]; omega) (hsrc.out W5 b1) (flatRaws_one _) (by omega) (by rw [hz1, flatRaws_len, List.length_drop, List.size_toArray, flatRaws_len, hn.out]; omega)
  rw [show i + (m - i) = m by omega, hz1] at hap
  obtain ⟨c1, hc1⟩ : ∃ c, c = ((flatRaws RL).toArray.toList.take (i * 6) ++ flatRaws (RL.drop (i + 1)) ++ (flatRaws RL).toArray.toList.drop (i * 6 + (flatRaws (RL.drop (i + 1))).length)).toArray := ⟨_, rfl⟩
  rw [← hc1] at hap
  obtain ⟨hs1, ht1⟩ := del_cells RL m i hn.out him hc1
  clear hc1
  have hB1 := setRow_heap W5 G _ c1 35 (0, 0) b1
  have hcl0 := fun ty => run_clear_row (P := Tryz.prog) 25 ty 35 _ (by kernel_rfl) zero_raw (W5.setRow G c1) G (m * 6) 1 1 c1 hB1 (by omega) (by rw [hs1, zRaw_len]; omega) zRaw_one
  have hR1 : Rex [G] w ((W5.setRow G c1).setRow G (clr c1 m)) := ((Rex.of_below hW).trans (Rex.setRow b1 (by rw [hs1, List.size_toArray, flatRaws_len, hn.out]))).trans (Rex.setRow hB1 (clr_size c1 m hs1))
  have hB2 := setRow_heap (W5.setRow G c1) G _ (clr c1 m) 35 (0, 0) hB1
  obtain ⟨w9, hw9⟩ : ∃ w9, w9 = (W5.setRow G c1).setRow G (clr c1 m) := ⟨_, rfl⟩
  rw [← hw9] at hR1 hB2
  have hcl : ∀ ty, (Builtin.clear_ #[25] ty #[.slice (some ⟨G, m * 6, none⟩) 1 1]).run Tryz.prog (W5.setRow G c1) = .ok (.tuple #[]) w9 := fun ty => by rw [hw9]; exact hcl0 ty
  have hfin := Lib.hid (show Rex [G] w w9 ∧ ∃ cur, Blk w9 G cur 35 ∧ cur.size = (m + 1) * 6 ∧ cur.toList.take (m * 6) = flatRaws (RL.eraseIdx i) from ⟨hR1, clr c1 m, hB2, by rw [clr_size c1 m hs1, hs1], by rw [clr_take c1 m hs1]; exact ht1⟩)
  clear hcl0 hw9 hR1 hB2 hB1 hs1 ht1
  go_wp2_with (at_builtin; refine wpList_append_run rfl (.tmp 22) (.tmp 25) 25 rfl _ _ _ _ rfl rfl hap ?_)
  clear hap
  go_wp2
  go_ret
  exact ⟨rfl, hfin.out⟩
end Go.Proofs.YtdeghcgakkhbmaaGreat
namespace Go.Proofs.YtdeghcgakkhbmaaGreat
open Go.RowKit
/-- Where a name stands in a model, or would. -/
def posN : List RawT → ByteArray → Nat
  | [], _ => 0
  | r :: l, nm => if Op.bytesLess r.name.toList nm.toList = true then posN l nm + 1 else 0
theorem PosAt.is {nm : ByteArray} : ∀ {rows : List RawT} {i : Nat}, PosAt rows nm i → i = posN rows nm
  | [], i, h => by have := h.le; simp at this; simp [posN, this]
  | r :: l, 0, h => by
    have := h.hi 0 r (Nat.le_refl _) rfl
    simp [posN, this]
  | r :: l, i + 1, h => by
    have h0 := h.lo 0 r (by omega) rfl
    have ih := PosAt.is (rows := l) (i := i) ⟨by have := h.le; simpa using this, fun k q hk hq => h.lo (k + 1) q (by omega) (by simpa using hq), fun k q hk hq => h.hi (k + 1) q (by omega) (by simpa using hq)⟩
    simp [posN, h0, ih]
theorem posN_at {nm : ByteArray} : ∀ {rows : List RawT}, SortedN rows → PosAt rows nm (posN rows nm)
  | [], _ => ⟨Nat.le_refl _, fun k r hk => by simp [posN] at hk, fun k r _ hr => by simp at hr⟩
  | r :: l, hs => by
    have hs' : SortedN l := fun k m a b hkm ha hb => hs (k + 1) (m + 1) a b (by omega) (by simpa using ha) (by simpa using hb)
    have ih := posN_at hs' (nm := nm)
    cases h0 : Op.bytesLess r.name.toList nm.toList with
    | true =>
      have e : posN (r :: l) nm = posN l nm + 1 := by simp [posN, h0]
      rw [e]
      refine ⟨by have := ih.le; simpa using this, fun k q hk hq => ?_, fun k q hk hq => ?_⟩
      · cases k with
        | zero => have e : r = q := by simpa using hq
                  rw [← e]; exact h0
        | succ k => exact ih.lo k q (by omega) (by simpa using hq)
      · cases k with
        | zero => omega
        | succ k => exact ih.hi k q (by omega) (by simpa using hq)
    | false =>
      have e : posN (r :: l) nm = 0 := by simp [posN, h0]
      rw [e]
      exact ⟨Nat.zero_le _, fun k q hk => by omega, fun k q _ hq => hi_more hs (m := 0) rfl h0 k q (Nat.zero_le _) hq⟩
theorem c_mdBinV (p : Option Addr) (cap : Nat) (rows : List RawT) (nm : ByteArray) (w : World) (h : RawsIn w p rows) (hmx : rows.length ≤ 100) (hs : SortedN rows) :
    Calls Tryz.prog 119 #[.slice p rows.length cap, .string nm, .func (.func 120) #[] #[]] w fun e w' => e = .returned (.tuple #[.int .i64 (posN rows nm : Int), .bool (foundB rows nm (posN rows nm))]) ∧ Below w.heap.size w w' := by
  refine (c_mdBin p cap rows nm w h hmx hs).mono ?_
  rintro e w' ⟨i, rfl, hp, hB⟩
  have := hp.is
  subst this
  exact ⟨rfl, hB⟩
set_option maxRecDepth 100000 in
set_option maxHeartbeats 2000000 in
theorem c_mdPlace (g : Nat) (kd : Int) (p : Option Addr) (cap : Nat) (rows : List RawT) (nm : ByteArray) (w : World) (hc : CellsP w g 0 #[.slice p rows.length cap, .int .i64 kd, .string nm]) (h : RawsIn w p rows) (hmx : rows.length ≤ 100) (hs : SortedN rows) :
    Calls Tryz.prog 75 #[.pointer (some ⟨g, 0, none⟩)] w fun e w' => e = .returned (.tuple #[.int .i64 (posN rows nm : Int), .bool (foundB rows nm (posN rows nm))]) ∧ Below w.heap.size w w' := by
  have c1 := Lib.hid (fun W (hW : Below w.heap.size w W) => c_mdBinV p cap rows nm W (h.below hW) hmx hs)
  obtain ⟨I, hI⟩ : ∃ I : Int, (posN rows nm : Int) = I := ⟨_, rfl⟩
  obtain ⟨F, hF⟩ : ∃ F, foundB rows nm (posN rows nm) = F := ⟨_, rfl⟩
  rw [hI, hF] at c1 ⊢
  go_enter Tryz.func75, Tryz.ntmps75
  go_upto_region 1 with (fail)
  refine wp_cutB w (Rc (fun W' => CellsP W' g 0 #[.slice p rows.length cap, .int .i64 kd, .string nm]) <| Bz) ?_ (hI := by exact belowAny) (hR := (Rc.mk (by first | exact hc | exact hc.below (by exact belowAny)) <| trivial))
  rintro W1 hW z2 hL
  obtain ⟨b1, -⟩ := id hL
  refine wp_regD 15 17 hW hL ?_
  iterate 10 refine dE (fun W' hC => aI (hC.2.1.at' 0 _ rfl) (hC.2.1.at' 2 _ rfl)) ?_
  refine cE (fun W' hC => aI (hC.2.1.at' 0 _ rfl) (hC.2.1.at' 2 _ rfl)) (fun W' hC => c1.out W' (hW.trans (hC.1.of_priv hW.size))) ?_
  iterate 4 refine dE (fun W' hC => aI (hC.2.1.at' 0 _ rfl) (hC.2.1.at' 2 _ rfl)) ?_
  clear hW hL b1
  rintro W3 hW z4 hL
  simp only [ndR]
  intros
  simp only [ndS]
  refine wpList_nil ?_
  obtain ⟨b1, -⟩ := hL
  go_wp2
  refine bodyPost_ret (by simp [results, Tryz.results75, go_sem]) rfl ⟨rfl, by exact belowAny⟩
end Go.Proofs.YtdeghcgakkhbmaaGreat
namespace Go.Proofs.YtdeghcgakkhbmaaGreat
open Go.RowKit
/-- A mutation. -/
structure MutT where
  kind : Int
  name : ByteArray
  eps : Int
  floor : Int
  scale : Int
  pts : List (Int × Int)
def turA (s : Value) (x : MutT) (px : Option Addr) (cx : Nat) : Array Value := #[s, .int .i64 x.kind, .string x.name, .int .i64 x.eps, .int .i64 x.floor, .int .i64 x.scale, .slice px x.pts.length cx]
theorem PtO.rexR {w w' : World} {B G : Nat} {cs : Array Value} {p : Option Addr} {cap : Nat} {l : List (Int × Int)} (h : PtO w B p cap l) (hG : Blk w G cs 35) (hr : Rex [G] w w') : PtO w' B p cap l := by
  refine ⟨h.own.1, ?_⟩
  rcases h.own.2 with h0 | ⟨g, c, cur, hv, hB, hg, h1, h2, h3, h4⟩
  · exact .inl h0
  · refine .inr ⟨g, c, cur, hv, hB, ?_, h1, h2, h3, h4⟩
    have hb : Blk w g cur 58 := hg
    exact hb.rex hr (by
      simp
      rintro rfl
      have e1 : w.heap[g]? = some (.cells cur 58 (0, 0)) := hg
      have e2 : w.heap[g]? = some (.cells cs 35 (0, 0)) := hG
      rw [e1] at e2
      injection e2 with e2
      injection e2 with _ e2 _
      revert e2
      decide)
theorem PtRowsO.rexR {w w' : World} {B G : Nat} {cs : Array Value} {l : List RawR} (h : PtRowsO w B l) (hG : Blk w G cs 35) (hr : Rex [G] w w') : PtRowsO w' B l := ⟨fun x hx => (h.at' x hx).rexR hG hr⟩
theorem PtRowsO.otherR {w : World} {B o j : Nat} {cs : Array Value} {t : TypeId} {u : Value} {l : List RawR} (h : PtRowsO w B l) (hb : Blk w o cs t) (ht : t ≠ 58) : PtRowsO (w.setCell ⟨o, j, none⟩ u) B l := ⟨fun x hx => (h.at' x hx).other hb ht⟩
theorem PtRowsO.erase {w : World} {B i : Nat} {l : List RawR} (h : PtRowsO w B l) : PtRowsO w B (l.eraseIdx i) := ⟨fun x hx => h.at' x (List.mem_of_mem_eraseIdx hx)⟩
theorem own_done {W : World} {B G n c : Nat} {RL : List RawR} {cur : Array Value} (hb : Blk W G cur 35) (hB : B ≤ G) (hn : n = RL.length) (hnc : n ≤ c) (hs : cur.size = c * 6) (hc : c ≤ maxLen) (ht : cur.toList.take (n * 6) = flatRaws RL) (hP : PtRowsO W B RL) :
    OwnM B (RL.map (·.r)) (.agg #[.slice (some ⟨G, 0, none⟩) n c]) W := by
  subst hn
  refine ⟨some ⟨G, 0, none⟩, c, RL, by rw [List.length_map], ?_, hP.rows, rfl⟩
  rw [List.length_map]
  exact ⟨flatRaws_len _, .inr ⟨G, c, cur, rfl, hB, hb, hnc, hc, hs, ht⟩⟩
/-- What a mutation leaves of a model whose place is the first cell of block g: its memory is its own, from B on. -/
def DoneT (w : World) (B g : Nat) (er : Int) (rows : List RawT) (w' : World) : Prop := Below B w w' ∧ (er = 0 → ∃ v, w'.cell? ⟨g, 0, none⟩ = some v ∧ OwnM B rows (.agg #[v]) w')
set_option maxRecDepth 100000 in
set_option maxHeartbeats 2000000 in
theorem drop_none (g : Nat) (sv : Value) (x : MutT) (px : Option Addr) (cx : Nat) (iv : Int) (w : World) (hg : Blk w g #[sv, .int .i64 x.kind, .string x.name, .int .i64 x.eps, .int .i64 x.floor, .int .i64 x.scale, .slice px x.pts.length cx] 98)
    (c1 : Hid (∀ W, Below w.heap.size w W → Calls Tryz.prog 75 #[.pointer (some ⟨g, 0, none⟩)] W fun e w' => e = .returned (.tuple #[.int .i64 iv, .bool false]) ∧ Below W.heap.size W w')) :
    Calls Tryz.prog 48 #[.pointer (some ⟨g, 0, none⟩)] w fun e w' => e = .returned (.int .i64 372) ∧ Below w.heap.size w w' := by
  go_enter Tryz.func48, Tryz.ntmps48
  go_upto_region 1 with (fail)
  refine wp_cutB w (Bc g #[sv, .int .i64 x.kind, .string x.name, .int .i64 x.eps, .int .i64 x.floor, .int .i64 x.scale, .slice px x.pts.length cx] 98 <| Bz) ?_
  rintro W1 hW z2 ⟨⟨b1, yb1, k1, f1⟩, -⟩
  go_wp2_with fail
  refine (c1.out _ hW).mono ?_
  rintro e w3 ⟨rfl, hb3⟩
  have z4 := hb3.size
  try simp at z4
  clear k1 f1
  refine haveB w w3 (Bc g #[sv, .int .i64 x.kind, .string x.name, .int .i64 x.eps, .int .i64 x.floor, .int .i64 x.scale, .slice px x.pts.length cx] 98 <| Bz) ?_
  clear b1 hW
  rintro hW z5 ⟨⟨b1, yb1, k1, f1⟩, -⟩
  clear hb3
  go_wp2
  refine bodyPost_ret (by simp [results, Tryz.results48, go_sem, k1, f1, yb1]) rfl ⟨rfl, by exact belowAny⟩
set_option maxRecDepth 100000 in
set_option maxHeartbeats 2000000 in
theorem drop_found (B g G m i : Nat) (x : MutT) (px : Option Addr) (cx : Nat) (RL : List RawR) (rows : List RawT) (w : World) (hg : Blk w g #[.slice (some ⟨G, 0, none⟩) (m + 1) (m + 1), .int .i64 x.kind, .string x.name, .int .i64 x.eps, .int .i64 x.floor, .int .i64 x.scale, .slice px x.pts.length cx] 98) (hG : Blk w G (flatRaws RL).toArray 35) (hP : PtRowsO w B RL) (hRL : Hid (RL.map (·.r) = rows))
    (hBg : B ≤ g) (hBG : B ≤ G) (hgG : g ≠ G) (hn : Hid (RL.length = m + 1)) (him : i ≤ m) (hmx : m ≤ 100)
    (c1 : Hid (∀ W, Below w.heap.size w W → Calls Tryz.prog 75 #[.pointer (some ⟨g, 0, none⟩)] W fun e w' => e = .returned (.tuple #[.int .i64 (i : Int), .bool true]) ∧ Below W.heap.size W w')) :
    Calls Tryz.prog 48 #[.pointer (some ⟨g, 0, none⟩)] w fun e w' => e = .returned (.int .i64 0) ∧ DoneT w B g 0 (rows.eraseIdx i) w' := by
  have hBw : B ≤ w.heap.size := by have := hg.lt; omega
  go_enter Tryz.func48, Tryz.ntmps48
  go_upto_region 1 with (fail)
  refine wp_cutB w (Bc g #[.slice (some ⟨G, 0, none⟩) (m + 1) (m + 1), .int .i64 x.kind, .string x.name, .int .i64 x.eps, .int .i64 x.floor, .int .i64 x.scale, .slice px x.pts.length cx] 98 <| Bc G (flatRaws RL).toArray 35 <| Bz) ?_
  rintro W1 hW z2 ⟨⟨b1, yb1, k1, f1⟩, ⟨b2, yb2, k2, f2⟩, -⟩
  go_wp2_with fail
  refine (c1.out _ hW).mono ?_
  rintro e w3 ⟨rfl, hb3⟩
  have z4 := hb3.size
  try simp at z4
  clear k1 f1 k2 f2
  refine haveB w w3 (Bc g #[.slice (some ⟨G, 0, none⟩) (m + 1) (m + 1), .int .i64 x.kind, .string x.name, .int .i64 x.eps, .int .i64 x.floor, .int .i64 x.scale, .slice px x.pts.length cx] 98 <| Bc G (flatRaws RL).toArray 35 <| Bz) ?_
  clear b1 b2 hW
  rintro hW z5 ⟨⟨b1, yb1, k1, f1⟩, ⟨b2, yb2, k2, f2⟩, -⟩
  clear hb3
  go_wp2_with fail
  refine (c_delRaw G m i RL _ b2 hn him hmx).mono ?_
  rintro e w9 ⟨rfl, hR9, cur, hb9, hs9, ht9⟩
  have d1 := b1.rex hR9 (by simp; omega)
  have hz9 := hR9.size
  have hB9 : Below B w w9 := (hW.mono hBw).trans (hR9.of_priv (by omega) (by simp; omega))
  have hP9 : PtRowsO w9 B RL := (hP.below hW).rexR b2 hR9
  clear b1 b2 k1 f1 k2 f2 hR9 hW
  have k1 := d1.cell
  have f1 := d1.frozen
  have yd1 := d1.lt
  replace hs9 := Lib.hid hs9
  replace ht9 := Lib.hid ht9
  replace hP9 := Lib.hid hP9
  replace hB9 := Lib.hid hB9
  go_wp2
  have hlen : (RL.eraseIdx i).length = m := by rw [List.length_eraseIdx, hn.out, if_pos (by omega)]; rfl
  have e2 := d1.set2 (i := 0) (v := .slice (some ⟨G, 0, none⟩) m (m + 1)) rfl
  refine bodyPost_ret (v := .int .i64 0) (by simp [results, Tryz.results48, go_sem]) rfl ⟨rfl, hB9.out.setCell (by simp; omega) _, fun _ => ⟨_, e2.cell 0, ?_⟩⟩
  rw [show rows.eraseIdx i = (RL.eraseIdx i).map (·.r) by rw [← hRL.out, List.eraseIdx_eq_take_drop_succ, List.eraseIdx_eq_take_drop_succ, List.map_append, List.map_take, List.map_drop]]
  exact own_done (hb9.setO (by omega) _ _) hBG hlen.symm (by omega) hs9.out (by simp [maxLen]; omega) ht9.out (hP9.out.erase.otherR d1 (by decide))
end Go.Proofs.YtdeghcgakkhbmaaGreat
namespace Go.Proofs.YtdeghcgakkhbmaaGreat
open Go.RowKit
set_option maxRecDepth 100000 in
set_option maxHeartbeats 2000000 in
theorem mut28_w (kd : Int) (nm : ByteArray) (ep fl sc : Int) (po : Option Addr) (co : Nat) (pts : List (Int × Int)) (w : World) (N : Nat)
    (hpts : PtsIn w po pts) (hnilP : po = none → pts.length = 0 ∧ co = 0) (hcapP : pts.length ≤ co)
    (hN : N ≤ 1025) (hNr : N ≤ pts.length) (EN : Hid ((if (20 : Int) < (pts.length : Int) then (20 : Int) else pts.length) = (N : Int))) (hNc : (N : Int) ≤ co) (hN0 : 0 ≤ (N : Int)) (nm9 : ByteArray) (hnm : Hid ((nm.extract 0 (mn (nm.size : Int) 20).toNat) = nm9)) :
    Calls Tryz.prog 16 #[.agg #[.int .i64 kd, .string nm, .int .i64 ep, .int .i64 fl, .int .i64 sc, .slice po pts.length co]] w fun e w' => ∃ pP capP, e = .returned (.agg #[.int .i64 kd, .string nm9, .int .i64 ep, .int .i64 fl, .int .i64 sc, .slice pP N capP]) ∧ Below w.heap.size w w' ∧ PtRow w' w.heap.size pP (pts.take N) ∧ N ≤ capP ∧ (pP = none → capP = 0) := by
  have cQ := Lib.hid (fun W B (hW : Below w.heap.size w W) (hBW : B ≤ W.heap.size) => (show Calls Tryz.prog 41 #[.slice po N co] W fun e w' => ∃ v, e = .returned v ∧ Below W.heap.size W w' ∧ PtS B N (pts.take N) v w' from by
    have hl : (pts.take N).length = N := by rw [List.length_take]; omega
    cases hpo : po with
    | none =>
      obtain ⟨h1, h2⟩ := hnilP hpo
      have e : N = 0 := by omega
      subst e
      subst h2
      refine (clonePt_nil W).mono ?_
      rintro e w' ⟨rfl, hB⟩
      exact ⟨_, rfl, hB, .inl ⟨rfl, rfl, rfl⟩⟩
    | some a9 =>
      have t := clonePtB_some a9 co (pts.take N) W (by omega) (hpo ▸ (hpts.take9 N).below hW)
      rw [hl] at t
      refine t.mono ?_
      rintro e w' ⟨v, rfl, hB, g, c, cur, rfl, hg, h⟩
      exact ⟨_, rfl, hB, .inr ⟨g, c, cur, rfl, Nat.le_trans hBW hg, h⟩⟩))
  go_enter Tryz.func16, Tryz.ntmps16
  have hmin : ∀ ts t x y w, (Builtin.min_ ts t #[.int .i64 x, .int .i64 y]).run Tryz.prog w = .ok (.int .i64 (mn x y)) w := fun ts t x y w => by simp [Builtin.min_, Builtin.min2, mn]
  have hm0 := mn_spec (nm.size : Int) 20
  have hm1 : 0 ≤ mn (nm.size : Int) 20 := by omega
  have hm2 : mn (nm.size : Int) 20 ≤ (nm.size : Int) := hm0.1
  clear hm0
  go_upto_region 2 with (fail)
  refine wp_cutB w (Bc w.heap.size #[.int .i64 kd, .string (nm.extract 0 (mn (nm.size : Int) 20).toNat), .int .i64 ep, .int .i64 fl, .int .i64 sc, .slice po pts.length co] 52 <| Bc (w.heap.size + 1) #[.int .i64 0, .string .empty, .int .i64 0, .int .i64 0, .int .i64 0, .slice none 0 0] 52 <| Bz) ?_
  rintro W1 hW z2 ⟨⟨b1, yb1, k1, f1⟩, ⟨b2, yb2, k2, f2⟩, -⟩
  clear hmin hm1 hm2
  rw [hnm.out] at b1
  go_upto_region 2 with (fail)
  clear k1 f1 k2 f2
  refine wp_cutB w (Bc w.heap.size #[.int .i64 kd, .string nm9, .int .i64 ep, .int .i64 fl, .int .i64 sc, .slice po pts.length co] 52 <| Bc (w.heap.size + 1) #[.int .i64 0, .string .empty, .int .i64 0, .int .i64 0, .int .i64 0, .slice none 0 0] 52 <| Bz) ?_
  clear b1 b2 hW
  rintro W3 hW z4 hL
  obtain ⟨⟨b1, yb1, k1, f1⟩, ⟨b2, yb2, k2, f2⟩, -⟩ := id hL
  clear k1 f1 k2 f2
  refine wp_regS 8 21 hW hL ?_
  iterate 5 refine dA ?_
  apply nd_det (.int .i64 ((N : Nat) : Int)) (hg := rfl) (hal := rfl)
  · intro a' W' hC hE
    simp [Oper.looksAt, Op.operands, Call.operands, envOf, Det] at hE
    simp [go_sem, Act.eval, hE, EN.out]
  apply nd_det (.slice po N co) (hg := rfl) (hal := rfl)
  · intro a' W' hC hE
    simp [Oper.looksAt, Op.operands, Call.operands, envOf, Det] at hE
    simp [go_sem, Act.eval, hE, hNc, hN0, add_zero_map]
  apply nd_call (PtS W3.heap.size N (pts.take N)) (hg := rfl) (hal := rfl)
  · exact PtS.closed _ _ _
  · intro a' W' hC hE
    simp [Oper.looksAt, Op.operands, Call.operands, envOf, Det] at hE
    refine ⟨_, _, ?_, (cQ.out W' W3.heap.size (hW.trans (hC.1.of_priv hW.size)) hC.1.size).mono ?_⟩
    · simp [go_sem, Act.eval, hE]
      try rfl
    · rintro e w' ⟨v, rfl, hB, hv⟩
      exact ⟨v, rfl, hB, hv⟩
  clear hW hL b1 b2
  rintro W5 hW z6 hL
  simp only [ndR]
  intros
  simp only [ndS]
  obtain ⟨⟨b1, yb1, k1, f1⟩, ⟨b2, yb2, k2, f2⟩, -⟩ := hL
  have z7 := hW.size
  rename PtS _ _ _ _ _ => hp
  obtain ⟨pP, capP, rfl, hP, hcP, hnP⟩ := hp.form9
  clear hp
  go_upto_region 3 with (fail)
  clear k1 f1 k2 f2
  refine wp_cutB w (Bc w.heap.size #[.int .i64 kd, .string nm9, .int .i64 ep, .int .i64 fl, .int .i64 sc, .slice pP N capP] 52 <| Bc (w.heap.size + 1) #[.int .i64 0, .string .empty, .int .i64 0, .int .i64 0, .int .i64 0, .slice none 0 0] 52 <| Rc (fun W' => PtRow W' (w.heap.size + 1 + 1) pP (pts.take N)) <| Bz) ?_ (hI := by exact belowAny) (hR := (Bc.mk (by exact blkAny2) <| Bc.mk (by exact blkAny2) <| Rc.mk (by exact (hP.mono (by omega)).setO (by omega) _ _) <| trivial))
  clear b1 b2 hW
  rintro W8 hW z9 ⟨⟨b1, yb1, k1, f1⟩, ⟨b2, yb2, k2, f2⟩, b3, -⟩
  have hP := b3
  clear b3
  go_wp2
  have d2 : Blk ((((((W8.setCell ⟨w.heap.size + 1, 0, none⟩ (.int .i64 kd)).setCell ⟨w.heap.size + 1, 1, none⟩ (.string nm9)).setCell ⟨w.heap.size + 1, 2, none⟩ (.int .i64 ep)).setCell ⟨w.heap.size + 1, 3, none⟩ (.int .i64 fl)).setCell ⟨w.heap.size + 1, 4, none⟩ (.int .i64 sc)).setCell ⟨w.heap.size + 1, 5, none⟩ (.slice pP N capP)) (w.heap.size + 1) #[.int .i64 kd, .string nm9, .int .i64 ep, .int .i64 fl, .int .i64 sc, .slice pP N capP] 52 := blkAny2
  have hB9 : Below w.heap.size w ((((((W8.setCell ⟨w.heap.size + 1, 0, none⟩ (.int .i64 kd)).setCell ⟨w.heap.size + 1, 1, none⟩ (.string nm9)).setCell ⟨w.heap.size + 1, 2, none⟩ (.int .i64 ep)).setCell ⟨w.heap.size + 1, 3, none⟩ (.int .i64 fl)).setCell ⟨w.heap.size + 1, 4, none⟩ (.int .i64 sc)).setCell ⟨w.heap.size + 1, 5, none⟩ (.slice pP N capP)) := belowAny
  have hP9 : PtRow ((((((W8.setCell ⟨w.heap.size + 1, 0, none⟩ (.int .i64 kd)).setCell ⟨w.heap.size + 1, 1, none⟩ (.string nm9)).setCell ⟨w.heap.size + 1, 2, none⟩ (.int .i64 ep)).setCell ⟨w.heap.size + 1, 3, none⟩ (.int .i64 fl)).setCell ⟨w.heap.size + 1, 4, none⟩ (.int .i64 sc)).setCell ⟨w.heap.size + 1, 5, none⟩ (.slice pP N capP)) (w.heap.size + 1 + 1) pP (pts.take N) := ((((((hP.setO (by omega) 0 _).setO (by omega) 1 _).setO (by omega) 2 _).setO (by omega) 3 _).setO (by omega) 4 _).setO (by omega) 5 _)
  obtain ⟨W9, hW9⟩ : ∃ W9, W9 = ((((((W8.setCell ⟨w.heap.size + 1, 0, none⟩ (.int .i64 kd)).setCell ⟨w.heap.size + 1, 1, none⟩ (.string nm9)).setCell ⟨w.heap.size + 1, 2, none⟩ (.int .i64 ep)).setCell ⟨w.heap.size + 1, 3, none⟩ (.int .i64 fl)).setCell ⟨w.heap.size + 1, 4, none⟩ (.int .i64 sc)).setCell ⟨w.heap.size + 1, 5, none⟩ (.slice pP N capP)) := ⟨_, rfl⟩
  rw [← hW9] at d2 hB9 hP9 ⊢
  clear hW9 b1 b2 hP k1 f1 k2 f2
  have k2 := d2.cell
  have f2 := d2.frozen
  have y_2 := d2.lt
  refine bodyPost_ret (v := .agg #[.int .i64 kd, .string nm9, .int .i64 ep, .int .i64 fl, .int .i64 sc, .slice pP N capP]) (by simp [results, Tryz.results16, go_sem, k2, f2, y_2]) rfl ⟨pP, capP, rfl, hB9, hP9.mono (by omega), hcP, hnP⟩
/-- A mutation that came in. -/
structure MutCame (w : World) (x : MutT) (p : Option Addr) (cap : Nat) : Prop where
  pts : PtsIn w p x.pts
  nil : p = none → x.pts.length = 0 ∧ cap = 0
  cap : x.pts.length ≤ cap
theorem MutCame.below {w W : World} {x : MutT} {p : Option Addr} {cap : Nat} (h : MutCame w x p cap) (hb : Below w.heap.size w W) : MutCame W x p cap := ⟨h.pts.below hb, h.nil, h.cap⟩
/-- What is left of it. -/
def mutOf (x : MutT) : MutT := ⟨x.kind, x.name.extract 0 (mn (x.name.size : Int) 20).toNat, x.eps, x.floor, x.scale, x.pts.take (min x.pts.length 20)⟩
theorem mutOf_len (x : MutT) : (mutOf x).pts.length ≤ 20 := by
  show (x.pts.take (min x.pts.length 20)).length ≤ 20
  rw [List.length_take]; omega
theorem mutOf_name (x : MutT) : (mutOf x).name.size ≤ 20 := by
  have := mn_spec (x.name.size : Int) 20
  show (x.name.extract 0 (mn (x.name.size : Int) 20).toNat).size ≤ 20
  rw [ByteArray.size_extract]
  omega
/-- A mutation whose points lie in a block of its own. -/
def OwnMu (B : Nat) (x : MutT) : Spec := fun v w => ∃ px cx, v = .agg #[.int .i64 x.kind, .string x.name, .int .i64 x.eps, .int .i64 x.floor, .int .i64 x.scale, .slice px x.pts.length cx] ∧ PtRow w B px x.pts ∧ x.pts.length ≤ cx ∧ (px = none → cx = 0)
theorem OwnMu.below {B : Nat} {x : MutT} {v : Value} {w w' : World} (h : OwnMu B x v w) (hb : Below w.heap.size w w') : OwnMu B x v w' := by
  obtain ⟨p, c, e, h1, h2⟩ := h
  exact ⟨p, c, e, h1.below hb, h2⟩
theorem OwnMu.closed (B : Nat) (x : MutT) : Closed [] (OwnMu B x) := fun _ _ _ hr h => h.below hr.below
theorem OwnMu.rex {L : List Nat} {B : Nat} {x : MutT} {v : Value} {w w' : World} (h : OwnMu B x v w) (hr : Rex L w w') (hL : L = []) : OwnMu B x v w' := by subst hL; exact h.below hr.below
theorem OwnMu.drew {B : Nat} {x : MutT} {v : Value} {w : World} (h : OwnMu B x v w) : OwnMu B x v w.drew := h.below (Below.drew (Below.refl _ w))
theorem OwnMu.mono {B B' : Nat} {x : MutT} {v : Value} {w : World} (h : OwnMu B x v w) (hB : B' ≤ B) : OwnMu B' x v w := by
  obtain ⟨p, c, e, h1, h2⟩ := h
  exact ⟨p, c, e, h1.mono hB, h2⟩
theorem OwnMu.store {B o j : Nat} {x : MutT} {v u : Value} {w : World} {cs : Array Value} {t : TypeId} (h : OwnMu B x v w) (hb : Blk w o cs t) (h2 : t ≠ 58) : OwnMu B x v (w.setCell ⟨o, j, none⟩ u) := by
  obtain ⟨p, c, e, h1, h3⟩ := h
  refine ⟨p, c, e, h1.keep fun g cs' _ hg => hg.setO ?_ _ _, h3⟩
  rintro rfl
  have e1 : w.heap[g]? = some (.cells cs t (0, 0)) := hb
  have e2 : w.heap[g]? = some (.cells cs' _ (0, 0)) := hg
  rw [e1] at e2
  injection e2 with e2
  injection e2 with _ e2 _
  exact h2 e2
theorem OwnMu.got {B : Nat} {x : MutT} {q : Option Addr} {d : Nat} {w : World} (h : OwnMu B x (.agg #[.int .i64 x.kind, .string x.name, .int .i64 x.eps, .int .i64 x.floor, .int .i64 x.scale, .slice q x.pts.length d]) w) : PtsIn w q x.pts := by
  obtain ⟨p9, c9, e9, h1, _⟩ := h
  simp only [Value.agg.injEq, Array.mk.injEq, List.cons.injEq, Value.slice.injEq, and_true, true_and] at e9
  rw [e9.1]
  exact h1.pts
/-- Points in a block of their own, as a drawn step's value. -/
def PtV (l : List (Int × Int)) : Spec := fun v w => ∃ p c, v = .slice p l.length c ∧ PtRow w 0 p l
theorem PtV.closed (l : List (Int × Int)) : Closed [] (PtV l) := fun _ _ _ hr ⟨p, c, e, h⟩ => ⟨p, c, e, h.below hr.below⟩
theorem c_mut28 (x : MutT) (px : Option Addr) (cx : Nat) (w : World) (h : MutCame w x px cx) :
    Calls Tryz.prog 16 #[.agg #[.int .i64 x.kind, .string x.name, .int .i64 x.eps, .int .i64 x.floor, .int .i64 x.scale, .slice px x.pts.length cx]] w fun e w' => ∃ v, e = .returned v ∧ Below w.heap.size w w' ∧ OwnMu w.heap.size (mutOf x) v w' := by
  have hl : (x.pts.take (min x.pts.length 20)).length = min x.pts.length 20 := by rw [List.length_take]; omega
  have h1 := h.cap
  refine (mut28_w x.kind x.name x.eps x.floor x.scale px cx x.pts w (min x.pts.length 20) h.pts h.nil h.cap (by omega) (by omega) (Lib.hid (by split <;> omega)) (by omega) (by omega) _ (Lib.hid rfl)).mono ?_
  rintro e w' ⟨pP, capP, rfl, hB, hP, hc, hn⟩
  refine ⟨_, rfl, hB, pP, capP, ?_, hP, ?_, hn⟩
  · unfold mutOf
    simp only [hl]
  · show (x.pts.take (min x.pts.length 20)).length ≤ capP
    omega
end Go.Proofs.YtdeghcgakkhbmaaGreat
namespace Go.Proofs.YtdeghcgakkhbmaaGreat
open Go.RowKit
/-- Why points may not come. -/
def refL (floor : Int) (full : Bool) : Int → List (Int × Int) → Int
  | _, [] => if full = true then 344 else 0
  | ah, p :: l => if ptB p = false then 2 else if p.1 ≤ ah then 342 else if p.1 < floor then 343 else refL floor full p.1 l
def refE (r : RawT) (l : List (Int × Int)) : Int := refL r.floor (decide (r.pts.length + l.length > 1024)) r.last l
theorem refL_bad {floor ah : Int} {full : Bool} {p : Int × Int} {l : List (Int × Int)} (h : ptB p = false) : refL floor full ah (p :: l) = 2 := by simp only [refL, h, if_true]
theorem refL_order {floor ah : Int} {full : Bool} {p : Int × Int} {l : List (Int × Int)} (h : ptB p = true) (h1 : p.1 ≤ ah) : refL floor full ah (p :: l) = 342 := by simp only [refL, h, h1, if_true]; rfl
theorem refL_below {floor ah : Int} {full : Bool} {p : Int × Int} {l : List (Int × Int)} (h : ptB p = true) (h1 : ¬p.1 ≤ ah) (h2 : p.1 < floor) : refL floor full ah (p :: l) = 343 := by simp only [refL, h, h1, h2, if_true, if_false]; rfl
theorem refL_on {floor ah : Int} {full : Bool} {p : Int × Int} {l : List (Int × Int)} (h : ptB p = true) (h1 : ¬p.1 ≤ ah) (h2 : ¬p.1 < floor) : refL floor full ah (p :: l) = refL floor full p.1 l := by simp only [refL, h, h1, h2, if_false]; rfl
def rfuRel (w : World) (G o : Nat) (r : RawT) (pl : Option Addr) (cl : Nat) (l : List (Int × Int)) (RES : Int) (a' : Act) (W : World) : Prop :=
  Below w.heap.size w W ∧ ∃ (i : Nat) (ah : Int), (∃ u : Nat → Value, a' = { tmps := #[.pointer (some ⟨G, o, none⟩), .slice pl l.length cl, u 2, u 3, .int .i64 0, .int .i64 ah, u 6, u 7, u 8, u 9, u 10, u 11, .slice pl l.length cl, .int .i64 (l.length : Int), .int .i64 (i : Int), u 15, u 16, u 17, u 18, u 19, u 20, u 21, u 22, u 23, u 24, u 25, u 26, u 27, u 28, u 29, u 30, u 31, u 32, u 33, u 34, u 35, u 36, u 37, u 38, u 39, u 40, u 41, u 42, u 43, u 44, u 45, u 46], defers := [] }) ∧ Hid (refL r.floor (decide (r.pts.length + l.length > 1024)) ah (l.drop i) = RES) ∧ i ≤ l.length
set_option maxRecDepth 100000 in
set_option maxHeartbeats 2000000 in
theorem c_mdRefused (G o : Nat) (r : RawT) (pr : Option Addr) (cr : Nat) (pl : Option Addr) (cl : Nat) (l : List (Int × Int)) (w : World) (hc : CellsP w G o #[.string r.name, .int .i64 r.eps, .int .i64 r.floor, .int .i64 r.last, .int .i64 r.scale, .slice pr r.pts.length cr]) (hl : PtsIn w pl l) (hmx : l.length ≤ 2000) (hrm : r.pts.length ≤ 2000) :
    Calls Tryz.prog 99 #[.pointer (some ⟨G, o, none⟩), .slice pl l.length cl] w fun e w' => e = .returned (.int .i64 (refE r l)) ∧ Below w.heap.size w w' := by
  obtain ⟨RES, hRES⟩ : ∃ x, refE r l = x := ⟨_, rfl⟩
  rw [hRES]
  unfold refE at hRES
  replace hRES := Lib.hid hRES
  go_enter Tryz.func99, Tryz.ntmps99
  have t3 := hc.at' 3 _ rfl
  go_upto_region 2 with (fail)
  refine wp_cutB w (Bz) ?_
  rintro W1 hW z2 ⟨-⟩
  go_wp2
  refine wp_loop (rfuRel w G o r pl cl l RES) (fun a' _ => l.length - (intAt (a'.tmps.getD 14 undef)).toNat) ?_ ?_
  · unfold rfuRel
    exact ⟨hW, 0, r.last, frame_ex rfl, Lib.hid hRES.out, Nat.zero_le _⟩
  clear hW t3 hRES
  rintro a' W ⟨hW0, i, ah, ⟨u, rfl⟩, hi, hi'⟩
  have hz := hW0.size
  have hcW := hc.below hW0
  rcases Nat.lt_or_ge i l.length with hlt | hge
  · obtain ⟨⟨t, y⟩, tr⟩ : ∃ x, l[i]? = some x := ⟨l[i]'(by omega), List.getElem?_eq_getElem (by omega)⟩
    obtain ⟨bp, op, rfl, q0, q1⟩ := (hl.below hW0).at' i _ tr
    have hd : l.drop i = (t, y) :: l.drop (i + 1) := by rw [List.drop_eq_getElem_cons hlt]; congr 1; rw [List.getElem?_eq_getElem hlt] at tr; injection tr
    have hiv := hi.out
    rw [hd] at hiv
    obtain ⟨F, hF⟩ : ∃ B, ptB (t, y) = B := ⟨_, rfl⟩
    have c1 := Lib.hid (fun W => hF ▸ c_mdPoint t y W)
    obtain ⟨fl, hfl⟩ : ∃ b, decide (r.pts.length + l.length > 1024) = b := ⟨_, rfl⟩
    rw [hfl] at hiv
    have hnA := Lib.hid (fun (e : F = false) => (show RES = 2 by rw [← hiv, refL_bad (hF.trans e)]))
    have hnB := Lib.hid (fun (e : F = true) (e1 : t ≤ ah) => (show RES = 342 by rw [← hiv, refL_order (hF.trans e) e1]))
    have hnC := Lib.hid (fun (e : F = true) (e1 : ¬t ≤ ah) (e2 : t < r.floor) => (show RES = 343 by rw [← hiv, refL_below (hF.trans e) e1 e2]))
    have hst := Lib.hid (fun (e : F = true ∧ ¬t ≤ ah ∧ ¬t < r.floor) => (show Hid (refL r.floor (decide (r.pts.length + l.length > 1024)) t (l.drop (i + 1)) = RES) from Lib.hid (by
      rw [← hiv, hfl, refL_on (hF.trans e.1) e.2.1 e.2.2])))
    clear hiv hF hfl hd tr hi
    go_upto_region 5 with (fail)
    refine wp_cutB W (Bc W.heap.size #[.int .i64 t, .int .i64 y] 58 <| Rc (fun W' => CellsP W' G o #[.string r.name, .int .i64 r.eps, .int .i64 r.floor, .int .i64 r.last, .int .i64 r.scale, .slice pr r.pts.length cr]) <| Bz) ?_ (hI := by exact belowAny) (hR := (Bc.mk (by exact blkAny2) <| Rc.mk (by exact hcW.below (by exact belowAny)) <| trivial))
    rintro W21 hW z22 ⟨⟨b1, yb1, k1, f1⟩, b2, -⟩
    clear q0 q1
    have hcV := b2
    go_wp2_with fail
    refine (c1.out _).mono ?_
    rintro e w23 ⟨rfl, hb23⟩
    have z24 := hb23.size
    try simp at z24
    clear k1 f1
    refine haveB W w23 (Bc W.heap.size #[.int .i64 t, .int .i64 y] 58 <| Rc (fun W' => CellsP W' G o #[.string r.name, .int .i64 r.eps, .int .i64 r.floor, .int .i64 r.last, .int .i64 r.scale, .slice pr r.pts.length cr]) <| Bz) ?_ (hR := (Bc.mk (by exact blkAny2) <| Rc.mk (by exact hcW.below (by exact belowAny)) <| trivial))
    clear b1 b2 hW
    rintro hW z25 ⟨⟨b1, yb1, k1, f1⟩, b2, -⟩
    clear hb23
    cases F with
    | false =>
      go_wp2
      go_ret
      exact ⟨by rw [hnA.out (by trivial)]; rfl, hW0.trans (hW.mono hz)⟩
    | true =>
      by_cases h1 : t ≤ ah
      · go_wp2
        go_ret
        exact ⟨by rw [hnB.out (by trivial) h1]; rfl, hW0.trans (hW.mono hz)⟩
      go_upto_region 9 with (fail)
      clear k1 f1
      refine wp_cutB W (Bc W.heap.size #[.int .i64 t, .int .i64 y] 58 <| Rc (fun W' => CellsP W' G o #[.string r.name, .int .i64 r.eps, .int .i64 r.floor, .int .i64 r.last, .int .i64 r.scale, .slice pr r.pts.length cr]) <| Bz) ?_ (hI := by exact belowAny) (hR := (Bc.mk (by exact blkAny2) <| Rc.mk (by exact hcW.below (by exact belowAny)) <| trivial))
      clear b1 b2 hW
      rintro W26 hW z27 hL
      obtain ⟨⟨b1, yb1, k1, f1⟩, b2, -⟩ := id hL
      clear k1 f1
      refine wp_regD 8 47 hW hL ?_
      iterate 8 refine dE (fun W' hC => (hC.2.2.1.at' 2 _ rfl)) ?_
      clear hW hL b1 b2
      rintro W28 hW z29 hL
      simp only [ndR]
      intros
      simp only [ndS]
      refine wpList_nil ?_
      obtain ⟨⟨b1, yb1, k1, f1⟩, b2, -⟩ := hL
      by_cases h2 : t < r.floor
      · go_wp2
        go_ret
        exact ⟨by rw [hnC.out (by trivial) h1 h2]; rfl, hW0.trans (hW.mono hz)⟩
      go_wp2
      rw [show (i : Int) + 1 = ((i + 1 : Nat) : Int) by omega]
      refine ⟨?_, by simp [intAt]; omega⟩
      unfold rfuRel
      exact ⟨hW0.trans (hW.mono hz), i + 1, t, frame_ex rfl, hst.out ⟨by trivial, h1, h2⟩, by omega⟩
  · obtain rfl : i = l.length := by omega
    have hend := Lib.hid (show RES = if decide (r.pts.length + l.length > 1024) = true then 344 else 0 by
      have h9 := hi.out
      rw [List.drop_length] at h9
      exact h9.symm)
    clear hi
    have t5 := hcW.at' 5 _ rfl
    by_cases h9 : r.pts.length + l.length > 1024
    · go_wp2
      go_ret
      exact ⟨by rw [hend.out, decide_eq_true h9]; rfl, hW0⟩
    · go_wp2
      go_ret
      exact ⟨by rw [hend.out, decide_eq_false h9]; rfl, hW0⟩
end Go.Proofs.YtdeghcgakkhbmaaGreat
