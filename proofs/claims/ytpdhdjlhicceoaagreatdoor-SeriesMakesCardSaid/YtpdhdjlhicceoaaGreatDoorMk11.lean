/- Parts of the proof that follows: The document's times of runs: Times. | The document's times: Rising. | The document's runs of times: Of. | The document's runs of times: Same, Right. | The document's segments: Kind, Points walked. | The document's segments: Kind, Right walked. -/
import Derived.Test.YtpdhdjlhicceoaaGreatDoorMk10
set_option linter.unusedSimpArgs false
set_option linter.unusedVariables false
namespace Go.Proofs.YtpdhdjlhicceoaaGreatDoor
open Go.RowKit
def tiRel (w : World) (p : Option Addr) (l : List RunT) (cap : Nat) (a' : Act) (W : World) : Prop :=
  Below w.heap.size w W ∧ ∃ (i : Nat) (T : List Int) (v : Value), (∃ u : Nat → Value, a' = { tmps := #[.slice p l.length cap, u 1, .slice none 0 0, v, .int .i64 (i : Int), u 5, u 6, u 7, u 8, u 9, u 10, u 11, u 12, u 13, u 14, u 15, u 16, u 17, u 18, u 19, u 20, u 21, u 22, u 23, u 24, u 25, u 26, u 27, u 28, u 29, u 30, u 31, u 32, u 33, u 34, u 35, u 36, u 37, u 38, u 39, u 40, u 41, u 42, u 43, u 44, u 45, u 46, u 47, u 48, u 49, u 50, u 51, u 52, u 53, u 54, u 55, u 56, u 57, u 58, u 59, u 60, u 61, u 62, u 63, u 64, u 65, u 66, u 67, u 68, u 69], defers := [] }) ∧
    OwnR W w.heap.size 2 1 v T.length (T.map (Value.int .i64)) ∧ T = timesL (l.take i) ∧ i ≤ l.length ∧ (∀ r, r ∈ l.take i → fitR r = true) ∧ cnt (l.take i) ≤ 256
def tjRel (w : World) (p : Option Addr) (l : List RunT) (cap i : Nat) (T : List Int) (r : RunT) (g : Nat) (a' : Act) (W : World) : Prop :=
  Below w.heap.size w W ∧ Blk W g #[.int .i64 r.f, .int .i64 r.s, .int .i64 r.c] 69 ∧ ∃ (k : Nat) (T1 : List Int) (v : Value), (∃ u : Nat → Value, a' = { tmps := #[.slice p l.length cap, u 1, .slice none 0 0, v, .int .i64 (i : Int), .pointer (some ⟨g, 0, none⟩), .int .i64 (k : Int), u 7, u 8, u 9, u 10, u 11, u 12, u 13, u 14, u 15, u 16, u 17, u 18, u 19, u 20, u 21, u 22, u 23, u 24, u 25, u 26, u 27, u 28, u 29, u 30, u 31, u 32, u 33, u 34, u 35, u 36, u 37, u 38, u 39, u 40, u 41, u 42, u 43, u 44, u 45, u 46, u 47, u 48, u 49, u 50, u 51, u 52, u 53, u 54, u 55, u 56, u 57, u 58, u 59, u 60, u 61, u 62, u 63, u 64, u 65, u 66, u 67, u 68, u 69], defers := [] }) ∧
    OwnR W w.heap.size 2 1 v T1.length (T1.map (Value.int .i64)) ∧ T1 = T ++ (List.range k).map (fun (j : Nat) => r.f + r.s * (j : Int)) ∧ (k : Int) ≤ r.c
end Go.Proofs.YtpdhdjlhicceoaaGreatDoor
namespace Go.Proofs.YtpdhdjlhicceoaaGreatDoor
open Go.RowKit
/-- The first n are times that may be, one above the other. -/
structure UpTo (T : List Int) (n : Nat) : Prop where
  lo : ∀ (k : Nat) (x : Int), k < n → T[k]? = some x → 0 ≤ x ∧ x ≤ 281474976710656
  up : ∀ (k : Nat) (x y : Int), k + 1 < n → T[k]? = some x → T[k + 1]? = some y → x < y
theorem UpTo.pair : ∀ {T : List Int}, UpTo T T.length → T.Pairwise (· < ·)
  | [], _ => List.Pairwise.nil
  | [a], _ => by simp
  | a :: b :: l, h => by
    have ht : UpTo (b :: l) (b :: l).length := ⟨fun k x hk hx => h.lo (k + 1) x (by simp at hk ⊢; omega) (by simpa using hx), fun k x y hk hx hy => h.up (k + 1) x y (by simp at hk ⊢; omega) (by simpa using hx) (by simpa using hy)⟩
    have ih := ht.pair
    have hab : a < b := h.up 0 a b (by simp) (by simp) (by simp)
    refine List.pairwise_cons.2 ⟨fun c hc => ?_, ih⟩
    rcases List.mem_cons.1 hc with rfl | hc
    · exact hab
    · have := (List.pairwise_cons.1 ih).1 c hc; omega
def risRel (w : World) (b o cap : Nat) (T : List Int) (a' : Act) (W : World) : Prop :=
  Below w.heap.size w W ∧ ∃ (i : Nat), (∃ u : Nat → Value, a' = { tmps := #[.slice (some ⟨b, o, none⟩) T.length cap, u 1, .bool false, .int .i64 (i : Int), u 4, u 5, u 6, u 7, u 8, u 9, u 10, u 11, u 12, u 13, u 14, u 15, u 16, u 17, u 18, u 19, u 20, u 21, u 22, u 23, u 24, u 25, u 26, u 27, u 28, u 29, u 30, u 31, u 32, u 33, u 34, u 35, u 36, u 37, u 38, u 39, u 40, u 41, u 42, u 43, u 44, u 45], defers := [] }) ∧ i ≤ T.length ∧ UpTo T i
end Go.Proofs.YtpdhdjlhicceoaaGreatDoor
namespace Go.Proofs.YtpdhdjlhicceoaaGreatDoor
open Go.RowKit
def ofRel (w : World) (b o cap : Nat) (T : List Int) (a' : Act) (W : World) : Prop :=
  Below w.heap.size w W ∧ ∃ (i : Nat) (L : List RunT) (v : Value), (∃ u : Nat → Value, a' = { tmps := #[.slice (some ⟨b, o, none⟩) T.length cap, u 1, .slice none 0 0, v, .int .i64 (i : Int), u 5, u 6, u 7, u 8, u 9, u 10, u 11, u 12, u 13, u 14, u 15, u 16, u 17, u 18, u 19, u 20, u 21, u 22, u 23, u 24, u 25, u 26, u 27, u 28, u 29, u 30, u 31, u 32, u 33, u 34, u 35, u 36, u 37, u 38, u 39, u 40, u 41, u 42, u 43, u 44, u 45, u 46, u 47, u 48, u 49, u 50, u 51, u 52, u 53, u 54, u 55, u 56, u 57, u 58, u 59, u 60, u 61, u 62, u 63, u 64, u 65, u 66, u 67, u 68, u 69, u 70, u 71, u 72, u 73, u 74, u 75, u 76, u 77, u 78, u 79, u 80], defers := [] }) ∧
    OwnR W w.heap.size 69 3 v L.length (flatCells L) ∧ ofL T = L ++ ofL (T.drop i) ∧ i ≤ T.length ∧ L.length ≤ i
def ojRel (w : World) (b o cap : Nat) (T : List Int) (i : Nat) (v : Value) (L : List RunT) (s x1 : Int) (a' : Act) (W : World) : Prop :=
  Below w.heap.size w W ∧ ∃ (j : Nat) (x : Int), (∃ u : Nat → Value, a' = { tmps := #[.slice (some ⟨b, o, none⟩) T.length cap, u 1, .slice none 0 0, v, .int .i64 (i : Int), .int .i64 (j : Int), u 6, u 7, u 8, u 9, u 10, u 11, u 12, u 13, u 14, u 15, u 16, u 17, u 18, u 19, u 20, u 21, u 22, u 23, u 24, u 25, u 26, u 27, u 28, u 29, u 30, u 31, u 32, u 33, u 34, u 35, u 36, u 37, u 38, u 39, u 40, u 41, u 42, u 43, u 44, u 45, u 46, u 47, u 48, u 49, u 50, u 51, u 52, u 53, u 54, u 55, u 56, u 57, u 58, u 59, u 60, u 61, u 62, u 63, u 64, u 65, u 66, u 67, u 68, u 69, u 70, u 71, u 72, u 73, u 74, u 75, u 76, u 77, u 78, u 79, u 80], defers := [] }) ∧
    OwnR W w.heap.size 69 3 v L.length (flatCells L) ∧ i + 1 ≤ j ∧ j < T.length ∧ T[j]? = some x ∧ extn s x1 (T.drop (i + 2)) = (j - i - 1) + extn s x (T.drop (j + 1))
end Go.Proofs.YtpdhdjlhicceoaaGreatDoor
namespace Go.Proofs.YtpdhdjlhicceoaaGreatDoor
open Go.RowKit
structure RunsP (w : World) (b o : Nat) (l : List RunT) : Prop where
  runs : RunsIn w (some ⟨b, o, none⟩) l
theorem RunsP.below {w w' : World} {b o : Nat} {l : List RunT} (h : RunsP w b o l) (hb : Below w.heap.size w w') : RunsP w' b o l := ⟨h.runs.below hb⟩
theorem RunsP.rex {L : List Nat} {w w' : World} {b o : Nat} {l : List RunT} (h : RunsP w b o l) (hr : Rex L w w') (hL : L = []) : RunsP w' b o l := by subst hL; exact h.below hr.below
theorem RunsP.drew {w : World} {b o : Nat} {l : List RunT} (h : RunsP w b o l) : RunsP w.drew b o l := ⟨⟨h.runs.at'⟩⟩
theorem RunsP.cellAt {w : World} {b o : Nat} {l : List RunT} (h : RunsP w b o l) {i : Nat} {r : RunT} (hx : l[i]? = some r) :
    w.cell? ⟨b, o + i * 3, none⟩ = some (.int .i64 r.f) ∧ w.cell? ⟨b, o + i * 3 + 1, none⟩ = some (.int .i64 r.s) ∧ w.cell? ⟨b, o + i * 3 + 2, none⟩ = some (.int .i64 r.c) := h.runs.cells hx
theorem ite_eq3 {a b c d e f : Int} {w : World} : ((if a = b then (if c = d then (if e = f then Result.ok (Go.Next.value (Value.bool false)) w else Result.ok (Go.Next.value (Value.bool true)) w) else Result.ok (Go.Next.value (Value.bool true)) w) else Result.ok (Go.Next.value (Value.bool true)) w) : Result Go.Next) = Result.ok (Go.Next.value (Value.bool (!(decide (a = b) && decide (c = d) && decide (e = f))))) w := by
  by_cases h1 : a = b <;> by_cases h2 : c = d <;> by_cases h3 : e = f <;> simp [h1, h2, h3]
def smRel (w : World) (p : Option Addr) (cap : Nat) (p' : Option Addr) (cap' : Nat) (A B : List RunT) (a' : Act) (W : World) : Prop :=
  Below w.heap.size w W ∧ ∃ (i : Nat), (∃ u : Nat → Value, a' = { tmps := #[.slice p A.length cap, .slice p' A.length cap', u 2, u 3, .bool false, .int .i64 (i : Int), u 6, u 7, u 8, u 9, u 10, u 11, u 12, u 13, u 14, u 15, u 16, u 17, u 18, u 19, u 20, u 21, u 22, u 23, u 24, u 25], defers := [] }) ∧ i ≤ A.length ∧ ∀ k, k < i → A[k]? = B[k]?
set_option maxRecDepth 100000 in
set_option maxHeartbeats 8000000 in
theorem refsame_w (p : Option Addr) (cap : Nat) (p' : Option Addr) (cap' : Nat) (A B : List RunT) (w : World) (hl : A.length = B.length) (hlen : A.length ≤ 1000000) (hA0 : RunsIn w p A) (hB0 : RunsIn w p' B) :
    Calls Tryz.prog 113 #[.slice p A.length cap, .slice p' A.length cap'] w fun e w' => e = .returned (.bool (decide (A = B))) ∧ Below w.heap.size w w' := by
  go_enter Tryz.func113, Tryz.ntmps113
  replace hl := Lib.hid hl
  go_wp2
  refine wp_loop (smRel w p cap p' cap' A B) (fun a' _ => A.length - (intAt (a'.tmps.getD 5 undef)).toNat) ?_ ?_
  · unfold smRel
    exact ⟨Below.refl _ _, 0, frame_ex rfl, by omega, fun k hk => by omega⟩
  · rintro a' W ⟨hW0, i, ⟨u, rfl⟩, hi', hall⟩
    have hz := hW0.size
    replace hall := Lib.hid hall
    rcases Nat.lt_or_ge i A.length with hlt | hge
    · obtain ⟨r, tr⟩ : ∃ r, A[i]? = some r := ⟨A[i]'(by omega), List.getElem?_eq_getElem (by omega)⟩
      obtain ⟨q, tq⟩ : ∃ q, B[i]? = some q := ⟨B[i]'(by have := hl.out; omega), List.getElem?_eq_getElem (by have := hl.out; omega)⟩
      obtain ⟨b, o, rfl, -⟩ := hA0.at' i r tr
      obtain ⟨b', o', rfl, -⟩ := hB0.at' i q tq
      have hA : RunsP W b o A := ⟨hA0.below hW0⟩
      have hB : RunsP W b' o' B := ⟨hB0.below hW0⟩
      replace tr := Lib.hid tr
      replace tq := Lib.hid tq
      have l1 := hlt
      have l2 : i < B.length := by have := hl.out; omega
      go_upto_region 6 with (fail)
      refine wp_cutB W (Rc (fun W' => RunsP W' b o A) <| Rc (fun W' => RunsP W' b' o' B) <| Bz) ?_ (hI := by exact belowAny) (hR := (Rc.mk (by exact hA.below belowAny) <| Rc.mk (by exact hB.below belowAny) <| trivial))
      rintro W1 hW z2 hL
      obtain ⟨b1, b2, -⟩ := id hL
      refine wp_regQ 9 26 hW hL ?_
      iterate 9
        apply nd_det (hg := rfl) (hal := rfl)
        · intro a W' hC hE
          obtain ⟨_, k1, k2, -⟩ := hC
          obtain ⟨q0, q1, q2⟩ := k1.cellAt tr.out; obtain ⟨q3, q4, q5⟩ := k2.cellAt tq.out
          first
            | (simp [Oper.looksAt, Op.operands, Call.operands, envOf, Det] at hE; simp [go_sem, Act.eval, IntWalk.i64_left, hE, k1, k2, q0, q1, q2, q3, q4, q5, l1, l2, ite_eq3]; try rfl)
            | (clear hE; simp [go_sem, Act.eval, IntWalk.i64_left, k1, k2, q0, q1, q2, q3, q4, q5, l1, l2, ite_eq3]; try rfl)
      clear hW hL b1 b2
      rintro W3 hW z4 hL
      simp only [ndR]
      intros
      simp only [ndS]
      refine wpList_nil ?_
      obtain ⟨b1, b2, -⟩ := hL
      by_cases hrq : r = q
      · have hall' := Lib.hid (show ∀ k, k < i + 1 → A[k]? = B[k]? from fun k hk => by
          rcases Nat.lt_or_ge k i with h | h
          · exact hall.out k h
          · obtain rfl : k = i := by omega
            rw [tr.out, tq.out, hrq])
        rw [show (!decide (r.f = q.f) || !decide (r.s = q.s) || !decide (r.c = q.c)) = false by subst hrq; simp]
        clear hrq
        go_wp2
        rw [show (i : Int) + 1 = ((i + 1 : Nat) : Int) by omega]
        refine ⟨?_, by simp [intAt]; omega⟩
        unfold smRel
        exact ⟨hW0.trans (hW.mono hz), i + 1, frame_ex rfl, by omega, hall'.out⟩
      · have hne := Lib.hid (show decide (A = B) = false by
          rw [decide_eq_false_iff_not]
          rintro rfl
          rw [tr.out] at tq
          exact hrq (Option.some.inj tq.out))
        rw [show (!decide (r.f = q.f) || !decide (r.s = q.s) || !decide (r.c = q.c)) = true by
          obtain ⟨r1, r2, r3⟩ := r
          obtain ⟨q1, q2, q3⟩ := q
          simp at hrq
          simp
          by_cases h1 : r1 = q1 <;> by_cases h2 : r2 = q2 <;> simp [h1, h2] at hrq ⊢
          exact hrq]
        clear hrq
        go_wp2
        go_ret
        exact ⟨by rw [hne.out]; rfl, hW0.trans (hW.mono hz)⟩
    · obtain rfl : i = A.length := by omega
      have heq := Lib.hid (show decide (A = B) = true by
        rw [decide_eq_true_eq]
        apply List.ext_getElem?
        intro k
        rcases Nat.lt_or_ge k A.length with h | h
        · exact hall.out k h
        · rw [List.getElem?_eq_none h, List.getElem?_eq_none (by have := hl.out; omega)])
      go_wp2
      go_ret
      exact ⟨by rw [heq.out]; rfl, hW0⟩
set_option maxRecDepth 100000 in
set_option maxHeartbeats 8000000 in
theorem refsame_len (p : Option Addr) (n cap : Nat) (p' : Option Addr) (m cap' : Nat) (w : World) (hl : ¬ n = m) :
    Calls Tryz.prog 113 #[.slice p n cap, .slice p' m cap'] w fun e w' => e = .returned (.bool false) ∧ Below w.heap.size w w' := by
  go_enter Tryz.func113, Tryz.ntmps113
  go_wp2
  go_ret
  exact ⟨rfl, Below.refl _ _⟩
theorem c_refsame (p : Option Addr) (cap : Nat) (p' : Option Addr) (cap' : Nat) (A B : List RunT) (w : World) (hlen : A.length ≤ 1000000) (hA0 : RunsIn w p A) (hB0 : RunsIn w p' B) :
    Calls Tryz.prog 113 #[.slice p A.length cap, .slice p' B.length cap'] w fun e w' => e = .returned (.bool (decide (A = B))) ∧ Below w.heap.size w w' := by
  by_cases h : A.length = B.length
  · rw [← h]; exact refsame_w p cap p' cap' A B w h hlen hA0 hB0
  · rw [show decide (A = B) = false by rw [decide_eq_false_iff_not]; rintro rfl; exact h rfl]
    exact refsame_len p _ cap p' _ cap' w h
end Go.Proofs.YtpdhdjlhicceoaaGreatDoor
namespace Go.Proofs.YtpdhdjlhicceoaaGreatDoor
open Go.RowKit
def ptRel (w1 : World) (g bt ot ct : Nat) (T V : List Int) (a' : Act) (W : World) : Prop :=
  Below w1.heap.size w1 W ∧ ∃ (i : Nat) (v : Value), (∃ u : Nat → Value, a' = { tmps := #[u 0, .pointer (some ⟨g, 0, none⟩), .slice none 0 0, .bool false, .slice (some ⟨bt, ot, none⟩) T.length ct, v, .int .i64 (i : Int), u 7, u 8, u 9, u 10, u 11, u 12, u 13, u 14, u 15, u 16, u 17, u 18, u 19, u 20, u 21, u 22, u 23, u 24, u 25, u 26, u 27, u 28, u 29, u 30, u 31, u 32, u 33, u 34, u 35, u 36, u 37, u 38, u 39, u 40, u 41, u 42, u 43, u 44, u 45, u 46, u 47, u 48, u 49, u 50, u 51, u 52, u 53, u 54, u 55, u 56, u 57, u 58, u 59], defers := [] }) ∧
    OwnR W w1.heap.size 53 2 v i (flatPts ((T.zip V).take i)) ∧ i ≤ T.length ∧ ∀ (k : Nat) (y : Int), k < i → V[k]? = some y → isBack y = true
def PtsPost (w : World) (T V : List Int) (e : Ending) (w' : World) : Prop :=
  Below w.heap.size w w' ∧ ((V.all isBack = true ∧ ∃ v, e = .returned (.tuple #[v, .bool true]) ∧ OwnR w' w.heap.size 53 2 v T.length (flatPts (T.zip V))) ∨ (V.all isBack = false ∧ e = .returned (.tuple #[.slice none 0 0, .bool false])))
end Go.Proofs.YtpdhdjlhicceoaaGreatDoor
namespace Go.Proofs.YtpdhdjlhicceoaaGreatDoor
open Go.RowKit
/-- A row of numbers of its own, as a drawn step's value. -/
def OV (B : Nat) (T : List Int) : Spec := fun v w => OwnR w B 2 1 v T.length (T.map (Value.int .i64))
theorem OV.closed (B : Nat) (T : List Int) : Closed [] (OV B T) := fun _ _ _ hr h => OwnR.rex h hr rfl
def kindR (R n : Int) : Int := if n = 0 then 1 else if R = 0 then 2 else 3
end Go.Proofs.YtpdhdjlhicceoaaGreatDoor
