/- Parts of the proof that follows: A new series: the layer's, the document's. No condition. | slices.Insert of one raw series into a row whose room is full. No condition. | slices.Insert of one raw series into a row whose room is full, ahead of another one. No condition. | Layer model: a raw series is put into a model in memory of its own. No condition. | Layer model: Do, by its parts. No condition. | Layer model: Get. | Layer model: Do, whatever the model and the mutation. No condition. | The document's models: a model with a new raw series, or why not. No condition. -/
import Derived.Lib.AppendZerosOnto
import Derived.WideMake
import Derived.Test.YtdeghcgakkhbmaaGreatDo12
set_option linter.unusedSimpArgs false
set_option linter.unusedVariables false
namespace Go.Proofs.YtdeghcgakkhbmaaGreat
open Go.RowKit
/-- a new series, and the error -/
def newV (s : ByteArray) (eps scale : Int) : Value :=
  if nameB s = true then (if btw eps 0 1099511627776 = true then (if btw scale (-40) 40 = true then .tuple #[.agg #[.string s, .int .i64 eps, .int .i64 0, .int .i64 (-1), .int .i64 scale, .slice none 0 0, .slice none 0 0], .int .i64 0] else .tuple #[.agg #[.string { data := #[] }, .int .i64 0, .int .i64 0, .int .i64 0, .int .i64 0, .slice none 0 0, .slice none 0 0], .int .i64 2]) else .tuple #[.agg #[.string { data := #[] }, .int .i64 0, .int .i64 0, .int .i64 0, .int .i64 0, .slice none 0 0, .slice none 0 0], .int .i64 231]) else .tuple #[.agg #[.string { data := #[] }, .int .i64 0, .int .i64 0, .int .i64 0, .int .i64 0, .slice none 0 0, .slice none 0 0], .int .i64 341]
set_option maxRecDepth 100000 in
set_option maxHeartbeats 2000000 in
theorem c_sNew (s : ByteArray) (eps scale : Int) (w : World) : Calls Tryz.prog 96 #[.string s, .int .i64 eps, .int .i64 scale] w fun e w' => e = .returned (newV s eps scale) ∧ Below w.heap.size w w' := by
  have c1 := fun W (_ : Below w.heap.size w W) => c_recName s W
  have c2 := fun W (_ : Below w.heap.size w W) => c_srBtw eps 0 1099511627776 W
  have c3 := fun W (_ : Below w.heap.size w W) => c_srScl scale W
  unfold newV
  cases h1 : nameB s with
  | false =>
    simp only [h1, if_neg Bool.false_ne_true] at c1 ⊢
    clear c2 c3
    have H_c1 := Lib.hid c1
    clear c1
    go_enter Tryz.func96, Tryz.ntmps96
    go_wp2_with fail
    refine (H_c1.out _ belowAny).mono ?_
    rintro e w1 ⟨rfl, hb1⟩
    have z2 := hb1.size
    try simp at z2
    refine haveB w w1 (Bc w.heap.size #[.string { data := #[] }, .int .i64 0, .int .i64 0, .int .i64 0, .int .i64 0, .slice none 0 0, .slice none 0 0] 79 <| Bz) ?_
    rintro hW z3 ⟨⟨b1, yb1, k1, f1⟩, -⟩
    clear hb1
    go_wp2
    refine bodyPost_ret (by simp [results, Tryz.results96, go_sem, k1, f1, yb1]) rfl ⟨rfl, by exact belowAny⟩
  | true =>
  cases h2 : btw eps 0 1099511627776 with
  | false =>
    simp only [h1, h2, if_true, if_neg Bool.false_ne_true] at c1 c2 ⊢
    clear c3
    have H_c1 := Lib.hid c1
    clear c1
    have H_c2 := Lib.hid c2
    clear c2
    go_enter Tryz.func96, Tryz.ntmps96
    go_wp2_with fail
    refine (H_c1.out _ belowAny).mono ?_
    rintro e w1 ⟨rfl, hb1⟩
    have z2 := hb1.size
    try simp at z2
    refine haveB w w1 (Bc w.heap.size #[.string { data := #[] }, .int .i64 0, .int .i64 0, .int .i64 0, .int .i64 0, .slice none 0 0, .slice none 0 0] 79 <| Bz) ?_
    rintro hW z3 ⟨⟨b1, yb1, k1, f1⟩, -⟩
    clear hb1
    go_wp2_with fail
    refine (H_c2.out _ belowAny).mono ?_
    rintro e w4 ⟨rfl, hb4⟩
    have z5 := hb4.size
    try simp at z5
    clear k1 f1
    refine haveB w w4 (Bc w.heap.size #[.string { data := #[] }, .int .i64 0, .int .i64 0, .int .i64 0, .int .i64 0, .slice none 0 0, .slice none 0 0] 79 <| Bz) ?_
    clear b1 hW
    rintro hW z6 ⟨⟨b1, yb1, k1, f1⟩, -⟩
    clear hb4
    go_wp2
    refine bodyPost_ret (by simp [results, Tryz.results96, go_sem, k1, f1, yb1]) rfl ⟨rfl, by exact belowAny⟩
  | true =>
  cases h3 : btw scale (-40) 40 with
  | false =>
    simp only [h1, h2, h3, if_true, if_neg Bool.false_ne_true] at c1 c2 c3 ⊢
    have H_c1 := Lib.hid c1
    clear c1
    have H_c2 := Lib.hid c2
    clear c2
    have H_c3 := Lib.hid c3
    clear c3
    go_enter Tryz.func96, Tryz.ntmps96
    go_wp2_with fail
    refine (H_c1.out _ belowAny).mono ?_
    rintro e w1 ⟨rfl, hb1⟩
    have z2 := hb1.size
    try simp at z2
    refine haveB w w1 (Bc w.heap.size #[.string { data := #[] }, .int .i64 0, .int .i64 0, .int .i64 0, .int .i64 0, .slice none 0 0, .slice none 0 0] 79 <| Bz) ?_
    rintro hW z3 ⟨⟨b1, yb1, k1, f1⟩, -⟩
    clear hb1
    go_wp2_with fail
    refine (H_c2.out _ belowAny).mono ?_
    rintro e w4 ⟨rfl, hb4⟩
    have z5 := hb4.size
    try simp at z5
    clear k1 f1
    refine haveB w w4 (Bc w.heap.size #[.string { data := #[] }, .int .i64 0, .int .i64 0, .int .i64 0, .int .i64 0, .slice none 0 0, .slice none 0 0] 79 <| Bz) ?_
    clear b1 hW
    rintro hW z6 ⟨⟨b1, yb1, k1, f1⟩, -⟩
    clear hb4
    go_wp2_with fail
    refine (H_c3.out _ belowAny).mono ?_
    rintro e w7 ⟨rfl, hb7⟩
    have z8 := hb7.size
    try simp at z8
    clear k1 f1
    refine haveB w w7 (Bc w.heap.size #[.string { data := #[] }, .int .i64 0, .int .i64 0, .int .i64 0, .int .i64 0, .slice none 0 0, .slice none 0 0] 79 <| Bz) ?_
    clear b1 hW
    rintro hW z9 ⟨⟨b1, yb1, k1, f1⟩, -⟩
    clear hb7
    go_wp2
    refine bodyPost_ret (by simp [results, Tryz.results96, go_sem, k1, f1, yb1]) rfl ⟨rfl, by exact belowAny⟩
  | true =>
    simp only [h1, h2, h3, if_true] at c1 c2 c3 ⊢
    have H_c1 := Lib.hid c1
    clear c1
    have H_c2 := Lib.hid c2
    clear c2
    have H_c3 := Lib.hid c3
    clear c3
    go_enter Tryz.func96, Tryz.ntmps96
    go_wp2_with fail
    refine (H_c1.out _ belowAny).mono ?_
    rintro e w1 ⟨rfl, hb1⟩
    have z2 := hb1.size
    try simp at z2
    refine haveB w w1 (Bc w.heap.size #[.string { data := #[] }, .int .i64 0, .int .i64 0, .int .i64 0, .int .i64 0, .slice none 0 0, .slice none 0 0] 79 <| Bz) ?_
    rintro hW z3 ⟨⟨b1, yb1, k1, f1⟩, -⟩
    clear hb1
    go_wp2_with fail
    refine (H_c2.out _ belowAny).mono ?_
    rintro e w4 ⟨rfl, hb4⟩
    have z5 := hb4.size
    try simp at z5
    clear k1 f1
    refine haveB w w4 (Bc w.heap.size #[.string { data := #[] }, .int .i64 0, .int .i64 0, .int .i64 0, .int .i64 0, .slice none 0 0, .slice none 0 0] 79 <| Bz) ?_
    clear b1 hW
    rintro hW z6 ⟨⟨b1, yb1, k1, f1⟩, -⟩
    clear hb4
    go_wp2_with fail
    refine (H_c3.out _ belowAny).mono ?_
    rintro e w7 ⟨rfl, hb7⟩
    have z8 := hb7.size
    try simp at z8
    clear k1 f1
    refine haveB w w7 (Bc w.heap.size #[.string { data := #[] }, .int .i64 0, .int .i64 0, .int .i64 0, .int .i64 0, .slice none 0 0, .slice none 0 0] 79 <| Bz) ?_
    clear b1 hW
    rintro hW z9 ⟨⟨b1, yb1, k1, f1⟩, -⟩
    clear hb7
    go_wp2
    refine bodyPost_ret (by simp [results, Tryz.results96, go_sem, k1, f1, yb1]) rfl ⟨rfl, by exact belowAny⟩
set_option maxRecDepth 100000 in
set_option maxHeartbeats 2000000 in
theorem c_r24New (s : ByteArray) (eps scale : Int) (w : World) (hs : s.size ≤ 1000) : Calls Tryz.prog 102 #[.string s, .int .i64 eps, .int .i64 scale] w fun e w' => e = .returned (newV s eps scale) ∧ Below w.heap.size w w' := by
  have c1 := fun W (_ : Below w.heap.size w W) => c_r18Name s W hs
  have c2 := fun W (_ : Below w.heap.size w W) => c_r13Eps eps W
  have c3 := fun W (_ : Below w.heap.size w W) => c_r24Scale scale W
  unfold newV
  cases h1 : nameB s with
  | false =>
    simp only [h1, if_neg Bool.false_ne_true] at c1 ⊢
    clear c2 c3
    have H_c1 := Lib.hid c1
    clear c1
    go_enter Tryz.func102, Tryz.ntmps102
    go_wp2_with fail
    refine (H_c1.out _ belowAny).mono ?_
    rintro e w1 ⟨rfl, hb1⟩
    have z2 := hb1.size
    try simp at z2
    refine haveB w w1 (Bc w.heap.size #[.string { data := #[] }, .int .i64 0, .int .i64 0, .int .i64 0, .int .i64 0, .slice none 0 0, .slice none 0 0] 79 <| Bz) ?_
    rintro hW z3 ⟨⟨b1, yb1, k1, f1⟩, -⟩
    clear hb1
    go_wp2
    refine bodyPost_ret (by simp [results, Tryz.results102, go_sem, k1, f1, yb1]) rfl ⟨rfl, by exact belowAny⟩
  | true =>
  cases h2 : btw eps 0 1099511627776 with
  | false =>
    simp only [h1, h2, if_true, if_neg Bool.false_ne_true] at c1 c2 ⊢
    clear c3
    have H_c1 := Lib.hid c1
    clear c1
    have H_c2 := Lib.hid c2
    clear c2
    go_enter Tryz.func102, Tryz.ntmps102
    go_wp2_with fail
    refine (H_c1.out _ belowAny).mono ?_
    rintro e w1 ⟨rfl, hb1⟩
    have z2 := hb1.size
    try simp at z2
    refine haveB w w1 (Bc w.heap.size #[.string { data := #[] }, .int .i64 0, .int .i64 0, .int .i64 0, .int .i64 0, .slice none 0 0, .slice none 0 0] 79 <| Bz) ?_
    rintro hW z3 ⟨⟨b1, yb1, k1, f1⟩, -⟩
    clear hb1
    go_wp2_with fail
    refine (H_c2.out _ belowAny).mono ?_
    rintro e w4 ⟨rfl, hb4⟩
    have z5 := hb4.size
    try simp at z5
    clear k1 f1
    refine haveB w w4 (Bc w.heap.size #[.string { data := #[] }, .int .i64 0, .int .i64 0, .int .i64 0, .int .i64 0, .slice none 0 0, .slice none 0 0] 79 <| Bz) ?_
    clear b1 hW
    rintro hW z6 ⟨⟨b1, yb1, k1, f1⟩, -⟩
    clear hb4
    go_wp2
    refine bodyPost_ret (by simp [results, Tryz.results102, go_sem, k1, f1, yb1]) rfl ⟨rfl, by exact belowAny⟩
  | true =>
  cases h3 : btw scale (-40) 40 with
  | false =>
    simp only [h1, h2, h3, if_true, if_neg Bool.false_ne_true] at c1 c2 c3 ⊢
    have H_c1 := Lib.hid c1
    clear c1
    have H_c2 := Lib.hid c2
    clear c2
    have H_c3 := Lib.hid c3
    clear c3
    go_enter Tryz.func102, Tryz.ntmps102
    go_wp2_with fail
    refine (H_c1.out _ belowAny).mono ?_
    rintro e w1 ⟨rfl, hb1⟩
    have z2 := hb1.size
    try simp at z2
    refine haveB w w1 (Bc w.heap.size #[.string { data := #[] }, .int .i64 0, .int .i64 0, .int .i64 0, .int .i64 0, .slice none 0 0, .slice none 0 0] 79 <| Bz) ?_
    rintro hW z3 ⟨⟨b1, yb1, k1, f1⟩, -⟩
    clear hb1
    go_wp2_with fail
    refine (H_c2.out _ belowAny).mono ?_
    rintro e w4 ⟨rfl, hb4⟩
    have z5 := hb4.size
    try simp at z5
    clear k1 f1
    refine haveB w w4 (Bc w.heap.size #[.string { data := #[] }, .int .i64 0, .int .i64 0, .int .i64 0, .int .i64 0, .slice none 0 0, .slice none 0 0] 79 <| Bz) ?_
    clear b1 hW
    rintro hW z6 ⟨⟨b1, yb1, k1, f1⟩, -⟩
    clear hb4
    go_wp2_with fail
    refine (H_c3.out _ belowAny).mono ?_
    rintro e w7 ⟨rfl, hb7⟩
    have z8 := hb7.size
    try simp at z8
    clear k1 f1
    refine haveB w w7 (Bc w.heap.size #[.string { data := #[] }, .int .i64 0, .int .i64 0, .int .i64 0, .int .i64 0, .slice none 0 0, .slice none 0 0] 79 <| Bz) ?_
    clear b1 hW
    rintro hW z9 ⟨⟨b1, yb1, k1, f1⟩, -⟩
    clear hb7
    go_wp2
    refine bodyPost_ret (by simp [results, Tryz.results102, go_sem, k1, f1, yb1]) rfl ⟨rfl, by exact belowAny⟩
  | true =>
    simp only [h1, h2, h3, if_true] at c1 c2 c3 ⊢
    have H_c1 := Lib.hid c1
    clear c1
    have H_c2 := Lib.hid c2
    clear c2
    have H_c3 := Lib.hid c3
    clear c3
    go_enter Tryz.func102, Tryz.ntmps102
    go_wp2_with fail
    refine (H_c1.out _ belowAny).mono ?_
    rintro e w1 ⟨rfl, hb1⟩
    have z2 := hb1.size
    try simp at z2
    refine haveB w w1 (Bc w.heap.size #[.string { data := #[] }, .int .i64 0, .int .i64 0, .int .i64 0, .int .i64 0, .slice none 0 0, .slice none 0 0] 79 <| Bz) ?_
    rintro hW z3 ⟨⟨b1, yb1, k1, f1⟩, -⟩
    clear hb1
    go_wp2_with fail
    refine (H_c2.out _ belowAny).mono ?_
    rintro e w4 ⟨rfl, hb4⟩
    have z5 := hb4.size
    try simp at z5
    clear k1 f1
    refine haveB w w4 (Bc w.heap.size #[.string { data := #[] }, .int .i64 0, .int .i64 0, .int .i64 0, .int .i64 0, .slice none 0 0, .slice none 0 0] 79 <| Bz) ?_
    clear b1 hW
    rintro hW z6 ⟨⟨b1, yb1, k1, f1⟩, -⟩
    clear hb4
    go_wp2_with fail
    refine (H_c3.out _ belowAny).mono ?_
    rintro e w7 ⟨rfl, hb7⟩
    have z8 := hb7.size
    try simp at z8
    clear k1 f1
    refine haveB w w7 (Bc w.heap.size #[.string { data := #[] }, .int .i64 0, .int .i64 0, .int .i64 0, .int .i64 0, .slice none 0 0, .slice none 0 0] 79 <| Bz) ?_
    clear b1 hW
    rintro hW z9 ⟨⟨b1, yb1, k1, f1⟩, -⟩
    clear hb7
    go_wp2
    refine bodyPost_ret (by simp [results, Tryz.results102, go_sem, k1, f1, yb1]) rfl ⟨rfl, by exact belowAny⟩
end Go.Proofs.YtdeghcgakkhbmaaGreat
namespace Go.Proofs.YtdeghcgakkhbmaaGreat
open Go.RowKit
section
variable (P : Program)
theorem run_copyAt (w : World) (dT sT ty elem : TypeId) (k g o dLen dCap : Nat) (a : Addr) (sLen sCap : Nat) (cur : Array Value) (t : TypeId) (cs : List Value)
    (hu : P.underlying dT = some (.slice elem)) (hs : (P.info? elem).map (·.size) = some k)
    (hg : w.heap[g]? = some (.cells cur t (0, 0))) (hn : cs.length = Nat.min sLen dLen * k)
    (hsrc : ∀ j v, cs[j]? = some v → w.cell? (a.add j) = some v) (hfit : o + cs.length ≤ cur.size) (h1 : ∀ v ∈ cs, v.oneCell' = true) :
    (Builtin.copy_ #[dT, sT] ty #[.slice (some ⟨g, o, none⟩) dLen dCap, .slice (some a) sLen sCap]).run P w =
      .ok (goInt (Nat.min sLen dLen)) (w.setRow g (cur.toList.take o ++ cs ++ cur.toList.drop (o + cs.length)).toArray) := by
  have hl := run_loadCells_list (P := P) w a cs hsrc
  have hst := run_storeCells_at P g o t cs 0 cur w hg (by omega) h1
  simp only [Nat.add_zero] at hst
  cases hq : P.info? elem with
  | none => simp [hq] at hs
  | some i =>
    have hi : i.size = k := by simpa [hq] using hs
    have hm : k * min sLen dLen = cs.length := by rw [hn, Nat.mul_comm]
    have hm' : min sLen dLen * k = cs.length := hn.symm
    simp [Builtin.copy_, run_underlying hu, Builtin.lenOf, Builtin.firstCells, sizeOf, typeInfo, hq, hi, hm, hm', hl, hst]
end
theorem wpList_append_run2 {P : Program} {ops : Array Oper} {rest : List Oper} {o : Oper} {a : Act} {Q : Exit → Act → World → Prop} {w : World} (hgd : o.guard = none) (s x : Operand) (t t2 : TypeId)
    (ho : o.op = .call { callee := .builtin .append, args := #[s, x], argTypes := #[t, t2] }) (v sv v' : Value) (w' : World) (hs : a.eval s = v) (hx : a.eval x = sv)
    (hr : (Builtin.append_ #[t, t2] o.type #[v, sv]).run P w = .ok v' w') (h : wpList P ops Q rest (a.put o.dst v') w') : wpList P ops Q (o :: rest) a w :=
  wpList_plain hgd fun K hK => by
    unfold Oper.wp execOp
    simp only [ho, resolve, invoke, builtin, Sem.run_bind, Sem.run_pure, Result.andThen_ok, List.map_toArray, List.map_cons, List.map_nil, hs, hx, hr]
    exact hK _ _ h
theorem ins_own {W : World} {B g n c : Nat} {L : List RawR} {cur : Array Value} (hb : Blk W g cur 35) (hnc : n ≤ c) (hc : c ≤ maxLen) (hL : L.length = n) (hs : cur.size = c * 6) (ht : cur.toList.take (n * 6) = flatRaws L) (hB : B ≤ g := by exact Nat.le_refl _) :
    OwnR W B 35 6 (.slice (some ⟨g, 0, none⟩) n c) n (flatRaws L) := ⟨by rw [flatRaws_len, hL], .inr ⟨g, c, cur, rfl, hB, hb, hnc, hc, hs, ht⟩⟩
set_option maxRecDepth 100000 in
set_option maxHeartbeats 2000000 in
theorem ins_end (G n h : Nat) (RL : List RawR) (y : RawR) (w : World) (hG : Blk w G (flatRaws RL).toArray 35) (hh : Blk w h (rawRA y) 35) (hn : Hid (RL.length = n)) (hmx : n ≤ 100) :
    Calls Tryz.prog 97 #[.slice (some ⟨G, 0, none⟩) n n, .int .i64 n, .slice (some ⟨h, 0, none⟩) 1 1] w fun e w' => ∃ p c, e = .returned (.slice p (n + 1) c) ∧ Below w.heap.size w w' ∧ OwnR w' w.heap.size 35 6 (.slice p (n + 1) c) (n + 1) (flatRaws (RL.take n ++ y :: RL.drop n)) := by
  obtain ⟨i0, hi0, hz0, hz1, hz2⟩ := info_parts Tryz.infoRaw
  obtain ⟨z9, hz9, hzs⟩ : ∃ z9 : Value, i0.zero = some z9 ∧ z9.cells.size = 6 := ⟨_, hz0, rfl⟩
  go_enter Tryz.func97, Tryz.ntmps97
  have hap := run_append_grow (P := Tryz.prog) w 25 25 35 i0 z9 (by kernel_rfl) hi0 hz9 ⟨G, 0, none⟩ n n (flatRaws RL) (by rw [hz1, flatRaws_len, hn.out]) (fun j u hu => by rw [Addr.add_lit, Nat.zero_add, hG.cell, List.getElem?_toArray]; exact hu) ⟨h, 0, none⟩ 1 1 (rawRA y).toList (by rw [hz1]; rfl) (fun j u hu => by rw [Addr.add_lit, Nat.zero_add, hh.cell]; rw [Array.getElem?_toList] at hu; exact hu) (by omega) (by omega) (growslice_fits (by omega) (by rw [hz2]; omega))
  obtain ⟨c1, hc1⟩ : ∃ c, c = grownCap w (n + 1) n 35 := ⟨_, rfl⟩
  have hc2 : n + 1 ≤ c1 := hc1 ▸ grownCap_ge w (n + 1) n 35
  have hc3 : c1 ≤ maxLen := hc1 ▸ grownCap_le_maxLen w (n + 1) n 35 (by simp [maxLen]; omega)
  rw [← hc1] at hap
  obtain ⟨w1, hw1⟩ : ∃ w1, w1 = w.drew.alloc (.cells ((flatRaws RL).toArray ++ (rawRA y).toList.toArray ++ Builtin.zeroCells z9.cells (c1 - (n + 1))) 35) := ⟨_, rfl⟩
  rw [← hw1] at hap
  have hB1 : Below w.heap.size w w1 := by rw [hw1]; exact ((Below.refl _ _).drew).alloc (Nat.le_refl _) _
  have hb1 : Blk w1 w.heap.size ((flatRaws RL).toArray ++ (rawRA y).toList.toArray ++ Builtin.zeroCells z9.cells (c1 - (n + 1))) 35 := by rw [hw1]; exact heap_alloc_new w.drew _
  have hO := ins_own hb1 hc2 hc3 (L := RL ++ [y]) (by rw [List.length_append, hn.out]; rfl) (by simp only [Array.size_append, List.size_toArray, size_zeroCells, flatRaws_len, hn.out, hzs]; show n * 6 + 6 + (c1 - (n + 1)) * 6 = c1 * 6; omega) (by rw [Array.toList_append, Array.toList_append, flatRaws_snoc]; exact List.take_left' (by show (flatRaws RL ++ (rawRA y).toList).length = _; rw [List.length_append, flatRaws_len, hn.out]; show n * 6 + 6 = (n + 1) * 6; omega))
  have hHH := Lib.hid (And.intro hB1 hO)
  clear hw1 hc1 hB1 hb1 hO hG hh
  go_wp2_with (at_builtin; refine wpList_append_run rfl (.tmp 23) (.tmp 24) 25 rfl _ _ _ _ rfl rfl hap ?_)
  clear hap
  go_wp2
  go_ret
  exact ⟨_, _, rfl, hHH.out.1, by rw [show RL.take n ++ y :: RL.drop n = RL ++ [y] by rw [List.take_of_length_le (by rw [hn.out]; exact Nat.le_refl _), List.drop_of_length_le (by rw [hn.out]; exact Nat.le_refl _)]]; exact hHH.out.2⟩
end Go.Proofs.YtdeghcgakkhbmaaGreat
namespace Go.Proofs.YtdeghcgakkhbmaaGreat
open Go.RowKit
theorem rawRA_one (y : RawR) : ∀ v ∈ (rawRA y).toList, v.oneCell' = true := by
  unfold rawRA rawA
  simp [Value.oneCell']
set_option maxRecDepth 100000 in
set_option maxHeartbeats 2000000 in
theorem ins_mid (G n i h : Nat) (RL : List RawR) (y : RawR) (w : World) (hG : Blk w G (flatRaws RL).toArray 35) (hh : Blk w h (rawRA y) 35) (hn : Hid (RL.length = n)) (hmx : n ≤ 100) (hi : i < n) :
    Calls Tryz.prog 97 #[.slice (some ⟨G, 0, none⟩) n n, .int .i64 i, .slice (some ⟨h, 0, none⟩) 1 1] w fun e w' => ∃ p c, e = .returned (.slice p (n + 1) c) ∧ Below w.heap.size w w' ∧ OwnR w' w.heap.size 35 6 (.slice p (n + 1) c) (n + 1) (flatRaws (RL.take i ++ y :: RL.drop i)) := by
  obtain ⟨i0, hi0, hz0, hz1, hz2⟩ := info_parts Tryz.infoRaw
  obtain ⟨z9, hz9, hzs⟩ : ∃ z9 : Value, i0.zero = some z9 ∧ z9.cells.size = 6 := ⟨_, hz0, rfl⟩
  have hni : ¬n = i := by omega
  have hw64 : wrap64 ((i : Int) + 1) = (i : Int) + 1 := by rw [wrap64_eq]; omega
  have hne0 : ((i : Int) == (n : Int)) = false := beq_eq_false_iff_ne.2 (by omega)
  have hy6 : (rawRA y).size = 6 := rfl
  go_enter Tryz.func97, Tryz.ntmps97
  have hold := run_firstCells_some (P := Tryz.prog) w.drew i0.size i ⟨G, 0, none⟩ i n ((flatRaws RL).take (i * 6)) (by rw [hz1, List.length_take, flatRaws_len, hn.out]; omega) (fun j u hu => by
    rw [List.getElem?_take] at hu
    split at hu
    · rw [Addr.add_lit, Nat.zero_add]; show w.cell? _ = _; rw [hG.cell, List.getElem?_toArray]; exact hu
    · cases hu)
  have hap := Lib.run_append_grow_zeros (P := Tryz.prog) w 25 3 25 35 i0 z9 .i64 .i64 (by kernel_rfl) (by kernel_rfl) hi0 hz9 (some ⟨G, 0, none⟩) i n ((flatRaws RL).take (i * 6)) hold (n + 1 - i) (by omega) (by rw [hz1]; omega) (by omega) (by omega) (by rw [hz2]; omega) (growslice_fits (by omega) (by rw [hz2]; omega))
  rw [show i + (n + 1 - i) = n + 1 by omega] at hap
  obtain ⟨c1, hc1⟩ : ∃ c, c = grownCap w (n + 1) n 35 := ⟨_, rfl⟩
  have hc2 : n + 1 ≤ c1 := hc1 ▸ grownCap_ge w (n + 1) n 35
  have hc3 : c1 ≤ maxLen := hc1 ▸ grownCap_le_maxLen w (n + 1) n 35 (by simp [maxLen]; omega)
  rw [← hc1] at hap
  obtain ⟨X1, hX1⟩ : ∃ X, X = ((flatRaws RL).take (i * 6)).toArray ++ Builtin.zeroCells z9.cells (n + 1 - i) ++ Builtin.zeroCells z9.cells (c1 - (n + 1)) := ⟨_, rfl⟩
  rw [← hX1] at hap
  obtain ⟨w1, hw1⟩ : ∃ w1, w1 = w.drew.alloc (.cells X1 35) := ⟨_, rfl⟩
  rw [← hw1] at hap
  have hB1 : Below w.heap.size w w1 := by rw [hw1]; exact ((Below.refl _ _).drew).alloc (Nat.le_refl _) _
  have hb1 : Blk w1 w.heap.size X1 35 := by rw [hw1]; exact heap_alloc_new w.drew _
  have hs1 : X1.size = c1 * 6 := by rw [hX1]; simp only [Array.size_append, List.size_toArray, List.length_take, size_zeroCells, flatRaws_len, hn.out, hzs]; omega
  have ht1 : X1.toList.take (i * 6) = flatRaws (RL.take i) := by rw [hX1, Array.toList_append, Array.toList_append, List.append_assoc, ← flatRaws_take]; exact List.take_left' (by rw [List.toList_toArray, List.length_take, flatRaws_len, hn.out]; omega)
  have hG1 := hG.below hB1
  have hh1 := hh.below hB1
  obtain ⟨g1, hg1⟩ : ∃ g, g = w.heap.size := ⟨_, rfl⟩
  rw [← hg1] at hap hb1
  have hcp1 := fun ty => run_copyAt Tryz.prog w1 25 25 ty 35 6 g1 (i * 6) (n + 1 - i) (c1 - i) ⟨h, 0, none⟩ 1 1 X1 35 (rawRA y).toList (by kernel_rfl) (by kernel_rfl) hb1 (by show 6 = Nat.min 1 (n + 1 - i) * 6; rw [show Nat.min 1 (n + 1 - i) = 1 from Nat.min_eq_left (by omega)]) (fun j u hu => by rw [Addr.add_lit, Nat.zero_add, hh1.cell]; rw [Array.getElem?_toList] at hu; exact hu) (by rw [rawRA_len, hs1]; omega) (rawRA_one y)
  obtain ⟨X2, hX2⟩ : ∃ X, X = (X1.toList.take (i * 6) ++ (rawRA y).toList ++ X1.toList.drop (i * 6 + (rawRA y).toList.length)).toArray := ⟨_, rfl⟩
  rw [← hX2] at hcp1
  have hs2 : X2.size = c1 * 6 := by rw [hX2]; simp only [List.size_toArray, List.length_append, List.length_take, List.length_drop, Array.length_toList, hy6, hs1]; omega
  have ht2 : X2.toList.take ((i + 1) * 6) = flatRaws (RL.take i ++ [y]) := by rw [hX2, ht1, flatRaws_snoc]; exact List.take_left' (by rw [List.length_append, flatRaws_len, rawRA_len, List.length_take, hn.out]; omega)
  have hb2 : Blk (w1.setRow g1 X2) g1 X2 35 := setRow_heap w1 g1 _ X2 35 (0, 0) hb1
  have hG2 : Blk (w1.setRow g1 X2) G (flatRaws RL).toArray 35 := (setRow_other w1 g1 G X2 (by rw [hg1]; exact Nat.ne_of_lt hG.lt)).trans hG1
  have hB2 : Below w.heap.size w (w1.setRow g1 X2) := below_setRow hB1 (by rw [hg1]; exact Nat.le_refl _) _
  obtain ⟨w2, hw2⟩ : ∃ w2, w2 = w1.setRow g1 X2 := ⟨_, rfl⟩
  rw [← hw2] at hb2 hG2 hB2
  have hcpA : ∀ ty, (Builtin.copy_ #[25, 25] ty #[.slice (some ⟨g1, i * 6, none⟩) (n + 1 - i) (c1 - i), .slice (some ⟨h, 0, none⟩) 1 1]).run Tryz.prog w1 = .ok (goInt (Nat.min 1 (n + 1 - i))) w2 := fun ty => by rw [hw2]; exact hcp1 ty
  have hci : ¬c1 = i := by omega
  have hci2 : ¬c1 = i + 1 := by omega
  have hic : i ≤ c1 := by omega
  have hz2' := hB2.size
  replace hb2 := Lib.hid hb2
  replace hG2 := Lib.hid hG2
  replace hB2 := Lib.hid hB2
  replace ht2 := Lib.hid ht2
  replace hs2 := Lib.hid hs2
  replace hg1 := Lib.hid hg1
  clear hold hcp1 hw1 hw2 hX1 hX2 hc1 hB1 hb1 hs1 ht1 hG1 hh1 hG hh
  go_wp2_with (at_builtin; refine wpList_append_run2 rfl (.tmp 34) (.tmp 39) 25 3 rfl _ _ _ _ rfl (by simp [Act.eval]; omega) hap ?_)
  clear hap
  go_upto_region 11 with (fail)
  clear hcpA
  have b1 := hb2.out
  have b2 := hG2.out
  refine wp_cutB w2 (Rc (fun W' => Blk W' g1 X2 35) <| Rc (fun W' => Blk W' G (flatRaws RL).toArray 35) <| Bz) ?_ (hI := by exact belowAny) (hR := (Rc.mk (by exact b1) <| Rc.mk (by exact b2) <| trivial))
  clear b1 b2
  rintro W51 hW z52 hL
  obtain ⟨b1, b2, -⟩ := id hL
  refine wp_regD 8 95 hW hL ?_
  iterate 4 refine dA ?_
  apply nd_det (.slice (some ⟨g1, (i + 1) * 6, none⟩) (n - i) (c1 - (i + 1))) (hg := rfl) (hal := rfl)
  · intro a' W' hC hE
    simp [Oper.looksAt, Op.operands, Call.operands, envOf, Det] at hE
    simp [go_sem, Act.eval, hE, hw64, hci2]
    try (intro h9; exfalso; first | omega | (have h8 := h9 (by omega); omega))
  iterate 2 refine dA ?_
  apply nd_det (.slice (some ⟨G, i * 6, none⟩) (n - i) (n - i)) (hg := rfl) (hal := rfl)
  · intro a' W' hC hE
    simp [Oper.looksAt, Op.operands, Call.operands, envOf, Det] at hE
    simp [go_sem, Act.eval, hE, hni]
    try (intro h9; exfalso; first | omega | (have h8 := h9 (by omega); omega))
  clear hW hL b1 b2
  rintro W53 hW z54 hL
  simp only [ndR]
  intros
  simp only [ndS]
  obtain ⟨b1, b2, -⟩ := hL
  have hcp2 := fun ty => run_copyAt Tryz.prog W53 25 25 ty 35 6 g1 ((i + 1) * 6) (n - i) (c1 - (i + 1)) ⟨G, i * 6, none⟩ (n - i) (n - i) X2 35 (flatRaws (RL.drop i)) (by kernel_rfl) (by kernel_rfl) b1 (by rw [flatRaws_len, List.length_drop, hn.out, show Nat.min (n - i) (n - i) = n - i from Nat.min_self _]) (fun j u hu => by
    rw [← flatRaws_drop, List.getElem?_drop] at hu
    rw [Addr.add_lit, b2.cell, List.getElem?_toArray]
    exact hu) (by rw [flatRaws_len, List.length_drop, hn.out, hs2.out]; omega) (flatRaws_one _)
  obtain ⟨X3, hX3⟩ : ∃ X, X = (X2.toList.take ((i + 1) * 6) ++ flatRaws (RL.drop i) ++ X2.toList.drop ((i + 1) * 6 + (flatRaws (RL.drop i)).length)).toArray := ⟨_, rfl⟩
  rw [← hX3] at hcp2
  have hl : (RL.take i ++ y :: RL.drop i).length = n + 1 := by rw [List.length_append, List.length_take, List.length_cons, List.length_drop, hn.out]; omega
  have hs3 : X3.size = c1 * 6 := by rw [hX3]; simp only [List.size_toArray, List.length_append, List.length_take, List.length_drop, flatRaws_len, Array.length_toList, hs2.out, hn.out]; omega
  have ht3 : X3.toList.take ((n + 1) * 6) = flatRaws (RL.take i ++ y :: RL.drop i) := by
    rw [hX3, ht2.out, ← flatRaws_append, show RL.take i ++ [y] ++ RL.drop i = RL.take i ++ y :: RL.drop i by simp]
    exact List.take_left' (by rw [flatRaws_len, hl])
  have hb3 : Blk (W53.setRow g1 X3) g1 X3 35 := setRow_heap W53 g1 _ X3 35 (0, 0) b1
  have hB3 : Below w.heap.size w (W53.setRow g1 X3) := below_setRow (hB2.out.trans (hW.mono (by omega))) (by rw [hg1.out]; exact Nat.le_refl _) _
  have hO := ins_own hb3 hc2 hc3 hl hs3 ht3 (B := w.heap.size) (by rw [hg1.out]; exact Nat.le_refl _)
  obtain ⟨w9, hw9⟩ : ∃ w9, w9 = W53.setRow g1 X3 := ⟨_, rfl⟩
  rw [← hw9] at hO hB3
  have hcpB : ∀ ty, (Builtin.copy_ #[25, 25] ty #[.slice (some ⟨g1, (i + 1) * 6, none⟩) (n - i) (c1 - (i + 1)), .slice (some ⟨G, i * 6, none⟩) (n - i) (n - i)]).run Tryz.prog W53 = .ok (goInt (Nat.min (n - i) (n - i))) w9 := fun ty => by rw [hw9]; exact hcp2 ty
  have hHH := Lib.hid (And.intro hB3 hO)
  clear hcp2 hX3 hw9 hO hB3 hb3 ht3 hs3 hl b1 b2 hW
  go_wp2
  go_ret
  exact ⟨_, _, rfl, hHH.out⟩
end Go.Proofs.YtdeghcgakkhbmaaGreat
namespace Go.Proofs.YtdeghcgakkhbmaaGreat
open Go.RowKit
/-- A row of one, in a block. -/
def OneRow (cs : Array Value) : Spec := fun v w => ∃ g, v = .slice (some ⟨g, 0, none⟩) 1 1 ∧ Blk w g cs 35
theorem OneRow.closed (cs : Array Value) : Closed [] (OneRow cs) := fun _ _ _ hr ⟨g, e1, h⟩ => ⟨g, e1, h.rex hr (by simp)⟩
def InsS (B n : Nat) (l : List Value) : Spec := fun v w => ∃ p c, v = .slice p (n + 1) c ∧ OwnR w B 35 6 (.slice p (n + 1) c) (n + 1) l
theorem InsS.closed (B n : Nat) (l : List Value) : Closed [] (InsS B n l) := fun _ _ _ hr ⟨p, c, e1, h⟩ => ⟨p, c, e1, h.below hr.below⟩
set_option maxRecDepth 100000 in
set_option maxHeartbeats 2000000 in
theorem create_err (g : Nat) (sv : Value) (x : MutT) (px : Option Addr) (cx : Nat) (s1 : ByteArray) (e1 l1 sc1 er iv : Int) (F : Bool) (w : World) (hg : Blk w g #[sv, .int .i64 x.kind, .string x.name, .int .i64 x.eps, .int .i64 x.floor, .int .i64 x.scale, .slice px x.pts.length cx] 98) (her : (er != 0) = true)
    (c0 : Hid (∀ W, Below w.heap.size w W → Calls Tryz.prog 96 #[.string x.name, .int .i64 x.eps, .int .i64 x.scale] W fun e w' => e = .returned (.tuple #[.agg #[.string s1, .int .i64 e1, .int .i64 0, .int .i64 l1, .int .i64 sc1, .slice none 0 0, .slice none 0 0], .int .i64 er]) ∧ Below W.heap.size W w'))
    (c1 : Hid (∀ W, Below w.heap.size w W → Calls Tryz.prog 75 #[.pointer (some ⟨g, 0, none⟩)] W fun e w' => e = .returned (.tuple #[.int .i64 iv, .bool F]) ∧ Below W.heap.size W w')) :
    Calls Tryz.prog 47 #[.pointer (some ⟨g, 0, none⟩)] w fun e w' => e = .returned (.int .i64 er) ∧ Below w.heap.size w w' := by
  go_enter Tryz.func47, Tryz.ntmps47
  go_upto_region 1 with (fail)
  refine wp_cutB w (Bc g #[sv, .int .i64 x.kind, .string x.name, .int .i64 x.eps, .int .i64 x.floor, .int .i64 x.scale, .slice px x.pts.length cx] 98 <| Bz) ?_
  rintro W1 hW z2 hL
  obtain ⟨⟨b1, yb1, k1, f1⟩, -⟩ := id hL
  clear k1 f1
  refine wp_regD 20 66 hW hL ?_
  iterate 15 refine dA ?_
  refine cA (fun W' hC => c0.out W' (hW.trans (hC.1.of_priv hW.size))) ?_
  iterate 3 refine dA ?_
  apply nd_alloc W1.heap.size #[.string .empty, .int .i64 0, .int .i64 0, .int .i64 0, .int .i64 0, .slice none 0 0, .slice none 0 0] 79 rfl rfl
  · exact fun W' hC => hC.1.size
  · simp [others] <;> omega
  · intro w; kernel_rfl
  clear hW hL b1
  rintro W3 hW z4 hL
  simp only [ndR]
  intros
  simp only [ndS]
  obtain ⟨⟨b1, yb1, k1, f1⟩, -⟩ := hL
  obtain ⟨o3, rfl, hg_o3, b2⟩ := ‹NewVar _ _ _ _ _›
  have yb2 := b2.lt
  have k2 := b2.cell
  have f2 := b2.frozen
  go_upto_region 2 with (fail)
  clear k1 f1 k2 f2
  refine wp_cutB w (Bc g #[sv, .int .i64 x.kind, .string x.name, .int .i64 x.eps, .int .i64 x.floor, .int .i64 x.scale, .slice px x.pts.length cx] 98 <| Bc o3 #[.string s1, .int .i64 e1, .int .i64 0, .int .i64 l1, .int .i64 sc1, .slice none 0 0, .slice none 0 0] 79 <| Bz) ?_
  clear b1 b2 hW
  rintro W5 hW z6 ⟨⟨b1, yb1, k1, f1⟩, ⟨b2, yb2, k2, f2⟩, -⟩
  go_wp2_with fail
  refine (c1.out _ hW).mono ?_
  rintro e w7 ⟨rfl, hb7⟩
  have z8 := hb7.size
  try simp at z8
  clear k1 f1 k2 f2
  refine haveB w w7 (Bc g #[sv, .int .i64 x.kind, .string x.name, .int .i64 x.eps, .int .i64 x.floor, .int .i64 x.scale, .slice px x.pts.length cx] 98 <| Bc o3 #[.string s1, .int .i64 e1, .int .i64 0, .int .i64 l1, .int .i64 sc1, .slice none 0 0, .slice none 0 0] 79 <| Bz) ?_
  clear b1 b2 hW
  rintro hW z9 ⟨⟨b1, yb1, k1, f1⟩, ⟨b2, yb2, k2, f2⟩, -⟩
  clear hb7
  go_wp2
  refine bodyPost_ret (by simp [results, Tryz.results47, go_sem, k1, f1, k2, f2, yb1, yb2]) rfl ⟨rfl, by exact belowAny⟩
set_option maxRecDepth 100000 in
set_option maxHeartbeats 2000000 in
theorem create_is (g : Nat) (sv : Value) (x : MutT) (px : Option Addr) (cx : Nat) (s1 : ByteArray) (e1 l1 sc1 iv : Int) (w : World) (hg : Blk w g #[sv, .int .i64 x.kind, .string x.name, .int .i64 x.eps, .int .i64 x.floor, .int .i64 x.scale, .slice px x.pts.length cx] 98)
    (c0 : Hid (∀ W, Below w.heap.size w W → Calls Tryz.prog 96 #[.string x.name, .int .i64 x.eps, .int .i64 x.scale] W fun e w' => e = .returned (.tuple #[.agg #[.string s1, .int .i64 e1, .int .i64 0, .int .i64 l1, .int .i64 sc1, .slice none 0 0, .slice none 0 0], .int .i64 0]) ∧ Below W.heap.size W w'))
    (c1 : Hid (∀ W, Below w.heap.size w W → Calls Tryz.prog 75 #[.pointer (some ⟨g, 0, none⟩)] W fun e w' => e = .returned (.tuple #[.int .i64 iv, .bool true]) ∧ Below W.heap.size W w')) :
    Calls Tryz.prog 47 #[.pointer (some ⟨g, 0, none⟩)] w fun e w' => e = .returned (.int .i64 371) ∧ Below w.heap.size w w' := by
  go_enter Tryz.func47, Tryz.ntmps47
  go_upto_region 1 with (fail)
  refine wp_cutB w (Bc g #[sv, .int .i64 x.kind, .string x.name, .int .i64 x.eps, .int .i64 x.floor, .int .i64 x.scale, .slice px x.pts.length cx] 98 <| Bz) ?_
  rintro W1 hW z2 hL
  obtain ⟨⟨b1, yb1, k1, f1⟩, -⟩ := id hL
  clear k1 f1
  refine wp_regD 20 66 hW hL ?_
  iterate 15 refine dA ?_
  refine cA (fun W' hC => c0.out W' (hW.trans (hC.1.of_priv hW.size))) ?_
  iterate 3 refine dA ?_
  apply nd_alloc W1.heap.size #[.string .empty, .int .i64 0, .int .i64 0, .int .i64 0, .int .i64 0, .slice none 0 0, .slice none 0 0] 79 rfl rfl
  · exact fun W' hC => hC.1.size
  · simp [others] <;> omega
  · intro w; kernel_rfl
  clear hW hL b1
  rintro W3 hW z4 hL
  simp only [ndR]
  intros
  simp only [ndS]
  obtain ⟨⟨b1, yb1, k1, f1⟩, -⟩ := hL
  obtain ⟨o3, rfl, hg_o3, b2⟩ := ‹NewVar _ _ _ _ _›
  have yb2 := b2.lt
  have k2 := b2.cell
  have f2 := b2.frozen
  go_upto_region 2 with (fail)
  clear k1 f1 k2 f2
  refine wp_cutB w (Bc g #[sv, .int .i64 x.kind, .string x.name, .int .i64 x.eps, .int .i64 x.floor, .int .i64 x.scale, .slice px x.pts.length cx] 98 <| Bc o3 #[.string s1, .int .i64 e1, .int .i64 0, .int .i64 l1, .int .i64 sc1, .slice none 0 0, .slice none 0 0] 79 <| Bz) ?_
  clear b1 b2 hW
  rintro W5 hW z6 ⟨⟨b1, yb1, k1, f1⟩, ⟨b2, yb2, k2, f2⟩, -⟩
  go_wp2_with fail
  refine (c1.out _ hW).mono ?_
  rintro e w7 ⟨rfl, hb7⟩
  have z8 := hb7.size
  try simp at z8
  clear k1 f1 k2 f2
  refine haveB w w7 (Bc g #[sv, .int .i64 x.kind, .string x.name, .int .i64 x.eps, .int .i64 x.floor, .int .i64 x.scale, .slice px x.pts.length cx] 98 <| Bc o3 #[.string s1, .int .i64 e1, .int .i64 0, .int .i64 l1, .int .i64 sc1, .slice none 0 0, .slice none 0 0] 79 <| Bz) ?_
  clear b1 b2 hW
  rintro hW z9 ⟨⟨b1, yb1, k1, f1⟩, ⟨b2, yb2, k2, f2⟩, -⟩
  clear hb7
  go_wp2
  refine bodyPost_ret (by simp [results, Tryz.results47, go_sem, k1, f1, k2, f2, yb1, yb2]) rfl ⟨rfl, by exact belowAny⟩
set_option maxRecDepth 100000 in
set_option maxHeartbeats 2000000 in
theorem create_many (g G n : Nat) (x : MutT) (px : Option Addr) (cx : Nat) (s1 : ByteArray) (e1 l1 sc1 iv : Int) (w : World) (hg : Blk w g #[.slice (some ⟨G, 0, none⟩) n n, .int .i64 x.kind, .string x.name, .int .i64 x.eps, .int .i64 x.floor, .int .i64 x.scale, .slice px x.pts.length cx] 98) (h8 : ((n : Int) == 8) = true)
    (c0 : Hid (∀ W, Below w.heap.size w W → Calls Tryz.prog 96 #[.string x.name, .int .i64 x.eps, .int .i64 x.scale] W fun e w' => e = .returned (.tuple #[.agg #[.string s1, .int .i64 e1, .int .i64 0, .int .i64 l1, .int .i64 sc1, .slice none 0 0, .slice none 0 0], .int .i64 0]) ∧ Below W.heap.size W w'))
    (c1 : Hid (∀ W, Below w.heap.size w W → Calls Tryz.prog 75 #[.pointer (some ⟨g, 0, none⟩)] W fun e w' => e = .returned (.tuple #[.int .i64 iv, .bool false]) ∧ Below W.heap.size W w')) :
    Calls Tryz.prog 47 #[.pointer (some ⟨g, 0, none⟩)] w fun e w' => e = .returned (.int .i64 344) ∧ Below w.heap.size w w' := by
  go_enter Tryz.func47, Tryz.ntmps47
  go_upto_region 1 with (fail)
  refine wp_cutB w (Bc g #[.slice (some ⟨G, 0, none⟩) n n, .int .i64 x.kind, .string x.name, .int .i64 x.eps, .int .i64 x.floor, .int .i64 x.scale, .slice px x.pts.length cx] 98 <| Bz) ?_
  rintro W1 hW z2 hL
  obtain ⟨⟨b1, yb1, k1, f1⟩, -⟩ := id hL
  clear k1 f1
  refine wp_regD 20 66 hW hL ?_
  iterate 15 refine dA ?_
  refine cA (fun W' hC => c0.out W' (hW.trans (hC.1.of_priv hW.size))) ?_
  iterate 3 refine dA ?_
  apply nd_alloc W1.heap.size #[.string .empty, .int .i64 0, .int .i64 0, .int .i64 0, .int .i64 0, .slice none 0 0, .slice none 0 0] 79 rfl rfl
  · exact fun W' hC => hC.1.size
  · simp [others] <;> omega
  · intro w; kernel_rfl
  clear hW hL b1
  rintro W3 hW z4 hL
  simp only [ndR]
  intros
  simp only [ndS]
  obtain ⟨⟨b1, yb1, k1, f1⟩, -⟩ := hL
  obtain ⟨o3, rfl, hg_o3, b2⟩ := ‹NewVar _ _ _ _ _›
  have yb2 := b2.lt
  have k2 := b2.cell
  have f2 := b2.frozen
  go_upto_region 2 with (fail)
  clear k1 f1 k2 f2
  refine wp_cutB w (Bc g #[.slice (some ⟨G, 0, none⟩) n n, .int .i64 x.kind, .string x.name, .int .i64 x.eps, .int .i64 x.floor, .int .i64 x.scale, .slice px x.pts.length cx] 98 <| Bc o3 #[.string s1, .int .i64 e1, .int .i64 0, .int .i64 l1, .int .i64 sc1, .slice none 0 0, .slice none 0 0] 79 <| Bz) ?_
  clear b1 b2 hW
  rintro W5 hW z6 ⟨⟨b1, yb1, k1, f1⟩, ⟨b2, yb2, k2, f2⟩, -⟩
  go_wp2_with fail
  refine (c1.out _ hW).mono ?_
  rintro e w7 ⟨rfl, hb7⟩
  have z8 := hb7.size
  try simp at z8
  clear k1 f1 k2 f2
  refine haveB w w7 (Bc g #[.slice (some ⟨G, 0, none⟩) n n, .int .i64 x.kind, .string x.name, .int .i64 x.eps, .int .i64 x.floor, .int .i64 x.scale, .slice px x.pts.length cx] 98 <| Bc o3 #[.string s1, .int .i64 e1, .int .i64 0, .int .i64 l1, .int .i64 sc1, .slice none 0 0, .slice none 0 0] 79 <| Bz) ?_
  clear b1 b2 hW
  rintro hW z9 ⟨⟨b1, yb1, k1, f1⟩, ⟨b2, yb2, k2, f2⟩, -⟩
  clear hb7
  go_wp2
  refine bodyPost_ret (by simp [results, Tryz.results47, go_sem, k1, f1, k2, f2, yb1, yb2]) rfl ⟨rfl, by exact belowAny⟩
set_option maxRecDepth 100000 in
set_option maxHeartbeats 2000000 in
theorem create_ok (B g G n i : Nat) (x : MutT) (px : Option Addr) (cx : Nat) (RL : List RawR) (rows : List RawT) (s1 : ByteArray) (e1 l1 sc1 : Int) (w : World) (hg : Blk w g #[.slice (some ⟨G, 0, none⟩) n n, .int .i64 x.kind, .string x.name, .int .i64 x.eps, .int .i64 x.floor, .int .i64 x.scale, .slice px x.pts.length cx] 98) (hG : Blk w G (flatRaws RL).toArray 35) (hP : PtRowsO w B RL) (hRL : Hid (RL.map (·.r) = rows)) (h8 : ((n : Int) == 8) = false)
    (hBg : B ≤ g) (hBs : B ≤ w.heap.size) (hin : i ≤ n) (hn : n ≤ 100) (hnl : Hid (RL.length = n))
    (c0 : Hid (∀ W, Below w.heap.size w W → Calls Tryz.prog 96 #[.string x.name, .int .i64 x.eps, .int .i64 x.scale] W fun e w' => e = .returned (.tuple #[.agg #[.string s1, .int .i64 e1, .int .i64 0, .int .i64 l1, .int .i64 sc1, .slice none 0 0, .slice none 0 0], .int .i64 0]) ∧ Below W.heap.size W w'))
    (c1 : Hid (∀ W, Below w.heap.size w W → Calls Tryz.prog 75 #[.pointer (some ⟨g, 0, none⟩)] W fun e w' => e = .returned (.tuple #[.int .i64 (i : Int), .bool false]) ∧ Below W.heap.size W w')) :
    Calls Tryz.prog 47 #[.pointer (some ⟨g, 0, none⟩)] w fun e w' => e = .returned (.int .i64 0) ∧ DoneT w B g 0 (rows.take i ++ ⟨s1, e1, 0, l1, sc1, []⟩ :: rows.drop i) w' := by
  have cI := Lib.hid (fun h W (hW : Below w.heap.size w W) (hG : Blk W G (flatRaws RL).toArray 35) (hh : Blk W h #[.string s1, .int .i64 e1, .int .i64 0, .int .i64 l1, .int .i64 sc1, .slice none 0 0] 35) => (show Calls Tryz.prog 97 #[.slice (some ⟨G, 0, none⟩) n n, .int .i64 i, .slice (some ⟨h, 0, none⟩) 1 1] W fun e w' => ∃ p c, e = .returned (.slice p (n + 1) c) ∧ Below W.heap.size W w' ∧ OwnR w' B 35 6 (.slice p (n + 1) c) (n + 1) (flatRaws (RL.take i ++ (⟨⟨s1, e1, 0, l1, sc1, []⟩, none, 0⟩ : RawR) :: RL.drop i)) from by
    have hz := hW.size
    rcases Nat.lt_or_ge i n with hlt | hge
    · refine (ins_mid G n i h RL (⟨⟨s1, e1, 0, l1, sc1, []⟩, none, 0⟩ : RawR) W hG hh hnl hn hlt).mono ?_
      rintro e w' ⟨p, c, rfl, hB, hO⟩
      exact ⟨p, c, rfl, hB, hO.mono (by omega)⟩
    · obtain rfl : i = n := by omega
      refine (ins_end G i h RL (⟨⟨s1, e1, 0, l1, sc1, []⟩, none, 0⟩ : RawR) W hG hh hnl hn).mono ?_
      rintro e w' ⟨p, c, rfl, hB, hO⟩
      exact ⟨p, c, rfl, hB, hO.mono (by omega)⟩))
  go_enter Tryz.func47, Tryz.ntmps47
  go_upto_region 1 with (fail)
  refine wp_cutB w (Bc g #[.slice (some ⟨G, 0, none⟩) n n, .int .i64 x.kind, .string x.name, .int .i64 x.eps, .int .i64 x.floor, .int .i64 x.scale, .slice px x.pts.length cx] 98 <| Bz) ?_
  rintro W1 hW z2 hL
  obtain ⟨⟨b1, yb1, k1, f1⟩, -⟩ := id hL
  clear k1 f1
  refine wp_regD 20 66 hW hL ?_
  iterate 15 refine dA ?_
  refine cA (fun W' hC => c0.out W' (hW.trans (hC.1.of_priv hW.size))) ?_
  iterate 3 refine dA ?_
  apply nd_alloc W1.heap.size #[.string .empty, .int .i64 0, .int .i64 0, .int .i64 0, .int .i64 0, .slice none 0 0, .slice none 0 0] 79 rfl rfl
  · exact fun W' hC => hC.1.size
  · simp [others] <;> omega
  · intro w; kernel_rfl
  clear hW hL b1
  rintro W3 hW z4 hL
  simp only [ndR]
  intros
  simp only [ndS]
  obtain ⟨⟨b1, yb1, k1, f1⟩, -⟩ := hL
  obtain ⟨o3, rfl, hg_o3, b2⟩ := ‹NewVar _ _ _ _ _›
  have yb2 := b2.lt
  have k2 := b2.cell
  have f2 := b2.frozen
  go_upto_region 2 with (fail)
  clear k1 f1 k2 f2
  refine wp_cutB w (Bc g #[.slice (some ⟨G, 0, none⟩) n n, .int .i64 x.kind, .string x.name, .int .i64 x.eps, .int .i64 x.floor, .int .i64 x.scale, .slice px x.pts.length cx] 98 <| Bc o3 #[.string s1, .int .i64 e1, .int .i64 0, .int .i64 l1, .int .i64 sc1, .slice none 0 0, .slice none 0 0] 79 <| Bz) ?_
  clear b1 b2 hW
  rintro W5 hW z6 ⟨⟨b1, yb1, k1, f1⟩, ⟨b2, yb2, k2, f2⟩, -⟩
  go_wp2_with fail
  refine (c1.out _ hW).mono ?_
  rintro e w7 ⟨rfl, hb7⟩
  have z8 := hb7.size
  try simp at z8
  clear k1 f1 k2 f2
  refine haveB w w7 (Bc g #[.slice (some ⟨G, 0, none⟩) n n, .int .i64 x.kind, .string x.name, .int .i64 x.eps, .int .i64 x.floor, .int .i64 x.scale, .slice px x.pts.length cx] 98 <| Bc o3 #[.string s1, .int .i64 e1, .int .i64 0, .int .i64 l1, .int .i64 sc1, .slice none 0 0, .slice none 0 0] 79 <| Bz) ?_
  clear b1 b2 hW
  rintro hW z9 ⟨⟨b1, yb1, k1, f1⟩, ⟨b2, yb2, k2, f2⟩, -⟩
  clear hb7
  have hG9 := hG.below hW
  go_upto_region 9 with (fail)
  clear k1 f1 k2 f2
  refine wp_cutB w (Bc g #[.slice (some ⟨G, 0, none⟩) n n, .int .i64 x.kind, .string x.name, .int .i64 x.eps, .int .i64 x.floor, .int .i64 x.scale, .slice px x.pts.length cx] 98 <| Bc o3 #[.string s1, .int .i64 e1, .int .i64 0, .int .i64 l1, .int .i64 sc1, .slice none 0 0, .slice none 0 0] 79 <| Rc (fun W' => Blk W' G (flatRaws RL).toArray 35) <| Bz) ?_ (hI := by exact belowAny) (hR := (Bc.mk (by exact blkAny2) <| Bc.mk (by exact blkAny2) <| Rc.mk (by first | exact hG9 | exact b3 | exact b3.below (by exact belowAny)) <| trivial))
  clear b1 b2 hW
  rintro W10 hW z11 hL
  obtain ⟨⟨b1, yb1, k1, f1⟩, ⟨b2, yb2, k2, f2⟩, b3, -⟩ := id hL
  clear k1 f1 k2 f2
  refine wp_regD 18 66 hW hL ?_
  iterate 16 refine dA ?_
  apply nd_mem (OneRow #[.string s1, .int .i64 e1, .int .i64 0, .int .i64 l1, .int .i64 sc1, .slice none 0 0]) (hg := rfl) (hal := rfl)
  · exact OneRow.closed _
  · intro a' W' hC hE
    simp [Oper.looksAt, Op.operands, Call.operands, envOf, Det] at hE
    refine ⟨.slice (some ⟨W'.heap.size, 0, none⟩) 1 1, W'.alloc (.cells #[.string s1, .int .i64 e1, .int .i64 0, .int .i64 l1, .int .i64 sc1, .slice none 0 0] 35), ?_, (Below.refl _ _).alloc (Nat.le_refl _) _, W'.heap.size, rfl, Blk.new' rfl⟩
    simp [execOp, go_sem, Act.eval, hE]
    try rfl
  apply nd_call (InsS B n (flatRaws (RL.take i ++ (⟨⟨s1, e1, 0, l1, sc1, []⟩, none, 0⟩ : RawR) :: RL.drop i))) (hg := rfl) (hal := rfl)
  · exact InsS.closed _ _ _
  · intro a' W' hC hE
    have h9 := (hW.trans (hC.1.of_priv hW.size))
    obtain ⟨_, ⟨-, -, k1, -⟩, ⟨-, -, k2, -⟩, k3, -⟩ := hC
    simp [Oper.looksAt, Op.operands, Call.operands, envOf, Det] at hE
    obtain ⟨hE1, hE2, h, hE3, hh⟩ := hE
    refine ⟨_, _, ?_, (cI.out h W' h9 k3 hh).mono ?_⟩
    · simp [go_sem, Act.eval, hE1, hE2, hE3]
      try rfl
    · rintro e w' ⟨p, c, rfl, hB, hO⟩
      exact ⟨_, rfl, hB, p, c, rfl, hO⟩
  clear hW hL b1 b2 b3
  rintro W12 hW z13 hL
  simp only [ndR]
  intros
  simp only [ndS]
  obtain ⟨⟨b1, yb1, k1, f1⟩, ⟨b2, yb2, k2, f2⟩, b3, -⟩ := hL
  rename InsS _ _ _ _ _ => hI
  repeat (rename OneRow _ _ _ => hm; clear hm)
  obtain ⟨p', c', rfl, hO⟩ := hI
  have hP9 := hP.below hW
  have eP := hP9.otherR b1 (u := .slice p' (n + 1) c') (j := 0) (by decide)
  have eO := hO.setX (o := g) (j := 0) (u := .slice p' (n + 1) c') (own_apart hO.own b1 (by decide))
  have eT := b1.set2 (i := 0) (v := .slice p' (n + 1) c') (cs' := #[.slice p' (n + 1) c', .int .i64 x.kind, .string x.name, .int .i64 x.eps, .int .i64 x.floor, .int .i64 x.scale, .slice px x.pts.length cx]) rfl
  have eB : Below B w (W12.setCell ⟨g, 0, none⟩ (.slice p' (n + 1) c')) := (hW.mono hBs).setCell (by simp; omega) _
  have HH := Lib.hid (And.intro eP (And.intro eO (And.intro eT eB)))
  clear eP eO eT eB hP9 hO
  have k1 := b1.cell
  have f1 := b1.frozen
  replace hW := Lib.hid hW
  go_wp2
  obtain ⟨eP, eO, eT, eB⟩ := HH.out
  have hl : (RL.take i ++ (⟨⟨s1, e1, 0, l1, sc1, []⟩, none, 0⟩ : RawR) :: RL.drop i).length = n + 1 := by rw [List.length_append, List.length_take, List.length_cons, List.length_drop, hnl.out]; omega
  refine bodyPost_ret (v := .int .i64 0) (by simp [results, Tryz.results47, go_sem]) rfl ⟨rfl, eB, fun _ => ⟨_, eT.cell 0, p', c', RL.take i ++ (⟨⟨s1, e1, 0, l1, sc1, []⟩, none, 0⟩ : RawR) :: RL.drop i, ?_, ?_, (PtRowsO.rows ⟨fun z hz => ?_⟩), ?_⟩⟩
  · rw [← hRL.out, ← hl]; simp
  · rw [show (rows.take i ++ ⟨s1, e1, 0, l1, sc1, []⟩ :: rows.drop i).length = n + 1 by rw [← hl, ← hRL.out]; simp]
    exact eO
  · rcases List.mem_append.1 hz with h1 | h1
    · exact eP.at' z (List.mem_of_mem_take h1)
    · rcases List.mem_cons.1 h1 with rfl | h1
      · exact PtO.nil _ _
      · exact eP.at' z (List.mem_of_mem_drop h1)
  · rw [← hRL.out]; simp
end Go.Proofs.YtdeghcgakkhbmaaGreat
namespace Go.Proofs.YtdeghcgakkhbmaaGreat
open Go.RowKit
/-- A model in memory of its own, with room. -/
def OwnH (B : Nat) (rows : List RawT) : Spec := fun v w => ∃ G RL, v = .agg #[.slice (some ⟨G, 0, none⟩) rows.length rows.length] ∧ B ≤ G ∧ Blk w G (flatRaws RL).toArray 35 ∧ RL.map (·.r) = rows ∧ PtRowsO w B RL ∧ ApartP RL
theorem OwnH.closed (B : Nat) (rows : List RawT) : Closed [] (OwnH B rows) := fun _ _ _ hr ⟨G, RL, e1, h1, h2, h3, h4, h5⟩ => ⟨G, RL, e1, h1, h2.rex hr (by simp), h3, h4.below hr.below, h5⟩
theorem OwnH.below {B : Nat} {rows : List RawT} {v : Value} {w w' : World} (h : OwnH B rows v w) (hb : Below w.heap.size w w') : OwnH B rows v w' := by
  obtain ⟨G, RL, e1, h1, h2, h3, h4, h5⟩ := h
  exact ⟨G, RL, e1, h1, h2.below hb, h3, h4.below hb, h5⟩
def ent (k : Int) (f : Fn) (pt : Value) (b : Nat) : MapEntry := { key := .int .i64 k, val := .func f #[pt] #[], born := b }
def mapE (pt : Value) : List MapEntry := [ent 1 (.func 47) pt 0, ent 2 (.func 48) pt 1, ent 3 (.func 49) pt 2, ent 4 (.func 50) pt 3]
def OwnG (B G : Nat) (RL : List RawR) (rows : List RawT) (w : World) : Prop := B ≤ G ∧ Blk w G (flatRaws RL).toArray 35 ∧ RL.map (·.r) = rows ∧ PtRowsO w B RL ∧ ApartP RL
theorem OwnG.below {B G : Nat} {RL : List RawR} {rows : List RawT} {w w' : World} (h : OwnG B G RL rows w) (hb : Below w.heap.size w w') : OwnG B G RL rows w' := by
  obtain ⟨h1, h2, h3, h4, h5⟩ := h
  exact ⟨h1, h2.below hb, h3, h4.below hb, h5⟩
theorem OwnH.form {B : Nat} {rows : List RawT} {v : Value} {w : World} (h : OwnH B rows v w) : ∃ G RL, v = .agg #[.slice (some ⟨G, 0, none⟩) rows.length rows.length] ∧ OwnG B G RL rows w := h
theorem run_put (P : Program) (w : World) (mty kt et : TypeId) (r clock : Nat) (es : Array MapEntry) (k : Int) (val : Value) (hm : P.underlying mty = some (.map kt et)) (hk : P.underlying kt = some (.int .i64)) (hb : w.heap[r]? = some (.map es clock)) (hf : Instr.findNow (.int .i64) (.int .i64 k) es.toList 0 = some none) :
    (Instr.mapUpdate mty (.map (some r)) (.int .i64 k) val).run P w = .ok () { w with heap := w.heap.setIfInBounds r (.map (es.push { key := .int .i64 k, val := val, born := clock }) (clock + 1)) } := by
  have hc : (Instr.checkKey false 10000 kt (.int .i64 k)).run P w = .ok () w := MapKept.run_checkKey (k := .int .i64 k) hk (by simp [MapKept.IsKey]) false 9999
  simp [Instr.mapUpdate, run_underlying hm, MapKept.run_getObj_map hb, hc, MapKept.run_findKey hk hf, MapKept.run_setObj_map _ hb, Result.andThen]
theorem below_put {B : Nat} {w0 w : World} (h : Below B w0 w) {r : Nat} (hr : B ≤ r) (o : Obj) : Below B w0 { w with heap := w.heap.setIfInBounds r o } := by
  exact h.trans ⟨rfl, rfl, rfl, by simp, fun k hk => by simp [Array.getElem?_setIfInBounds, show r ≠ k by omega]⟩
theorem get_put {w : World} {r : Nat} {o o' : Obj} (h : w.heap[r]? = some o) : ({ w with heap := w.heap.setIfInBounds r o' } : World).heap[r]? = some o' := (MapKept.heap_set h).1
theorem map_made (W : World) (pt : Value) : ∃ V2 V3 V4 V5 : World,
    (Instr.mapUpdate 100 (.map (some W.heap.size)) (.int .i64 1) (.func (.func 47) #[pt] #[])).run Tryz.prog (W.alloc (.map #[] 0)) = .ok () V2 ∧
    (Instr.mapUpdate 100 (.map (some W.heap.size)) (.int .i64 2) (.func (.func 48) #[pt] #[])).run Tryz.prog V2 = .ok () V3 ∧
    (Instr.mapUpdate 100 (.map (some W.heap.size)) (.int .i64 3) (.func (.func 49) #[pt] #[])).run Tryz.prog V3 = .ok () V4 ∧
    (Instr.mapUpdate 100 (.map (some W.heap.size)) (.int .i64 4) (.func (.func 50) #[pt] #[])).run Tryz.prog V4 = .ok () V5 ∧
    Below W.heap.size W V5 ∧ V5.heap[W.heap.size]? = some (.map (mapE pt).toArray 4) := by
  have hm : (Tryz.prog).underlying 100 = some (.map 3 99) := by kernel_rfl
  have hk : (Tryz.prog).underlying 3 = some (.int .i64) := by kernel_rfl
  have h0 : (W.alloc (.map #[] 0)).heap[W.heap.size]? = some (.map #[] 0) := (MapKept.heap_alloc W _).1
  have b0 : Below W.heap.size W (W.alloc (.map #[] 0)) := belowAny
  refine ⟨_, _, _, _, run_put Tryz.prog _ _ _ _ _ _ _ 1 _ hm hk h0 rfl, run_put Tryz.prog _ _ _ _ _ _ _ 2 _ hm hk (get_put h0) rfl, run_put Tryz.prog _ _ _ _ _ _ _ 3 _ hm hk (get_put (get_put h0)) rfl, run_put Tryz.prog _ _ _ _ _ _ _ 4 _ hm hk (get_put (get_put (get_put h0))) rfl, ?_, get_put (get_put (get_put (get_put h0)))⟩
  exact below_put (below_put (below_put (below_put b0 (Nat.le_refl _) _) (Nat.le_refl _) _) (Nat.le_refl _) _) (Nat.le_refl _) _
theorem run_look (P : Program) (w : World) (mty kt et : TypeId) (r clock : Nat) (es : Array MapEntry) (k : Int) (j : Nat) (v : Value) (hm : P.underlying mty = some (.map kt et)) (hk : P.underlying kt = some (.int .i64)) (hb : w.heap[r]? = some (.map es clock)) (hf : Instr.findNow (.int .i64) (.int .i64 k) es.toList 0 = some (some (j, v))) :
    (Instr.lookup mty (.map (some r)) (.int .i64 k) true).run P w = .ok (.tuple #[v, .bool true]) w := by
  have hc : ∀ e, (Instr.checkKey e 10000 kt (.int .i64 k)).run P w = .ok () w := fun e => MapKept.run_checkKey (k := .int .i64 k) hk (by simp [MapKept.IsKey]) e 9999
  simp [Instr.lookup, run_underlying hm, MapKept.run_getObj_map hb, hc, MapKept.run_findKey hk hf, Result.andThen]
theorem run_look_none (P : Program) (w : World) (mty kt et : TypeId) (r clock : Nat) (es : Array MapEntry) (k : Int) (z : Value) (hm : P.underlying mty = some (.map kt et)) (hk : P.underlying kt = some (.int .i64)) (hb : w.heap[r]? = some (.map es clock)) (hz : (zeroValue et).run P w = .ok z w) (hf : Instr.findNow (.int .i64) (.int .i64 k) es.toList 0 = some none) :
    (Instr.lookup mty (.map (some r)) (.int .i64 k) true).run P w = .ok (.tuple #[z, .bool false]) w := by
  have hc : ∀ e, (Instr.checkKey e 10000 kt (.int .i64 k)).run P w = .ok () w := fun e => MapKept.run_checkKey (k := .int .i64 k) hk (by simp [MapKept.IsKey]) e 9999
  simp [Instr.lookup, run_underlying hm, MapKept.run_getObj_map hb, hc, MapKept.run_findKey hk hf, hz, Result.andThen]
set_option maxRecDepth 100000 in
set_option maxHeartbeats 2000000 in
theorem do_bad (p : Option Addr) (cap : Nat) (rows : List RawT) (x : MutT) (px : Option Addr) (cx : Nat) (w : World)
    (c1 : Hid (∀ W, Below w.heap.size w W → Calls Tryz.prog 30 #[.agg #[.slice p rows.length cap]] W fun e w' => e = .returned (.int .i64 380) ∧ Below W.heap.size W w')) :
    Calls Tryz.prog 17 #[.agg #[.slice p rows.length cap], .agg #[.int .i64 x.kind, .string x.name, .int .i64 x.eps, .int .i64 x.floor, .int .i64 x.scale, .slice px x.pts.length cx]] w fun e w' => e = .returned (.tuple #[.agg #[.slice none 0 0], .int .i64 380]) ∧ Below w.heap.size w w' := by
  go_enter Tryz.func17, Tryz.ntmps17
  go_upto_region 1 with (fail)
  refine wp_cutB w (Bc w.heap.size #[.slice p rows.length cap] 27 <| Bc (w.heap.size + 1) #[.int .i64 x.kind, .string x.name, .int .i64 x.eps, .int .i64 x.floor, .int .i64 x.scale, .slice px x.pts.length cx] 52 <| Bc (w.heap.size + 1 + 1) #[.slice none 0 0] 27 <| Bz) ?_
  rintro W1 hW z2 ⟨⟨b1, yb1, k1, f1⟩, ⟨b2, yb2, k2, f2⟩, ⟨b3, yb3, k3, f3⟩, -⟩
  go_wp2_with fail
  refine (c1.out _ hW).mono ?_
  rintro e w3 ⟨rfl, hb3⟩
  have z4 := hb3.size
  try simp at z4
  clear k1 f1 k2 f2 k3 f3
  refine haveB w w3 (Bc w.heap.size #[.slice p rows.length cap] 27 <| Bc (w.heap.size + 1) #[.int .i64 x.kind, .string x.name, .int .i64 x.eps, .int .i64 x.floor, .int .i64 x.scale, .slice px x.pts.length cx] 52 <| Bc (w.heap.size + 1 + 1) #[.slice none 0 0] 27 <| Bz) ?_
  clear b1 b2 b3 hW
  rintro hW z5 ⟨⟨b1, yb1, k1, f1⟩, ⟨b2, yb2, k2, f2⟩, ⟨b3, yb3, k3, f3⟩, -⟩
  clear hb3
  go_wp2
  refine bodyPost_ret (by simp [results, Tryz.results17, go_sem, k1, f1, k2, f2, k3, f3, yb1, yb2, yb3]) rfl ⟨rfl, by exact belowAny⟩
set_option maxRecDepth 100000 in
set_option maxHeartbeats 2000000 in
theorem do_none (p : Option Addr) (cap : Nat) (rows : List RawT) (x : MutT) (px : Option Addr) (cx : Nat) (w : World)
    (c1 : Hid (∀ W, Below w.heap.size w W → Calls Tryz.prog 30 #[.agg #[.slice p rows.length cap]] W fun e w' => e = .returned (.int .i64 0) ∧ Below W.heap.size W w'))
        (c2 : Hid (∀ W, Below w.heap.size w W → Calls Tryz.prog 46 #[.agg #[.slice p rows.length cap]] W fun e w' => ∃ (G : Nat) (RL : List RawR), e = .returned (.agg #[.slice (some ⟨G, 0, none⟩) rows.length rows.length]) ∧ Below W.heap.size W w' ∧ W.heap.size ≤ G ∧ Blk w' G (flatRaws RL).toArray 35 ∧ RL.map (·.r) = rows ∧ PtRowsO w' W.heap.size RL ∧ ApartP RL))
    (hfn : Hid (∀ pt, Instr.findNow (.int .i64) (.int .i64 x.kind) (mapE pt) 0 = some none)) :
    Calls Tryz.prog 17 #[.agg #[.slice p rows.length cap], .agg #[.int .i64 x.kind, .string x.name, .int .i64 x.eps, .int .i64 x.floor, .int .i64 x.scale, .slice px x.pts.length cx]] w fun e w' => e = .returned (.tuple #[.agg #[.slice none 0 0], .int .i64 2]) ∧ Below w.heap.size w w' := by
  go_enter Tryz.func17, Tryz.ntmps17
  go_upto_region 1 with (fail)
  refine wp_cutB w (Bc w.heap.size #[.slice p rows.length cap] 27 <| Bc (w.heap.size + 1) #[.int .i64 x.kind, .string x.name, .int .i64 x.eps, .int .i64 x.floor, .int .i64 x.scale, .slice px x.pts.length cx] 52 <| Bc (w.heap.size + 1 + 1) #[.slice none 0 0] 27 <| Bz) ?_
  rintro W1 hW z2 ⟨⟨b1, yb1, k1, f1⟩, ⟨b2, yb2, k2, f2⟩, ⟨b3, yb3, k3, f3⟩, -⟩
  go_wp2_with fail
  refine (c1.out _ hW).mono ?_
  rintro e w3 ⟨rfl, hb3⟩
  have z4 := hb3.size
  try simp at z4
  clear k1 f1 k2 f2 k3 f3
  refine haveB w w3 (Bc w.heap.size #[.slice p rows.length cap] 27 <| Bc (w.heap.size + 1) #[.int .i64 x.kind, .string x.name, .int .i64 x.eps, .int .i64 x.floor, .int .i64 x.scale, .slice px x.pts.length cx] 52 <| Bc (w.heap.size + 1 + 1) #[.slice none 0 0] 27 <| Bz) ?_
  clear b1 b2 b3 hW
  rintro hW z5 ⟨⟨b1, yb1, k1, f1⟩, ⟨b2, yb2, k2, f2⟩, ⟨b3, yb3, k3, f3⟩, -⟩
  clear hb3
  go_upto_region 4 with (fail)
  clear k1 f1 k2 f2 k3 f3
  refine wp_cutB w (Bc w.heap.size #[.slice p rows.length cap] 27 <| Bc (w.heap.size + 1) #[.int .i64 x.kind, .string x.name, .int .i64 x.eps, .int .i64 x.floor, .int .i64 x.scale, .slice px x.pts.length cx] 52 <| Bc (w.heap.size + 1 + 1) #[.slice none 0 0] 27 <| Bz) ?_
  clear b1 b2 b3 hW
  rintro W6 hW z7 ⟨⟨b1, yb1, k1, f1⟩, ⟨b2, yb2, k2, f2⟩, ⟨b3, yb3, k3, f3⟩, -⟩
  have hBz : w.heap.size + 3 ≤ W6.heap.size := by omega
  obtain ⟨B, hB⟩ : ∃ B, B = w.heap.size + 3 := ⟨_, rfl⟩
  rw [← hB] at hBz
  clear k1 f1 k2 f2 k3 f3
  refine wp_cutB w (Bc w.heap.size #[.slice p rows.length cap] 27 <| Bc (w.heap.size + 1) #[.int .i64 x.kind, .string x.name, .int .i64 x.eps, .int .i64 x.floor, .int .i64 x.scale, .slice px x.pts.length cx] 52 <| Bc (w.heap.size + 1 + 1) #[.slice none 0 0] 27 <| Bz) ?_
  clear b1 b2 b3 hW
  rintro W8 hW z9 hL
  obtain ⟨⟨b1, yb1, k1, f1⟩, ⟨b2, yb2, k2, f2⟩, ⟨b3, yb3, k3, f3⟩, -⟩ := id hL
  clear k1 f1 k2 f2 k3 f3
  refine wp_regD 3 53 hW hL ?_
  refine dA ?_
  apply nd_call (OwnH B rows) (hg := rfl) (hal := rfl)
  · exact OwnH.closed _ _
  · intro a' W' hC hE
    have h9 := (hW.trans (hC.1.of_priv hW.size))
    simp [Oper.looksAt, Op.operands, Call.operands, envOf, Det] at hE
    refine ⟨_, _, ?_, (c2.out W' h9).mono ?_⟩
    · simp [go_sem, Act.eval, hE]
      try rfl
    · rintro e w' ⟨G, RL, rfl, hB, hG, hb, h1, h2, h3⟩
      exact ⟨_, rfl, hB, G, RL, rfl, by have := h9.size; have := hC.1.size; omega, hb, h1, h2.mono (by have := h9.size; have := hC.1.size; omega), h3⟩
  refine dA ?_
  clear hW hL b1 b2 b3
  rintro W10 hW z11 hL
  simp only [ndR]
  intros
  simp only [ndS]
  obtain ⟨⟨b1, yb1, k1, f1⟩, ⟨b2, yb2, k2, f2⟩, ⟨b3, yb3, k3, f3⟩, -⟩ := hL
  rename OwnH _ _ _ _ => hD
  have hz4 : w.heap.size + 3 ≤ W10.heap.size := by omega
  obtain ⟨G, RL, rfl, hDG⟩ := hD.form
  clear hD
  go_upto_region 5 with (fail)
  clear k1 f1 k2 f2 k3 f3
  refine wp_cutB w (Bc w.heap.size #[.slice p rows.length cap] 27 <| Bc (w.heap.size + 1) #[.int .i64 x.kind, .string x.name, .int .i64 x.eps, .int .i64 x.floor, .int .i64 x.scale, .slice px x.pts.length cx] 52 <| Bc (w.heap.size + 1 + 1) #[.slice none 0 0] 27 <| Bc W10.heap.size #[.slice (some ⟨G, 0, none⟩) rows.length rows.length, .int .i64 x.kind, .string x.name, .int .i64 x.eps, .int .i64 x.floor, .int .i64 x.scale, .slice px x.pts.length cx] 98 <| Rc (fun W' => OwnG B G RL rows W') <| Bz) ?_ (hI := by exact belowAny) (hR := (Bc.mk (by exact blkAny2) <| Bc.mk (by exact blkAny2) <| Bc.mk (by exact blkAny2) <| Bc.mk (by exact blkAny2) <| Rc.mk (by first | exact hDG.below (by exact belowAny) | exact b4.below (by exact belowAny) | exact b4.below hW) <| trivial))
  clear b1 b2 b3 hW
  rintro W12 hW z13 ⟨⟨b1, yb1, k1, f1⟩, ⟨b2, yb2, k2, f2⟩, ⟨b3, yb3, k3, f3⟩, ⟨b4, yb4, k4, f4⟩, b5, -⟩
  generalize W10.heap.size = g at *
  obtain ⟨V2, V3, V4, V5, m1, m2, m3, m4, hBm, hM⟩ := map_made W12 (.pointer (some ⟨g, 0, none⟩))
  have m0 : (Instr.makeMap 100 none).run Tryz.prog W12 = .ok (.map (some W12.heap.size)) (W12.alloc (.map #[] 0)) := run_makeMap_plain _ _
  have mf : ∀ (fn : Fn) (first cap : Array Value) (w : World), (Instr.makeFunc fn first cap).run Tryz.prog w = .ok (.func fn first cap) w := fun _ _ _ _ => rfl
  go_upto_region 6 with (fail)
  clear m0 m1 m2 m3 m4 mf
  clear k1 f1 k2 f2 k3 f3 k4 f4
  replace b1 := b1.below hBm
  replace yb1 := b1.lt
  have k1 := b1.cell
  have f1 := b1.frozen
  replace b2 := b2.below hBm
  replace yb2 := b2.lt
  have k2 := b2.cell
  have f2 := b2.frozen
  replace b3 := b3.below hBm
  replace yb3 := b3.lt
  have k3 := b3.cell
  have f3 := b3.frozen
  replace b4 := b4.below hBm
  replace yb4 := b4.lt
  have k4 := b4.cell
  have f4 := b4.frozen
  replace b5 := b5.below hBm

  replace hW := hW.trans (hBm.mono (by have := hW.size; omega))
  have hz6 : W12.heap.size ≤ V5.heap.size := hBm.size
  replace hM := Lib.hid hM
  clear hBm
  have hzf : ∀ W, (zeroValue 99).run Tryz.prog W = .ok .nilFunc W := fun W => by kernel_rfl
  have hlk := run_look_none Tryz.prog V5 100 3 99 _ 4 (mapE (.pointer (some ⟨g, 0, none⟩))).toArray x.kind .nilFunc (by kernel_rfl) (by kernel_rfl) hM.out (hzf V5) (hfn.out _)
  clear hzf
  go_wp2
  have d2 := b3.set2 (i := 0) (v := .slice none 0 0) (cs' := #[.slice none 0 0]) rfl
  have d0 := d2.cell 0
  simp only [List.getElem?_toArray, List.getElem?_cons_zero] at d0
  refine bodyPost_ret (v := .tuple #[.agg #[.slice none 0 0], .int .i64 2]) (by simp [results, Tryz.results17, go_sem, d0]) rfl ⟨rfl, by exact hW.setCell (by simp; omega) _⟩
set_option maxRecDepth 100000 in
set_option maxHeartbeats 2000000 in
theorem do_err (p : Option Addr) (cap : Nat) (rows : List RawT) (x : MutT) (px : Option Addr) (cx : Nat) (w : World) (er : Int) (her : (er != 0) = true) (R : List RawT)
    (c1 : Hid (∀ W, Below w.heap.size w W → Calls Tryz.prog 30 #[.agg #[.slice p rows.length cap]] W fun e w' => e = .returned (.int .i64 0) ∧ Below W.heap.size W w'))
        (c2 : Hid (∀ W, Below w.heap.size w W → Calls Tryz.prog 46 #[.agg #[.slice p rows.length cap]] W fun e w' => ∃ (G : Nat) (RL : List RawR), e = .returned (.agg #[.slice (some ⟨G, 0, none⟩) rows.length rows.length]) ∧ Below W.heap.size W w' ∧ W.heap.size ≤ G ∧ Blk w' G (flatRaws RL).toArray 35 ∧ RL.map (·.r) = rows ∧ PtRowsO w' W.heap.size RL ∧ ApartP RL))
    (j : Nat) (FK : FuncId) (hcl : ∀ (args : Array Value) (W : World), (callFunc FK args).run Tryz.prog W = .ok (.enter FK args) W) (hfn : Hid (∀ pt, Instr.findNow (.int .i64) (.int .i64 x.kind) (mapE pt) 0 = some (some (j, .func (.func FK) #[pt] #[]))))
        (c3 : Hid (∀ W g G RL, Below w.heap.size w W → w.heap.size + 3 ≤ W.heap.size → Blk W g #[.slice (some ⟨G, 0, none⟩) rows.length rows.length, .int .i64 x.kind, .string x.name, .int .i64 x.eps, .int .i64 x.floor, .int .i64 x.scale, .slice px x.pts.length cx] 98 → w.heap.size + 3 ≤ g → OwnG (w.heap.size + 3) G RL rows W → Calls Tryz.prog FK #[.pointer (some ⟨g, 0, none⟩)] W fun e w' => e = .returned (.int .i64 er) ∧ DoneT W (w.heap.size + 3) g er R w')) :
    Calls Tryz.prog 17 #[.agg #[.slice p rows.length cap], .agg #[.int .i64 x.kind, .string x.name, .int .i64 x.eps, .int .i64 x.floor, .int .i64 x.scale, .slice px x.pts.length cx]] w fun e w' => e = .returned (.tuple #[.agg #[.slice none 0 0], .int .i64 er]) ∧ Below w.heap.size w w' := by
  go_enter Tryz.func17, Tryz.ntmps17
  go_upto_region 1 with (fail)
  refine wp_cutB w (Bc w.heap.size #[.slice p rows.length cap] 27 <| Bc (w.heap.size + 1) #[.int .i64 x.kind, .string x.name, .int .i64 x.eps, .int .i64 x.floor, .int .i64 x.scale, .slice px x.pts.length cx] 52 <| Bc (w.heap.size + 1 + 1) #[.slice none 0 0] 27 <| Bz) ?_
  rintro W1 hW z2 ⟨⟨b1, yb1, k1, f1⟩, ⟨b2, yb2, k2, f2⟩, ⟨b3, yb3, k3, f3⟩, -⟩
  go_wp2_with fail
  refine (c1.out _ hW).mono ?_
  rintro e w3 ⟨rfl, hb3⟩
  have z4 := hb3.size
  try simp at z4
  clear k1 f1 k2 f2 k3 f3
  refine haveB w w3 (Bc w.heap.size #[.slice p rows.length cap] 27 <| Bc (w.heap.size + 1) #[.int .i64 x.kind, .string x.name, .int .i64 x.eps, .int .i64 x.floor, .int .i64 x.scale, .slice px x.pts.length cx] 52 <| Bc (w.heap.size + 1 + 1) #[.slice none 0 0] 27 <| Bz) ?_
  clear b1 b2 b3 hW
  rintro hW z5 ⟨⟨b1, yb1, k1, f1⟩, ⟨b2, yb2, k2, f2⟩, ⟨b3, yb3, k3, f3⟩, -⟩
  clear hb3
  go_upto_region 4 with (fail)
  clear k1 f1 k2 f2 k3 f3
  refine wp_cutB w (Bc w.heap.size #[.slice p rows.length cap] 27 <| Bc (w.heap.size + 1) #[.int .i64 x.kind, .string x.name, .int .i64 x.eps, .int .i64 x.floor, .int .i64 x.scale, .slice px x.pts.length cx] 52 <| Bc (w.heap.size + 1 + 1) #[.slice none 0 0] 27 <| Bz) ?_
  clear b1 b2 b3 hW
  rintro W6 hW z7 ⟨⟨b1, yb1, k1, f1⟩, ⟨b2, yb2, k2, f2⟩, ⟨b3, yb3, k3, f3⟩, -⟩
  have hBz : w.heap.size + 3 ≤ W6.heap.size := by omega
  obtain ⟨B, hB⟩ : ∃ B, B = w.heap.size + 3 := ⟨_, rfl⟩
  rw [← hB] at hBz
  clear k1 f1 k2 f2 k3 f3
  refine wp_cutB w (Bc w.heap.size #[.slice p rows.length cap] 27 <| Bc (w.heap.size + 1) #[.int .i64 x.kind, .string x.name, .int .i64 x.eps, .int .i64 x.floor, .int .i64 x.scale, .slice px x.pts.length cx] 52 <| Bc (w.heap.size + 1 + 1) #[.slice none 0 0] 27 <| Bz) ?_
  clear b1 b2 b3 hW
  rintro W8 hW z9 hL
  obtain ⟨⟨b1, yb1, k1, f1⟩, ⟨b2, yb2, k2, f2⟩, ⟨b3, yb3, k3, f3⟩, -⟩ := id hL
  clear k1 f1 k2 f2 k3 f3
  refine wp_regD 3 53 hW hL ?_
  refine dA ?_
  apply nd_call (OwnH B rows) (hg := rfl) (hal := rfl)
  · exact OwnH.closed _ _
  · intro a' W' hC hE
    have h9 := (hW.trans (hC.1.of_priv hW.size))
    simp [Oper.looksAt, Op.operands, Call.operands, envOf, Det] at hE
    refine ⟨_, _, ?_, (c2.out W' h9).mono ?_⟩
    · simp [go_sem, Act.eval, hE]
      try rfl
    · rintro e w' ⟨G, RL, rfl, hB, hG, hb, h1, h2, h3⟩
      exact ⟨_, rfl, hB, G, RL, rfl, by have := h9.size; have := hC.1.size; omega, hb, h1, h2.mono (by have := h9.size; have := hC.1.size; omega), h3⟩
  refine dA ?_
  clear hW hL b1 b2 b3
  rintro W10 hW z11 hL
  simp only [ndR]
  intros
  simp only [ndS]
  obtain ⟨⟨b1, yb1, k1, f1⟩, ⟨b2, yb2, k2, f2⟩, ⟨b3, yb3, k3, f3⟩, -⟩ := hL
  rename OwnH _ _ _ _ => hD
  have hz4 : w.heap.size + 3 ≤ W10.heap.size := by omega
  obtain ⟨G, RL, rfl, hDG⟩ := hD.form
  clear hD
  go_upto_region 5 with (fail)
  clear k1 f1 k2 f2 k3 f3
  refine wp_cutB w (Bc w.heap.size #[.slice p rows.length cap] 27 <| Bc (w.heap.size + 1) #[.int .i64 x.kind, .string x.name, .int .i64 x.eps, .int .i64 x.floor, .int .i64 x.scale, .slice px x.pts.length cx] 52 <| Bc (w.heap.size + 1 + 1) #[.slice none 0 0] 27 <| Bc W10.heap.size #[.slice (some ⟨G, 0, none⟩) rows.length rows.length, .int .i64 x.kind, .string x.name, .int .i64 x.eps, .int .i64 x.floor, .int .i64 x.scale, .slice px x.pts.length cx] 98 <| Rc (fun W' => OwnG B G RL rows W') <| Bz) ?_ (hI := by exact belowAny) (hR := (Bc.mk (by exact blkAny2) <| Bc.mk (by exact blkAny2) <| Bc.mk (by exact blkAny2) <| Bc.mk (by exact blkAny2) <| Rc.mk (by first | exact hDG.below (by exact belowAny) | exact b4.below (by exact belowAny) | exact b4.below hW) <| trivial))
  clear b1 b2 b3 hW
  rintro W12 hW z13 ⟨⟨b1, yb1, k1, f1⟩, ⟨b2, yb2, k2, f2⟩, ⟨b3, yb3, k3, f3⟩, ⟨b4, yb4, k4, f4⟩, b5, -⟩
  generalize W10.heap.size = g at *
  obtain ⟨V2, V3, V4, V5, m1, m2, m3, m4, hBm, hM⟩ := map_made W12 (.pointer (some ⟨g, 0, none⟩))
  have m0 : (Instr.makeMap 100 none).run Tryz.prog W12 = .ok (.map (some W12.heap.size)) (W12.alloc (.map #[] 0)) := run_makeMap_plain _ _
  have mf : ∀ (fn : Fn) (first cap : Array Value) (w : World), (Instr.makeFunc fn first cap).run Tryz.prog w = .ok (.func fn first cap) w := fun _ _ _ _ => rfl
  go_upto_region 6 with (fail)
  clear m0 m1 m2 m3 m4 mf
  clear k1 f1 k2 f2 k3 f3 k4 f4
  replace b1 := b1.below hBm
  replace yb1 := b1.lt
  have k1 := b1.cell
  have f1 := b1.frozen
  replace b2 := b2.below hBm
  replace yb2 := b2.lt
  have k2 := b2.cell
  have f2 := b2.frozen
  replace b3 := b3.below hBm
  replace yb3 := b3.lt
  have k3 := b3.cell
  have f3 := b3.frozen
  replace b4 := b4.below hBm
  replace yb4 := b4.lt
  have k4 := b4.cell
  have f4 := b4.frozen
  replace b5 := b5.below hBm

  replace hW := hW.trans (hBm.mono (by have := hW.size; omega))
  have hz6 : W12.heap.size ≤ V5.heap.size := hBm.size
  replace hM := Lib.hid hM
  clear hBm
  have hlk := run_look Tryz.prog V5 100 3 99 _ 4 (mapE (.pointer (some ⟨g, 0, none⟩))).toArray x.kind j _ (by kernel_rfl) (by kernel_rfl) hM.out (hfn.out _)
  go_wp2_with fail
  refine (c3.out V5 g G RL hW (by omega) b4 (by omega) (hB ▸ b5)).mono ?_
  rintro e w9 ⟨rfl, hB9, hd9⟩
  have d1 : Blk w9 (w.heap.size + 1 + 1) #[.slice none 0 0] 27 := (hB9.block _ (by omega)).trans b3
  have hB8 : Below w.heap.size w w9 := hW.trans (hB9.mono (by omega))
  have hz9 := hB9.size
  clear b1 b2 b3 b4 b5 hW hM hlk k1 f1 k2 f2 k3 f3 k4 f4
  have k1 := d1.cell
  have f1 := d1.frozen
  have yd1 := d1.lt
  clear hd9
  replace d1 := Lib.hid d1
  replace hB9 := Lib.hid hB9
  replace hB8 := Lib.hid hB8
  go_wp2
  have d2 := d1.out.set2 (i := 0) (v := .slice none 0 0) (cs' := #[.slice none 0 0]) rfl
  have d0 := d2.cell 0
  simp only [List.getElem?_toArray, List.getElem?_cons_zero] at d0
  refine bodyPost_ret (v := .tuple #[.agg #[.slice none 0 0], .int .i64 er]) (by simp [results, Tryz.results17, go_sem, d0]) rfl ⟨rfl, hB8.out.setCell (by simp; omega) _⟩
set_option maxRecDepth 100000 in
set_option maxHeartbeats 2000000 in
theorem do_ok (p : Option Addr) (cap : Nat) (rows : List RawT) (x : MutT) (px : Option Addr) (cx : Nat) (w : World) (er : Int) (her : er = 0) (R : List RawT)
    (c1 : Hid (∀ W, Below w.heap.size w W → Calls Tryz.prog 30 #[.agg #[.slice p rows.length cap]] W fun e w' => e = .returned (.int .i64 0) ∧ Below W.heap.size W w'))
        (c2 : Hid (∀ W, Below w.heap.size w W → Calls Tryz.prog 46 #[.agg #[.slice p rows.length cap]] W fun e w' => ∃ (G : Nat) (RL : List RawR), e = .returned (.agg #[.slice (some ⟨G, 0, none⟩) rows.length rows.length]) ∧ Below W.heap.size W w' ∧ W.heap.size ≤ G ∧ Blk w' G (flatRaws RL).toArray 35 ∧ RL.map (·.r) = rows ∧ PtRowsO w' W.heap.size RL ∧ ApartP RL))
    (j : Nat) (FK : FuncId) (hcl : ∀ (args : Array Value) (W : World), (callFunc FK args).run Tryz.prog W = .ok (.enter FK args) W) (hfn : Hid (∀ pt, Instr.findNow (.int .i64) (.int .i64 x.kind) (mapE pt) 0 = some (some (j, .func (.func FK) #[pt] #[]))))
        (c3 : Hid (∀ W g G RL, Below w.heap.size w W → w.heap.size + 3 ≤ W.heap.size → Blk W g #[.slice (some ⟨G, 0, none⟩) rows.length rows.length, .int .i64 x.kind, .string x.name, .int .i64 x.eps, .int .i64 x.floor, .int .i64 x.scale, .slice px x.pts.length cx] 98 → w.heap.size + 3 ≤ g → OwnG (w.heap.size + 3) G RL rows W → Calls Tryz.prog FK #[.pointer (some ⟨g, 0, none⟩)] W fun e w' => e = .returned (.int .i64 er) ∧ DoneT W (w.heap.size + 3) g er R w')) :
    Calls Tryz.prog 17 #[.agg #[.slice p rows.length cap], .agg #[.int .i64 x.kind, .string x.name, .int .i64 x.eps, .int .i64 x.floor, .int .i64 x.scale, .slice px x.pts.length cx]] w fun e w' => ∃ v, e = .returned (.tuple #[.agg #[v], .int .i64 0]) ∧ Below w.heap.size w w' ∧ OwnM w.heap.size R (.agg #[v]) w' := by
  subst her
  go_enter Tryz.func17, Tryz.ntmps17
  go_upto_region 1 with (fail)
  refine wp_cutB w (Bc w.heap.size #[.slice p rows.length cap] 27 <| Bc (w.heap.size + 1) #[.int .i64 x.kind, .string x.name, .int .i64 x.eps, .int .i64 x.floor, .int .i64 x.scale, .slice px x.pts.length cx] 52 <| Bc (w.heap.size + 1 + 1) #[.slice none 0 0] 27 <| Bz) ?_
  rintro W1 hW z2 ⟨⟨b1, yb1, k1, f1⟩, ⟨b2, yb2, k2, f2⟩, ⟨b3, yb3, k3, f3⟩, -⟩
  go_wp2_with fail
  refine (c1.out _ hW).mono ?_
  rintro e w3 ⟨rfl, hb3⟩
  have z4 := hb3.size
  try simp at z4
  clear k1 f1 k2 f2 k3 f3
  refine haveB w w3 (Bc w.heap.size #[.slice p rows.length cap] 27 <| Bc (w.heap.size + 1) #[.int .i64 x.kind, .string x.name, .int .i64 x.eps, .int .i64 x.floor, .int .i64 x.scale, .slice px x.pts.length cx] 52 <| Bc (w.heap.size + 1 + 1) #[.slice none 0 0] 27 <| Bz) ?_
  clear b1 b2 b3 hW
  rintro hW z5 ⟨⟨b1, yb1, k1, f1⟩, ⟨b2, yb2, k2, f2⟩, ⟨b3, yb3, k3, f3⟩, -⟩
  clear hb3
  go_upto_region 4 with (fail)
  clear k1 f1 k2 f2 k3 f3
  refine wp_cutB w (Bc w.heap.size #[.slice p rows.length cap] 27 <| Bc (w.heap.size + 1) #[.int .i64 x.kind, .string x.name, .int .i64 x.eps, .int .i64 x.floor, .int .i64 x.scale, .slice px x.pts.length cx] 52 <| Bc (w.heap.size + 1 + 1) #[.slice none 0 0] 27 <| Bz) ?_
  clear b1 b2 b3 hW
  rintro W6 hW z7 ⟨⟨b1, yb1, k1, f1⟩, ⟨b2, yb2, k2, f2⟩, ⟨b3, yb3, k3, f3⟩, -⟩
  have hBz : w.heap.size + 3 ≤ W6.heap.size := by omega
  obtain ⟨B, hB⟩ : ∃ B, B = w.heap.size + 3 := ⟨_, rfl⟩
  rw [← hB] at hBz
  clear k1 f1 k2 f2 k3 f3
  refine wp_cutB w (Bc w.heap.size #[.slice p rows.length cap] 27 <| Bc (w.heap.size + 1) #[.int .i64 x.kind, .string x.name, .int .i64 x.eps, .int .i64 x.floor, .int .i64 x.scale, .slice px x.pts.length cx] 52 <| Bc (w.heap.size + 1 + 1) #[.slice none 0 0] 27 <| Bz) ?_
  clear b1 b2 b3 hW
  rintro W8 hW z9 hL
  obtain ⟨⟨b1, yb1, k1, f1⟩, ⟨b2, yb2, k2, f2⟩, ⟨b3, yb3, k3, f3⟩, -⟩ := id hL
  clear k1 f1 k2 f2 k3 f3
  refine wp_regD 3 53 hW hL ?_
  refine dA ?_
  apply nd_call (OwnH B rows) (hg := rfl) (hal := rfl)
  · exact OwnH.closed _ _
  · intro a' W' hC hE
    have h9 := (hW.trans (hC.1.of_priv hW.size))
    simp [Oper.looksAt, Op.operands, Call.operands, envOf, Det] at hE
    refine ⟨_, _, ?_, (c2.out W' h9).mono ?_⟩
    · simp [go_sem, Act.eval, hE]
      try rfl
    · rintro e w' ⟨G, RL, rfl, hB, hG, hb, h1, h2, h3⟩
      exact ⟨_, rfl, hB, G, RL, rfl, by have := h9.size; have := hC.1.size; omega, hb, h1, h2.mono (by have := h9.size; have := hC.1.size; omega), h3⟩
  refine dA ?_
  clear hW hL b1 b2 b3
  rintro W10 hW z11 hL
  simp only [ndR]
  intros
  simp only [ndS]
  obtain ⟨⟨b1, yb1, k1, f1⟩, ⟨b2, yb2, k2, f2⟩, ⟨b3, yb3, k3, f3⟩, -⟩ := hL
  rename OwnH _ _ _ _ => hD
  have hz4 : w.heap.size + 3 ≤ W10.heap.size := by omega
  obtain ⟨G, RL, rfl, hDG⟩ := hD.form
  clear hD
  go_upto_region 5 with (fail)
  clear k1 f1 k2 f2 k3 f3
  refine wp_cutB w (Bc w.heap.size #[.slice p rows.length cap] 27 <| Bc (w.heap.size + 1) #[.int .i64 x.kind, .string x.name, .int .i64 x.eps, .int .i64 x.floor, .int .i64 x.scale, .slice px x.pts.length cx] 52 <| Bc (w.heap.size + 1 + 1) #[.slice none 0 0] 27 <| Bc W10.heap.size #[.slice (some ⟨G, 0, none⟩) rows.length rows.length, .int .i64 x.kind, .string x.name, .int .i64 x.eps, .int .i64 x.floor, .int .i64 x.scale, .slice px x.pts.length cx] 98 <| Rc (fun W' => OwnG B G RL rows W') <| Bz) ?_ (hI := by exact belowAny) (hR := (Bc.mk (by exact blkAny2) <| Bc.mk (by exact blkAny2) <| Bc.mk (by exact blkAny2) <| Bc.mk (by exact blkAny2) <| Rc.mk (by first | exact hDG.below (by exact belowAny) | exact b4.below (by exact belowAny) | exact b4.below hW) <| trivial))
  clear b1 b2 b3 hW
  rintro W12 hW z13 ⟨⟨b1, yb1, k1, f1⟩, ⟨b2, yb2, k2, f2⟩, ⟨b3, yb3, k3, f3⟩, ⟨b4, yb4, k4, f4⟩, b5, -⟩
  generalize W10.heap.size = g at *
  obtain ⟨V2, V3, V4, V5, m1, m2, m3, m4, hBm, hM⟩ := map_made W12 (.pointer (some ⟨g, 0, none⟩))
  have m0 : (Instr.makeMap 100 none).run Tryz.prog W12 = .ok (.map (some W12.heap.size)) (W12.alloc (.map #[] 0)) := run_makeMap_plain _ _
  have mf : ∀ (fn : Fn) (first cap : Array Value) (w : World), (Instr.makeFunc fn first cap).run Tryz.prog w = .ok (.func fn first cap) w := fun _ _ _ _ => rfl
  go_upto_region 6 with (fail)
  clear m0 m1 m2 m3 m4 mf
  clear k1 f1 k2 f2 k3 f3 k4 f4
  replace b1 := b1.below hBm
  replace yb1 := b1.lt
  have k1 := b1.cell
  have f1 := b1.frozen
  replace b2 := b2.below hBm
  replace yb2 := b2.lt
  have k2 := b2.cell
  have f2 := b2.frozen
  replace b3 := b3.below hBm
  replace yb3 := b3.lt
  have k3 := b3.cell
  have f3 := b3.frozen
  replace b4 := b4.below hBm
  replace yb4 := b4.lt
  have k4 := b4.cell
  have f4 := b4.frozen
  replace b5 := b5.below hBm

  replace hW := hW.trans (hBm.mono (by have := hW.size; omega))
  have hz6 : W12.heap.size ≤ V5.heap.size := hBm.size
  replace hM := Lib.hid hM
  clear hBm
  have hlk := run_look Tryz.prog V5 100 3 99 _ 4 (mapE (.pointer (some ⟨g, 0, none⟩))).toArray x.kind j _ (by kernel_rfl) (by kernel_rfl) hM.out (hfn.out _)
  go_wp2_with fail
  refine (c3.out V5 g G RL hW (by omega) b4 (by omega) (hB ▸ b5)).mono ?_
  rintro e w9 ⟨rfl, hB9, hd9⟩
  have d1 : Blk w9 (w.heap.size + 1 + 1) #[.slice none 0 0] 27 := (hB9.block _ (by omega)).trans b3
  have hB8 : Below w.heap.size w w9 := hW.trans (hB9.mono (by omega))
  have hz9 := hB9.size
  clear b1 b2 b3 b4 b5 hW hM hlk k1 f1 k2 f2 k3 f3 k4 f4
  have k1 := d1.cell
  have f1 := d1.frozen
  have yd1 := d1.lt
  obtain ⟨v9, hv9, hO9⟩ := hd9 rfl
  obtain ⟨p9, c9, e9, -, -⟩ := hO9.form
  obtain rfl : v9 = .slice p9 R.length c9 := by simpa using e9
  clear e9
  clear hd9
  replace d1 := Lib.hid d1
  replace hB9 := Lib.hid hB9
  replace hB8 := Lib.hid hB8
  replace hO9 := Lib.hid hO9
  go_wp2
  have d2 := d1.out.set2 (i := 0) (v := .slice p9 R.length c9) (cs' := #[.slice p9 R.length c9]) rfl
  have d0 := d2.cell 0
  simp only [List.getElem?_toArray, List.getElem?_cons_zero] at d0
  refine bodyPost_ret (v := .tuple #[.agg #[.slice p9 R.length c9], .int .i64 0]) (by simp [results, Tryz.results17, go_sem, d0]) rfl ⟨_, rfl, hB8.out.setCell (by simp; omega) _, (hO9.out.store d1.out (by decide) (by decide)).mono (by omega)⟩
theorem callK0 : ∀ (args : Array Value) (W : World), (callFunc 47 args).run Tryz.prog W = .ok (.enter 47 args) W := fun _ _ => by kernel_rfl
theorem callK1 : ∀ (args : Array Value) (W : World), (callFunc 48 args).run Tryz.prog W = .ok (.enter 48 args) W := fun _ _ => by kernel_rfl
theorem callK2 : ∀ (args : Array Value) (W : World), (callFunc 49 args).run Tryz.prog W = .ok (.enter 49 args) W := fun _ _ => by kernel_rfl
theorem callK3 : ∀ (args : Array Value) (W : World), (callFunc 50 args).run Tryz.prog W = .ok (.enter 50 args) W := fun _ _ => by kernel_rfl
end Go.Proofs.YtdeghcgakkhbmaaGreat
namespace Go.Proofs.YtdeghcgakkhbmaaGreat
open Go.RowKit
/-- no raw series -/
def zeroR : RawT := ⟨.empty, 0, 0, 0, 0, []⟩
/-- What the layer gives for a name. -/
def getR (rows : List RawT) (nm : ByteArray) : RawT × Int :=
  if modelB rows = true then
    if foundB rows nm (posN rows nm) = true then (rows.getD (posN rows nm) zeroR, 0) else (zeroR, 372)
  else (zeroR, 380)
theorem PtRows.mono {w : World} {B B' : Nat} {l : List RawR} (h : PtRows w B l) (hB : B' ≤ B) : PtRows w B' l := ⟨fun x hx => ⟨(h.at' x hx).1.mono hB, (h.at' x hx).2⟩⟩
theorem cells3 {W : World} {g : Nat} {a b c d e f u : Value} {t : TypeId} (h : Blk W g #[a, b, c, d, e, f, u] t) : CellsP W g 0 #[a, b, c] := ⟨fun j v hv => by
  rw [h.cell, Nat.zero_add]
  rcases j with _ | _ | _ | j
  · exact hv
  · exact hv
  · exact hv
  · simp at hv⟩
end Go.Proofs.YtdeghcgakkhbmaaGreat
namespace Go.Proofs.YtdeghcgakkhbmaaGreat
open Go.RowKit
/-- why a new series is refused -/
def newE (x : MutT) : Int := if nameB x.name = true then (if btw x.eps 0 1099511627776 = true then (if btw x.scale (-40) 40 = true then 0 else 2) else 231) else 341
theorem newV_is (x : MutT) : ∃ s1 e1 l1 sc1, newV x.name x.eps x.scale = .tuple #[.agg #[.string s1, .int .i64 e1, .int .i64 0, .int .i64 l1, .int .i64 sc1, .slice none 0 0, .slice none 0 0], .int .i64 (newE x)] ∧ (newE x = 0 → s1 = x.name ∧ e1 = x.eps ∧ l1 = -1 ∧ sc1 = x.scale) := by
  unfold newV newE
  cases nameB x.name <;> cases btw x.eps 0 1099511627776 <;> cases btw x.scale (-40) 40 <;> first | exact ⟨_, _, _, _, rfl, fun h => absurd h (by decide)⟩ | exact ⟨_, _, _, _, rfl, fun _ => ⟨rfl, rfl, rfl, rfl⟩⟩
def lastP (l : List (Int × Int)) : Int := (l.getLast?.getD (0, 0)).1
def atM (rows : List RawT) (x : MutT) : RawT := rows.getD (posN rows x.name) zeroR
def isM (rows : List RawT) (x : MutT) : Bool := foundB rows x.name (posN rows x.name)
def createM (rows : List RawT) (x : MutT) : List RawT × Int :=
  if newE x ≠ 0 then ([], newE x) else if isM rows x = true then ([], 371) else if rows.length = 8 then ([], 344)
  else (rows.take (posN rows x.name) ++ ⟨x.name, x.eps, 0, -1, x.scale, []⟩ :: rows.drop (posN rows x.name), 0)
def dropM (rows : List RawT) (x : MutT) : List RawT × Int := if isM rows x = true then (rows.eraseIdx (posN rows x.name), 0) else ([], 372)
def pointsM (rows : List RawT) (x : MutT) : List RawT × Int :=
  if x.pts.length = 0 ∨ 16 < x.pts.length then ([], 2) else if isM rows x = false then ([], 372)
  else if refE (atM rows x) x.pts ≠ 0 then ([], refE (atM rows x) x.pts)
  else (rows.set (posN rows x.name) ⟨(atM rows x).name, (atM rows x).eps, (atM rows x).floor, lastP x.pts, (atM rows x).scale, (atM rows x).pts ++ x.pts⟩, 0)
def retainM (rows : List RawT) (x : MutT) : List RawT × Int :=
  if isM rows x = false then ([], 372) else if btw x.floor 0 281474976710656 = false then ([], 2) else if x.floor < (atM rows x).floor then ([], 343)
  else (rows.set (posN rows x.name) ⟨(atM rows x).name, (atM rows x).eps, x.floor, (atM rows x).last, (atM rows x).scale, keepL x.floor (atM rows x).pts⟩, 0)
/-- What a mutation makes of a model that may be. -/
def doM (rows : List RawT) (x : MutT) : List RawT × Int :=
  if x.kind = 1 then createM rows x else if x.kind = 2 then dropM rows x else if x.kind = 3 then pointsM rows x else if x.kind = 4 then retainM rows x else ([], 2)
def doR (rows : List RawT) (x : MutT) : List RawT × Int := if modelB rows = true then doM rows x else ([], 380)
theorem DoneT.bad {w : World} {B g : Nat} {er : Int} {rows : List RawT} {w' : World} (h : Below w.heap.size w w') (hB : B ≤ w.heap.size) (he : er ≠ 0) : DoneT w B g er rows w' := ⟨h.mono hB, fun e => absurd e he⟩
theorem place_at {rows : List RawT} (x : MutT) (px : Option Addr) (cx : Nat) (w : World) (hs : SortedN rows) (hmx : rows.length ≤ 100) (B g G : Nat) (RL : List RawR) (hB : B ≤ w.heap.size) (hg : Blk w g #[.slice (some ⟨G, 0, none⟩) rows.length rows.length, .int .i64 x.kind, .string x.name, .int .i64 x.eps, .int .i64 x.floor, .int .i64 x.scale, .slice px x.pts.length cx] 98) (hBg : B ≤ g) (hO : OwnG B G RL rows w) :
    Hid (∀ W, Below w.heap.size w W → Calls Tryz.prog 75 #[.pointer (some ⟨g, 0, none⟩)] W fun e w' => e = .returned (.tuple #[.int .i64 (posN rows x.name : Int), .bool (isM rows x)]) ∧ Below W.heap.size W w') := fun W hW =>
  c_mdPlace g x.kind (some ⟨G, 0, none⟩) rows.length rows x.name W (cells3 (hg.below hW)) (hO.2.2.1 ▸ raws_blk (hO.2.1.below hW) (hO.2.2.2.1.below hW).rows) hmx hs
theorem create_at {rows : List RawT} (x : MutT) (px : Option Addr) (cx : Nat) (w : World) (hs : SortedN rows) (hmx : rows.length ≤ 100) (B g G : Nat) (RL : List RawR) (hB : B ≤ w.heap.size) (hg : Blk w g #[.slice (some ⟨G, 0, none⟩) rows.length rows.length, .int .i64 x.kind, .string x.name, .int .i64 x.eps, .int .i64 x.floor, .int .i64 x.scale, .slice px x.pts.length cx] 98) (hBg : B ≤ g) (hO : OwnG B G RL rows w) (R : List RawT) (ER : Int) (hR : createM rows x = (R, ER)) : Calls Tryz.prog 47 #[.pointer (some ⟨g, 0, none⟩)] w fun e w' => e = .returned (.int .i64 ER) ∧ DoneT w B g ER R w' := by
  have c1 := place_at x px cx w hs hmx B g G RL hB hg hBg hO
  obtain ⟨s1, e1, l1, sc1, hv, h0⟩ := newV_is x
  have c0 := Lib.hid (fun W (_ : Below w.heap.size w W) => hv ▸ c_sNew x.name x.eps x.scale W)
  have hO' := hO
  obtain ⟨hBG, hb, hRL, hP, hap⟩ := hO'
  have hln : RL.length = rows.length := by rw [← hRL, List.length_map]
  unfold createM at hR
  by_cases hn : newE x ≠ 0
  · rw [if_pos hn] at hR
    cases hR
    refine (create_err g _ x px cx s1 e1 l1 sc1 _ _ _ w hg (by simpa using hn) c0 c1).mono ?_
    rintro e w' ⟨rfl, hw⟩
    exact ⟨rfl, .bad hw hB hn⟩
  rw [if_neg hn] at hR
  have hn0 : newE x = 0 := Classical.not_not.1 hn
  rw [hn0] at c0
  obtain ⟨rfl, rfl, rfl, rfl⟩ := h0 hn0
  by_cases hF : isM rows x = true
  · rw [if_pos hF] at hR
    cases hR
    rw [hF] at c1
    refine (create_is g _ x px cx _ _ _ _ _ w hg c0 c1).mono ?_
    rintro e w' ⟨rfl, hw⟩
    exact ⟨rfl, .bad hw hB (by decide)⟩
  rw [if_neg hF] at hR
  rw [Bool.not_eq_true] at hF
  rw [hF] at c1
  by_cases h8 : rows.length = 8
  · rw [if_pos h8] at hR
    cases hR
    refine (create_many g G _ x px cx _ _ _ _ _ w hg (by rw [h8]; rfl) c0 c1).mono ?_
    rintro e w' ⟨rfl, hw⟩
    exact ⟨rfl, .bad hw hB (by decide)⟩
  · rw [if_neg h8] at hR
    cases hR
    exact create_ok B g G _ _ x px cx RL rows _ _ _ _ w hg hb hP (Lib.hid hRL) (by simp; omega) hBg hB (posN_at hs).le hmx (Lib.hid hln) c0 c1
theorem isM_at {rows : List RawT} {x : MutT} (h : isM rows x = true) : rows[posN rows x.name]? = some (atM rows x) ∧ posN rows x.name < rows.length := by
  unfold isM foundB at h
  unfold atM
  cases hr : rows[posN rows x.name]? with
  | none => rw [hr] at h; cases h
  | some r => exact ⟨by rw [List.getD_eq_getElem?_getD, hr]; rfl, (List.getElem?_eq_some_iff.1 hr).1⟩
theorem drop_at {rows : List RawT} (x : MutT) (px : Option Addr) (cx : Nat) (w : World) (hs : SortedN rows) (hmx : rows.length ≤ 100) (B g G : Nat) (RL : List RawR) (hB : B ≤ w.heap.size) (hg : Blk w g #[.slice (some ⟨G, 0, none⟩) rows.length rows.length, .int .i64 x.kind, .string x.name, .int .i64 x.eps, .int .i64 x.floor, .int .i64 x.scale, .slice px x.pts.length cx] 98) (hBg : B ≤ g) (hO : OwnG B G RL rows w) (R : List RawT) (ER : Int) (hR : dropM rows x = (R, ER)) : Calls Tryz.prog 48 #[.pointer (some ⟨g, 0, none⟩)] w fun e w' => e = .returned (.int .i64 ER) ∧ DoneT w B g ER R w' := by
  have c1 := place_at x px cx w hs hmx B g G RL hB hg hBg hO
  obtain ⟨hBG, hb, hRL, hP, hap⟩ := hO
  have hln : RL.length = rows.length := by rw [← hRL, List.length_map]
  unfold dropM at hR
  by_cases hF : isM rows x = true
  · rw [if_pos hF] at hR
    cases hR
    rw [hF] at c1
    have hlt := (isM_at hF).2
    obtain ⟨m, hm⟩ : ∃ m, rows.length = m + 1 := ⟨rows.length - 1, by omega⟩
    rw [hm] at hg
    exact drop_found B g G m _ x px cx RL rows w hg hb hP (Lib.hid hRL) hBg hBG (blk_ne hg hb (by decide)) (Lib.hid (by omega)) (by omega) (by omega) c1
  · rw [if_neg hF] at hR
    cases hR
    rw [Bool.not_eq_true] at hF
    rw [hF] at c1
    refine (drop_none g _ x px cx _ w hg c1).mono ?_
    rintro e w' ⟨rfl, hw⟩
    exact ⟨rfl, .bad hw hB (by decide)⟩
theorem lastP_at {a l : List (Int × Int)} (h : l.length ≠ 0) : ∃ y, (a ++ l)[(a ++ l).length - 1]? = some (lastP l, y) := by
  have hne : l ≠ [] := fun e => h (by rw [e]; rfl)
  have h1 : l.getLast? = some (l.getLast hne) := List.getLast?_eq_some_getLast hne
  refine ⟨(l.getLast hne).2, ?_⟩
  rw [← List.getLast?_eq_getElem?, List.getLast?_append, h1]
  unfold lastP
  rw [h1]
  rfl
theorem points_at {rows : List RawT} (x : MutT) (px : Option Addr) (cx : Nat) (w : World) (hs : SortedN rows) (hmx : rows.length ≤ 100) (B g G : Nat) (RL : List RawR) (hB : B ≤ w.heap.size) (hg : Blk w g #[.slice (some ⟨G, 0, none⟩) rows.length rows.length, .int .i64 x.kind, .string x.name, .int .i64 x.eps, .int .i64 x.floor, .int .i64 x.scale, .slice px x.pts.length cx] 98) (hBg : B ≤ g) (hO : OwnG B G RL rows w) (hfw : FewP rows) (hpx : PtsIn w px x.pts) (hxm : x.pts.length ≤ 2000) (R : List RawT) (ER : Int) (hR : pointsM rows x = (R, ER)) : Calls Tryz.prog 49 #[.pointer (some ⟨g, 0, none⟩)] w fun e w' => e = .returned (.int .i64 ER) ∧ DoneT w B g ER R w' := by
  have c1 := place_at x px cx w hs hmx B g G RL hB hg hBg hO
  obtain ⟨hBG, hb, hRL, hP, hap⟩ := hO
  have hln : RL.length = rows.length := by rw [← hRL, List.length_map]
  unfold pointsM at hR
  by_cases hL : x.pts.length = 0 ∨ 16 < x.pts.length
  · rw [if_pos hL] at hR
    cases hR
    have hL' : (((x.pts.length : Int) == 0) || decide ((16 : Int) < (x.pts.length : Int))) = true := by
      rw [Bool.or_eq_true]
      exact hL.imp (fun h => beq_iff_eq.2 (by omega)) (fun h => decide_eq_true (by omega))
    refine (points_bad g _ x px cx w hg (Lib.hid hL')).mono ?_
    rintro e w' ⟨rfl, hw⟩
    exact ⟨rfl, .bad hw hB (by decide)⟩
  rw [if_neg hL] at hR
  have hL' : Hid ((((x.pts.length : Int) == 0) || decide ((16 : Int) < (x.pts.length : Int))) = false) := Lib.hid (by rw [Bool.or_eq_false_iff]; exact ⟨beq_eq_false_iff_ne.2 (by omega), decide_eq_false (by omega)⟩)
  by_cases hF : isM rows x = false
  · rw [if_pos hF] at hR
    cases hR
    rw [hF] at c1
    refine (points_none g _ x px cx _ w hg hL' c1).mono ?_
    rintro e w' ⟨rfl, hw⟩
    exact ⟨rfl, .bad hw hB (by decide)⟩
  rw [if_neg hF] at hR
  rw [Bool.not_eq_false] at hF
  rw [hF] at c1
  obtain ⟨hr, hlt⟩ := isM_at hF
  obtain ⟨⟨r9, p0, c0⟩, tx, hr9⟩ : ∃ z, RL[posN rows x.name]? = some z ∧ z.r = atM rows x := by
    have hr' : (RL.map (·.r))[posN rows x.name]? = some (atM rows x) := by rw [hRL]; exact hr
    rw [List.getElem?_map] at hr'
    exact Option.map_eq_some_iff.1 hr'
  obtain rfl : r9 = atM rows x := hr9
  obtain ⟨ad, rfl⟩ : ∃ ad, px = some ad := by
    obtain ⟨b9, o9, e9, -⟩ := hpx.at' 0 _ (List.getElem?_eq_getElem (show 0 < x.pts.length by omega))
    exact ⟨_, e9⟩
  have hfl := hfw _ _ hr
  have hc0 : CellsP w G (posN rows x.name * 6) (rawRA ⟨atM rows x, p0, c0⟩) := ⟨fun j v hv => by rw [hb.cell, List.getElem?_toArray]; exact flatRaws_get RL _ _ j v tx hv⟩
  have hPx := (hP.at' _ (List.mem_of_getElem? tx))
  have c2 := Lib.hid (fun W (hW : Below w.heap.size w W) => c_mdRefused G (posN rows x.name * 6) (atM rows x) p0 c0 (some ad) cx x.pts W (hc0.below hW) (hpx.below hW) hxm hfl)
  by_cases hE : refE (atM rows x) x.pts ≠ 0
  · rw [if_pos hE] at hR
    cases hR
    refine (points_ref g G _ _ x ad cx _ w hg hlt hmx (by simpa using hE) hL' c1 c2).mono ?_
    rintro e w' ⟨rfl, hw⟩
    exact ⟨rfl, .bad hw hB hE⟩
  · rw [if_neg hE] at hR
    cases hR
    rw [Classical.not_not.1 hE] at c2
    obtain ⟨y9, hy9⟩ := lastP_at (a := (atM rows x).pts) (l := x.pts) (by omega)
    exact points_ok B g G _ _ x ad cx RL rows (atM rows x) p0 c0 _ y9 w hg hb hP hap (Lib.hid hRL) tx hpx hBg hBG (blk_ne hg hb (by decide)) hB hlt hmx (Lib.hid hln) (by omega) (by omega) hfl (Lib.hid hy9) hL' c1 c2
theorem retain_at {rows : List RawT} (x : MutT) (px : Option Addr) (cx : Nat) (w : World) (hs : SortedN rows) (hmx : rows.length ≤ 100) (B g G : Nat) (RL : List RawR) (hB : B ≤ w.heap.size) (hg : Blk w g #[.slice (some ⟨G, 0, none⟩) rows.length rows.length, .int .i64 x.kind, .string x.name, .int .i64 x.eps, .int .i64 x.floor, .int .i64 x.scale, .slice px x.pts.length cx] 98) (hBg : B ≤ g) (hO : OwnG B G RL rows w) (hfw : FewP rows) (R : List RawT) (ER : Int) (hR : retainM rows x = (R, ER)) : Calls Tryz.prog 50 #[.pointer (some ⟨g, 0, none⟩)] w fun e w' => e = .returned (.int .i64 ER) ∧ DoneT w B g ER R w' := by
  have c1 := place_at x px cx w hs hmx B g G RL hB hg hBg hO
  obtain ⟨hBG, hb, hRL, hP, hap⟩ := hO
  have hln : RL.length = rows.length := by rw [← hRL, List.length_map]
  unfold retainM at hR
  by_cases hF : isM rows x = false
  · rw [if_pos hF] at hR
    cases hR
    rw [hF] at c1
    refine (retain_none g _ x px cx _ w hg c1).mono ?_
    rintro e w' ⟨rfl, hw⟩
    exact ⟨rfl, .bad hw hB (by decide)⟩
  rw [if_neg hF] at hR
  rw [Bool.not_eq_false] at hF
  rw [hF] at c1
  obtain ⟨hr, hlt⟩ := isM_at hF
  obtain ⟨⟨r9, p0, c0⟩, tx, hr9⟩ : ∃ z, RL[posN rows x.name]? = some z ∧ z.r = atM rows x := by
    have hr' : (RL.map (·.r))[posN rows x.name]? = some (atM rows x) := by rw [hRL]; exact hr
    rw [List.getElem?_map] at hr'
    exact Option.map_eq_some_iff.1 hr'
  obtain rfl : r9 = atM rows x := hr9
  have hfl := hfw _ _ hr
  have hc0 : CellsP w G (posN rows x.name * 6) (rawRA ⟨atM rows x, p0, c0⟩) := ⟨fun j v hv => by rw [hb.cell, List.getElem?_toArray]; exact flatRaws_get RL _ _ j v tx hv⟩
  have c2 := Lib.hid (fun W => c_mdBtw x.floor 0 281474976710656 W)
  by_cases hT : btw x.floor 0 281474976710656 = false
  · rw [if_pos hT] at hR
    cases hR
    rw [hT] at c2
    refine (retain_bad g G _ _ x px cx RL (atM rows x) p0 c0 w hg hb hc0 hlt hmx c1 c2).mono ?_
    rintro e w' ⟨rfl, hw⟩
    exact ⟨rfl, .bad hw hB (by decide)⟩
  rw [if_neg hT] at hR
  rw [Bool.not_eq_false] at hT
  rw [hT] at c2
  by_cases hlb : x.floor < (atM rows x).floor
  · rw [if_pos hlb] at hR
    cases hR
    refine (retain_below g G _ _ x px cx RL (atM rows x) p0 c0 w hg hb hc0 hlt hmx hlb c1 c2).mono ?_
    rintro e w' ⟨rfl, hw⟩
    exact ⟨rfl, .bad hw hB (by decide)⟩
  · rw [if_neg hlb] at hR
    cases hR
    exact retain_ok B g G _ _ x px cx RL rows (atM rows x) p0 c0 w hg hb hP hap (Lib.hid hRL) tx hBg hBG (blk_ne hg hb (by decide)) hB hlt hmx (Lib.hid hln) (by omega) hlb c1 c2
theorem OwnM.nil (B : Nat) (w : World) : OwnM B [] (.agg #[.slice none 0 0]) w := ⟨none, 0, [], rfl, OwnR.nil _ _ _ _, ⟨fun x hx => by cases hx⟩, rfl⟩
theorem createM_nil {rows R : List RawT} {x : MutT} {ER : Int} (h : createM rows x = (R, ER)) (he : ER ≠ 0) : R = [] := by
  unfold createM at h
  repeat' split at h
  all_goals (injection h with h1 h2; first | exact h1.symm | exact absurd h2.symm he)
theorem dropM_nil {rows R : List RawT} {x : MutT} {ER : Int} (h : dropM rows x = (R, ER)) (he : ER ≠ 0) : R = [] := by
  unfold dropM at h
  repeat' split at h
  all_goals (injection h with h1 h2; first | exact h1.symm | exact absurd h2.symm he)
theorem pointsM_nil {rows R : List RawT} {x : MutT} {ER : Int} (h : pointsM rows x = (R, ER)) (he : ER ≠ 0) : R = [] := by
  unfold pointsM at h
  repeat' split at h
  all_goals (injection h with h1 h2; first | exact h1.symm | exact absurd h2.symm he)
theorem retainM_nil {rows R : List RawT} {x : MutT} {ER : Int} (h : retainM rows x = (R, ER)) (he : ER ≠ 0) : R = [] := by
  unfold retainM at h
  repeat' split at h
  all_goals (injection h with h1 h2; first | exact h1.symm | exact absurd h2.symm he)
theorem find_none {k : Int} (h1 : ¬k = 1) (h2 : ¬k = 2) (h3 : ¬k = 3) (h4 : ¬k = 4) (pt : Value) : Instr.findNow (.int .i64) (.int .i64 k) (mapE pt) 0 = some none := by
  have e1 : (k == 1) = false := beq_eq_false_iff_ne.2 h1
  have e2 : (k == 2) = false := beq_eq_false_iff_ne.2 h2
  have e3 : (k == 3) = false := beq_eq_false_iff_ne.2 h3
  have e4 : (k == 4) = false := beq_eq_false_iff_ne.2 h4
  simp only [mapE, ent, Instr.findNow, Instr.sameNow, if_true, e1, e2, e3, e4]
theorem c_mdDo (p : Option Addr) (cap : Nat) (rows : List RawT) (x : MutT) (px : Option Addr) (cx : Nat) (w : World) (h : RawsIn w p rows) (hfw : FewP rows) (hmx : rows.length ≤ 100) (hcap : p = none → cap = 0) (hpx : PtsIn w px x.pts) (hxm : x.pts.length ≤ 2000) :
    Calls Tryz.prog 17 #[.agg #[.slice p rows.length cap], .agg #[.int .i64 x.kind, .string x.name, .int .i64 x.eps, .int .i64 x.floor, .int .i64 x.scale, .slice px x.pts.length cx]] w fun e w' => ∃ v, e = .returned (.tuple #[.agg #[v], .int .i64 (doR rows x).2]) ∧ Below w.heap.size w w' ∧ OwnM w.heap.size (doR rows x).1 (.agg #[v]) w' := by
  have c1 := Lib.hid (fun W (hW : Below w.heap.size w W) => c_mdCheck p cap rows W (h.below hW) hfw hmx)
  have c2 := Lib.hid (fun W (hW : Below w.heap.size w W) => mdOwnO_w p cap rows W (h.below hW) hfw hmx hcap)
  unfold doR
  cases hb : modelB rows with
  | false =>
    rw [hb, if_neg (by decide)] at c1
    refine (do_bad p cap rows x px cx w c1).mono ?_
    rintro e w' ⟨rfl, hB⟩
    exact ⟨_, rfl, hB, OwnM.nil _ _⟩
  | true =>
  rw [hb, if_pos rfl] at c1
  have hs : SortedN rows := okN_sorted (by unfold modelB at hb; exact (Bool.and_eq_true _ _ ▸ hb).1)
  rw [if_pos rfl]
  by_cases h1 : x.kind = 1
  · have hk1 : x.kind = 1 := h1
    have hfn := Lib.hid (fun pt => show Instr.findNow (.int .i64) (.int .i64 x.kind) (mapE pt) 0 = some (some (0, .func (.func 47) #[pt] #[])) by rw [hk1]; rfl)
    have hd : doM rows x = createM rows x := by unfold doM; rw [if_pos h1]
    rw [hd]
    obtain ⟨⟨R, ER⟩, hR⟩ : ∃ q, createM rows x = q := ⟨_, rfl⟩
    rw [hR]
    have c3 := Lib.hid (fun W g G RL (hW : Below w.heap.size w W) hz hg hBg hO => create_at x px cx W hs hmx (w.heap.size + 3) g G RL hz hg hBg hO R ER hR)
    by_cases hE : ER = 0
    · subst hE
      refine (do_ok p cap rows x px cx w 0 rfl R c1 c2 0 _ callK0 hfn c3).mono ?_
      rintro e w' ⟨v, rfl, hB, hO⟩
      exact ⟨v, rfl, hB, hO⟩
    · have hR0 : R = [] := createM_nil hR hE
      refine (do_err p cap rows x px cx w ER (by simpa using hE) R c1 c2 0 _ callK0 hfn c3).mono ?_
      rintro e w' ⟨rfl, hB⟩
      exact ⟨_, rfl, hB, hR0 ▸ OwnM.nil _ _⟩
  by_cases h2 : x.kind = 2
  · have hk2 : x.kind = 2 := h2
    have hfn := Lib.hid (fun pt => show Instr.findNow (.int .i64) (.int .i64 x.kind) (mapE pt) 0 = some (some (1, .func (.func 48) #[pt] #[])) by rw [hk2]; rfl)
    have hd : doM rows x = dropM rows x := by unfold doM; rw [if_neg h1]; rw [if_pos h2]
    rw [hd]
    obtain ⟨⟨R, ER⟩, hR⟩ : ∃ q, dropM rows x = q := ⟨_, rfl⟩
    rw [hR]
    have c3 := Lib.hid (fun W g G RL (hW : Below w.heap.size w W) hz hg hBg hO => drop_at x px cx W hs hmx (w.heap.size + 3) g G RL hz hg hBg hO R ER hR)
    by_cases hE : ER = 0
    · subst hE
      refine (do_ok p cap rows x px cx w 0 rfl R c1 c2 1 _ callK1 hfn c3).mono ?_
      rintro e w' ⟨v, rfl, hB, hO⟩
      exact ⟨v, rfl, hB, hO⟩
    · have hR0 : R = [] := dropM_nil hR hE
      refine (do_err p cap rows x px cx w ER (by simpa using hE) R c1 c2 1 _ callK1 hfn c3).mono ?_
      rintro e w' ⟨rfl, hB⟩
      exact ⟨_, rfl, hB, hR0 ▸ OwnM.nil _ _⟩
  by_cases h3 : x.kind = 3
  · have hk3 : x.kind = 3 := h3
    have hfn := Lib.hid (fun pt => show Instr.findNow (.int .i64) (.int .i64 x.kind) (mapE pt) 0 = some (some (2, .func (.func 49) #[pt] #[])) by rw [hk3]; rfl)
    have hd : doM rows x = pointsM rows x := by unfold doM; rw [if_neg h1]; rw [if_neg h2]; rw [if_pos h3]
    rw [hd]
    obtain ⟨⟨R, ER⟩, hR⟩ : ∃ q, pointsM rows x = q := ⟨_, rfl⟩
    rw [hR]
    have c3 := Lib.hid (fun W g G RL (hW : Below w.heap.size w W) hz hg hBg hO => points_at x px cx W hs hmx (w.heap.size + 3) g G RL hz hg hBg hO hfw (hpx.below hW) hxm R ER hR)
    by_cases hE : ER = 0
    · subst hE
      refine (do_ok p cap rows x px cx w 0 rfl R c1 c2 2 _ callK2 hfn c3).mono ?_
      rintro e w' ⟨v, rfl, hB, hO⟩
      exact ⟨v, rfl, hB, hO⟩
    · have hR0 : R = [] := pointsM_nil hR hE
      refine (do_err p cap rows x px cx w ER (by simpa using hE) R c1 c2 2 _ callK2 hfn c3).mono ?_
      rintro e w' ⟨rfl, hB⟩
      exact ⟨_, rfl, hB, hR0 ▸ OwnM.nil _ _⟩
  by_cases h4 : x.kind = 4
  · have hk4 : x.kind = 4 := h4
    have hfn := Lib.hid (fun pt => show Instr.findNow (.int .i64) (.int .i64 x.kind) (mapE pt) 0 = some (some (3, .func (.func 50) #[pt] #[])) by rw [hk4]; rfl)
    have hd : doM rows x = retainM rows x := by unfold doM; rw [if_neg h1]; rw [if_neg h2]; rw [if_neg h3]; rw [if_pos h4]
    rw [hd]
    obtain ⟨⟨R, ER⟩, hR⟩ : ∃ q, retainM rows x = q := ⟨_, rfl⟩
    rw [hR]
    have c3 := Lib.hid (fun W g G RL (hW : Below w.heap.size w W) hz hg hBg hO => retain_at x px cx W hs hmx (w.heap.size + 3) g G RL hz hg hBg hO hfw R ER hR)
    by_cases hE : ER = 0
    · subst hE
      refine (do_ok p cap rows x px cx w 0 rfl R c1 c2 3 _ callK3 hfn c3).mono ?_
      rintro e w' ⟨v, rfl, hB, hO⟩
      exact ⟨v, rfl, hB, hO⟩
    · have hR0 : R = [] := retainM_nil hR hE
      refine (do_err p cap rows x px cx w ER (by simpa using hE) R c1 c2 3 _ callK3 hfn c3).mono ?_
      rintro e w' ⟨rfl, hB⟩
      exact ⟨_, rfl, hB, hR0 ▸ OwnM.nil _ _⟩
  have hd : doM rows x = ([], 2) := by unfold doM; rw [if_neg h1, if_neg h2, if_neg h3, if_neg h4]
  rw [hd]
  refine (do_none p cap rows x px cx w c1 c2 (Lib.hid (find_none h1 h2 h3 h4))).mono ?_
  rintro e w' ⟨rfl, hB⟩
  exact ⟨_, rfl, hB, OwnM.nil _ _⟩
end Go.Proofs.YtdeghcgakkhbmaaGreat
namespace Go.Proofs.YtdeghcgakkhbmaaGreat
open Go.RowKit
/-- Raw series that can be read stand, whatever is written into a block that has slices alone. -/
theorem RawsIn.store {w : World} {p : Option Addr} {rows : List RawT} {o j : Nat} {a : Option Addr} {n c : Nat} {t : TypeId} {u : Value} (h : RawsIn w p rows) (hb : Blk w o #[.slice a n c] t) : RawsIn (w.setCell ⟨o, j, none⟩ u) p rows := by
  have hs : ∀ b k v, w.cell? ⟨b, k, none⟩ = some v → (∀ a n c, v ≠ .slice a n c) → (w.setCell ⟨o, j, none⟩ u).cell? ⟨b, k, none⟩ = some v := fun b k v hv hne => by
    have hbo : b ≠ o := by
      rintro rfl
      rw [hb.cell] at hv
      rcases k with _ | k
      · simp at hv
        exact hne _ _ _ hv.symm
      · simp at hv
    exact (World.cell?_of_block (Below.heap_setCell _ _ _ _ (by exact hbo))).trans hv
  refine ⟨fun i r hr => ?_⟩
  obtain ⟨b, o', p', c', e, hc, hp, hq⟩ := h.at' i r hr
  refine ⟨b, o', p', c', e, fun k v hv => ?_, ⟨fun m x hx => ?_⟩, hq⟩
  · have h0 := hs b (o' + i * 6 + 0) _ (hc 0 _ rfl) (fun _ _ _ e => by cases e)
    have hbo : b ≠ o := by
      rintro rfl
      have h1 := hc 0 _ rfl
      rw [hb.cell, Nat.add_zero] at h1
      rcases hz : o' + i * 6 with _ | m
      · rw [hz] at h1
        have h2 : Value.slice a n c = .string r.name := Option.some.inj h1
        cases h2
      · rw [hz] at h1; simp at h1
    exact (World.cell?_of_block (Below.heap_setCell _ _ _ _ (by exact hbo))).trans (hc k v hv)
  · obtain ⟨b2, o2, e2, h1, h2⟩ := hp.at' m x hx
    exact ⟨b2, o2, e2, hs _ _ _ h1 (fun _ _ _ e => by cases e), hs _ _ _ h2 (fun _ _ _ e => by cases e)⟩
set_option maxRecDepth 100000 in
set_option maxHeartbeats 2000000 in
theorem rcreate_err (p : Option Addr) (cap : Nat) (rows : List RawT) (x : MutT) (px : Option Addr) (cx : Nat) (w : World) (s1 : ByteArray) (e1 l1 sc1 ER : Int) (her : (ER != 0) = true)
    (c0 : Hid (∀ W, Below w.heap.size w W → Calls Tryz.prog 102 #[.string x.name, .int .i64 x.eps, .int .i64 x.scale] W fun e w' => e = .returned (.tuple #[.agg #[.string s1, .int .i64 e1, .int .i64 0, .int .i64 l1, .int .i64 sc1, .slice none 0 0, .slice none 0 0], .int .i64 ER]) ∧ Below W.heap.size W w')) :
    Calls Tryz.prog 51 #[.agg #[.slice p rows.length cap], .agg #[.int .i64 x.kind, .string x.name, .int .i64 x.eps, .int .i64 x.floor, .int .i64 x.scale, .slice px x.pts.length cx]] w fun e w' => e = .returned (.tuple #[.agg #[.slice none 0 0], .int .i64 ER]) ∧ Below w.heap.size w w' := by
  go_enter Tryz.func51, Tryz.ntmps51
  go_upto_region 1 with (fail)
  refine wp_cutB w (Bc w.heap.size #[.slice p rows.length cap] 27 <| Bc (w.heap.size + 1) #[.int .i64 x.kind, .string x.name, .int .i64 x.eps, .int .i64 x.floor, .int .i64 x.scale, .slice px x.pts.length cx] 52 <| Bc (w.heap.size + 1 + 1) #[.slice none 0 0] 27 <| Bz) ?_
  rintro W1 hW z2 ⟨⟨b1, yb1, k1, f1⟩, ⟨b2, yb2, k2, f2⟩, ⟨b3, yb3, k3, f3⟩, -⟩
  go_wp2_with fail
  refine (c0.out _ hW).mono ?_
  rintro e w3 ⟨rfl, hb3⟩
  have z4 := hb3.size
  try simp at z4
  clear k1 f1 k2 f2 k3 f3
  refine haveB w w3 (Bc w.heap.size #[.slice p rows.length cap] 27 <| Bc (w.heap.size + 1) #[.int .i64 x.kind, .string x.name, .int .i64 x.eps, .int .i64 x.floor, .int .i64 x.scale, .slice px x.pts.length cx] 52 <| Bc (w.heap.size + 1 + 1) #[.slice none 0 0] 27 <| Bz) ?_
  clear b1 b2 b3 hW
  rintro hW z5 ⟨⟨b1, yb1, k1, f1⟩, ⟨b2, yb2, k2, f2⟩, ⟨b3, yb3, k3, f3⟩, -⟩
  clear hb3
  go_upto_region 2 with (fail)
  clear k1 f1 k2 f2 k3 f3
  refine wp_cutB w (Bc w.heap.size #[.slice p rows.length cap] 27 <| Bc (w.heap.size + 1) #[.int .i64 x.kind, .string x.name, .int .i64 x.eps, .int .i64 x.floor, .int .i64 x.scale, .slice px x.pts.length cx] 52 <| Bc (w.heap.size + 1 + 1) #[.slice none 0 0] 27 <| Bc w3.heap.size #[.string s1, .int .i64 e1, .int .i64 0, .int .i64 l1, .int .i64 sc1, .slice none 0 0, .slice none 0 0] 79 <| Bz) ?_
  clear b1 b2 b3 hW
  rintro W6 hW z7 ⟨⟨b1, yb1, k1, f1⟩, ⟨b2, yb2, k2, f2⟩, ⟨b3, yb3, k3, f3⟩, ⟨b4, yb4, k4, f4⟩, -⟩
  go_wp2
  have d2 := b3.set2 (i := 0) (v := .slice none 0 0) (cs' := #[.slice none 0 0]) rfl
  have d0 := d2.cell 0
  simp only [List.getElem?_toArray, List.getElem?_cons_zero] at d0
  refine bodyPost_ret (v := .tuple #[.agg #[.slice none 0 0], .int .i64 (ER)]) (by simp [results, Tryz.results51, go_sem, d0]) rfl ⟨rfl, hW.setCell (by simp; omega) _⟩
set_option maxRecDepth 100000 in
set_option maxHeartbeats 2000000 in
theorem rcreate_is (p : Option Addr) (cap : Nat) (rows : List RawT) (x : MutT) (px : Option Addr) (cx : Nat) (w : World) (s1 : ByteArray) (e1 l1 sc1 ER at9 : Int) (her : ER = 0) (hat : 0 ≤ at9)
    (c0 : Hid (∀ W, Below w.heap.size w W → Calls Tryz.prog 102 #[.string x.name, .int .i64 x.eps, .int .i64 x.scale] W fun e w' => e = .returned (.tuple #[.agg #[.string s1, .int .i64 e1, .int .i64 0, .int .i64 l1, .int .i64 sc1, .slice none 0 0, .slice none 0 0], .int .i64 ER]) ∧ Below W.heap.size W w'))
    (c1 : Hid (∀ W, Below w.heap.size w W → Calls Tryz.prog 34 #[.agg #[.slice p rows.length cap], .string x.name] W fun e w' => e = .returned (.int .i64 at9) ∧ Below W.heap.size W w')) :
    Calls Tryz.prog 51 #[.agg #[.slice p rows.length cap], .agg #[.int .i64 x.kind, .string x.name, .int .i64 x.eps, .int .i64 x.floor, .int .i64 x.scale, .slice px x.pts.length cx]] w fun e w' => e = .returned (.tuple #[.agg #[.slice none 0 0], .int .i64 371]) ∧ Below w.heap.size w w' := by
  subst her
  go_enter Tryz.func51, Tryz.ntmps51
  go_upto_region 1 with (fail)
  refine wp_cutB w (Bc w.heap.size #[.slice p rows.length cap] 27 <| Bc (w.heap.size + 1) #[.int .i64 x.kind, .string x.name, .int .i64 x.eps, .int .i64 x.floor, .int .i64 x.scale, .slice px x.pts.length cx] 52 <| Bc (w.heap.size + 1 + 1) #[.slice none 0 0] 27 <| Bz) ?_
  rintro W1 hW z2 ⟨⟨b1, yb1, k1, f1⟩, ⟨b2, yb2, k2, f2⟩, ⟨b3, yb3, k3, f3⟩, -⟩
  go_wp2_with fail
  refine (c0.out _ hW).mono ?_
  rintro e w3 ⟨rfl, hb3⟩
  have z4 := hb3.size
  try simp at z4
  clear k1 f1 k2 f2 k3 f3
  refine haveB w w3 (Bc w.heap.size #[.slice p rows.length cap] 27 <| Bc (w.heap.size + 1) #[.int .i64 x.kind, .string x.name, .int .i64 x.eps, .int .i64 x.floor, .int .i64 x.scale, .slice px x.pts.length cx] 52 <| Bc (w.heap.size + 1 + 1) #[.slice none 0 0] 27 <| Bz) ?_
  clear b1 b2 b3 hW
  rintro hW z5 ⟨⟨b1, yb1, k1, f1⟩, ⟨b2, yb2, k2, f2⟩, ⟨b3, yb3, k3, f3⟩, -⟩
  clear hb3
  go_upto_region 2 with (fail)
  clear k1 f1 k2 f2 k3 f3
  refine wp_cutB w (Bc w.heap.size #[.slice p rows.length cap] 27 <| Bc (w.heap.size + 1) #[.int .i64 x.kind, .string x.name, .int .i64 x.eps, .int .i64 x.floor, .int .i64 x.scale, .slice px x.pts.length cx] 52 <| Bc (w.heap.size + 1 + 1) #[.slice none 0 0] 27 <| Bc w3.heap.size #[.string s1, .int .i64 e1, .int .i64 0, .int .i64 l1, .int .i64 sc1, .slice none 0 0, .slice none 0 0] 79 <| Bz) ?_
  clear b1 b2 b3 hW
  rintro W6 hW z7 ⟨⟨b1, yb1, k1, f1⟩, ⟨b2, yb2, k2, f2⟩, ⟨b3, yb3, k3, f3⟩, ⟨b4, yb4, k4, f4⟩, -⟩
  go_wp2_with fail
  refine (c1.out _ hW).mono ?_
  rintro e w8 ⟨rfl, hb8⟩
  have z9 := hb8.size
  try simp at z9
  clear k1 f1 k2 f2 k3 f3 k4 f4
  refine haveB w w8 (Bc w.heap.size #[.slice p rows.length cap] 27 <| Bc (w.heap.size + 1) #[.int .i64 x.kind, .string x.name, .int .i64 x.eps, .int .i64 x.floor, .int .i64 x.scale, .slice px x.pts.length cx] 52 <| Bc (w.heap.size + 1 + 1) #[.slice none 0 0] 27 <| Bc w3.heap.size #[.string s1, .int .i64 e1, .int .i64 0, .int .i64 l1, .int .i64 sc1, .slice none 0 0, .slice none 0 0] 79 <| Bz) ?_
  clear b1 b2 b3 b4 hW
  rintro hW z10 ⟨⟨b1, yb1, k1, f1⟩, ⟨b2, yb2, k2, f2⟩, ⟨b3, yb3, k3, f3⟩, ⟨b4, yb4, k4, f4⟩, -⟩
  clear hb8
  go_wp2
  have d2 := b3.set2 (i := 0) (v := .slice none 0 0) (cs' := #[.slice none 0 0]) rfl
  have d0 := d2.cell 0
  simp only [List.getElem?_toArray, List.getElem?_cons_zero] at d0
  refine bodyPost_ret (v := .tuple #[.agg #[.slice none 0 0], .int .i64 (371)]) (by simp [results, Tryz.results51, go_sem, d0]) rfl ⟨rfl, hW.setCell (by simp; omega) _⟩
set_option maxRecDepth 100000 in
set_option maxHeartbeats 2000000 in
theorem rcreate_many (p : Option Addr) (cap : Nat) (rows : List RawT) (x : MutT) (px : Option Addr) (cx : Nat) (w : World) (s1 : ByteArray) (e1 l1 sc1 ER at9 : Int) (her : ER = 0) (hat : ¬0 ≤ at9) (h8 : ((rows.length : Int) == 8) = true)
    (c0 : Hid (∀ W, Below w.heap.size w W → Calls Tryz.prog 102 #[.string x.name, .int .i64 x.eps, .int .i64 x.scale] W fun e w' => e = .returned (.tuple #[.agg #[.string s1, .int .i64 e1, .int .i64 0, .int .i64 l1, .int .i64 sc1, .slice none 0 0, .slice none 0 0], .int .i64 ER]) ∧ Below W.heap.size W w'))
    (c1 : Hid (∀ W, Below w.heap.size w W → Calls Tryz.prog 34 #[.agg #[.slice p rows.length cap], .string x.name] W fun e w' => e = .returned (.int .i64 at9) ∧ Below W.heap.size W w')) :
    Calls Tryz.prog 51 #[.agg #[.slice p rows.length cap], .agg #[.int .i64 x.kind, .string x.name, .int .i64 x.eps, .int .i64 x.floor, .int .i64 x.scale, .slice px x.pts.length cx]] w fun e w' => e = .returned (.tuple #[.agg #[.slice none 0 0], .int .i64 344]) ∧ Below w.heap.size w w' := by
  subst her
  go_enter Tryz.func51, Tryz.ntmps51
  go_upto_region 1 with (fail)
  refine wp_cutB w (Bc w.heap.size #[.slice p rows.length cap] 27 <| Bc (w.heap.size + 1) #[.int .i64 x.kind, .string x.name, .int .i64 x.eps, .int .i64 x.floor, .int .i64 x.scale, .slice px x.pts.length cx] 52 <| Bc (w.heap.size + 1 + 1) #[.slice none 0 0] 27 <| Bz) ?_
  rintro W1 hW z2 ⟨⟨b1, yb1, k1, f1⟩, ⟨b2, yb2, k2, f2⟩, ⟨b3, yb3, k3, f3⟩, -⟩
  go_wp2_with fail
  refine (c0.out _ hW).mono ?_
  rintro e w3 ⟨rfl, hb3⟩
  have z4 := hb3.size
  try simp at z4
  clear k1 f1 k2 f2 k3 f3
  refine haveB w w3 (Bc w.heap.size #[.slice p rows.length cap] 27 <| Bc (w.heap.size + 1) #[.int .i64 x.kind, .string x.name, .int .i64 x.eps, .int .i64 x.floor, .int .i64 x.scale, .slice px x.pts.length cx] 52 <| Bc (w.heap.size + 1 + 1) #[.slice none 0 0] 27 <| Bz) ?_
  clear b1 b2 b3 hW
  rintro hW z5 ⟨⟨b1, yb1, k1, f1⟩, ⟨b2, yb2, k2, f2⟩, ⟨b3, yb3, k3, f3⟩, -⟩
  clear hb3
  go_upto_region 2 with (fail)
  clear k1 f1 k2 f2 k3 f3
  refine wp_cutB w (Bc w.heap.size #[.slice p rows.length cap] 27 <| Bc (w.heap.size + 1) #[.int .i64 x.kind, .string x.name, .int .i64 x.eps, .int .i64 x.floor, .int .i64 x.scale, .slice px x.pts.length cx] 52 <| Bc (w.heap.size + 1 + 1) #[.slice none 0 0] 27 <| Bc w3.heap.size #[.string s1, .int .i64 e1, .int .i64 0, .int .i64 l1, .int .i64 sc1, .slice none 0 0, .slice none 0 0] 79 <| Bz) ?_
  clear b1 b2 b3 hW
  rintro W6 hW z7 ⟨⟨b1, yb1, k1, f1⟩, ⟨b2, yb2, k2, f2⟩, ⟨b3, yb3, k3, f3⟩, ⟨b4, yb4, k4, f4⟩, -⟩
  go_wp2_with fail
  refine (c1.out _ hW).mono ?_
  rintro e w8 ⟨rfl, hb8⟩
  have z9 := hb8.size
  try simp at z9
  clear k1 f1 k2 f2 k3 f3 k4 f4
  refine haveB w w8 (Bc w.heap.size #[.slice p rows.length cap] 27 <| Bc (w.heap.size + 1) #[.int .i64 x.kind, .string x.name, .int .i64 x.eps, .int .i64 x.floor, .int .i64 x.scale, .slice px x.pts.length cx] 52 <| Bc (w.heap.size + 1 + 1) #[.slice none 0 0] 27 <| Bc w3.heap.size #[.string s1, .int .i64 e1, .int .i64 0, .int .i64 l1, .int .i64 sc1, .slice none 0 0, .slice none 0 0] 79 <| Bz) ?_
  clear b1 b2 b3 b4 hW
  rintro hW z10 ⟨⟨b1, yb1, k1, f1⟩, ⟨b2, yb2, k2, f2⟩, ⟨b3, yb3, k3, f3⟩, ⟨b4, yb4, k4, f4⟩, -⟩
  clear hb8
  go_wp2
  have d2 := b3.set2 (i := 0) (v := .slice none 0 0) (cs' := #[.slice none 0 0]) rfl
  have d0 := d2.cell 0
  simp only [List.getElem?_toArray, List.getElem?_cons_zero] at d0
  refine bodyPost_ret (v := .tuple #[.agg #[.slice none 0 0], .int .i64 (344)]) (by simp [results, Tryz.results51, go_sem, d0]) rfl ⟨rfl, hW.setCell (by simp; omega) _⟩
set_option maxRecDepth 100000 in
set_option maxHeartbeats 2000000 in
theorem rcreate_ok (p : Option Addr) (cap : Nat) (rows : List RawT) (x : MutT) (px : Option Addr) (cx : Nat) (w : World) (s1 : ByteArray) (e1 l1 sc1 ER at9 : Int) (R : List RawT) (her : ER = 0) (hat : ¬0 ≤ at9) (h8 : ((rows.length : Int) == 8) = false)
    (c0 : Hid (∀ W, Below w.heap.size w W → Calls Tryz.prog 102 #[.string x.name, .int .i64 x.eps, .int .i64 x.scale] W fun e w' => e = .returned (.tuple #[.agg #[.string s1, .int .i64 e1, .int .i64 0, .int .i64 l1, .int .i64 sc1, .slice none 0 0, .slice none 0 0], .int .i64 ER]) ∧ Below W.heap.size W w'))
    (c1 : Hid (∀ W, Below w.heap.size w W → Calls Tryz.prog 34 #[.agg #[.slice p rows.length cap], .string x.name] W fun e w' => e = .returned (.int .i64 at9) ∧ Below W.heap.size W w'))
    (c2 : Hid (∀ W, Below w.heap.size w W → Calls Tryz.prog 54 #[.agg #[.slice p rows.length cap], .agg #[.string s1, .int .i64 e1, .int .i64 0, .int .i64 (-1), .int .i64 sc1, .slice none 0 0]] W fun e w' => ∃ p' c', e = .returned (.agg #[.slice p' R.length c']) ∧ Below W.heap.size W w' ∧ RawsIn w' p' R)) :
    Calls Tryz.prog 51 #[.agg #[.slice p rows.length cap], .agg #[.int .i64 x.kind, .string x.name, .int .i64 x.eps, .int .i64 x.floor, .int .i64 x.scale, .slice px x.pts.length cx]] w fun e w' => ∃ p' c', e = .returned (.tuple #[.agg #[.slice p' R.length c'], .int .i64 0]) ∧ Below w.heap.size w w' ∧ RawsIn w' p' R := by
  subst her
  go_enter Tryz.func51, Tryz.ntmps51
  go_upto_region 1 with (fail)
  refine wp_cutB w (Bc w.heap.size #[.slice p rows.length cap] 27 <| Bc (w.heap.size + 1) #[.int .i64 x.kind, .string x.name, .int .i64 x.eps, .int .i64 x.floor, .int .i64 x.scale, .slice px x.pts.length cx] 52 <| Bc (w.heap.size + 1 + 1) #[.slice none 0 0] 27 <| Bz) ?_
  rintro W1 hW z2 ⟨⟨b1, yb1, k1, f1⟩, ⟨b2, yb2, k2, f2⟩, ⟨b3, yb3, k3, f3⟩, -⟩
  go_wp2_with fail
  refine (c0.out _ hW).mono ?_
  rintro e w3 ⟨rfl, hb3⟩
  have z4 := hb3.size
  try simp at z4
  clear k1 f1 k2 f2 k3 f3
  refine haveB w w3 (Bc w.heap.size #[.slice p rows.length cap] 27 <| Bc (w.heap.size + 1) #[.int .i64 x.kind, .string x.name, .int .i64 x.eps, .int .i64 x.floor, .int .i64 x.scale, .slice px x.pts.length cx] 52 <| Bc (w.heap.size + 1 + 1) #[.slice none 0 0] 27 <| Bz) ?_
  clear b1 b2 b3 hW
  rintro hW z5 ⟨⟨b1, yb1, k1, f1⟩, ⟨b2, yb2, k2, f2⟩, ⟨b3, yb3, k3, f3⟩, -⟩
  clear hb3
  go_upto_region 2 with (fail)
  clear k1 f1 k2 f2 k3 f3
  refine wp_cutB w (Bc w.heap.size #[.slice p rows.length cap] 27 <| Bc (w.heap.size + 1) #[.int .i64 x.kind, .string x.name, .int .i64 x.eps, .int .i64 x.floor, .int .i64 x.scale, .slice px x.pts.length cx] 52 <| Bc (w.heap.size + 1 + 1) #[.slice none 0 0] 27 <| Bc w3.heap.size #[.string s1, .int .i64 e1, .int .i64 0, .int .i64 l1, .int .i64 sc1, .slice none 0 0, .slice none 0 0] 79 <| Bz) ?_
  clear b1 b2 b3 hW
  rintro W6 hW z7 ⟨⟨b1, yb1, k1, f1⟩, ⟨b2, yb2, k2, f2⟩, ⟨b3, yb3, k3, f3⟩, ⟨b4, yb4, k4, f4⟩, -⟩
  go_wp2_with fail
  refine (c1.out _ hW).mono ?_
  rintro e w8 ⟨rfl, hb8⟩
  have z9 := hb8.size
  try simp at z9
  clear k1 f1 k2 f2 k3 f3 k4 f4
  refine haveB w w8 (Bc w.heap.size #[.slice p rows.length cap] 27 <| Bc (w.heap.size + 1) #[.int .i64 x.kind, .string x.name, .int .i64 x.eps, .int .i64 x.floor, .int .i64 x.scale, .slice px x.pts.length cx] 52 <| Bc (w.heap.size + 1 + 1) #[.slice none 0 0] 27 <| Bc w3.heap.size #[.string s1, .int .i64 e1, .int .i64 0, .int .i64 l1, .int .i64 sc1, .slice none 0 0, .slice none 0 0] 79 <| Bz) ?_
  clear b1 b2 b3 b4 hW
  rintro hW z10 ⟨⟨b1, yb1, k1, f1⟩, ⟨b2, yb2, k2, f2⟩, ⟨b3, yb3, k3, f3⟩, ⟨b4, yb4, k4, f4⟩, -⟩
  clear hb8
  go_wp2_with fail
  refine (c2.out _ hW).mono ?_
  rintro e w11 ⟨p', c', rfl, hb11, hR⟩
  have z12 := hb11.size
  try simp at z12
  clear k1 f1 k2 f2 k3 f3 k4 f4
  refine haveB w w11 (Bc w.heap.size #[.slice p rows.length cap] 27 <| Bc (w.heap.size + 1) #[.int .i64 x.kind, .string x.name, .int .i64 x.eps, .int .i64 x.floor, .int .i64 x.scale, .slice px x.pts.length cx] 52 <| Bc (w.heap.size + 1 + 1) #[.slice none 0 0] 27 <| Bc w3.heap.size #[.string s1, .int .i64 e1, .int .i64 0, .int .i64 l1, .int .i64 sc1, .slice none 0 0, .slice none 0 0] 79 <| Bz) ?_
  clear b1 b2 b3 b4 hW
  rintro hW z13 ⟨⟨b1, yb1, k1, f1⟩, ⟨b2, yb2, k2, f2⟩, ⟨b3, yb3, k3, f3⟩, ⟨b4, yb4, k4, f4⟩, -⟩
  clear c2
  replace hR := Lib.hid hR
  go_wp2
  have d2 := b3.set2 (i := 0) (v := .slice p' R.length c') (cs' := #[.slice p' R.length c']) rfl
  have d0 := d2.cell 0
  simp only [List.getElem?_toArray, List.getElem?_cons_zero] at d0
  refine bodyPost_ret (v := .tuple #[.agg #[.slice p' R.length c'], .int .i64 (0)]) (by simp [results, Tryz.results51, go_sem, d0]) rfl ⟨p', c', rfl, hW.setCell (by simp; omega) _, hR.out.store b3⟩
end Go.Proofs.YtdeghcgakkhbmaaGreat
