/- Parts of the proof that follows: A series' times, one behind the other. No condition. | series.kept: how many times a series keeps. No condition. -/
import Derived.Test.YtpdhdjlhicceoaaGreatDoorFw14
set_option linter.unusedSimpArgs false
set_option linter.unusedVariables false
namespace Go.Proofs.YtpdhdjlhicceoaaGreatDoor
open Go.RowKit Go.Shelf
attribute [local go_sem] Oper.semAt_some
theorem flat_step {α β : Type} {l : List α} {k : Nat} {x : α} (f : α → List β) (h : l[k]? = some x) : (l.take (k + 1)).flatMap f = (l.take k).flatMap f ++ f x := by
  rw [List.take_add_one, h]; simp
theorem flat_room {α β : Type} {l : List α} {k m : Nat} {x : α} (f : α → List β) (h : l[k]? = some x) (hm : m < (f x).length) (r : List β) : ((l.take k).flatMap f ++ (f x).take m).length < (l.flatMap f ++ r).length := by
  have e : l.flatMap f = (l.take (k + 1)).flatMap f ++ (l.drop (k + 1)).flatMap f := by rw [← List.flatMap_append, List.take_append_drop]
  rw [e, flat_step f h]
  simp only [List.length_append, List.length_take]
  omega
theorem flat_pre {α β : Type} {l : List α} {k m : Nat} {x : α} (f : α → List β) (h : l[k]? = some x) (r : List β) : (l.take k).flatMap f ++ (f x).take m <+: l.flatMap f ++ r := by
  have e : l.flatMap f = (l.take (k + 1)).flatMap f ++ (l.drop (k + 1)).flatMap f := by rw [← List.flatMap_append, List.take_append_drop]
  rw [e, flat_step f h]
  exact ⟨(f x).drop m ++ ((l.drop (k + 1)).flatMap f ++ r), by simp only [List.append_assoc]; rw [← List.append_assoc ((f x).take m), List.take_append_drop]⟩
theorem take_step {β : Type} {l : List β} {m : Nat} {t : β} (h : l[m]? = some t) : l.take (m + 1) = l.take m ++ [t] := by rw [List.take_add_one, h]; rfl
theorem KF.blk {B0 n₀ : Nat} {A B : World} (h : KF B0 n₀ A B) {b : Nat} {cs : Array Value} {t : TypeId} (hn : n₀ ≤ b) (hb : Blk A b cs t) : Blk B b cs t := h.rest b cs t (0, 0) hn hb
theorem ownsRow_pos {w : World} {B n sz : Nat} {e : TypeId} {v : Value} {xs : List Value} (h : w.ownsRow B e sz v n xs) (hn : 0 < n) : ∃ g cap cur, v = .slice (some ⟨g, 0, none⟩) n cap ∧ B ≤ g ∧ Blk w g cur e ∧ cur.toList.take (n * sz) = xs := by
  obtain ⟨_, ⟨_, h0⟩ | ⟨g, cap, cur, rfl, hg, hb, _, _, _, ht⟩⟩ := h
  · omega
  · exact ⟨g, cap, cur, rfl, hg, hb, ht⟩
set_option maxRecDepth 100000 in
set_option maxHeartbeats 8000000 in
theorem srTimes1_in (n : Nat) (hn : 1 ≤ n) (lr Bs n₀ : Nat) (s : SerT) (ps po : Option Addr) (cs co : Nat) (w₁ : World) (hin : SerIn w₁ s ps po) (hv : ∀ x, x ∈ s.segs → segB x = true) (h1 : w₁.heap.size ≤ n₀) (hb0 : n₀ ≤ Bs)
    (J Jx : List Int → World → Prop) (B0 : Nat) (hJ : AbidesFrom B0 J)
    (hY : ∀ pre x W, J pre W → pre.length < (timesS s).length → YieldAt Fence.wide (n - 1) Tryz.prog lr #[.int .i64 x] W fun e W' => (e = .returned (.bool true) ∧ J (pre ++ [x]) W' ∧ KF w₁.heap.size n₀ W W') ∨ (e = .returned (.bool false) ∧ Jx (pre ++ [x]) W'))
    (W : World) (hW : Below w₁.heap.size w₁ W) (hBs : Blk W Bs (serA s ps cs po co) 26) (h0 : J [] W) :
    CallsIn Fence.wide n Tryz.prog 110 #[.func (.yield lr) #[] #[], .pointer (some ⟨Bs, 0, none⟩)] W fun e W' => (∃ v, e = .returned v) ∧ ((∃ ys, ys = timesS s ∧ J ys W') ∨ (∃ pre, pre <+: timesS s ∧ Jx pre W')) := by
  have hfS := hin.fewS
  have hfO := hin.fewO
  have k := hBs.cell
  unfold serA at k
  refine callsIn_of_wp Tryz.func110 rfl trivial ?_ rfl
  simp only [Tryz.ntmps110, List.size_toArray, List.length_cons, List.length_nil, Nat.reduceAdd, Nat.reduceSub, Array.replicate_succ, Array.replicate_zero, List.push_toArray, List.append_toArray, List.nil_append, List.cons_append]
  gi_wp2
  clear k
  gi_loopw [14] (fun i wr => ∃ k : Nat, k ≤ s.segs.length ∧ i = .int .i64 k ∧ J ((s.segs.take k).flatMap fun x => timesL x.runs) wr ∧ Below w₁.heap.size w₁ wr ∧ Blk wr Bs (serA s ps cs po co) 26) (fun i _ => s.segs.length - (intOf i).toNat)
  case atStart => exact ⟨0, Nat.zero_le _, rfl, h0, hW, hBs⟩
  case round =>
    obtain ⟨k, hk, rfl, hJk, hbw, hbk⟩ := hrel
    have hlb := hbk.lt
    rcases Nat.lt_or_ge k s.segs.length with hlk | hge
    · obtain ⟨x, tr⟩ : ∃ r, s.segs[k]? = some r := ⟨s.segs[k]'(by omega), List.getElem?_eq_getElem (by omega)⟩
      have hsx := hv x (List.mem_of_getElem? tr)
      have hl := segB_runs hsx
      obtain ⟨b, o, p', q', cp, vc, rfl, hs, hvc, q0, q1, q2, q3, q4, q5, q6, q7⟩ := (hin.below hbw).segs.one tr
      have ct := Lib.hid (fun W' (hW' : Below wr.heap.size wr W') => c_Times p' cp x.runs W' hl (hs.runs.below hW'))
      have hlen := length_times hl
      have hcnt := cnt_pos hl
      have htr := Lib.hid tr
      have zb := cell_lt q0
      try simp only at zb
      obtain ⟨N, hN⟩ : ∃ N, (timesL x.runs).length = N + 1 := ⟨(timesL x.runs).length - 1, by omega⟩
      have HN := Lib.hid hN
      have hN6 : N + 1 ≤ 256 := by omega
      clear tr hs hl hlen hcnt
      unfold TimesOut at ct
      rw [hN] at ct
      clear hN
      gi_wp2_with (refine ⟨trivial, ?_⟩; gi_at_call 107; refine (callsIn_wide.2 (ct.out _ (belowAny))).mono ?_; rintro e w2 ⟨v, rfl, hv2, hB⟩; obtain ⟨g, cap', cur, rfl, hg, hb, htk⟩ := ownsRow_pos hv2 (Nat.succ_pos _); clear hv2; replace htk := Lib.hid htk; have hg' : wr.heap.size < g := by (simp at hg; omega))
      clear ct q0 q1 q2 q3 q4 q5 q6 q7
      have hAB := ((Below.refl wr.heap.size wr).alloc (Nat.le_refl _) (Obj.cells (segA x p' q' cp vc) 49)).trans (hB.mono (by simp))
      have htk' : cur.toList.take (N + 1) = (timesL x.runs).map (Value.int .i64) := by rw [← htk.out, Nat.mul_one]
      have hJ1 := abides_below hJ hJk hAB
      have hb2 := hbk.below hAB
      have hw2 := hbw.trans (hAB.mono hbw.size)
      have hg2 : Blk w2 g cur 2 := hb
      clear htk hg hB hJk hbk hbw hAB hb zb
      gi_loopw [26] (fun i w3 => ∃ m : Nat, m ≤ N + 1 ∧ i = .int .i64 m ∧ J (((s.segs.take k).flatMap fun x => timesL x.runs) ++ (timesL x.runs).take m) w3 ∧ Below w₁.heap.size w₁ w3 ∧ Blk w3 Bs (serA s (some ⟨b, o, none⟩) cs po co) 26 ∧ Blk w3 g cur 2) (fun i _ => N + 1 - (intOf i).toNat)
      case atStart => exact ⟨0, Nat.zero_le _, rfl, by simpa using hJ1, hw2, hb2, hg2⟩
      case round =>
        obtain ⟨m, hm, rfl, hJm, hbw3, hb3, hg3⟩ := hrel
        rcases Nat.lt_or_ge m (N + 1) with hlm | hgem
        · obtain ⟨t, ht⟩ : ∃ t, (timesL x.runs)[m]? = some t := ⟨(timesL x.runs)[m]'(by have := HN.out; omega), List.getElem?_eq_getElem _⟩
          have hcell : wr.cell? ⟨g, m, none⟩ = some (.int .i64 t) := by rw [cell_of_row wr g m cur _ (0, 0) hg3]; exact row_take htk' (by simp [ht])
          obtain ⟨fn, tmps, assign, body, hy, hR⟩ := hY _ t wr hJm (flat_room (fun x => timesL x.runs) htr.out (by have := HN.out; omega) _)
          have hst := Lib.hid (take_step ht)
          clear ht
          gi_wp2
          refine hR.mono ?_
          rintro e W3 (⟨rfl, hJ3, hk3⟩ | ⟨rfl, hJx3⟩)
          · gi_wp2
            go_roundw
            case rel => exact ⟨m + 1, by omega, by simp, by rw [hst.out, ← List.append_assoc]; exact hJ3, hbw3.trans hk3.below, hk3.blk hb0 hb3, hk3.blk (by omega) hg3⟩
            case measure => simp [intOf]; omega
          · gi_wp2
            refine bodyPost_ret (results_none rfl _ _ _) rfl ?_
            exact ⟨⟨_, rfl⟩, .inr ⟨_, by rw [List.append_assoc, ← hst.out]; exact flat_pre (fun x => timesL x.runs) htr.out _, hJx3⟩⟩
        · obtain rfl : m = N + 1 := by omega
          have et : (timesL x.runs).take (N + 1) = timesL x.runs := List.take_of_length_le (by have := HN.out; omega)
          rw [et, ← flat_step (fun x => timesL x.runs) htr.out] at hJm
          gi_wp2
          go_roundw
          case rel => exact ⟨k + 1, by omega, by simp, hJm, hbw3, hb3⟩
          case measure => simp [intOf]; omega
    · obtain rfl : k = s.segs.length := by omega
      rw [List.take_length] at hJk
      have k := hbk.cell
      unfold serA at k
      gi_wp2
      clear k
      gi_loopw [39] (fun i w3 => ∃ m : Nat, m ≤ s.opn.length ∧ i = .int .i64 m ∧ J ((s.segs.flatMap fun x => timesL x.runs) ++ (s.opn.map (·.1)).take m) w3 ∧ Below w₁.heap.size w₁ w3 ∧ Blk w3 Bs (serA s ps cs po co) 26) (fun i _ => s.opn.length - (intOf i).toNat)
      case atStart => exact ⟨0, Nat.zero_le _, rfl, by simpa using hJk, hbw, hbk⟩
      case round =>
        obtain ⟨m, hm, rfl, hJm, hbw3, hb3⟩ := hrel
        rcases Nat.lt_or_ge m s.opn.length with hlm | hgem
        · obtain ⟨⟨t, v⟩, ht⟩ : ∃ t, s.opn[m]? = some t := ⟨s.opn[m]'hlm, List.getElem?_eq_getElem _⟩
          obtain ⟨b, o, rfl, q0, q1⟩ := (hin.below hbw3).opn.at' m _ ht
          simp only at q0 q1
          have ht' : (s.opn.map (·.1))[m]? = some t := by rw [List.getElem?_map, ht]; rfl
          have hst := Lib.hid (take_step ht')
          have zb := cell_lt q0
          try simp only at zb
          obtain ⟨fn, tmps, assign, body, hy, hR⟩ := hY _ t (wr.alloc (.cells #[.int .i64 t, .int .i64 v] 53)) (abides_below hJ hJm ((Below.refl _ _).alloc (Nat.le_refl _) _)) (by unfold timesS; simp; omega)
          clear ht ht'
          gi_wp2
          refine hR.mono ?_
          rintro e W3 (⟨rfl, hJ3, hk3⟩ | ⟨rfl, hJx3⟩)
          · gi_wp2
            go_roundw
            case rel => exact ⟨m + 1, by omega, by simp, by rw [hst.out, ← List.append_assoc]; exact hJ3, (hbw3.alloc hbw3.size _).trans hk3.below, hk3.blk hb0 (hb3.alloc _)⟩
            case measure => simp [intOf]; omega
          · gi_wp2
            refine bodyPost_ret (results_none rfl _ _ _) rfl ?_
            exact ⟨⟨_, rfl⟩, .inr ⟨_, by rw [List.append_assoc, ← hst.out]; exact (List.prefix_append_right_inj _).2 (List.take_prefix _ _), hJx3⟩⟩
        · obtain rfl : m = s.opn.length := by omega
          rw [List.take_of_length_le (by simp)] at hJm
          gi_wp2
          refine bodyPost_end (results_none rfl _ _ _) rfl ?_
          exact ⟨⟨_, rfl⟩, .inl ⟨_, rfl, hJm⟩⟩
end Go.Proofs.YtpdhdjlhicceoaaGreatDoor
namespace Go.Proofs.YtpdhdjlhicceoaaGreatDoor
open Go.RowKit Go.Shelf
attribute [local go_sem] Oper.semAt_some
set_option maxRecDepth 100000 in
set_option maxHeartbeats 2000000 in
theorem c_srTimes (nm : ByteArray) (ep fl la sc : Int) (ps po : Option Addr) (ns cs no co : Nat) (w : World) :
    Calls Tryz.prog 77 #[.agg #[.string nm, .int .i64 ep, .int .i64 fl, .int .i64 la, .int .i64 sc, .slice ps ns cs, .slice po no co]] w fun e w' => e = .returned (.func (.func 110) #[] #[.pointer (some ⟨w.heap.size, 0, none⟩)]) ∧ w' = w.alloc (.cells #[.string nm, .int .i64 ep, .int .i64 fl, .int .i64 la, .int .i64 sc, .slice ps ns cs, .slice po no co] 26) := by
  have hmf : ∀ (fn : Fn) (first cap : Array Value) (w : World), (Instr.makeFunc fn first cap).run Tryz.prog w = .ok (.func fn first cap) w := fun _ _ _ _ => rfl
  go_enter Tryz.func77, Tryz.ntmps77
  go_wp2
  go_ret
  exact ⟨rfl, rfl⟩
theorem flat_few {α β : Type} (f : α → List β) (K : Nat) : ∀ l : List α, (∀ x, x ∈ l → (f x).length ≤ K) → (l.flatMap f).length ≤ l.length * K
  | [], _ => by simp
  | x :: l, h => by
    have := flat_few f K l fun y hy => h y (by simp [hy])
    have := h x (by simp)
    simp only [List.flatMap_cons, List.length_append, List.length_cons, Nat.add_mul]
    omega
theorem times_few {w : World} {s : SerT} {ps po : Option Addr} (hin : SerIn w s ps po) (hv : ∀ x, x ∈ s.segs → segB x = true) : (timesS s).length ≤ 25700 := by
  have h1 := flat_few (fun x : SegT => timesL x.runs) 256 s.segs fun x hx => by
    have := segB_runs (hv x hx)
    have h2 := length_times this
    have := (cnt_pos this).2
    try simp only
    omega
  have := hin.fewS
  have := hin.fewO
  unfold timesS
  simp only [List.length_append, List.length_map]
  omega
def keptL (fl : Int) (l : List Int) : Nat := (l.filter fun t => decide (fl ≤ t)).length
theorem keptL_in {fl : Int} (l : List Int) {t : Int} (h : fl ≤ t) : keptL fl (l ++ [t]) = keptL fl l + 1 := by simp [keptL, h]
theorem keptL_out {fl : Int} (l : List Int) {t : Int} (h : ¬ fl ≤ t) : keptL fl (l ++ [t]) = keptL fl l := by simp [keptL, h]
theorem keptL_le (fl : Int) (l : List Int) : keptL fl l ≤ l.length := List.length_filter_le _ _
set_option maxRecDepth 100000 in
set_option maxHeartbeats 8000000 in
theorem kept_in (s : SerT) (ps po : Option Addr) (cs co : Nat) (w : World) (hin : SerIn w s ps po) (hv : ∀ x, x ∈ s.segs → segB x = true) :
    CallsIn Fence.wide 4 Tryz.prog 78 #[.agg (serA s ps cs po co)] w fun e w' => e = .returned (.int .i64 (keptN s)) ∧ Below w.heap.size w w' := by
  have hN := times_few hin hv
  have hfew := Lib.hid hN
  unfold serA
  refine callsIn_of_wp_marks Tryz.func78 rfl trivial ?_ rfl
  simp only [Tryz.ntmps78, List.size_toArray, List.length_cons, List.length_nil, Nat.reduceAdd, Nat.reduceSub, Array.replicate_succ, Array.replicate_zero, List.push_toArray, List.append_toArray, List.nil_append, List.cons_append]
  gi_wp2_with (refine ⟨trivial, ?_⟩; gi_at_call 77; refine (callsIn_wide.2 (c_srTimes _ _ _ _ _ _ _ _ _ _ _ _)).mono ?_; rintro e w' ⟨rfl, rfl⟩)
  have hW0 : Below w.heap.size w (((w.alloc (.cells #[.string s.name, .int .i64 s.eps, .int .i64 s.floor, .int .i64 s.last, .int .i64 s.scale, .slice ps s.segs.length cs, .slice po s.opn.length co] 26)).alloc (.cells #[.int .i64 0] 3)).alloc (.cells #[.string s.name, .int .i64 s.eps, .int .i64 s.floor, .int .i64 s.last, .int .i64 s.scale, .slice ps s.segs.length cs, .slice po s.opn.length co] 26)) := belowAny
  have b1 : Blk (((w.alloc (.cells #[.string s.name, .int .i64 s.eps, .int .i64 s.floor, .int .i64 s.last, .int .i64 s.scale, .slice ps s.segs.length cs, .slice po s.opn.length co] 26)).alloc (.cells #[.int .i64 0] 3)).alloc (.cells #[.string s.name, .int .i64 s.eps, .int .i64 s.floor, .int .i64 s.last, .int .i64 s.scale, .slice ps s.segs.length cs, .slice po s.opn.length co] 26)) w.heap.size #[.string s.name, .int .i64 s.eps, .int .i64 s.floor, .int .i64 s.last, .int .i64 s.scale, .slice ps s.segs.length cs, .slice po s.opn.length co] 26 := blkAny2
  have b2 : Blk (((w.alloc (.cells #[.string s.name, .int .i64 s.eps, .int .i64 s.floor, .int .i64 s.last, .int .i64 s.scale, .slice ps s.segs.length cs, .slice po s.opn.length co] 26)).alloc (.cells #[.int .i64 0] 3)).alloc (.cells #[.string s.name, .int .i64 s.eps, .int .i64 s.floor, .int .i64 s.last, .int .i64 s.scale, .slice ps s.segs.length cs, .slice po s.opn.length co] 26)) (w.heap.size + 1) #[.int .i64 0] 3 := blkAny2
  have b3 : Blk (((w.alloc (.cells #[.string s.name, .int .i64 s.eps, .int .i64 s.floor, .int .i64 s.last, .int .i64 s.scale, .slice ps s.segs.length cs, .slice po s.opn.length co] 26)).alloc (.cells #[.int .i64 0] 3)).alloc (.cells #[.string s.name, .int .i64 s.eps, .int .i64 s.floor, .int .i64 s.last, .int .i64 s.scale, .slice ps s.segs.length cs, .slice po s.opn.length co] 26)) (w.heap.size + 1 + 1) #[.string s.name, .int .i64 s.eps, .int .i64 s.floor, .int .i64 s.last, .int .i64 s.scale, .slice ps s.segs.length cs, .slice po s.opn.length co] 26 := Blk.new' (by simp)
  have hsz : (((w.alloc (.cells #[.string s.name, .int .i64 s.eps, .int .i64 s.floor, .int .i64 s.last, .int .i64 s.scale, .slice ps s.segs.length cs, .slice po s.opn.length co] 26)).alloc (.cells #[.int .i64 0] 3)).alloc (.cells #[.string s.name, .int .i64 s.eps, .int .i64 s.floor, .int .i64 s.last, .int .i64 s.scale, .slice ps s.segs.length cs, .slice po s.opn.length co] 26)).heap.size = w.heap.size + 1 + 1 + 1 := by simp
  obtain ⟨W0, hWe⟩ : ∃ W0, W0 = (((w.alloc (.cells #[.string s.name, .int .i64 s.eps, .int .i64 s.floor, .int .i64 s.last, .int .i64 s.scale, .slice ps s.segs.length cs, .slice po s.opn.length co] 26)).alloc (.cells #[.int .i64 0] 3)).alloc (.cells #[.string s.name, .int .i64 s.eps, .int .i64 s.floor, .int .i64 s.last, .int .i64 s.scale, .slice ps s.segs.length cs, .slice po s.opn.length co] 26)) := ⟨_, rfl⟩
  rw [← hWe] at hW0 b1 b2 b3 hsz ⊢
  clear hWe hN
  refine wpIn_rangeFunc_ownG rfl (by omega) (gf := 110) (lb := #[.pointer (some ⟨w.heap.size + 1 + 1, 0, none⟩)]) rfl trivial (enters_of Tryz.func110 (by kernel_rfl) rfl)
    (encs := fun x : Int => #[Value.int .i64 x]) (Kp := KF w.heap.size (w.heap.size + 1 + 1)) (S := fun ys => ys = timesS s) (Sp := fun pre => pre <+: timesS s) (N := (timesS s).length) (w0 := W0)
    (fun lr J Jx W hWW hJ _ hY h0 => srTimes1_in 3 (by omega) lr (w.heap.size + 1 + 1) (w.heap.size + 1 + 1) s ps po cs co w hin hv (by omega) (Nat.le_refl _) J Jx _ hJ hY W (hW0.trans (hWW.mono hW0.size)) (b3.below hWW) h0)
    (fun h k => h.trans k) (KF.putObj (by omega)) (Below.refl _ _) (fun _ => rfl)
    (fun pre W => (Blk W w.heap.size #[.string s.name, .int .i64 s.eps, .int .i64 s.floor, .int .i64 s.last, .int .i64 s.scale, .slice ps s.segs.length cs, .slice po s.opn.length co] 26 ∧ Blk W (w.heap.size + 1) #[.int .i64 (keptL s.floor pre)] 3) ∧ Below w.heap.size w W)
    (fun _ _ _ => False)
    (OwnFrom.and (OwnFrom.and (Own.from (blk_own _ _ _) _) (Own.from (blk_own _ _ _) _)) (ownFrom_below (Nat.le_refl _) (by omega)))
    (fun _ _ _ _ _ hs _ _ => hs)
    ⟨⟨b1, b2⟩, hW0⟩
    (fun x => { tmps := #[.agg #[.string s.name, .int .i64 s.eps, .int .i64 s.floor, .int .i64 s.last, .int .i64 s.scale, .slice ps s.segs.length cs, .slice po s.opn.length co], .pointer (some ⟨w.heap.size, 0, none⟩), .int .i64 0, .pointer (some ⟨w.heap.size + 1, 0, none⟩), .int .i64 x, .agg #[.string s.name, .int .i64 s.eps, .int .i64 s.floor, .int .i64 s.last, .int .i64 s.scale, .slice ps s.segs.length cs, .slice po s.opn.length co], .func (.func 110) #[] #[.pointer (some ⟨w.heap.size + 1 + 1, 0, none⟩)], .int .i64 x, undef, undef, undef, undef, undef, undef, undef], defers := [] }) ?assign ?body ?done ?stop
  case assign =>
    intro l x W K hK
    gi_wp2
    exact hK
  case body =>
    rintro l pre x W ⟨⟨i1, i2⟩, i3⟩ hlt
    have hz := i3.size
    have y1 := i1.lt
    have y2 := i2.lt
    have k1 := i1.cell
    have f1 := i1.frozen
    have k2 := i2.cell
    have f2 := i2.frozen
    have hb := keptL_le s.floor pre
    have h9 : pre.length < 25700 := by have := hfew.out; omega
    by_cases hx : s.floor ≤ x
    · have e := Lib.hid (keptL_in pre hx)
      gi_wp2
      exact ⟨KeepsOthers.from (keepsAny) _, kfAny, ⟨⟨blkAny2, by rw [e.out]; exact blkAny2⟩, belowAny⟩⟩
    · have e := Lib.hid (keptL_out pre hx)
      have hx' : x < s.floor := by omega
      gi_wp2
      exact ⟨KeepsOthers.from (keepsAny) _, kfAny, ⟨⟨blkAny2, by rw [e.out]; exact blkAny2⟩, belowAny⟩⟩
  case done =>
    rintro D ys W hD rfl ⟨⟨i1, i2⟩, i3⟩ hK
    have k2 := i2.cell
    gi_wp2
    refine ⟨by simp, .inl ⟨_, _, rfl, run_takeDeferred hK, ?_⟩⟩
    exact ⟨_, results_tmp rfl _ _ _, rfl, i3.trans (belowK_b (w := w) (Nat.le_refl _) W D _ _ (by omega) hK rfl rfl)⟩
  case stop =>
    rintro D c pre W _ _ h _
    exact h.elim
theorem c_srKept (s : SerT) (ps po : Option Addr) (cs co : Nat) (w : World) (hin : SerIn w s ps po) (hv : ∀ x, x ∈ s.segs → segB x = true) :
    Calls Tryz.prog 78 #[.agg (serA s ps cs po co)] w fun e w' => e = .returned (.int .i64 (keptN s)) ∧ Below w.heap.size w w' := callsIn_wide.1 (kept_in s ps po cs co w hin hv)
end Go.Proofs.YtpdhdjlhicceoaaGreatDoor
