/- Parts of the proof that follows: answer.whole: the sheet of all that is asked. No condition. | answer.whole, and what asks for it alone: At, Count, Sheet, Least, Most. No condition. | answer.whole at a series; and what asks for it alone: At, Count, Sheet, Least, Most. No condition. | answer.Mean. No condition. | What answer says of a series, plainly: whole, At, Count, Sheet, Least, Most, Sum, Mean. No condition. | The laws of chapter 25: some, wakes. No condition. | A copy of its own of a row, by append; rows of segments as they came in. No condition. -/
import Derived.Laws.AppendOwnNone
import Derived.Test.YtidfcoooccblaaaGreatTogether14
set_option maxRecDepth 100000
set_option maxHeartbeats 8000000
set_option linter.unusedSimpArgs false
set_option linter.unusedVariables false
namespace Go.Proofs.YtidfcoooccblaaaGreat
open Go.RowKit Go.Shelf
attribute [local go_sem] Oper.semAt_some
theorem KeepsOthers.of_rex {A C : World} {g : Nat} {cs : Array Value} {t : TypeId} (h : Rex [g] A C) (hg : Blk A g cs t) : KeepsOthers A C := ⟨h.size, fun k o hk ho => (h.block k (lt_of_heap hk) (fun e => by
 simp at e
 subst e
 unfold Blk at hg
 rw [hg] at hk
 injection hk with hk
 subst hk
 cases ho)).trans hk⟩
theorem c_anPieces (nm : ByteArray) (ep fl la sc : Int) (ps po : Option Addr) (ns cs no co : Nat) (a b : Int) (w : World) :
  Calls Tryz.prog 107 #[.agg #[.string nm, ep, fl, la, sc, .slice ps ns cs, .slice po no co], a, b] w fun e w' =>
   e = .returned (.func (.func 159) #[] #[.pointer (some ⟨w.heap.size + 1, 0, none⟩), .pointer (some ⟨w.heap.size, 0, none⟩), .pointer (some ⟨w.heap.size + 1 + 1, 0, none⟩)]) /\ w' = ((w.alloc (.cells #[.string nm, ep, fl, la, sc, .slice ps ns cs, .slice po no co] 25)).alloc (.cells #[a] 2)).alloc (.cells #[b] 2) := by
 have hmf : ∀ (fn : Fn) (first cap : Array Value) (w : World), (Instr.makeFunc fn first cap).run Tryz.prog w = .ok (.func fn first cap) w := fun _ _ _ _ => rfl
 go_enter Tryz.func107, Tryz.ntmps107
 go_wp2
 go_ret
 exact ⟨by simp, rfl⟩
def PcOk (x : List Int × Int) : Prop := x.1 ≠ [] /\ x.1.length <= 256 /\ 0 <= x.2 /\ x.2 <= 1099511627776 /\ ∀ v, v ∈ x.1 -> -2305844108725321728 <= v /\ v <= 2305844108725321728
theorem segB_err {s : SegT} (h : segB s = true) : 0 <= s.E /\ s.E <= 1099511627776 := by
 unfold segB at h
 simp only [Bool.and_eq_true, decide_eq_true_eq, <- and_assoc] at h
 exact ⟨h.1.1.2, h.1.2⟩
 --, h.2.1.2⟩
theorem pcs_ok {s : SerT} (hv : ∀ x, x ∈ s.segs -> segB x = true) (ho : ∀ x, x ∈ s.opn -> -2305844108725321728 <= x.2 /\ x.2 <= 2305844108725321728) (a b : Int) : ∀ x, x ∈ pcsL s a b -> PcOk x := by
 intro x hx
 unfold pcsL at hx
 rcases List.mem_append.1 hx with hx | hx
 ·obtain ⟨y, hy, hxy⟩ := List.mem_flatMap.1 hx
  have hs := hv y hy
  have he := segB_err hs
  unfold segPc at hxy
  split at hxy
  ·cases hxy
  ·rename_i hne
   rw [List.mem_singleton.1 hxy]
   refine ⟨hne, ?_, he.1, he.2, ?_⟩
   ·have h1 : (selL (mx a s.floor) b (ptsL y)).length <= (ptsL y).length := by unfold selL; rw [List.length_map]; exact List.length_filter_le _ _
    have h2 := length_pts hs
    have h3 := (cnt_pos (segB_runs hs)).2
    simp only
    omega
   ·intro v hv'
    unfold selL at hv'
    obtain ⟨p, hp, rfl⟩ := List.mem_map.1 hv'
    exact vals_back hs (by rw [<- map_pts hs]; exact List.mem_map_of_mem ((List.mem_filter.1 hp).1))
 ·unfold opnPc at hx
  obtain ⟨p, hp, rfl⟩ := List.mem_map.1 hx
  have := ho p ((List.mem_filter.1 hp).1)
  refine ⟨by simp, by simp, by omega, by omega, fun v hv' => ?_⟩
  obtain rfl : v = p.2 := by simpa using hv'
  exact this
theorem pairs_mem {x : List Int × Int} (h : PcOk x) : ∀ y, y ∈ pairs x -> -2305844108725321728 <= y.1 /\ y.1 <= 2305844108725321728 /\ 0 <= y.2 /\ y.2 <= 1099511627776 := by
 intro y hy
 unfold pairs at hy
 obtain ⟨v, hv, rfl⟩ := List.mem_map.1 hy
 have := h.2.2.2.2 v hv
 exact ⟨this.1, this.2, h.2.2.1, h.2.2.2.1⟩
theorem pcs_few {s : SerT} (h1 : s.segs.length <= 100) (h2 : s.opn.length <= 100) (a b : Int) : (pcsL s a b).length <= 200 := by
 have := flat_few (segPc (mx a s.floor) b) 1 s.segs fun x _ => by unfold segPc; split <;> simp
 have h3 : (opnPc (mx a s.floor) b s.opn).length <= s.opn.length := by unfold opnPc; rw [List.length_map]; exact List.length_filter_le _ _
 unfold pcsL
 rw [List.length_append]
 omega
theorem shA_nil : shA [] = #[.int .i64 0, .int .i64 0, .int .i64 0, .int .i64 0, .int .i64 0, .int .i64 0, .int .u64 0, .int .i64 0, .int .u64 0] := by unfold shA loL hiL; simp [minL, maxL, lsum, hiW, loW]
def WholeOut (s : SerT) (a b : Int) (e : Ending) : Prop := e = .returned (.tuple #[.agg (shA ((pcsL s a b).flatMap pairs)), .int .i64 (if (pcsL s a b).flatMap pairs = [] then 9 else 0)])
theorem whole1_in (s : SerT) (ps po : Option Addr) (cs co : Nat) (a b : Int) (gs ga gb : Nat) (w : World) (hin : SerIn w s ps po) (hv : ∀ x, x ∈ s.segs -> segB x = true) (ho : ∀ x, x ∈ s.opn -> -2305844108725321728 <= x.2 /\ x.2 <= 2305844108725321728) (hb : -9223372036854775808 <= b)
  (kS : Blk w gs (serA s ps cs po co) 25) (kA : Blk w ga #[a] 2) (kB : Blk w gb #[b] 2) :
  CallsIn Fence.wide 4 Tryz.prog 105 #[.pointer (some ⟨gs, 0, none⟩), .pointer (some ⟨ga, 0, none⟩), .pointer (some ⟨gb, 0, none⟩)] w fun e w' => WholeOut s a b e /\ Below w.heap.size w w' := by
 have hok := pcs_ok hv ho a b
 have hfew := pcs_few hin.fewS hin.fewO a b
 have hmf : ∀ (fn : Fn) (first cap : Array Value) (w : World), (Instr.makeFunc fn first cap).run Tryz.prog w = .ok (.func fn first cap) w := fun _ _ _ _ => rfl
 replace hok := Lib.hid hok
 replace hfew := Lib.hid hfew
 unfold serA at kS
 refine callsIn_of_wp_marks Tryz.func105 rfl trivial ?_ rfl
 simp only [Tryz.ntmps105, List.size_toArray, List.length_cons, List.length_nil, Nat.reduceAdd, Nat.reduceSub, Array.replicate_succ, Array.replicate_zero, List.push_toArray, List.append_toArray, List.nil_append, List.cons_append]
 refine wpIn_wide.2 ?_
 go_upto_region 3 with (fail)
 refine wp_facts (fun W' => Below w.heap.size w W' /\ Blk W' gs #[.string s.name, s.eps, s.floor, s.last, s.scale, .slice ps s.segs.length cs, .slice po s.opn.length co] 25 /\ Blk W' ga #[a] 2 /\ Blk W' gb #[b] 2 /\ Blk W' w.heap.size #[.int .i64 0, .int .i64 0, .int .i64 0, .int .i64 0, .int .i64 0, .int .i64 0, .int .u64 0, .int .i64 0, .int .u64 0] 38 /\ Blk W' (w.heap.size + 1) #[.int .i64 0, .int .i64 0, .int .i64 0, .int .i64 0, .int .i64 0, .int .i64 0, .int .u64 0, .int .i64 0, .int .u64 0] 190 /\ Blk W' (w.heap.size + 1 + 1) #[.func (.func 106) #[.pointer (some ⟨w.heap.size + 1, 0, none⟩)] #[]] 191) ⟨by exact belowAny, by exact blkAny2, by exact blkAny2, by exact blkAny2, by exact blkAny2, by exact blkAny2, by exact blkAny2⟩ ?_
 rintro W1 ⟨hW, b1, b2, b3, b4, b5, b6⟩
 have z2 := hW.size
 have z3 := b1.lt
 have z4 := b2.lt
 have z5 := b3.lt
 have z6 := b4.lt
 have z7 := b5.lt
 have z8 := b6.lt
 have k1 := b1.cell
 have f1 := b1.frozen
 have k2 := b2.cell
 have f2 := b2.frozen
 have k3 := b3.cell
 have f3 := b3.frozen
 have k4 := b4.cell
 have f4 := b4.frozen
 have k5 := b5.cell
 have f5 := b5.frozen
 have k6 := b6.cell
 have f6 := b6.frozen
 go_wp2_with fail
 refine (c_anPieces _ _ _ _ _ _ _ _ _ _ _ _ _ _).mono ?_
 rintro e w' ⟨rfl, rfl⟩
 have c1 : Below w.heap.size w (((W1.alloc (.cells #[.string s.name, s.eps, s.floor, s.last, s.scale, .slice ps s.segs.length cs, .slice po s.opn.length co] 25)).alloc (.cells #[a] 2)).alloc (.cells #[b] 2)) := belowAny
 have d1 : Blk (((W1.alloc (.cells #[.string s.name, s.eps, s.floor, s.last, s.scale, .slice ps s.segs.length cs, .slice po s.opn.length co] 25)).alloc (.cells #[a] 2)).alloc (.cells #[b] 2)) w.heap.size #[.int .i64 0, .int .i64 0, .int .i64 0, .int .i64 0, .int .i64 0, .int .i64 0, .int .u64 0, .int .i64 0, .int .u64 0] 38 := blkAny2
 have d2 : Blk (((W1.alloc (.cells #[.string s.name, s.eps, s.floor, s.last, s.scale, .slice ps s.segs.length cs, .slice po s.opn.length co] 25)).alloc (.cells #[a] 2)).alloc (.cells #[b] 2)) (w.heap.size + 1) #[.int .i64 0, .int .i64 0, .int .i64 0, .int .i64 0, .int .i64 0, .int .i64 0, .int .u64 0, .int .i64 0, .int .u64 0] 190 := blkAny2
 have d3 : Blk (((W1.alloc (.cells #[.string s.name, s.eps, s.floor, s.last, s.scale, .slice ps s.segs.length cs, .slice po s.opn.length co] 25)).alloc (.cells #[a] 2)).alloc (.cells #[b] 2)) (w.heap.size + 1 + 1) #[.func (.func 106) #[.pointer (some ⟨w.heap.size + 1, 0, none⟩)] #[]] 191 := blkAny2
 have d4 : Blk (((W1.alloc (.cells #[.string s.name, s.eps, s.floor, s.last, s.scale, .slice ps s.segs.length cs, .slice po s.opn.length co] 25)).alloc (.cells #[a] 2)).alloc (.cells #[b] 2)) W1.heap.size #[.string s.name, s.eps, s.floor, s.last, s.scale, .slice ps s.segs.length cs, .slice po s.opn.length co] 25 := blkAny2
 have d5 : Blk (((W1.alloc (.cells #[.string s.name, s.eps, s.floor, s.last, s.scale, .slice ps s.segs.length cs, .slice po s.opn.length co] 25)).alloc (.cells #[a] 2)).alloc (.cells #[b] 2)) (W1.heap.size + 1) #[a] 2 := blkAny2
 have d6 : Blk (((W1.alloc (.cells #[.string s.name, s.eps, s.floor, s.last, s.scale, .slice ps s.segs.length cs, .slice po s.opn.length co] 25)).alloc (.cells #[a] 2)).alloc (.cells #[b] 2)) (W1.heap.size + 1 + 1) #[b] 2 := blkAny2
 have hsz : (((W1.alloc (.cells #[.string s.name, s.eps, s.floor, s.last, s.scale, .slice ps s.segs.length cs, .slice po s.opn.length co] 25)).alloc (.cells #[a] 2)).alloc (.cells #[b] 2)).heap.size = W1.heap.size + 1 + 1 + 1 := by simp
 obtain ⟨W0, hWe⟩ : ∃ W0, W0 = (((W1.alloc (.cells #[.string s.name, s.eps, s.floor, s.last, s.scale, .slice ps s.segs.length cs, .slice po s.opn.length co] 25)).alloc (.cells #[a] 2)).alloc (.cells #[b] 2)) := ⟨_, rfl⟩
 rw [<- hWe] at c1 d1 d2 d3 d4 d5 d6 hsz ⊢
 have zB := b6.lt
 have zV := hW.size
 clear hWe b1 b2 b3 b4 b5 b6 k1 k2 k3 k4 k5 k6 f1 f2 f3 f4 f5 f6
 go_wp2
 refine (wpIn_wide (n := 4)).1 ?_
 refine rangeFunc_wr rfl (by omega) (gf := 159) (lb := #[.pointer (some ⟨W1.heap.size + 1, 0, none⟩), .pointer (some ⟨W1.heap.size, 0, none⟩), .pointer (some ⟨W1.heap.size + 1 + 1, 0, none⟩)]) rfl trivial (enters_of Tryz.func159 (by kernel_rfl) rfl)
  (encs := fun x : List Int × Int => #[Value.agg (pcA x.1 x.2)]) (Kp := KF w.heap.size W1.heap.size) (xs := pcsL s a b) (Ba := W1.heap.size + 1) (by omega)
  (fun lr J W hWW hJ hJw hY h0 => anPieces1_in 3 (by omega) lr (W1.heap.size + 1) W1.heap.size (W1.heap.size + 1 + 1) W1.heap.size s ps po cs co a b w hin hv (fun x hx => by have := ho x hx; unfold I64; omega) hb zV (by omega) (by omega) (by omega) (by omega) (by omega) J _ hJ hJw hY W (c1.trans (hWW.mono c1.size)) (d4.below hWW) (d5.below hWW) (d6.below hWW) h0)
  (fun h k => h.trans k) (KF.putObj (by omega)) (fun _ => rfl)
  (fun pre W => ((Blk W w.heap.size #[.int .i64 0, .int .i64 0, .int .i64 0, .int .i64 0, .int .i64 0, .int .i64 0, .int .u64 0, .int .i64 0, .int .u64 0] 38 /\ Blk W (w.heap.size + 1 + 1) #[.func (.func 106) #[.pointer (some ⟨w.heap.size + 1, 0, none⟩)] #[]] 191) /\ Blk W (w.heap.size + 1) (shA (pre.flatMap pairs)) 190) /\ Below w.heap.size w W)
  (OwnFrom.and (OwnFrom.and (OwnFrom.and (Own.from (blk_own _ _ _) _) (Own.from (blk_own _ _ _) _)) (Own.from (blk_own _ _ (fun pre => shA (List.flatMap pairs pre))) _)) (ownFrom_below (Nat.le_refl _) (by omega)))
  (fun pre W v ⟨⟨⟨i1, i2⟩, i3⟩, i4⟩ => ⟨⟨⟨i1.setO (by omega) 0 v, i2.setO (by omega) 0 v⟩, i3.setO (by omega) 0 v⟩, i4.setCell (p := ⟨W1.heap.size + 1, 0, none⟩) (by simp; omega) v⟩)
  ⟨⟨⟨d1, d3⟩, by rw [show List.flatMap pairs ([] : List (List Int × Int)) = [] from rfl, shA_nil]; exact d2⟩, c1⟩
  (fun x a' W => ∃ Bx, w.heap.size + 1 + 1 < Bx /\ Blk W Bx #[.int .i64 (x.1.length : Int), .int .i64 (minL x.1), .int .i64 (maxL x.1), .int .i64 (hiW (lsum x.1)), .int .u64 (loW (lsum x.1)), x.2] 198 /\ a' = { tmps := #[.pointer (some ⟨gs, 0, none⟩), .pointer (some ⟨ga, 0, none⟩), .pointer (some ⟨gb, 0, none⟩), .pointer (some ⟨w.heap.size, 0, none⟩), .int .i64 0, .pointer (some ⟨w.heap.size + 1, 0, none⟩), .pointer (some ⟨w.heap.size + 1 + 1, 0, none⟩), .pointer (some ⟨Bx, 0, none⟩), .func (.func 106) #[.pointer (some ⟨w.heap.size + 1, 0, none⟩)] #[], .agg #[.string s.name, s.eps, s.floor, s.last, s.scale, .slice ps s.segs.length cs, .slice po s.opn.length co], a, b, .func (.func 159) #[] #[.pointer (some ⟨W1.heap.size + 1, 0, none⟩), .pointer (some ⟨W1.heap.size, 0, none⟩), .pointer (some ⟨W1.heap.size + 1 + 1, 0, none⟩)], .agg #[.int .i64 (x.1.length : Int), .int .i64 (minL x.1), .int .i64 (maxL x.1), .int .i64 (hiW (lsum x.1)), .int .u64 (loW (lsum x.1)), x.2], undef, undef, undef, undef, undef, undef, undef, undef, undef, undef], defers := [] })
  (fun x a' _ X Y row hs hg hr => by obtain ⟨Bx, h1, h2, h3⟩ := hs; exact ⟨Bx, h1, blk_own Bx 198 (fun (_ : Unit) => #[.int .i64 (x.1.length : Int), .int .i64 (minL x.1), .int .i64 (maxL x.1), .int .i64 (hiW (lsum x.1)), .int .u64 (loW (lsum x.1)), x.2]) () X Y row h2 hg (fun r e => (hr r e).2), h3⟩) ?assign ?body ?done
 case assign =>
  rintro l pre x W K ⟨⟨⟨i1, i2⟩, i3⟩, i4⟩ hK
  have hlt := i2.lt
  have hz := i4.size
  unfold pcA
  gi_wp2
  exact hK _ _ ((KeepsOthers.alloc _ _).from _) ((KF.refl _ _ _).alloc hz _) ⟨⟨⟨i1.alloc _, i2.alloc _⟩, i3.alloc _⟩, i4.alloc hz _⟩ ⟨W.heap.size, hlt, Blk.new' rfl, rfl⟩
 case body =>
  rintro l pre x a' W ⟨⟨⟨i1, i2⟩, i3⟩, i4⟩ ⟨Bx, hBx, bX, rfl⟩ hp
  have hlt := i2.lt
  have hlt3 := i3.lt
  have hltX := bX.lt
  have hz := i4.size
  have hx := hok.out x (hp.subset (by simp))
  have hpl : pre.length <= 200 := by have h1 := hp.length_le; have h2 := hfew.out; rw [List.length_append] at h1; omega
  have hpm : ∀ y, y ∈ pre -> PcOk y := fun y hy => hok.out y (hp.subset (by simp [hy]))
  have hfl : (pre.flatMap pairs).length <= 100000 := by
   have := flat_few pairs 256 pre fun y hy => by unfold pairs; rw [List.length_map]; exact (hpm y hy).2.1
   omega
  have ct := c_take (w.heap.size + 1) (pre.flatMap pairs) x.1 x.2 W i3 hx.1 hx.2.2.1 hx.2.2.2.1 hx.2.2.2.2 (by have := hx.2.1; omega) (fun y hy => by obtain ⟨g, hg, hyg⟩ := List.mem_flatMap.1 hy; exact pairs_mem (hpm g hg) y hyg) hfl
  unfold pcA at ct
  replace ct := Lib.hid ct
  have hfm : (pre ++ [x]).flatMap pairs = pre.flatMap pairs ++ pairs (x.1, x.2) := by simp
  replace hfm := Lib.hid hfm
  clear hx hpl hpm hfl hp
  have k2 := i2.cell
  have kx := bX.cell
  gi_wp2_with (refine ⟨trivial, ?_⟩; gi_at_call 106; refine (CallsIn.inRound l (callsIn_wide.2 ct.out)).mono ?_; rintro e w2 ⟨rfl, hR, hb2⟩)
  refine ⟨(KeepsOthers.of_rex hR i3).from _, ⟨hR.of_priv hz (by simp), fun q cs t f hq hh => (hR.block q (lt_of_heap hh) (fun e => by simp at e; omega)).trans hh⟩, ⟨⟨i1.rex hR (by simp), i2.rex hR (by simp)⟩, ?_⟩, i4.trans (hR.of_priv hz (by simp))⟩
  rw [hfm.out]
  exact hb2
 case done =>
  rintro D W hD ⟨⟨⟨i1, i2⟩, i3⟩, i4⟩ hK
  have hz := i4.size
  have y1 := i1.lt
  have y3 := i3.lt
  obtain ⟨L, hL⟩ : ∃ L, (pcsL s a b).flatMap pairs = L := ⟨_, rfl⟩
  have i5 := i3
  rw [hL] at i3 i5
  unfold shA at i3
  have k3 := i3.cell
  have k1 := i1.cell
  have f1 := i1.frozen
  replace hL := Lib.hid hL
  simp only [Exit.inBlock, Exit.then]
  by_cases hne : L = []
  ·have hl0 : ((L.length : Int) == 0) = true := by rw [hne]; rfl
   have hw := Lib.hid (show WholeOut s a b (.returned (.tuple #[.agg #[.int .i64 0, .int .i64 0, .int .i64 0, .int .i64 0, .int .i64 0, .int .i64 0, .int .u64 0, .int .i64 0, .int .u64 0], .int .i64 9])) by unfold WholeOut; rw [hL.out, hne, shA_nil, if_pos rfl])
   clear hne
   go_wp2
   have b9 : Blk (((((((((W.setCell ⟨w.heap.size, 0, none⟩ (.int .i64 0)).setCell ⟨w.heap.size, 1, none⟩ (.int .i64 0)).setCell ⟨w.heap.size, 2, none⟩ (.int .i64 0)).setCell ⟨w.heap.size, 3, none⟩ (.int .i64 0)).setCell ⟨w.heap.size, 4, none⟩ (.int .i64 0)).setCell ⟨w.heap.size, 5, none⟩ (.int .i64 0)).setCell ⟨w.heap.size, 6, none⟩ (.int .u64 0)).setCell ⟨w.heap.size, 7, none⟩ (.int .i64 0)).setCell ⟨w.heap.size, 8, none⟩ (.int .u64 0)) w.heap.size #[.int .i64 0, .int .i64 0, .int .i64 0, .int .i64 0, .int .i64 0, .int .i64 0, .int .u64 0, .int .i64 0, .int .u64 0] 38 := blkAny2
   have hB9 : Below w.heap.size w (((((((((W.setCell ⟨w.heap.size, 0, none⟩ (.int .i64 0)).setCell ⟨w.heap.size, 1, none⟩ (.int .i64 0)).setCell ⟨w.heap.size, 2, none⟩ (.int .i64 0)).setCell ⟨w.heap.size, 3, none⟩ (.int .i64 0)).setCell ⟨w.heap.size, 4, none⟩ (.int .i64 0)).setCell ⟨w.heap.size, 5, none⟩ (.int .i64 0)).setCell ⟨w.heap.size, 6, none⟩ (.int .u64 0)).setCell ⟨w.heap.size, 7, none⟩ (.int .i64 0)).setCell ⟨w.heap.size, 8, none⟩ (.int .u64 0)) := belowAny
   have hK9 : (((((((((W.setCell ⟨w.heap.size, 0, none⟩ (.int .i64 0)).setCell ⟨w.heap.size, 1, none⟩ (.int .i64 0)).setCell ⟨w.heap.size, 2, none⟩ (.int .i64 0)).setCell ⟨w.heap.size, 3, none⟩ (.int .i64 0)).setCell ⟨w.heap.size, 4, none⟩ (.int .i64 0)).setCell ⟨w.heap.size, 5, none⟩ (.int .i64 0)).setCell ⟨w.heap.size, 6, none⟩ (.int .u64 0)).setCell ⟨w.heap.size, 7, none⟩ (.int .i64 0)).setCell ⟨w.heap.size, 8, none⟩ (.int .u64 0)).heap[D]? = some (.deferred (some [])) := (keepsAny : KeepsOthers _ (((((((((W.setCell ⟨w.heap.size, 0, none⟩ (.int .i64 0)).setCell ⟨w.heap.size, 1, none⟩ (.int .i64 0)).setCell ⟨w.heap.size, 2, none⟩ (.int .i64 0)).setCell ⟨w.heap.size, 3, none⟩ (.int .i64 0)).setCell ⟨w.heap.size, 4, none⟩ (.int .i64 0)).setCell ⟨w.heap.size, 5, none⟩ (.int .i64 0)).setCell ⟨w.heap.size, 6, none⟩ (.int .u64 0)).setCell ⟨w.heap.size, 7, none⟩ (.int .i64 0)).setCell ⟨w.heap.size, 8, none⟩ (.int .u64 0))).same D _ hK rfl
   obtain ⟨W9, hW9⟩ : ∃ W9, W9 = (((((((((W.setCell ⟨w.heap.size, 0, none⟩ (.int .i64 0)).setCell ⟨w.heap.size, 1, none⟩ (.int .i64 0)).setCell ⟨w.heap.size, 2, none⟩ (.int .i64 0)).setCell ⟨w.heap.size, 3, none⟩ (.int .i64 0)).setCell ⟨w.heap.size, 4, none⟩ (.int .i64 0)).setCell ⟨w.heap.size, 5, none⟩ (.int .i64 0)).setCell ⟨w.heap.size, 6, none⟩ (.int .u64 0)).setCell ⟨w.heap.size, 7, none⟩ (.int .i64 0)).setCell ⟨w.heap.size, 8, none⟩ (.int .u64 0)) := ⟨_, rfl⟩
   rw [<- hW9] at b9 hB9 hK9 ⊢
   clear hW9
   have b9' : Blk (W9.putObj D (.deferred none)) w.heap.size #[.int .i64 0, .int .i64 0, .int .i64 0, .int .i64 0, .int .i64 0, .int .i64 0, .int .u64 0, .int .i64 0, .int .u64 0] 38 := (World.putObj_heap_other (by omega)).trans b9
   simp only [bodyPostM]
   refine ⟨by simp, .inl ⟨_, _, rfl, run_takeDeferred hK9, ?_⟩⟩
   have k9 := b9'.cell
   have y9 := b9'.lt
   refine ⟨.tuple #[.agg #[.int .i64 0, .int .i64 0, .int .i64 0, .int .i64 0, .int .i64 0, .int .i64 0, .int .u64 0, .int .i64 0, .int .u64 0], .int .i64 9], by simp [results, Tryz.f105, go_sem, k9], hw.out, hB9.trans (belowK_b (w := w) (Nat.le_refl _) W9 D _ _ (by omega) hK9 rfl rfl)⟩
  ·have hl0 : ((L.length : Int) == 0) = false := by simpa using hne
   have hw := Lib.hid (show WholeOut s a b (.returned (.tuple #[.agg (shA L), .int .i64 0])) by unfold WholeOut; rw [hL.out, if_neg hne])
   clear hne
   go_wp2
   have b9 : Blk (((((((((W.setCell ⟨w.heap.size, 0, none⟩ (.int .i64 (L.length : Int))).setCell ⟨w.heap.size, 1, none⟩ (.int .i64 (minL (loL L)))).setCell ⟨w.heap.size, 2, none⟩ (.int .i64 (minL (hiL L)))).setCell ⟨w.heap.size, 3, none⟩ (.int .i64 (maxL (loL L)))).setCell ⟨w.heap.size, 4, none⟩ (.int .i64 (maxL (hiL L)))).setCell ⟨w.heap.size, 5, none⟩ (.int .i64 (hiW (lsum (loL L))))).setCell ⟨w.heap.size, 6, none⟩ (.int .u64 (loW (lsum (loL L))))).setCell ⟨w.heap.size, 7, none⟩ (.int .i64 (hiW (lsum (hiL L))))).setCell ⟨w.heap.size, 8, none⟩ (.int .u64 (loW (lsum (hiL L))))) w.heap.size (shA L) 38 := by unfold shA; exact blkAny2
   have hB9 : Below w.heap.size w (((((((((W.setCell ⟨w.heap.size, 0, none⟩ (.int .i64 (L.length : Int))).setCell ⟨w.heap.size, 1, none⟩ (.int .i64 (minL (loL L)))).setCell ⟨w.heap.size, 2, none⟩ (.int .i64 (minL (hiL L)))).setCell ⟨w.heap.size, 3, none⟩ (.int .i64 (maxL (loL L)))).setCell ⟨w.heap.size, 4, none⟩ (.int .i64 (maxL (hiL L)))).setCell ⟨w.heap.size, 5, none⟩ (.int .i64 (hiW (lsum (loL L))))).setCell ⟨w.heap.size, 6, none⟩ (.int .u64 (loW (lsum (loL L))))).setCell ⟨w.heap.size, 7, none⟩ (.int .i64 (hiW (lsum (hiL L))))).setCell ⟨w.heap.size, 8, none⟩ (.int .u64 (loW (lsum (hiL L))))) := belowAny
   have hK9 : (((((((((W.setCell ⟨w.heap.size, 0, none⟩ (.int .i64 (L.length : Int))).setCell ⟨w.heap.size, 1, none⟩ (.int .i64 (minL (loL L)))).setCell ⟨w.heap.size, 2, none⟩ (.int .i64 (minL (hiL L)))).setCell ⟨w.heap.size, 3, none⟩ (.int .i64 (maxL (loL L)))).setCell ⟨w.heap.size, 4, none⟩ (.int .i64 (maxL (hiL L)))).setCell ⟨w.heap.size, 5, none⟩ (.int .i64 (hiW (lsum (loL L))))).setCell ⟨w.heap.size, 6, none⟩ (.int .u64 (loW (lsum (loL L))))).setCell ⟨w.heap.size, 7, none⟩ (.int .i64 (hiW (lsum (hiL L))))).setCell ⟨w.heap.size, 8, none⟩ (.int .u64 (loW (lsum (hiL L))))).heap[D]? = some (.deferred (some [])) := (keepsAny : KeepsOthers _ (((((((((W.setCell ⟨w.heap.size, 0, none⟩ (.int .i64 (L.length : Int))).setCell ⟨w.heap.size, 1, none⟩ (.int .i64 (minL (loL L)))).setCell ⟨w.heap.size, 2, none⟩ (.int .i64 (minL (hiL L)))).setCell ⟨w.heap.size, 3, none⟩ (.int .i64 (maxL (loL L)))).setCell ⟨w.heap.size, 4, none⟩ (.int .i64 (maxL (hiL L)))).setCell ⟨w.heap.size, 5, none⟩ (.int .i64 (hiW (lsum (loL L))))).setCell ⟨w.heap.size, 6, none⟩ (.int .u64 (loW (lsum (loL L))))).setCell ⟨w.heap.size, 7, none⟩ (.int .i64 (hiW (lsum (hiL L))))).setCell ⟨w.heap.size, 8, none⟩ (.int .u64 (loW (lsum (hiL L)))))).same D _ hK rfl
   obtain ⟨W9, hW9⟩ : ∃ W9, W9 = (((((((((W.setCell ⟨w.heap.size, 0, none⟩ (.int .i64 (L.length : Int))).setCell ⟨w.heap.size, 1, none⟩ (.int .i64 (minL (loL L)))).setCell ⟨w.heap.size, 2, none⟩ (.int .i64 (minL (hiL L)))).setCell ⟨w.heap.size, 3, none⟩ (.int .i64 (maxL (loL L)))).setCell ⟨w.heap.size, 4, none⟩ (.int .i64 (maxL (hiL L)))).setCell ⟨w.heap.size, 5, none⟩ (.int .i64 (hiW (lsum (loL L))))).setCell ⟨w.heap.size, 6, none⟩ (.int .u64 (loW (lsum (loL L))))).setCell ⟨w.heap.size, 7, none⟩ (.int .i64 (hiW (lsum (hiL L))))).setCell ⟨w.heap.size, 8, none⟩ (.int .u64 (loW (lsum (hiL L))))) := ⟨_, rfl⟩
   rw [<- hW9] at b9 hB9 hK9 ⊢
   clear hW9
   have b9' : Blk (W9.putObj D (.deferred none)) w.heap.size (shA L) 38 := (World.putObj_heap_other (by omega)).trans b9
   simp only [bodyPostM]
   refine ⟨by simp, .inl ⟨_, _, rfl, run_takeDeferred hK9, ?_⟩⟩
   unfold shA at b9'
   have k9 := b9'.cell
   have y9 := b9'.lt
   refine ⟨.tuple #[.agg (shA L), .int .i64 0], by unfold shA; simp [results, Tryz.f105, go_sem, k9], hw.out, hB9.trans (belowK_b (w := w) (Nat.le_refl _) W9 D _ _ (by omega) hK9 rfl rfl)⟩
end Go.Proofs.YtidfcoooccblaaaGreat
namespace Go.Proofs.YtidfcoooccblaaaGreat
open Go.RowKit
theorem told_bad (nm : ByteArray) (ep fl la sc : Int) (ps po : Option Addr) (ns cs no co : Nat) (gs ga gb : Nat) (w : World)
  (c1 : ∀ W, Below w.heap.size w W -> Calls Tryz.prog 14 #[.agg #[.string nm, ep, fl, la, sc, .slice ps ns cs, .slice po no co]] W fun e w' => e = .returned (.int .i64 340) /\ Below W.heap.size W w') :
  Calls Tryz.prog 104 #[.agg #[.string nm, ep, fl, la, sc, .slice ps ns cs, .slice po no co], .func (.func 105) #[] #[.pointer (some ⟨gs, 0, none⟩), .pointer (some ⟨ga, 0, none⟩), .pointer (some ⟨gb, 0, none⟩)]] w fun e w' => e = .returned (.tuple #[.agg #[.int .i64 0, .int .i64 0, .int .i64 0, .int .i64 0, .int .i64 0, .int .i64 0, .int .u64 0, .int .i64 0, .int .u64 0], .int .i64 340]) /\ Below w.heap.size w w' := by
 have H_c1 := Lib.hid c1
 clear c1
 go_enter Tryz.func104, Tryz.ntmps104
 have c1 := H_c1.out
 go_wp2_with fail
 refine (c1 _ belowAny).mono ?_
 rintro e w1 ⟨rfl, hb1⟩
 clear c1
 have z2 := hb1.size
 try simp at z2
 have b1 : Blk w1 w.heap.size #[.string nm, ep, fl, la, sc, .slice ps ns cs, .slice po no co] 25 := blkAny2
 have b2 : Blk w1 (w.heap.size + 1) #[.int .i64 0, .int .i64 0, .int .i64 0, .int .i64 0, .int .i64 0, .int .i64 0, .int .u64 0, .int .i64 0, .int .u64 0] 38 := blkAny2
 have hW : Below w.heap.size w w1 := belowAny
 have z3 := b1.lt
 have z4 := b2.lt
 clear hb1
 have k1 := b1.cell
 have f1 := b1.frozen
 have k2 := b2.cell
 have f2 := b2.frozen
 go_wp2
 have y_1 := b1.lt
 have y_2 := b2.lt
 refine bodyPost_ret (v := .tuple #[.agg #[.int .i64 0, .int .i64 0, .int .i64 0, .int .i64 0, .int .i64 0, .int .i64 0, .int .u64 0, .int .i64 0, .int .u64 0], .int .i64 340]) (by simp [results, Tryz.results104, go_sem, k1, f1, k2, f2, y_1, y_2]) rfl ⟨rfl, by exact belowAny⟩
theorem told_ok (nm : ByteArray) (ep fl la sc : Int) (ps po : Option Addr) (ns cs no co : Nat) (gs ga gb : Nat) (n x1 x2 y1 y2 s1 s2 s3 s4 er : Int) (w : World)
  (c1 : ∀ W, Below w.heap.size w W -> Calls Tryz.prog 14 #[.agg #[.string nm, ep, fl, la, sc, .slice ps ns cs, .slice po no co]] W fun e w' => e = .returned (.int .i64 0) /\ Below W.heap.size W w')
  (c2 : ∀ W, Below w.heap.size w W -> Calls Tryz.prog 105 #[.pointer (some ⟨gs, 0, none⟩), .pointer (some ⟨ga, 0, none⟩), .pointer (some ⟨gb, 0, none⟩)] W fun e w' => e = .returned (.tuple #[.agg #[n, x1, x2, y1, y2, s1, .int .u64 s2, s3, .int .u64 s4], er]) /\ Below W.heap.size W w') :
  Calls Tryz.prog 104 #[.agg #[.string nm, ep, fl, la, sc, .slice ps ns cs, .slice po no co], .func (.func 105) #[] #[.pointer (some ⟨gs, 0, none⟩), .pointer (some ⟨ga, 0, none⟩), .pointer (some ⟨gb, 0, none⟩)]] w fun e w' => e = .returned (.tuple #[.agg #[n, x1, x2, y1, y2, s1, .int .u64 s2, s3, .int .u64 s4], er]) /\ Below w.heap.size w w' := by
 have H_c1 := Lib.hid c1
 clear c1
 have H_c2 := Lib.hid c2
 clear c2
 go_enter Tryz.func104, Tryz.ntmps104
 have c1 := H_c1.out
 go_wp2_with fail
 refine (c1 _ belowAny).mono ?_
 rintro e w1 ⟨rfl, hb1⟩
 clear c1
 have z2 := hb1.size
 try simp at z2
 have b1 : Blk w1 w.heap.size #[.string nm, ep, fl, la, sc, .slice ps ns cs, .slice po no co] 25 := blkAny2
 have b2 : Blk w1 (w.heap.size + 1) #[.int .i64 0, .int .i64 0, .int .i64 0, .int .i64 0, .int .i64 0, .int .i64 0, .int .u64 0, .int .i64 0, .int .u64 0] 38 := blkAny2
 have hW : Below w.heap.size w w1 := belowAny
 have z3 := b1.lt
 have z4 := b2.lt
 clear hb1
 have k1 := b1.cell
 have f1 := b1.frozen
 have k2 := b2.cell
 have f2 := b2.frozen
 have c2 := H_c2.out
 go_wp2_with fail
 refine (c2 _ belowAny).mono ?_
 rintro e w5 ⟨rfl, hb5⟩
 clear c2
 have z6 := hb5.size
 try simp at z6
 clear k1 f1 k2 f2
 have b1 : Blk w5 w.heap.size #[.string nm, ep, fl, la, sc, .slice ps ns cs, .slice po no co] 25 := blkAny2
 have b2 : Blk w5 (w.heap.size + 1) #[.int .i64 0, .int .i64 0, .int .i64 0, .int .i64 0, .int .i64 0, .int .i64 0, .int .u64 0, .int .i64 0, .int .u64 0] 38 := blkAny2
 have hW : Below w.heap.size w w5 := belowAny
 have z7 := b1.lt
 have z8 := b2.lt
 clear hb5
 have k1 := b1.cell
 have f1 := b1.frozen
 have k2 := b2.cell
 have f2 := b2.frozen
 go_wp2
 have y_1 := b1.lt
 have y_2 := b2.lt
 refine bodyPost_ret (v := .tuple #[.agg #[n, x1, x2, y1, y2, s1, .int .u64 s2, s3, .int .u64 s4], er]) (by simp [results, Tryz.results104, go_sem, k1, f1, k2, f2, y_1, y_2]) rfl ⟨rfl, by exact belowAny⟩
theorem whole_w (nm : ByteArray) (ep fl la sc : Int) (ps po : Option Addr) (ns cs no co : Nat) (a b : Int) (n x1 x2 y1 y2 s1 s2 s3 s4 er : Int) (w : World)
  (c1 : ∀ W, Below w.heap.size w W -> Blk W w.heap.size #[.string nm, ep, fl, la, sc, .slice ps ns cs, .slice po no co] 25 -> Blk W (w.heap.size + 1) #[a] 2 -> Blk W (w.heap.size + 1 + 1) #[b] 2 -> Calls Tryz.prog 104 #[.agg #[.string nm, ep, fl, la, sc, .slice ps ns cs, .slice po no co], .func (.func 105) #[] #[.pointer (some ⟨w.heap.size, 0, none⟩), .pointer (some ⟨w.heap.size + 1, 0, none⟩), .pointer (some ⟨w.heap.size + 1 + 1, 0, none⟩)]] W fun e w' => e = .returned (.tuple #[.agg #[n, x1, x2, y1, y2, s1, .int .u64 s2, s3, .int .u64 s4], er]) /\ Below W.heap.size W w') :
  Calls Tryz.prog 51 #[.agg #[.string nm, ep, fl, la, sc, .slice ps ns cs, .slice po no co], a, b] w fun e w' => e = .returned (.tuple #[.agg #[n, x1, x2, y1, y2, s1, .int .u64 s2, s3, .int .u64 s4], er]) /\ Below w.heap.size w w' := by
 have H_c1 := Lib.hid c1
 clear c1
 go_enter Tryz.func51, Tryz.ntmps51
 have hmf : ∀ (fn : Fn) (first cap : Array Value) (w : World), (Instr.makeFunc fn first cap).run Tryz.prog w = .ok (.func fn first cap) w := fun _ _ _ _ => rfl
 go_upto_region 1 with (fail)
 refine wp_facts (fun W' => Below w.heap.size w W' /\ Blk W' w.heap.size #[.string nm, ep, fl, la, sc, .slice ps ns cs, .slice po no co] 25 /\ Blk W' (w.heap.size + 1) #[a] 2 /\ Blk W' (w.heap.size + 1 + 1) #[b] 2 /\ Blk W' (w.heap.size + 1 + 1 + 1) #[.int .i64 0, .int .i64 0, .int .i64 0, .int .i64 0, .int .i64 0, .int .i64 0, .int .u64 0, .int .i64 0, .int .u64 0] 38) ⟨by exact belowAny, by exact blkAny2, by exact blkAny2, by exact blkAny2, by exact blkAny2⟩ ?_
 rintro W1 ⟨hW, b1, b2, b3, b4⟩
 have z2 := hW.size
 have z3 := b1.lt
 have z4 := b2.lt
 have z5 := b3.lt
 have z6 := b4.lt
 have k1 := b1.cell
 have f1 := b1.frozen
 have k2 := b2.cell
 have f2 := b2.frozen
 have k3 := b3.cell
 have f3 := b3.frozen
 have k4 := b4.cell
 have f4 := b4.frozen
 have c1 := H_c1.out
 go_wp2_with fail
 refine (c1 W1 hW b1 b2 b3).mono ?_
 rintro e w7 ⟨rfl, hb7⟩
 clear c1
 have z8 := hb7.size
 try simp at z8
 clear k1 f1 k2 f2 k3 f3 k4 f4
 have b1 : Blk w7 w.heap.size #[.string nm, ep, fl, la, sc, .slice ps ns cs, .slice po no co] 25 := blkAny2
 have b2 : Blk w7 (w.heap.size + 1) #[a] 2 := blkAny2
 have b3 : Blk w7 (w.heap.size + 1 + 1) #[b] 2 := blkAny2
 have b4 : Blk w7 (w.heap.size + 1 + 1 + 1) #[.int .i64 0, .int .i64 0, .int .i64 0, .int .i64 0, .int .i64 0, .int .i64 0, .int .u64 0, .int .i64 0, .int .u64 0] 38 := blkAny2
 have hW : Below w.heap.size w w7 := belowAny
 have z9 := b1.lt
 have z10 := b2.lt
 have z11 := b3.lt
 have z12 := b4.lt
 clear hb7
 have k1 := b1.cell
 have f1 := b1.frozen
 have k2 := b2.cell
 have f2 := b2.frozen
 have k3 := b3.cell
 have f3 := b3.frozen
 have k4 := b4.cell
 have f4 := b4.frozen
 go_wp2
 have y_1 := b1.lt
 have y_2 := b2.lt
 have y_3 := b3.lt
 have y_4 := b4.lt
 refine bodyPost_ret (v := .tuple #[.agg #[n, x1, x2, y1, y2, s1, .int .u64 s2, s3, .int .u64 s4], er]) (by simp [results, Tryz.results51, go_sem, k1, f1, k2, f2, k3, f3, k4, f4, y_1, y_2, y_3, y_4]) rfl ⟨rfl, by exact belowAny⟩
theorem anLeast_w (nm : ByteArray) (ep fl la sc : Int) (ps po : Option Addr) (ns cs no co : Nat) (a b : Int) (n x1 x2 y1 y2 s1 s2 s3 s4 er : Int) (w : World)
  (c1 : ∀ W, Below w.heap.size w W -> Calls Tryz.prog 51 #[.agg #[.string nm, ep, fl, la, sc, .slice ps ns cs, .slice po no co], a, b] W fun e w' => e = .returned (.tuple #[.agg #[n, x1, x2, y1, y2, s1, .int .u64 s2, s3, .int .u64 s4], er]) /\ Below W.heap.size W w') :
  Calls Tryz.prog 17 #[.agg #[.string nm, ep, fl, la, sc, .slice ps ns cs, .slice po no co], a, b] w fun e w' => e = .returned (.tuple #[.agg #[x1, x2], er]) /\ Below w.heap.size w w' := by
 have H_c1 := Lib.hid c1
 clear c1
 go_enter Tryz.func17, Tryz.ntmps17
 have c1 := H_c1.out
 go_wp2_with fail
 refine (c1 _ belowAny).mono ?_
 rintro e w1 ⟨rfl, hb1⟩
 clear c1
 have z2 := hb1.size
 try simp at z2
 have b1 : Blk w1 w.heap.size #[.string nm, ep, fl, la, sc, .slice ps ns cs, .slice po no co] 25 := blkAny2
 have b2 : Blk w1 (w.heap.size + 1) #[.int .i64 0, .int .i64 0] 33 := blkAny2
 have hW : Below w.heap.size w w1 := belowAny
 have z3 := b1.lt
 have z4 := b2.lt
 clear hb1
 have k1 := b1.cell
 have f1 := b1.frozen
 have k2 := b2.cell
 have f2 := b2.frozen
 go_wp2
 have y_1 := b1.lt
 have y_2 := b2.lt
 refine bodyPost_ret (v := .tuple #[.agg #[x1, x2], er]) (by simp [results, Tryz.results17, go_sem, k1, f1, k2, f2, y_1, y_2]) rfl ⟨rfl, by exact belowAny⟩
theorem anMost_w (nm : ByteArray) (ep fl la sc : Int) (ps po : Option Addr) (ns cs no co : Nat) (a b : Int) (n x1 x2 y1 y2 s1 s2 s3 s4 er : Int) (w : World)
  (c1 : ∀ W, Below w.heap.size w W -> Calls Tryz.prog 51 #[.agg #[.string nm, ep, fl, la, sc, .slice ps ns cs, .slice po no co], a, b] W fun e w' => e = .returned (.tuple #[.agg #[n, x1, x2, y1, y2, s1, .int .u64 s2, s3, .int .u64 s4], er]) /\ Below W.heap.size W w') :
  Calls Tryz.prog 18 #[.agg #[.string nm, ep, fl, la, sc, .slice ps ns cs, .slice po no co], a, b] w fun e w' => e = .returned (.tuple #[.agg #[y1, y2], er]) /\ Below w.heap.size w w' := by
 have H_c1 := Lib.hid c1
 clear c1
 go_enter Tryz.func18, Tryz.ntmps18
 have c1 := H_c1.out
 go_wp2_with fail
 refine (c1 _ belowAny).mono ?_
 rintro e w1 ⟨rfl, hb1⟩
 clear c1
 have z2 := hb1.size
 try simp at z2
 have b1 : Blk w1 w.heap.size #[.string nm, ep, fl, la, sc, .slice ps ns cs, .slice po no co] 25 := blkAny2
 have b2 : Blk w1 (w.heap.size + 1) #[.int .i64 0, .int .i64 0] 33 := blkAny2
 have hW : Below w.heap.size w w1 := belowAny
 have z3 := b1.lt
 have z4 := b2.lt
 clear hb1
 have k1 := b1.cell
 have f1 := b1.frozen
 have k2 := b2.cell
 have f2 := b2.frozen
 go_wp2
 have y_1 := b1.lt
 have y_2 := b2.lt
 refine bodyPost_ret (v := .tuple #[.agg #[y1, y2], er]) (by simp [results, Tryz.results18, go_sem, k1, f1, k2, f2, y_1, y_2]) rfl ⟨rfl, by exact belowAny⟩
theorem anCount_9 (nm : ByteArray) (ep fl la sc : Int) (ps po : Option Addr) (ns cs no co : Nat) (a b : Int) (n x1 x2 y1 y2 s1 s2 s3 s4 er : Int) (w : World) (her : er = 9)
  (c1 : ∀ W, Below w.heap.size w W -> Calls Tryz.prog 51 #[.agg #[.string nm, ep, fl, la, sc, .slice ps ns cs, .slice po no co], a, b] W fun e w' => e = .returned (.tuple #[.agg #[n, x1, x2, y1, y2, s1, .int .u64 s2, s3, .int .u64 s4], er]) /\ Below W.heap.size W w') :
  Calls Tryz.prog 13 #[.agg #[.string nm, ep, fl, la, sc, .slice ps ns cs, .slice po no co], a, b] w fun e w' => e = .returned (.tuple #[.int .i64 0, .int .i64 0]) /\ Below w.heap.size w w' := by
 subst her
 have H_c1 := Lib.hid c1
 clear c1
 go_enter Tryz.func13, Tryz.ntmps13
 have c1 := H_c1.out
 go_wp2_with fail
 refine (c1 _ belowAny).mono ?_
 rintro e w1 ⟨rfl, hb1⟩
 clear c1
 have z2 := hb1.size
 try simp at z2
 have b1 : Blk w1 w.heap.size #[.string nm, ep, fl, la, sc, .slice ps ns cs, .slice po no co] 25 := blkAny2
 have hW : Below w.heap.size w w1 := belowAny
 have z3 := b1.lt
 clear hb1
 have k1 := b1.cell
 have f1 := b1.frozen
 go_wp2
 have y_1 := b1.lt
 refine bodyPost_ret (v := .tuple #[.int .i64 0, .int .i64 0]) (by simp [results, Tryz.results13, go_sem, k1, f1, y_1]) rfl ⟨rfl, by exact belowAny⟩
theorem anCount_n (nm : ByteArray) (ep fl la sc : Int) (ps po : Option Addr) (ns cs no co : Nat) (a b : Int) (n x1 x2 y1 y2 s1 s2 s3 s4 er : Int) (w : World) (her : er ≠ 9)
  (c1 : ∀ W, Below w.heap.size w W -> Calls Tryz.prog 51 #[.agg #[.string nm, ep, fl, la, sc, .slice ps ns cs, .slice po no co], a, b] W fun e w' => e = .returned (.tuple #[.agg #[n, x1, x2, y1, y2, s1, .int .u64 s2, s3, .int .u64 s4], er]) /\ Below W.heap.size W w') :
  Calls Tryz.prog 13 #[.agg #[.string nm, ep, fl, la, sc, .slice ps ns cs, .slice po no co], a, b] w fun e w' => e = .returned (.tuple #[n, er]) /\ Below w.heap.size w w' := by
 have H_c1 := Lib.hid c1
 clear c1
 go_enter Tryz.func13, Tryz.ntmps13
 have c1 := H_c1.out
 go_wp2_with fail
 refine (c1 _ belowAny).mono ?_
 rintro e w1 ⟨rfl, hb1⟩
 clear c1
 have z2 := hb1.size
 try simp at z2
 have b1 : Blk w1 w.heap.size #[.string nm, ep, fl, la, sc, .slice ps ns cs, .slice po no co] 25 := blkAny2
 have hW : Below w.heap.size w w1 := belowAny
 have z3 := b1.lt
 clear hb1
 have k1 := b1.cell
 have f1 := b1.frozen
 go_wp2
 have y_1 := b1.lt
 refine bodyPost_ret (v := .tuple #[n, er]) (by simp [results, Tryz.results13, go_sem, k1, f1, y_1]) rfl ⟨rfl, by exact belowAny⟩
theorem anSum_0 (nm : ByteArray) (ep fl la sc : Int) (ps po : Option Addr) (ns cs no co : Nat) (a b : Int) (n x1 x2 y1 y2 s1 s2 s3 s4 er : Int) (i1 i2 e1 e2 : Int) (w : World) (her : er ≠ 0)
  (c1 : ∀ W, Below w.heap.size w W -> Calls Tryz.prog 51 #[.agg #[.string nm, ep, fl, la, sc, .slice ps ns cs, .slice po no co], a, b] W fun e w' => e = .returned (.tuple #[.agg #[n, x1, x2, y1, y2, s1, .int .u64 s2, s3, .int .u64 s4], er]) /\ Below W.heap.size W w')
   :
  Calls Tryz.prog 19 #[.agg #[.string nm, ep, fl, la, sc, .slice ps ns cs, .slice po no co], a, b] w fun e w' => e = .returned (.tuple #[.agg #[.int .i64 0, .int .i64 0], er]) /\ Below w.heap.size w w' := by
 have H_c1 := Lib.hid c1
 clear c1
 go_enter Tryz.func19, Tryz.ntmps19
 have c1 := H_c1.out
 go_wp2_with fail
 refine (c1 _ belowAny).mono ?_
 rintro e w1 ⟨rfl, hb1⟩
 clear c1
 have z2 := hb1.size
 try simp at z2
 have b1 : Blk w1 w.heap.size #[.string nm, ep, fl, la, sc, .slice ps ns cs, .slice po no co] 25 := blkAny2
 have b2 : Blk w1 (w.heap.size + 1) #[.int .i64 0, .int .i64 0] 33 := blkAny2
 have hW : Below w.heap.size w w1 := belowAny
 have z3 := b1.lt
 have z4 := b2.lt
 clear hb1
 have k1 := b1.cell
 have f1 := b1.frozen
 have k2 := b2.cell
 have f2 := b2.frozen
 go_wp2
 have y_1 := b1.lt
 have y_2 := b2.lt
 refine bodyPost_ret (v := .tuple #[.agg #[.int .i64 0, .int .i64 0], er]) (by simp [results, Tryz.results19, go_sem, k1, f1, k2, f2, y_1, y_2]) rfl ⟨rfl, by exact belowAny⟩
theorem anSum_1 (nm : ByteArray) (ep fl la sc : Int) (ps po : Option Addr) (ns cs no co : Nat) (a b : Int) (n x1 x2 y1 y2 s1 s2 s3 s4 er : Int) (i1 i2 e1 e2 : Int) (w : World) (her : er = 0)
  (c1 : ∀ W, Below w.heap.size w W -> Calls Tryz.prog 51 #[.agg #[.string nm, ep, fl, la, sc, .slice ps ns cs, .slice po no co], a, b] W fun e w' => e = .returned (.tuple #[.agg #[n, x1, x2, y1, y2, s1, .int .u64 s2, s3, .int .u64 s4], er]) /\ Below W.heap.size W w')
  (c2 : ∀ W, Below w.heap.size w W -> Calls Tryz.prog 60 #[.agg #[s1, .int .u64 s2]] W fun e w' => e = .returned (.tuple #[i1, .int .i64 0]) /\ Below W.heap.size W w')
  (c3 : ∀ W, Below w.heap.size w W -> Calls Tryz.prog 60 #[.agg #[s3, .int .u64 s4]] W fun e w' => e = .returned (.tuple #[i2, .int .i64 0]) /\ Below W.heap.size W w') :
  Calls Tryz.prog 19 #[.agg #[.string nm, ep, fl, la, sc, .slice ps ns cs, .slice po no co], a, b] w fun e w' => e = .returned (.tuple #[.agg #[i1, i2], .int .i64 0]) /\ Below w.heap.size w w' := by
 subst her
 have H_c1 := Lib.hid c1
 clear c1
 have H_c2 := Lib.hid c2
 clear c2
 have H_c3 := Lib.hid c3
 clear c3
 go_enter Tryz.func19, Tryz.ntmps19
 have c1 := H_c1.out
 go_wp2_with fail
 refine (c1 _ belowAny).mono ?_
 rintro e w1 ⟨rfl, hb1⟩
 clear c1
 have z2 := hb1.size
 try simp at z2
 have b1 : Blk w1 w.heap.size #[.string nm, ep, fl, la, sc, .slice ps ns cs, .slice po no co] 25 := blkAny2
 have b2 : Blk w1 (w.heap.size + 1) #[.int .i64 0, .int .i64 0] 33 := blkAny2
 have hW : Below w.heap.size w w1 := belowAny
 have z3 := b1.lt
 have z4 := b2.lt
 clear hb1
 have k1 := b1.cell
 have f1 := b1.frozen
 have k2 := b2.cell
 have f2 := b2.frozen
 have c2 := H_c2.out
 go_wp2_with fail
 refine (c2 _ belowAny).mono ?_
 rintro e w5 ⟨rfl, hb5⟩
 clear c2
 have z6 := hb5.size
 try simp at z6
 clear k1 f1 k2 f2
 have b1 : Blk w5 w.heap.size #[.string nm, ep, fl, la, sc, .slice ps ns cs, .slice po no co] 25 := blkAny2
 have b2 : Blk w5 (w.heap.size + 1) #[.int .i64 0, .int .i64 0] 33 := blkAny2
 have b3 : Blk w5 w1.heap.size #[n, x1, x2, y1, y2, s1, .int .u64 s2, s3, .int .u64 s4] 38 := blkAny2
 have hW : Below w.heap.size w w5 := belowAny
 have z7 := b1.lt
 have z8 := b2.lt
 have z9 := b3.lt
 clear hb5
 have k1 := b1.cell
 have f1 := b1.frozen
 have k2 := b2.cell
 have f2 := b2.frozen
 have k3 := b3.cell
 have f3 := b3.frozen
 have c3 := H_c3.out
 go_wp2_with fail
 refine (c3 _ belowAny).mono ?_
 rintro e w10 ⟨rfl, hb10⟩
 clear c3
 have z11 := hb10.size
 try simp at z11
 clear k1 f1 k2 f2 k3 f3
 have b1 : Blk w10 w.heap.size #[.string nm, ep, fl, la, sc, .slice ps ns cs, .slice po no co] 25 := blkAny2
 have b2 : Blk w10 (w.heap.size + 1) #[.int .i64 0, .int .i64 0] 33 := blkAny2
 have b3 : Blk w10 w1.heap.size #[n, x1, x2, y1, y2, s1, .int .u64 s2, s3, .int .u64 s4] 38 := blkAny2
 have hW : Below w.heap.size w w10 := belowAny
 have z12 := b1.lt
 have z13 := b2.lt
 have z14 := b3.lt
 clear hb10
 have k1 := b1.cell
 have f1 := b1.frozen
 have k2 := b2.cell
 have f2 := b2.frozen
 have k3 := b3.cell
 have f3 := b3.frozen
 go_wp2
 have y_1 := b1.lt
 have y_2 := b2.lt
 have y_3 := b3.lt
 refine bodyPost_ret (v := .tuple #[.agg #[i1, i2], .int .i64 0]) (by simp [results, Tryz.results19, go_sem, k1, f1, k2, f2, k3, f3, y_1, y_2, y_3]) rfl ⟨rfl, by exact belowAny⟩
theorem anSum_2 (nm : ByteArray) (ep fl la sc : Int) (ps po : Option Addr) (ns cs no co : Nat) (a b : Int) (n x1 x2 y1 y2 s1 s2 s3 s4 er : Int) (i1 i2 e1 e2 : Int) (w : World) (her : er = 0) (h1 : e1 ≠ 0)
  (c1 : ∀ W, Below w.heap.size w W -> Calls Tryz.prog 51 #[.agg #[.string nm, ep, fl, la, sc, .slice ps ns cs, .slice po no co], a, b] W fun e w' => e = .returned (.tuple #[.agg #[n, x1, x2, y1, y2, s1, .int .u64 s2, s3, .int .u64 s4], er]) /\ Below W.heap.size W w')
  (c2 : ∀ W, Below w.heap.size w W -> Calls Tryz.prog 60 #[.agg #[s1, .int .u64 s2]] W fun e w' => e = .returned (.tuple #[i1, e1]) /\ Below W.heap.size W w')
  (c3 : ∀ W, Below w.heap.size w W -> Calls Tryz.prog 60 #[.agg #[s3, .int .u64 s4]] W fun e w' => e = .returned (.tuple #[i2, e2]) /\ Below W.heap.size W w') :
  Calls Tryz.prog 19 #[.agg #[.string nm, ep, fl, la, sc, .slice ps ns cs, .slice po no co], a, b] w fun e w' => e = .returned (.tuple #[.agg #[.int .i64 0, .int .i64 0], .int .i64 5]) /\ Below w.heap.size w w' := by
 subst her
 have H_c1 := Lib.hid c1
 clear c1
 have H_c2 := Lib.hid c2
 clear c2
 have H_c3 := Lib.hid c3
 clear c3
 go_enter Tryz.func19, Tryz.ntmps19
 have c1 := H_c1.out
 go_wp2_with fail
 refine (c1 _ belowAny).mono ?_
 rintro e w1 ⟨rfl, hb1⟩
 clear c1
 have z2 := hb1.size
 try simp at z2
 have b1 : Blk w1 w.heap.size #[.string nm, ep, fl, la, sc, .slice ps ns cs, .slice po no co] 25 := blkAny2
 have b2 : Blk w1 (w.heap.size + 1) #[.int .i64 0, .int .i64 0] 33 := blkAny2
 have hW : Below w.heap.size w w1 := belowAny
 have z3 := b1.lt
 have z4 := b2.lt
 clear hb1
 have k1 := b1.cell
 have f1 := b1.frozen
 have k2 := b2.cell
 have f2 := b2.frozen
 have c2 := H_c2.out
 go_wp2_with fail
 refine (c2 _ belowAny).mono ?_
 rintro e w5 ⟨rfl, hb5⟩
 clear c2
 have z6 := hb5.size
 try simp at z6
 clear k1 f1 k2 f2
 have b1 : Blk w5 w.heap.size #[.string nm, ep, fl, la, sc, .slice ps ns cs, .slice po no co] 25 := blkAny2
 have b2 : Blk w5 (w.heap.size + 1) #[.int .i64 0, .int .i64 0] 33 := blkAny2
 have b3 : Blk w5 w1.heap.size #[n, x1, x2, y1, y2, s1, .int .u64 s2, s3, .int .u64 s4] 38 := blkAny2
 have hW : Below w.heap.size w w5 := belowAny
 have z7 := b1.lt
 have z8 := b2.lt
 have z9 := b3.lt
 clear hb5
 have k1 := b1.cell
 have f1 := b1.frozen
 have k2 := b2.cell
 have f2 := b2.frozen
 have k3 := b3.cell
 have f3 := b3.frozen
 have c3 := H_c3.out
 go_wp2_with fail
 refine (c3 _ belowAny).mono ?_
 rintro e w10 ⟨rfl, hb10⟩
 clear c3
 have z11 := hb10.size
 try simp at z11
 clear k1 f1 k2 f2 k3 f3
 have b1 : Blk w10 w.heap.size #[.string nm, ep, fl, la, sc, .slice ps ns cs, .slice po no co] 25 := blkAny2
 have b2 : Blk w10 (w.heap.size + 1) #[.int .i64 0, .int .i64 0] 33 := blkAny2
 have b3 : Blk w10 w1.heap.size #[n, x1, x2, y1, y2, s1, .int .u64 s2, s3, .int .u64 s4] 38 := blkAny2
 have hW : Below w.heap.size w w10 := belowAny
 have z12 := b1.lt
 have z13 := b2.lt
 have z14 := b3.lt
 clear hb10
 have k1 := b1.cell
 have f1 := b1.frozen
 have k2 := b2.cell
 have f2 := b2.frozen
 have k3 := b3.cell
 have f3 := b3.frozen
 go_wp2
 have y_1 := b1.lt
 have y_2 := b2.lt
 have y_3 := b3.lt
 refine bodyPost_ret (v := .tuple #[.agg #[.int .i64 0, .int .i64 0], .int .i64 5]) (by simp [results, Tryz.results19, go_sem, k1, f1, k2, f2, k3, f3, y_1, y_2, y_3]) rfl ⟨rfl, by exact belowAny⟩
theorem anSum_3 (nm : ByteArray) (ep fl la sc : Int) (ps po : Option Addr) (ns cs no co : Nat) (a b : Int) (n x1 x2 y1 y2 s1 s2 s3 s4 er : Int) (i1 i2 e1 e2 : Int) (w : World) (her : er = 0) (h2 : e2 ≠ 0)
  (c1 : ∀ W, Below w.heap.size w W -> Calls Tryz.prog 51 #[.agg #[.string nm, ep, fl, la, sc, .slice ps ns cs, .slice po no co], a, b] W fun e w' => e = .returned (.tuple #[.agg #[n, x1, x2, y1, y2, s1, .int .u64 s2, s3, .int .u64 s4], er]) /\ Below W.heap.size W w')
  (c2 : ∀ W, Below w.heap.size w W -> Calls Tryz.prog 60 #[.agg #[s1, .int .u64 s2]] W fun e w' => e = .returned (.tuple #[i1, .int .i64 0]) /\ Below W.heap.size W w')
  (c3 : ∀ W, Below w.heap.size w W -> Calls Tryz.prog 60 #[.agg #[s3, .int .u64 s4]] W fun e w' => e = .returned (.tuple #[i2, e2]) /\ Below W.heap.size W w') :
  Calls Tryz.prog 19 #[.agg #[.string nm, ep, fl, la, sc, .slice ps ns cs, .slice po no co], a, b] w fun e w' => e = .returned (.tuple #[.agg #[.int .i64 0, .int .i64 0], .int .i64 5]) /\ Below w.heap.size w w' := by
 subst her
 have H_c1 := Lib.hid c1
 clear c1
 have H_c2 := Lib.hid c2
 clear c2
 have H_c3 := Lib.hid c3
 clear c3
 go_enter Tryz.func19, Tryz.ntmps19
 have c1 := H_c1.out
 go_wp2_with fail
 refine (c1 _ belowAny).mono ?_
 rintro e w1 ⟨rfl, hb1⟩
 clear c1
 have z2 := hb1.size
 try simp at z2
 have b1 : Blk w1 w.heap.size #[.string nm, ep, fl, la, sc, .slice ps ns cs, .slice po no co] 25 := blkAny2
 have b2 : Blk w1 (w.heap.size + 1) #[.int .i64 0, .int .i64 0] 33 := blkAny2
 have hW : Below w.heap.size w w1 := belowAny
 have z3 := b1.lt
 have z4 := b2.lt
 clear hb1
 have k1 := b1.cell
 have f1 := b1.frozen
 have k2 := b2.cell
 have f2 := b2.frozen
 have c2 := H_c2.out
 go_wp2_with fail
 refine (c2 _ belowAny).mono ?_
 rintro e w5 ⟨rfl, hb5⟩
 clear c2
 have z6 := hb5.size
 try simp at z6
 clear k1 f1 k2 f2
 have b1 : Blk w5 w.heap.size #[.string nm, ep, fl, la, sc, .slice ps ns cs, .slice po no co] 25 := blkAny2
 have b2 : Blk w5 (w.heap.size + 1) #[.int .i64 0, .int .i64 0] 33 := blkAny2
 have b3 : Blk w5 w1.heap.size #[n, x1, x2, y1, y2, s1, .int .u64 s2, s3, .int .u64 s4] 38 := blkAny2
 have hW : Below w.heap.size w w5 := belowAny
 have z7 := b1.lt
 have z8 := b2.lt
 have z9 := b3.lt
 clear hb5
 have k1 := b1.cell
 have f1 := b1.frozen
 have k2 := b2.cell
 have f2 := b2.frozen
 have k3 := b3.cell
 have f3 := b3.frozen
 have c3 := H_c3.out
 go_wp2_with fail
 refine (c3 _ belowAny).mono ?_
 rintro e w10 ⟨rfl, hb10⟩
 clear c3
 have z11 := hb10.size
 try simp at z11
 clear k1 f1 k2 f2 k3 f3
 have b1 : Blk w10 w.heap.size #[.string nm, ep, fl, la, sc, .slice ps ns cs, .slice po no co] 25 := blkAny2
 have b2 : Blk w10 (w.heap.size + 1) #[.int .i64 0, .int .i64 0] 33 := blkAny2
 have b3 : Blk w10 w1.heap.size #[n, x1, x2, y1, y2, s1, .int .u64 s2, s3, .int .u64 s4] 38 := blkAny2
 have hW : Below w.heap.size w w10 := belowAny
 have z12 := b1.lt
 have z13 := b2.lt
 have z14 := b3.lt
 clear hb10
 have k1 := b1.cell
 have f1 := b1.frozen
 have k2 := b2.cell
 have f2 := b2.frozen
 have k3 := b3.cell
 have f3 := b3.frozen
 go_wp2
 have y_1 := b1.lt
 have y_2 := b2.lt
 have y_3 := b3.lt
 refine bodyPost_ret (v := .tuple #[.agg #[.int .i64 0, .int .i64 0], .int .i64 5]) (by simp [results, Tryz.results19, go_sem, k1, f1, k2, f2, k3, f3, y_1, y_2, y_3]) rfl ⟨rfl, by exact belowAny⟩
theorem anMean_0 (nm : ByteArray) (ep fl la sc : Int) (ps po : Option Addr) (ns cs no co : Nat) (a b : Int) (n x1 x2 y1 y2 s1 s2 s3 s4 er : Int) (w : World) (her : er ≠ 0)
  (c1 : ∀ W, Below w.heap.size w W -> Calls Tryz.prog 51 #[.agg #[.string nm, ep, fl, la, sc, .slice ps ns cs, .slice po no co], a, b] W fun e w' => e = .returned (.tuple #[.agg #[n, x1, x2, y1, y2, s1, .int .u64 s2, s3, .int .u64 s4], er]) /\ Below W.heap.size W w') :
  Calls Tryz.prog 20 #[.agg #[.string nm, ep, fl, la, sc, .slice ps ns cs, .slice po no co], a, b] w fun e w' => e = .returned (.tuple #[.agg #[.int .i64 0, .int .i64 0, .int .i64 0, .int .i64 0, .int .i64 0], er]) /\ Below w.heap.size w w' := by
 have H_c1 := Lib.hid c1
 clear c1
 go_enter Tryz.func20, Tryz.ntmps20
 have c1 := H_c1.out
 go_wp2_with fail
 refine (c1 _ belowAny).mono ?_
 rintro e w1 ⟨rfl, hb1⟩
 clear c1
 have z2 := hb1.size
 try simp at z2
 have b1 : Blk w1 w.heap.size #[.string nm, ep, fl, la, sc, .slice ps ns cs, .slice po no co] 25 := blkAny2
 have b2 : Blk w1 (w.heap.size + 1) #[.int .i64 0, .int .i64 0, .int .i64 0, .int .i64 0, .int .i64 0] 49 := blkAny2
 have hW : Below w.heap.size w w1 := belowAny
 have z3 := b1.lt
 have z4 := b2.lt
 clear hb1
 have k1 := b1.cell
 have f1 := b1.frozen
 have k2 := b2.cell
 have f2 := b2.frozen
 go_wp2
 have y_1 := b1.lt
 have y_2 := b2.lt
 refine bodyPost_ret (v := .tuple #[.agg #[.int .i64 0, .int .i64 0, .int .i64 0, .int .i64 0, .int .i64 0], er]) (by simp [results, Tryz.results20, go_sem, k1, f1, k2, f2, y_1, y_2]) rfl ⟨rfl, by exact belowAny⟩
def meRel (w : World) (n x1 x2 y1 y2 s1 s2 s3 s4 m1 r1 m2 r2 : Int) (g : Nat) (a' : Act) (W : World) : Prop :=
 Below w.heap.size w W /\ Blk W (w.heap.size + 1) #[.int .i64 0, .int .i64 0, .int .i64 0, .int .i64 0, .int .i64 0] 49 /\ Blk W g #[n, x1, x2, y1, y2, s1, .int .u64 s2, s3, .int .u64 s4] 38 /\ ∃ i : Nat, Blk W (g + 1) #[.int .i64 (plS1 i m1), .int .i64 (plS1 i r1), .int .i64 (plS2 i m2), .int .i64 (plS2 i r2)] 119 /\ (∃ u : Nat -> Value, a' = { tmps := #[u 0, u 1, u 2, u 3, u 4, u 5, .pointer (some ⟨(w.heap.size + 1), 0, none⟩), u 7, .pointer (some ⟨g, 0, none⟩), .int .i64 0, .pointer (some ⟨(g + 1), 0, none⟩), u 11, u 12, u 13, u 14, u 15, u 16, u 17, u 18, u 19, u 20, u 21, u 22, u 23, u 24, u 25, u 26, u 27, u 28, u 29, u 30, .agg #[s1, .int .u64 s2, s3, .int .u64 s4], .int .i64 (i : Int), u 33, u 34, u 35, u 36, u 37, u 38, u 39, u 40, u 41, u 42, u 43, u 44, u 45, u 46, u 47, u 48, u 49, u 50, u 51, u 52, u 53, u 54, u 55, u 56, u 57, u 58, u 59, u 60, u 61, u 62, u 63], defers := [] }) /\ i <= 2
theorem anMean_1 (nm : ByteArray) (ep fl la sc : Int) (ps po : Option Addr) (ns cs no co : Nat) (a b : Int) (n x1 x2 y1 y2 s1 s2 s3 s4 q1 q2 q3 q4 r1 r2 m1 m2 e1 e2 : Int) (w : World)
  (c1 : ∀ W, Below w.heap.size w W -> Calls Tryz.prog 51 #[.agg #[.string nm, ep, fl, la, sc, .slice ps ns cs, .slice po no co], a, b] W fun e w' => e = .returned (.tuple #[.agg #[n, x1, x2, y1, y2, s1, .int .u64 s2, s3, .int .u64 s4], .int .i64 0]) /\ Below W.heap.size W w')
  (c2 : ∀ W, Calls Tryz.prog 61 #[.agg #[s1, .int .u64 s2], n] W fun e w' => e = .returned (.tuple #[.agg #[q1, .int .u64 q2], r1, .int .i64 0]) /\ Below W.heap.size W w')
  (c3 : ∀ W, Calls Tryz.prog 61 #[.agg #[s3, .int .u64 s4], n] W fun e w' => e = .returned (.tuple #[.agg #[q3, .int .u64 q4], r2, .int .i64 0]) /\ Below W.heap.size W w')
  (c4 : ∀ W, Calls Tryz.prog 60 #[.agg #[q1, .int .u64 q2]] W fun e w' => e = .returned (.tuple #[m1, e1]) /\ Below W.heap.size W w')
  (c5 : ∀ W, Calls Tryz.prog 60 #[.agg #[q3, .int .u64 q4]] W fun e w' => e = .returned (.tuple #[m2, e2]) /\ Below W.heap.size W w') :
  Calls Tryz.prog 20 #[.agg #[.string nm, ep, fl, la, sc, .slice ps ns cs, .slice po no co], a, b] w fun e w' => e = .returned (.tuple #[.agg #[n, m1, r1, m2, r2], .int .i64 0]) /\ Below w.heap.size w w' := by
 replace c2 := Lib.hid c2
 replace c3 := Lib.hid c3
 replace c4 := Lib.hid c4
 replace c5 := Lib.hid c5
 have H_c1 := Lib.hid c1
 clear c1
 go_enter Tryz.func20, Tryz.ntmps20
 have c1 := H_c1.out
 go_wp2_with fail
 refine (c1 _ belowAny).mono ?_
 rintro e w1 ⟨rfl, hb1⟩
 clear c1
 have z2 := hb1.size
 try simp at z2
 have b1 : Blk w1 w.heap.size #[.string nm, ep, fl, la, sc, .slice ps ns cs, .slice po no co] 25 := blkAny2
 have b2 : Blk w1 (w.heap.size + 1) #[.int .i64 0, .int .i64 0, .int .i64 0, .int .i64 0, .int .i64 0] 49 := blkAny2
 have hW : Below w.heap.size w w1 := belowAny
 have z3 := b1.lt
 have z4 := b2.lt
 clear hb1
 have k1 := b1.cell
 have f1 := b1.frozen
 have k2 := b2.cell
 have f2 := b2.frozen
 clear H_c1
 go_upto_region 5 with (fail)
 clear k1 f1 k2 f2
 refine wp_facts (fun W' => Below w.heap.size w W' /\ Blk W' (w.heap.size + 1) #[.int .i64 0, .int .i64 0, .int .i64 0, .int .i64 0, .int .i64 0] 49 /\ Blk W' w1.heap.size #[n, x1, x2, y1, y2, s1, .int .u64 s2, s3, .int .u64 s4] 38 /\ Blk W' (w1.heap.size + 1) #[.int .i64 0, .int .i64 0, .int .i64 0, .int .i64 0] 119) ⟨by exact belowAny, by exact blkAny2, by exact blkAny2, by exact blkAny2⟩ ?_
 clear b1 b2 hW
 rintro W5 ⟨hW, b1, b2, b3⟩
 have z6 := hW.size
 have z7 := b1.lt
 have z8 := b2.lt
 have z9 := b3.lt
 have k1 := b1.cell
 have f1 := b1.frozen
 have k2 := b2.cell
 have f2 := b2.frozen
 have k3 := b3.cell
 have f3 := b3.frozen
 go_wp2
 have hg2 : w.heap.size + 1 < w1.heap.size := by omega
 obtain ⟨g, hg⟩ : ∃ g, w1.heap.size = g := ⟨_, rfl⟩
 rw [hg] at hg2 b2 b3 ⊢
 refine wp_loop (meRel w n x1 x2 y1 y2 s1 s2 s3 s4 m1 r1 m2 r2 g) (fun a' _ => 2 - (intAt (a'.tmps.getD 32 undef)).toNat) ?_ ?_
 ·unfold meRel
  exact ⟨hW, b1, b2, 0, b3, frame_ex rfl, by omega⟩
 clear hg hW b1 b2 b3 k1 f1 k2 f2 k3 f3
 rintro a' W ⟨hW0, b1, b2, i, b3, ⟨u, rfl⟩, hi'⟩
 have hz := hW0.size
 have zb1 := b1.lt
 have zb2 := b2.lt
 have zb3 := b3.lt
 have hi3 : i = 0 ∨ i = 1 ∨ i = 2 := by omega
 rcases hi3 with rfl | rfl | rfl
 ·replace b3 : Blk W (g + 1) #[.int .i64 0, .int .i64 0, .int .i64 0, .int .i64 0] 119 := by simpa [plS1, plS2] using b3
  have k1 := b1.cell
  have f1 := b1.frozen
  have k2 := b2.cell
  have f2 := b2.frozen
  have k3 := b3.cell
  have f3 := b3.frozen
  have hix : ∀ W : World, (Instr.index 120 (.agg #[s1, .int .u64 s2, s3, .int .u64 s4]) (.int .i64 0)).run Tryz.prog W = .ok (.agg #[s1, .int .u64 s2]) W := fun _ => rfl
  go_wp2_with fail
  refine (c2.out _).mono ?_
  rintro e w21 ⟨rfl, hb21⟩
  have z22 := hb21.size
  try simp at z22
  clear k1 f1 k2 f2 k3 f3
  have b1 : Blk w21 (w.heap.size + 1) #[.int .i64 0, .int .i64 0, .int .i64 0, .int .i64 0, .int .i64 0] 49 := blkAny2
  have b2 : Blk w21 g #[n, x1, x2, y1, y2, s1, .int .u64 s2, s3, .int .u64 s4] 38 := blkAny2
  have b3 : Blk w21 (g + 1) #[.int .i64 0, .int .i64 0, .int .i64 0, .int .i64 0] 119 := blkAny2
  have b4 : Blk w21 W.heap.size #[s1, .int .u64 s2] 36 := blkAny2
  have hW : Below W.heap.size W w21 := belowAny
  have z23 := b1.lt
  have z24 := b2.lt
  have z25 := b3.lt
  have z26 := b4.lt
  clear hb21
  have k1 := b1.cell
  have f1 := b1.frozen
  have k2 := b2.cell
  have f2 := b2.frozen
  have k3 := b3.cell
  have f3 := b3.frozen
  have k4 := b4.cell
  have f4 := b4.frozen
  go_wp2_with fail
  refine (c4.out _).mono ?_
  rintro e w27 ⟨rfl, hb27⟩
  have z28 := hb27.size
  try simp at z28
  clear k1 f1 k2 f2 k3 f3 k4 f4
  have b1 : Blk w27 (w.heap.size + 1) #[.int .i64 0, .int .i64 0, .int .i64 0, .int .i64 0, .int .i64 0] 49 := blkAny2
  have b2 : Blk w27 g #[n, x1, x2, y1, y2, s1, .int .u64 s2, s3, .int .u64 s4] 38 := blkAny2
  have b3 : Blk w27 (g + 1) #[.int .i64 0, .int .i64 0, .int .i64 0, .int .i64 0] 119 := blkAny2
  have b4 : Blk w27 W.heap.size #[s1, .int .u64 s2] 36 := blkAny2
  have b5 : Blk w27 w21.heap.size #[q1, .int .u64 q2] 36 := blkAny2
  have hW : Below W.heap.size W w27 := belowAny
  have z29 := b1.lt
  have z30 := b2.lt
  have z31 := b3.lt
  have z32 := b4.lt
  have z33 := b5.lt
  clear hb27
  have k1 := b1.cell
  have f1 := b1.frozen
  have k2 := b2.cell
  have f2 := b2.frozen
  have k3 := b3.cell
  have f3 := b3.frozen
  have k4 := b4.cell
  have f4 := b4.frozen
  have k5 := b5.cell
  have f5 := b5.frozen
  have hW9 := hW0.trans (hW.mono hz)
  clear hW
  go_wp2
  refine ⟨?_, by simp [intAt]⟩
  unfold meRel
  exact ⟨belowAny, blkAny2, blkAny2, 1, (blkAny2 : Blk _ (g + 1) #[m1, r1, .int .i64 0, .int .i64 0] 119), frame_ex rfl, by omega⟩
 ·replace b3 : Blk W (g + 1) #[m1, r1, .int .i64 0, .int .i64 0] 119 := by simpa [plS1, plS2] using b3
  have k1 := b1.cell
  have f1 := b1.frozen
  have k2 := b2.cell
  have f2 := b2.frozen
  have k3 := b3.cell
  have f3 := b3.frozen
  have hix : ∀ W : World, (Instr.index 120 (.agg #[s1, .int .u64 s2, s3, .int .u64 s4]) (.int .i64 1)).run Tryz.prog W = .ok (.agg #[s3, .int .u64 s4]) W := fun _ => rfl
  go_wp2_with fail
  refine (c3.out _).mono ?_
  rintro e w21 ⟨rfl, hb21⟩
  have z22 := hb21.size
  try simp at z22
  clear k1 f1 k2 f2 k3 f3
  have b1 : Blk w21 (w.heap.size + 1) #[.int .i64 0, .int .i64 0, .int .i64 0, .int .i64 0, .int .i64 0] 49 := blkAny2
  have b2 : Blk w21 g #[n, x1, x2, y1, y2, s1, .int .u64 s2, s3, .int .u64 s4] 38 := blkAny2
  have b3 : Blk w21 (g + 1) #[m1, r1, .int .i64 0, .int .i64 0] 119 := blkAny2
  have b4 : Blk w21 W.heap.size #[s3, .int .u64 s4] 36 := blkAny2
  have hW : Below W.heap.size W w21 := belowAny
  have z23 := b1.lt
  have z24 := b2.lt
  have z25 := b3.lt
  have z26 := b4.lt
  clear hb21
  have k1 := b1.cell
  have f1 := b1.frozen
  have k2 := b2.cell
  have f2 := b2.frozen
  have k3 := b3.cell
  have f3 := b3.frozen
  have k4 := b4.cell
  have f4 := b4.frozen
  go_wp2_with fail
  refine (c5.out _).mono ?_
  rintro e w27 ⟨rfl, hb27⟩
  have z28 := hb27.size
  try simp at z28
  clear k1 f1 k2 f2 k3 f3 k4 f4
  have b1 : Blk w27 (w.heap.size + 1) #[.int .i64 0, .int .i64 0, .int .i64 0, .int .i64 0, .int .i64 0] 49 := blkAny2
  have b2 : Blk w27 g #[n, x1, x2, y1, y2, s1, .int .u64 s2, s3, .int .u64 s4] 38 := blkAny2
  have b3 : Blk w27 (g + 1) #[m1, r1, .int .i64 0, .int .i64 0] 119 := blkAny2
  have b4 : Blk w27 W.heap.size #[s3, .int .u64 s4] 36 := blkAny2
  have b5 : Blk w27 w21.heap.size #[q3, .int .u64 q4] 36 := blkAny2
  have hW : Below W.heap.size W w27 := belowAny
  have z29 := b1.lt
  have z30 := b2.lt
  have z31 := b3.lt
  have z32 := b4.lt
  have z33 := b5.lt
  clear hb27
  have k1 := b1.cell
  have f1 := b1.frozen
  have k2 := b2.cell
  have f2 := b2.frozen
  have k3 := b3.cell
  have f3 := b3.frozen
  have k4 := b4.cell
  have f4 := b4.frozen
  have k5 := b5.cell
  have f5 := b5.frozen
  have hW9 := hW0.trans (hW.mono hz)
  clear hW
  go_wp2
  refine ⟨?_, by simp [intAt]⟩
  unfold meRel
  exact ⟨belowAny, blkAny2, blkAny2, 2, (blkAny2 : Blk _ (g + 1) #[m1, r1, m2, r2] 119), frame_ex rfl, by omega⟩
 ·replace b3 : Blk W (g + 1) #[m1, r1, m2, r2] 119 := by simpa [plS1, plS2] using b3
  have k1 := b1.cell
  have f1 := b1.frozen
  have k2 := b2.cell
  have f2 := b2.frozen
  have k3 := b3.cell
  have f3 := b3.frozen
  have hW := hW0
  go_wp2
  have y_1 := b1.lt
  have y_2 := b2.lt
  have y_3 := b3.lt
  refine bodyPost_ret (v := .tuple #[.agg #[n, m1, r1, m2, r2], .int .i64 0]) (by simp [results, Tryz.results20, go_sem, k1, f1, k2, f2, k3, f3, y_1, y_2, y_3]) rfl ⟨rfl, by exact belowAny⟩
theorem chk_segs {s : SerT} (h : checkB s = true) : ∀ x, x ∈ s.segs -> segB x = true := by
 unfold checkB at h
 simp only [Bool.and_eq_true] at h
 exact rowB_seg h.2.1
theorem chk_opn {s : SerT} (h : checkB s = true) : ∀ x, x ∈ s.opn -> -2305844108725321728 <= x.2 /\ x.2 <= 2305844108725321728 := by
 intro x hx
 unfold checkB at h
 simp only [Bool.and_eq_true] at h
 have := List.all_eq_true.1 h.2.2.2.2.1 x hx
 unfold inOpnB btw at this
 simp only [Bool.and_eq_true, decide_eq_true_eq] at this
 omega
theorem told_nil (s : SerT) (a b : Int) : wholeL s a b = [] ↔ toldL s a b = [] := by unfold wholeL; simp
theorem wholeE_nil {s : SerT} {a b : Int} (h : wholeE s a b ≠ 0) : wholeV s a b = [] := by
 unfold wholeE at h
 unfold wholeV
 split
 ·rename_i hc
  rw [if_pos hc] at h
  split at h
  ·rename_i he; exact (told_nil s a b).2 he
  ·exact absurd rfl h
 ·rfl
def TellOk (l : List (Int × Int)) : Prop := (∀ x, x ∈ l -> -2305844108725321728 <= x.1 /\ x.1 <= 2305844108725321728 /\ 0 <= x.2 /\ x.2 <= 1099511627776) /\ l.length <= 100000
theorem tell_ok (s : SerT) (h1 : s.segs.length <= 100) (h2 : s.opn.length <= 100) (a b : Int) : TellOk (wholeV s a b) := by
 unfold wholeV
 split
 ·rename_i hc
  have hp := pcs_ok (chk_segs hc) (chk_opn hc) a b
  have hf := pcs_few h1 h2 a b
  unfold wholeL
  rw [<- pcs_told]
  refine ⟨fun y hy => by obtain ⟨g, hg, hyg⟩ := List.mem_flatMap.1 hy; exact pairs_mem (hp g hg) y hyg, ?_⟩
  have := flat_few pairs 256 (pcsL s a b) fun y hy => by unfold pairs; rw [List.length_map]; exact (hp y hy).2.1
  omega
 ·exact ⟨fun x hx => (by cases hx), by simp⟩
theorem tell_sums {l : List (Int × Int)} (h : TellOk l) : (-(2305847407260205056 * l.length) <= lsum (loL l) /\ lsum (loL l) <= 2305847407260205056 * l.length) /\ (-(2305847407260205056 * l.length) <= lsum (hiL l) /\ lsum (hiL l) <= 2305847407260205056 * l.length) /\ l.length <= 100000 := by
 have hls := lsum_bd (l := loL l) (B := 2305847407260205056) (fun v hv => by
  unfold loL at hv
  obtain ⟨x, hx, rfl⟩ := List.mem_map.1 hv
  have := h.1 x hx
  omega)
 have hhs := lsum_bd (l := hiL l) (B := 2305847407260205056) (fun v hv => by
  unfold hiL at hv
  obtain ⟨x, hx, rfl⟩ := List.mem_map.1 hv
  have := h.1 x hx
  omega)
 have el : (loL l).length = l.length := by unfold loL; simp
 have eh : (hiL l).length = l.length := by unfold hiL; simp
 rw [el] at hls
 rw [eh] at hhs
 exact ⟨hls, hhs, h.2⟩
def sumV (l : List (Int × Int)) : Array Value := if inI (lsum (loL l)) && inI (lsum (hiL l)) then #[.int .i64 (lsum (loL l)), .int .i64 (lsum (hiL l))] else #[.int .i64 0, .int .i64 0]
def sumE (l : List (Int × Int)) (e : Int) : Int := if e = 0 then (if inI (lsum (loL l)) && inI (lsum (hiL l)) then 0 else 5) else e
def meanV (l : List (Int × Int)) : Array Value := #[.int .i64 l.length, .int .i64 (lsum (loL l) / l.length), .int .i64 (lsum (loL l) % l.length), .int .i64 (lsum (hiL l) / l.length), .int .i64 (lsum (hiL l) % l.length)]
def minA (l : List (Int × Int)) : Array Value := #[.int .i64 (minL (loL l)), .int .i64 (minL (hiL l))]
def maxA (l : List (Int × Int)) : Array Value := #[.int .i64 (maxL (loL l)), .int .i64 (maxL (hiL l))]
theorem c_anwhole (s : SerT) (ps po : Option Addr) (cs co : Nat) (a b : Int) (w : World) (hin : SerIn w s ps po) (hb : -9223372036854775808 <= b) :
  Calls Tryz.prog 51 #[.agg (serA s ps cs po co), .int .i64 a, .int .i64 b] w fun e w' => e = .returned (.tuple #[.agg (shA (wholeV s a b)), .int .i64 (wholeE s a b)]) /\ Below w.heap.size w w' := by
 unfold serA shA
 refine whole_w _ _ _ _ _ _ _ _ _ _ _ a b _ _ _ _ _ _ _ _ _ _ w fun W hW k1 k2 k3 => ?_
 have hin' := hin.below hW
 have ck := c_srCheck s ps po cs co
 unfold serA checkE at ck
 unfold wholeE wholeV
 cases hc : checkB s with
 | false =>
  rw [hc] at ck
  have key := told_bad s.name s.eps s.floor s.last s.scale ps po s.segs.length cs s.opn.length co w.heap.size (w.heap.size + 1) (w.heap.size + 1 + 1) W (fun W' hW' => ck W' (hin'.below hW'))
  have e := shA_nil
  unfold shA at e
  simp only [Bool.false_eq_true, if_false]
  rw [e]
  exact key
 | true =>
  rw [hc] at ck
  simp only [if_true]
  refine told_ok s.name s.eps s.floor s.last s.scale ps po s.segs.length cs s.opn.length co w.heap.size (w.heap.size + 1) (w.heap.size + 1 + 1) _ _ _ _ _ _ _ _ _ _ W (fun W' hW' => ck W' (hin'.below hW')) fun W' hW' => ?_
  have key := callsIn_wide.1 (whole1_in s ps po cs co a b w.heap.size (w.heap.size + 1) (w.heap.size + 1 + 1) W' (hin'.below hW') (chk_segs hc) (chk_opn hc) hb (k1.below hW') (k2.below hW') (k3.below hW'))
  refine key.mono fun e w' h => ⟨?_, h.2⟩
  rw [h.1]
  have e1 : (pcsL s a b).flatMap pairs = wholeL s a b := pcs_told s a b
  rw [e1]
  unfold shA
  by_cases hn : toldL s a b = []
  ·rw [if_pos ((told_nil s a b).2 hn), if_pos hn]
  ·rw [if_neg fun h => hn ((told_nil s a b).1 h), if_neg hn]
theorem c_anLeast (s : SerT) (ps po : Option Addr) (cs co : Nat) (a b : Int) (w : World) (hin : SerIn w s ps po) (hb : -9223372036854775808 <= b) :
  Calls Tryz.prog 17 #[.agg (serA s ps cs po co), .int .i64 a, .int .i64 b] w fun e w' => e = .returned (.tuple #[.agg (minA (wholeV s a b)), .int .i64 (wholeE s a b)]) /\ Below w.heap.size w w' := by
 have cw := fun W (hW : Below w.heap.size w W) => c_anwhole s ps po cs co a b W (hin.below hW) hb
 unfold serA shA at cw
 exact anLeast_w _ _ _ _ _ _ _ _ _ _ _ a b _ _ _ _ _ _ _ _ _ _ w cw
theorem c_anMost (s : SerT) (ps po : Option Addr) (cs co : Nat) (a b : Int) (w : World) (hin : SerIn w s ps po) (hb : -9223372036854775808 <= b) :
  Calls Tryz.prog 18 #[.agg (serA s ps cs po co), .int .i64 a, .int .i64 b] w fun e w' => e = .returned (.tuple #[.agg (maxA (wholeV s a b)), .int .i64 (wholeE s a b)]) /\ Below w.heap.size w w' := by
 have cw := fun W (hW : Below w.heap.size w W) => c_anwhole s ps po cs co a b W (hin.below hW) hb
 unfold serA shA at cw
 exact anMost_w _ _ _ _ _ _ _ _ _ _ _ a b _ _ _ _ _ _ _ _ _ _ w cw
theorem c_anCount (s : SerT) (ps po : Option Addr) (cs co : Nat) (a b : Int) (w : World) (hin : SerIn w s ps po) (hb : -9223372036854775808 <= b) :
  Calls Tryz.prog 13 #[.agg (serA s ps cs po co), .int .i64 a, .int .i64 b] w fun e w' => e = .returned (.tuple #[.int .i64 (wholeV s a b).length, .int .i64 (if wholeE s a b = 9 then 0 else wholeE s a b)]) /\ Below w.heap.size w w' := by
 have cw := fun W (hW : Below w.heap.size w W) => c_anwhole s ps po cs co a b W (hin.below hW) hb
 unfold serA shA at cw
 by_cases h9 : wholeE s a b = 9
 ·have e := wholeE_nil (s := s) (a := a) (b := b) (by omega)
  have key := anCount_9 _ _ _ _ _ _ _ _ _ _ _ a b _ _ _ _ _ _ _ _ _ _ w h9 cw
  rw [if_pos h9, e]
  exact key
 ·rw [if_neg h9]
  exact anCount_n _ _ _ _ _ _ _ _ _ _ _ a b _ _ _ _ _ _ _ _ _ _ w h9 cw
theorem c_anSum (s : SerT) (ps po : Option Addr) (cs co : Nat) (a b : Int) (w : World) (hin : SerIn w s ps po) (hb : -9223372036854775808 <= b) :
  Calls Tryz.prog 19 #[.agg (serA s ps cs po co), .int .i64 a, .int .i64 b] w fun e w' => e = .returned (.tuple #[.agg (sumV (wholeV s a b)), .int .i64 (sumE (wholeV s a b) (wholeE s a b))]) /\ Below w.heap.size w w' := by
 have cw := fun W (hW : Below w.heap.size w W) => c_anwhole s ps po cs co a b W (hin.below hW) hb
 unfold serA shA at cw
 have hk := tell_sums (tell_ok s hin.fewS hin.fewO a b)
 unfold sumE
 by_cases h0 : wholeE s a b = 0
 ·rw [if_pos h0]
  have c2 := fun W => c_Int (lsum (loL (wholeV s a b))) W (by unfold W128; omega)
  have c3 := fun W => c_Int (lsum (hiL (wholeV s a b))) W (by unfold W128; omega)
  unfold wideV at c2 c3
  unfold sumV
  cases h1 : inI (lsum (loL (wholeV s a b))) with
  | false =>
   rw [h1] at c2
   exact anSum_2 _ _ _ _ _ _ _ _ _ _ _ a b _ _ _ _ _ _ _ _ _ _ _ _ _ _ w h0 (by decide) cw (fun W _ => c2 W) (fun W _ => c3 W)
  | true =>
   rw [h1] at c2
   cases h2 : inI (lsum (hiL (wholeV s a b))) with
   | false =>
    rw [h2] at c3
    exact anSum_3 _ _ _ _ _ _ _ _ _ _ _ a b _ _ _ _ _ _ _ _ _ _ _ _ 0 _ w h0 (by decide) cw (fun W _ => c2 W) (fun W _ => c3 W)
   | true =>
    rw [h2] at c3
    exact anSum_1 _ _ _ _ _ _ _ _ _ _ _ a b _ _ _ _ _ _ _ _ _ _ _ _ 0 0 w h0 cw (fun W _ => c2 W) (fun W _ => c3 W)
 ·rw [if_neg h0]
  have e := wholeE_nil h0
  rw [e]
  exact anSum_0 _ _ _ _ _ _ _ _ _ _ _ a b _ _ _ _ _ _ _ _ _ _ 0 0 0 0 w h0 cw
theorem c_anMean (s : SerT) (ps po : Option Addr) (cs co : Nat) (a b : Int) (w : World) (hin : SerIn w s ps po) (hb : -9223372036854775808 <= b) :
  Calls Tryz.prog 20 #[.agg (serA s ps cs po co), .int .i64 a, .int .i64 b] w fun e w' => e = .returned (.tuple #[.agg (meanV (wholeV s a b)), .int .i64 (wholeE s a b)]) /\ Below w.heap.size w w' := by
 have cw := fun W (hW : Below w.heap.size w W) => c_anwhole s ps po cs co a b W (hin.below hW) hb
 unfold serA shA at cw
 have hk := tell_sums (tell_ok s hin.fewS hin.fewO a b)
 by_cases h0 : wholeE s a b = 0
 ·have hne : 0 < (wholeV s a b).length := by
   unfold wholeE at h0
   unfold wholeV
   split at h0
   ·rename_i hc
    rw [if_pos hc]
    split at h0
    ·cases h0
    ·rename_i ht
     exact List.length_pos_iff.2 fun h => ht ((told_nil s a b).1 h)
   ·cases h0
  rw [h0] at cw ⊢
  obtain ⟨l, hl⟩ : ∃ l, wholeV s a b = l := ⟨_, rfl⟩
  rw [hl] at cw hk hne ⊢
  have c2 := fun W => c_Div (lsum (loL l)) l.length W (by unfold W128; omega) (by omega) (by omega)
  have c3 := fun W => c_Div (lsum (hiL l)) l.length W (by unfold W128; omega) (by omega) (by omega)
  have bd : ∀ z : Int, -(2305847407260205056 * (l.length : Int)) <= z -> z <= 2305847407260205056 * (l.length : Int) -> -2305847407260205056 <= z / (l.length : Int) /\ z / (l.length : Int) <= 2305847407260205056 := fun z h1 h2 => ⟨Int.le_ediv_of_mul_le (by omega) (by omega), Int.ediv_le_of_le_mul (by omega) (by omega)⟩
  have b1 := bd _ hk.1.1 hk.1.2
  have b2 := bd _ hk.2.1.1 hk.2.1.2
  have c4 := fun W => c_Int (lsum (loL l) / l.length) W (by unfold W128; omega)
  have c5 := fun W => c_Int (lsum (hiL l) / l.length) W (by unfold W128; omega)
  rw [inI_in (by unfold I64; omega)] at c4 c5
  unfold wideV at c2 c3 c4 c5
  unfold meanV
  exact anMean_1 _ _ _ _ _ _ _ _ _ _ _ a b _ _ _ _ _ _ _ _ _ _ _ _ _ _ _ _ _ 0 0 w cw c2 c3 c4 c5
 ·have e := wholeE_nil h0
  have key := anMean_0 _ _ _ _ _ _ _ _ _ _ _ a b _ _ _ _ _ _ _ _ _ _ w h0 cw
  have e2 : meanV [] = #[.int .i64 0, .int .i64 0, .int .i64 0, .int .i64 0, .int .i64 0] := by simp [meanV, loL, hiL, lsum]
  rw [e, e2]
  exact key
def some0 : SerT := ⟨⟨#[97]⟩, 2, 3, 12, 0, [⟨1, [⟨0, 2, 4⟩], 10, 0, 0, 1, [], 1⟩], [(9, 20), (12, 5)]⟩
theorem SerIn.alloc {w : World} {s : SerT} {ps po : Option Addr} (h : SerIn w s ps po) (o : Obj) : SerIn (w.alloc o) s ps po := h.below ((Below.refl _ _).alloc (Nat.le_refl _) o)
def MadeV (B : Nat) (e : TypeId) : Spec := fun v w => ∃ g, v = .slice (some ⟨g, 0, none⟩) 0 0 /\ B <= g /\ Blk w g #[] e
theorem MadeV.closed (B : Nat) (e : TypeId) : Closed [] (MadeV B e) := fun _ _ _ hr ⟨g, e1, h1, h⟩ => ⟨g, e1, h1, h.rex hr (by simp)⟩
def AppV (B : Nat) (e : TypeId) (n k : Nat) (news : List Value) : Spec := fun v w => ∃ g cap cur, v = .slice (some ⟨g, 0, none⟩) n cap /\ B <= g /\ Blk w g cur e /\ n <= cap /\ k <= cur.size /\ cur.toList.take k = news
theorem AppV.closed (B : Nat) (e : TypeId) (n k : Nat) (news : List Value) : Closed [] (AppV B e n k news) := fun _ _ _ hr ⟨g, c, cur, e1, h1, h, h2, h3, h4⟩ => ⟨g, c, cur, e1, h1, h.rex hr (by simp), h2, h3, h4⟩
structure SegR where
 s : SegT
 p : Option Addr
 q : Option Addr
 cap : Nat
 vc : Nat
def segRA (r : SegR) : Array Value := segA r.s r.p r.q r.cap r.vc
def flatSegs (l : List SegR) : List Value := l.flatMap fun r => (segRA r).toList
theorem segRA_len (r : SegR) : (segRA r).toList.length = 8 := rfl
theorem flat_of {α : Type} (f : α -> List Value) (K : Nat) (hK : 0 < K) (hf : ∀ x, (f x).length = K) : ∀ (l : List α) (j : Nat) (u : Value), (l.flatMap f)[j]? = some u -> ∃ i x k, l[i]? = some x /\ k < K /\ j = i * K + k /\ (f x)[k]? = some u
 | [], j, u, h => by simp at h
 | x :: l, j, u, h => by
  rw [List.flatMap_cons] at h
  rcases Nat.lt_or_ge j K with hlt | hge
  ·rw [List.getElem?_append_left (by rw [hf]; exact hlt)] at h
   exact ⟨0, x, j, rfl, hlt, by omega, h⟩
  ·rw [List.getElem?_append_right (by rw [hf]; exact hge), hf] at h
   obtain ⟨i, y, k, h1, h2, h3, h4⟩ := flat_of f K hK hf l (j - K) u h
   exact ⟨i + 1, y, k, h1, h2, by rw [Nat.add_mul]; omega, h4⟩
theorem flat_to {α : Type} (f : α -> List Value) (K : Nat) (hf : ∀ x, (f x).length = K) : ∀ (l : List α) (i : Nat) (x : α) (k : Nat) (u : Value), l[i]? = some x -> (f x)[k]? = some u -> (l.flatMap f)[i * K + k]? = some u
 | [], i, x, k, u, h, _ => by simp at h
 | y :: l, i, x, k, u, h, hu => by
  have hk : k < K := by have := (List.getElem?_eq_some_iff.1 hu).1; rw [hf] at this; exact this
  rw [List.flatMap_cons]
  cases i with
  | zero =>
   obtain rfl : y = x := by simpa using h
   rw [List.getElem?_append_left (by rw [hf]; omega)]
   simpa using hu
  | succ i =>
   rw [List.getElem?_append_right (by rw [hf, Nat.add_mul]; omega), hf, show (i + 1) * K + k - K = i * K + k by rw [Nat.add_mul]; omega]
   exact flat_to f K hf l i x k u (by simpa using h) hu
def SegsCame (w : World) (p : Option Addr) (l : List SegR) : Prop := ∀ (i : Nat) (r : SegR), l[i]? = some r -> ∃ b o, p = some ⟨b, o, none⟩ /\ (∀ j v, (segRA r)[j]? = some v -> w.cell? ⟨b, o + i * 8 + j, none⟩ = some v) /\ Came w r.s r.p r.q r.cap r.vc
theorem Came.below {w w' : World} {s : SegT} {p q : Option Addr} {cap vc : Nat} (h : Came w s p q cap vc) (hb : Below w.heap.size w w') : Came w' s p q cap vc := ⟨h.runs.below hb, h.raw.below hb, h.nilR, h.nilV, h.capR, h.capV, h.maxR, h.maxV⟩
theorem SegsCame.below {w w' : World} {p : Option Addr} {l : List SegR} (h : SegsCame w p l) (hb : Below w.heap.size w w') : SegsCame w' p l := fun i r hr => by
 obtain ⟨b, o, e, h1, h2⟩ := h i r hr
 exact ⟨b, o, e, fun j v hv => (hb.cell (p := ⟨b, _, none⟩) (cell_lt (h1 j v hv))).trans (h1 j v hv), h2.below hb⟩
theorem SegsCame.take {w : World} {p : Option Addr} {l : List SegR} (h : SegsCame w p l) (k : Nat) : SegsCame w p (l.take k) := fun i r hr => h i r (by
 rw [List.getElem?_take] at hr
 split at hr
 ·exact hr
 ·cases hr)
theorem SegsCame.flat {w : World} {p : Option Addr} {l : List SegR} (h : SegsCame w p l) (a : Addr) (ha : p = some a) (j : Nat) (u : Value) (hu : (flatSegs l)[j]? = some u) : w.cell? (a.add j) = some u := by
 obtain ⟨i, r, k, h1, h2, rfl, h3⟩ := flat_of _ 8 (by omega) segRA_len l j u hu
 obtain ⟨b, o, e, h4, _⟩ := h i r h1
 rw [ha] at e
 injection e with e
 subst e
 have := h4 k u (by simpa using h3)
 rw [show (⟨b, o, none⟩ : Addr).add (i * 8 + k) = ⟨b, o + i * 8 + k, none⟩ by unfold Addr.add; split <;> simp_all <;> omega]
 exact this
def SegCells (cur : Array Value) (l : List SegR) : Prop := ∀ (i : Nat) (r : SegR), l[i]? = some r -> ∀ k v, (segRA r)[k]? = some v -> cur[i * 8 + k]? = some v
theorem segCells_of {cur : Array Value} {l : List SegR} {n : Nat} (h : cur.toList.take (n * 8) = flatSegs l) (hn : l.length = n) : SegCells cur l := fun i r hr k v hv => by
 have := flat_to _ 8 segRA_len l i r k v hr (by simpa using hv)
 unfold flatSegs at h
 rw [<- h, List.getElem?_take] at this
 split at this
 ·simpa using this
 ·cases this
theorem SegCells.set {cur : Array Value} {l : List SegR} (h : SegCells cur l) {i k : Nat} {r r' : SegR} (hr : l[i]? = some r) (hk : k < 8) {v : Value} (he : segRA r' = (segRA r).setIfInBounds k v) : SegCells (cur.setIfInBounds (i * 8 + k) v) (l.set i r') := fun i2 r2 hr2 k2 v2 hv2 => by
 have hk2 : k2 < 8 := by have := (Array.getElem?_eq_some_iff.1 hv2).1; rw [show (segRA r2).size = 8 from rfl] at this; exact this
 rw [List.getElem?_set] at hr2
 split at hr2
 ·rename_i e
  subst e
  split at hr2
  ·injection hr2 with hr2
   subst hr2
   rw [he, Array.getElem?_setIfInBounds] at hv2
   split at hv2
   ·rename_i ek
    subst ek
    split at hv2
    ·have hb : i * 8 + k < cur.size := by
      have h0 := h i r hr k ((segRA r)[k]'(by rw [show (segRA r).size = 8 from rfl]; exact hk)) (Array.getElem?_eq_getElem _)
      exact (Array.getElem?_eq_some_iff.1 h0).1
     rw [Array.getElem?_setIfInBounds, if_pos rfl, if_pos hb]
     exact hv2
    ·cases hv2
   ·rename_i ek
    rw [Array.getElem?_setIfInBounds, if_neg (by omega)]
    exact h i r hr k2 v2 hv2
  ·cases hr2
 ·rename_i e
  rw [Array.getElem?_setIfInBounds, if_neg (by omega)]
  exact h i2 r2 hr2 k2 v2 hv2
end Go.Proofs.YtidfcoooccblaaaGreat
