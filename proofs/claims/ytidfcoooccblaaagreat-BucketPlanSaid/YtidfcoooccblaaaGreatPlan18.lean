/- Parts of the proof that follows: Layer bucket: One, told. No condition. | answer.Scan's inner function put: one more is told, or not. No condition but bounds. | Layer bucket: the answers of buckets in a row. No condition. | slices.Equal, of what is told. No condition. | Layer bucket: Buckets, told; rows of answers. No condition. | slices.Equal, of pieces, of answers. No condition. -/
import Derived.Test.YtidfcoooccblaaaGreatPlan17
set_option maxRecDepth 100000
set_option maxHeartbeats 8000000
set_option linter.unusedSimpArgs false
set_option linter.unusedVariables false
namespace Go.Proofs.YtidfcoooccblaaaGreat
open Go.RowKit
theorem tolda_bad (nm : ByteArray) (ep fl la sc : Int) (ps po : Option Addr) (ns cs no co : Nat) (gk gs ga gb : Nat) (w : World)
  (c1 : ∀ W, Below w.heap.size w W -> Calls Tryz.prog 14 #[.agg #[.string nm, ep, fl, la, sc, .slice ps ns cs, .slice po no co]] W fun e w' => e = .returned (.int .i64 340) /\ Below W.heap.size W w') :
  Calls Tryz.prog 78 #[.agg #[.string nm, ep, fl, la, sc, .slice ps ns cs, .slice po no co], .func (.func 79) #[] #[.pointer (some ⟨gk, 0, none⟩), .pointer (some ⟨gs, 0, none⟩), .pointer (some ⟨ga, 0, none⟩), .pointer (some ⟨gb, 0, none⟩)]] w fun e w' => e = .returned (.tuple #[.agg #[.int .i64 0, .int .i64 0, .int .i64 0, .int .i64 0, .int .i64 0, .int .i64 0, .int .i64 0, .int .i64 0, .int .i64 0], .int .i64 340]) /\ Below w.heap.size w w' := by
 have H_c1 := Lib.hid c1
 clear c1
 go_enter Tryz.func78, Tryz.ntmps78
 have c1 := H_c1.out
 go_wp2_with fail
 refine (c1 _ belowAny).mono ?_
 rintro e w1 ⟨rfl, hb1⟩
 clear c1
 have z2 := hb1.size
 try simp at z2
 have b1 : Blk w1 w.heap.size #[.string nm, ep, fl, la, sc, .slice ps ns cs, .slice po no co] 25 := blkAny2
 have b2 : Blk w1 (w.heap.size + 1) #[.int .i64 0, .int .i64 0, .int .i64 0, .int .i64 0, .int .i64 0, .int .i64 0, .int .i64 0, .int .i64 0, .int .i64 0] 67 := blkAny2
 have hW : Below w.heap.size w w1 := belowAny
 have z3 := b1.lt
 have z4 := b2.lt
 clear hb1
 have k1 := b1.cell
 have f1 := b1.frozen
 have k2 := b2.cell
 have f2 := b2.frozen
 go_wp2
 have y_1 := b1.lt
 have y_2 := b2.lt
 refine bodyPost_ret (v := .tuple #[.agg #[.int .i64 0, .int .i64 0, .int .i64 0, .int .i64 0, .int .i64 0, .int .i64 0, .int .i64 0, .int .i64 0, .int .i64 0], .int .i64 340]) (by simp [results, Tryz.results78, go_sem, k1, f1, k2, f2, y_1, y_2]) rfl ⟨rfl, by exact belowAny⟩
theorem tolda_ok (nm : ByteArray) (ep fl la sc : Int) (ps po : Option Addr) (ns cs no co : Nat) (gk gs ga gb : Nat) (xe n x y m0 m1 m2 m3 m4 er : Int) (w : World)
  (c1 : ∀ W, Below w.heap.size w W -> Calls Tryz.prog 14 #[.agg #[.string nm, ep, fl, la, sc, .slice ps ns cs, .slice po no co]] W fun e w' => e = .returned (.int .i64 0) /\ Below W.heap.size W w')
  (c2 : ∀ W, Below w.heap.size w W -> Calls Tryz.prog 79 #[.pointer (some ⟨gk, 0, none⟩), .pointer (some ⟨gs, 0, none⟩), .pointer (some ⟨ga, 0, none⟩), .pointer (some ⟨gb, 0, none⟩)] W fun e w' => e = .returned (.tuple #[.agg #[xe, n, x, y, m0, m1, m2, m3, m4], er]) /\ Below W.heap.size W w') :
  Calls Tryz.prog 78 #[.agg #[.string nm, ep, fl, la, sc, .slice ps ns cs, .slice po no co], .func (.func 79) #[] #[.pointer (some ⟨gk, 0, none⟩), .pointer (some ⟨gs, 0, none⟩), .pointer (some ⟨ga, 0, none⟩), .pointer (some ⟨gb, 0, none⟩)]] w fun e w' => e = .returned (.tuple #[.agg #[xe, n, x, y, m0, m1, m2, m3, m4], er]) /\ Below w.heap.size w w' := by
 have H_c1 := Lib.hid c1
 clear c1
 have H_c2 := Lib.hid c2
 clear c2
 go_enter Tryz.func78, Tryz.ntmps78
 have c1 := H_c1.out
 go_wp2_with fail
 refine (c1 _ belowAny).mono ?_
 rintro e w1 ⟨rfl, hb1⟩
 clear c1
 have z2 := hb1.size
 try simp at z2
 have b1 : Blk w1 w.heap.size #[.string nm, ep, fl, la, sc, .slice ps ns cs, .slice po no co] 25 := blkAny2
 have b2 : Blk w1 (w.heap.size + 1) #[.int .i64 0, .int .i64 0, .int .i64 0, .int .i64 0, .int .i64 0, .int .i64 0, .int .i64 0, .int .i64 0, .int .i64 0] 67 := blkAny2
 have hW : Below w.heap.size w w1 := belowAny
 have z3 := b1.lt
 have z4 := b2.lt
 clear hb1
 have k1 := b1.cell
 have f1 := b1.frozen
 have k2 := b2.cell
 have f2 := b2.frozen
 have c2 := H_c2.out
 go_wp2_with fail
 refine (c2 _ belowAny).mono ?_
 rintro e w5 ⟨rfl, hb5⟩
 clear c2
 have z6 := hb5.size
 try simp at z6
 clear k1 f1 k2 f2
 have b1 : Blk w5 w.heap.size #[.string nm, ep, fl, la, sc, .slice ps ns cs, .slice po no co] 25 := blkAny2
 have b2 : Blk w5 (w.heap.size + 1) #[.int .i64 0, .int .i64 0, .int .i64 0, .int .i64 0, .int .i64 0, .int .i64 0, .int .i64 0, .int .i64 0, .int .i64 0] 67 := blkAny2
 have hW : Below w.heap.size w w5 := belowAny
 have z7 := b1.lt
 have z8 := b2.lt
 clear hb5
 have k1 := b1.cell
 have f1 := b1.frozen
 have k2 := b2.cell
 have f2 := b2.frozen
 go_wp2
 have y_1 := b1.lt
 have y_2 := b2.lt
 refine bodyPost_ret (v := .tuple #[.agg #[xe, n, x, y, m0, m1, m2, m3, m4], er]) (by simp [results, Tryz.results78, go_sem, k1, f1, k2, f2, y_1, y_2]) rfl ⟨rfl, by exact belowAny⟩
theorem one_e (nm : ByteArray) (ep fl la sc : Int) (ps po : Option Addr) (ns cs no co : Nat) (k a b : Int) (xe n x y m0 m1 m2 m3 m4 er : Int) (w : World) (her : er ≠ 0)
  (c1 : ∀ W, Below w.heap.size w W -> Blk W w.heap.size #[.string nm, ep, fl, la, sc, .slice ps ns cs, .slice po no co] 25 -> Blk W (w.heap.size + 1) #[k] 3 -> Blk W (w.heap.size + 1 + 1) #[a] 2 -> Blk W (w.heap.size + 1 + 1 + 1) #[b] 2 -> Calls Tryz.prog 78 #[.agg #[.string nm, ep, fl, la, sc, .slice ps ns cs, .slice po no co], .func (.func 79) #[] #[.pointer (some ⟨w.heap.size + 1, 0, none⟩), .pointer (some ⟨w.heap.size, 0, none⟩), .pointer (some ⟨w.heap.size + 1 + 1, 0, none⟩), .pointer (some ⟨w.heap.size + 1 + 1 + 1, 0, none⟩)]] W fun e w' => e = .returned (.tuple #[.agg #[xe, n, x, y, m0, m1, m2, m3, m4], er]) /\ Below W.heap.size W w') :
  Calls Tryz.prog 33 #[.agg #[.string nm, ep, fl, la, sc, .slice ps ns cs, .slice po no co], k, a, b] w fun e w' => e = .returned (.agg #[er, .int .i64 0, .int .i64 0, .int .i64 0, .int .i64 0, .int .i64 0, .int .i64 0, .int .i64 0, .int .i64 0]) /\ Below w.heap.size w w' := by
 have H_c1 := Lib.hid c1
 clear c1
 go_enter Tryz.func33, Tryz.ntmps33
 have hmf : ∀ (fn : Fn) (first cap : Array Value) (w : World), (Instr.makeFunc fn first cap).run Tryz.prog w = .ok (.func fn first cap) w := fun _ _ _ _ => rfl
 go_upto_region 1 with (fail)
 refine wp_facts (fun W' => Below w.heap.size w W' /\ Blk W' w.heap.size #[.string nm, ep, fl, la, sc, .slice ps ns cs, .slice po no co] 25 /\ Blk W' (w.heap.size + 1) #[k] 3 /\ Blk W' (w.heap.size + 1 + 1) #[a] 2 /\ Blk W' (w.heap.size + 1 + 1 + 1) #[b] 2 /\ Blk W' (w.heap.size + 1 + 1 + 1 + 1) #[.int .i64 0, .int .i64 0, .int .i64 0, .int .i64 0, .int .i64 0, .int .i64 0, .int .i64 0, .int .i64 0, .int .i64 0] 67) ⟨by exact belowAny, by exact blkAny2, by exact blkAny2, by exact blkAny2, by exact blkAny2, by exact blkAny2⟩ ?_
 rintro W1 ⟨hW, b1, b2, b3, b4, b5⟩
 have z2 := hW.size
 have z3 := b1.lt
 have z4 := b2.lt
 have z5 := b3.lt
 have z6 := b4.lt
 have z7 := b5.lt
 have k1 := b1.cell
 have f1 := b1.frozen
 have k2 := b2.cell
 have f2 := b2.frozen
 have k3 := b3.cell
 have f3 := b3.frozen
 have k4 := b4.cell
 have f4 := b4.frozen
 have k5 := b5.cell
 have f5 := b5.frozen
 have c1 := H_c1.out
 go_wp2_with fail
 refine (c1 W1 hW b1 b2 b3 b4).mono ?_
 rintro e w8 ⟨rfl, hb8⟩
 clear c1
 have z9 := hb8.size
 try simp at z9
 clear k1 f1 k2 f2 k3 f3 k4 f4 k5 f5
 have b1 : Blk w8 w.heap.size #[.string nm, ep, fl, la, sc, .slice ps ns cs, .slice po no co] 25 := blkAny2
 have b2 : Blk w8 (w.heap.size + 1) #[k] 3 := blkAny2
 have b3 : Blk w8 (w.heap.size + 1 + 1) #[a] 2 := blkAny2
 have b4 : Blk w8 (w.heap.size + 1 + 1 + 1) #[b] 2 := blkAny2
 have b5 : Blk w8 (w.heap.size + 1 + 1 + 1 + 1) #[.int .i64 0, .int .i64 0, .int .i64 0, .int .i64 0, .int .i64 0, .int .i64 0, .int .i64 0, .int .i64 0, .int .i64 0] 67 := blkAny2
 have hW : Below w.heap.size w w8 := belowAny
 have z10 := b1.lt
 have z11 := b2.lt
 have z12 := b3.lt
 have z13 := b4.lt
 have z14 := b5.lt
 clear hb8
 have k1 := b1.cell
 have f1 := b1.frozen
 have k2 := b2.cell
 have f2 := b2.frozen
 have k3 := b3.cell
 have f3 := b3.frozen
 have k4 := b4.cell
 have f4 := b4.frozen
 have k5 := b5.cell
 have f5 := b5.frozen
 go_wp2
 have y_1 := b1.lt
 have y_2 := b2.lt
 have y_3 := b3.lt
 have y_4 := b4.lt
 have y_5 := b5.lt
 refine bodyPost_ret (v := .agg #[er, .int .i64 0, .int .i64 0, .int .i64 0, .int .i64 0, .int .i64 0, .int .i64 0, .int .i64 0, .int .i64 0]) (by simp [results, Tryz.results33, go_sem, k1, f1, k2, f2, k3, f3, k4, f4, k5, f5, y_1, y_2, y_3, y_4, y_5]) rfl ⟨rfl, by exact belowAny⟩
theorem one_0 (nm : ByteArray) (ep fl la sc : Int) (ps po : Option Addr) (ns cs no co : Nat) (k a b : Int) (xe n x y m0 m1 m2 m3 m4 : Int) (w : World)
  (c1 : ∀ W, Below w.heap.size w W -> Blk W w.heap.size #[.string nm, ep, fl, la, sc, .slice ps ns cs, .slice po no co] 25 -> Blk W (w.heap.size + 1) #[k] 3 -> Blk W (w.heap.size + 1 + 1) #[a] 2 -> Blk W (w.heap.size + 1 + 1 + 1) #[b] 2 -> Calls Tryz.prog 78 #[.agg #[.string nm, ep, fl, la, sc, .slice ps ns cs, .slice po no co], .func (.func 79) #[] #[.pointer (some ⟨w.heap.size + 1, 0, none⟩), .pointer (some ⟨w.heap.size, 0, none⟩), .pointer (some ⟨w.heap.size + 1 + 1, 0, none⟩), .pointer (some ⟨w.heap.size + 1 + 1 + 1, 0, none⟩)]] W fun e w' => e = .returned (.tuple #[.agg #[xe, n, x, y, m0, m1, m2, m3, m4], .int .i64 0]) /\ Below W.heap.size W w') :
  Calls Tryz.prog 33 #[.agg #[.string nm, ep, fl, la, sc, .slice ps ns cs, .slice po no co], k, a, b] w fun e w' => e = .returned (.agg #[xe, n, x, y, m0, m1, m2, m3, m4]) /\ Below w.heap.size w w' := by
 have H_c1 := Lib.hid c1
 clear c1
 go_enter Tryz.func33, Tryz.ntmps33
 have hmf : ∀ (fn : Fn) (first cap : Array Value) (w : World), (Instr.makeFunc fn first cap).run Tryz.prog w = .ok (.func fn first cap) w := fun _ _ _ _ => rfl
 go_upto_region 1 with (fail)
 refine wp_facts (fun W' => Below w.heap.size w W' /\ Blk W' w.heap.size #[.string nm, ep, fl, la, sc, .slice ps ns cs, .slice po no co] 25 /\ Blk W' (w.heap.size + 1) #[k] 3 /\ Blk W' (w.heap.size + 1 + 1) #[a] 2 /\ Blk W' (w.heap.size + 1 + 1 + 1) #[b] 2 /\ Blk W' (w.heap.size + 1 + 1 + 1 + 1) #[.int .i64 0, .int .i64 0, .int .i64 0, .int .i64 0, .int .i64 0, .int .i64 0, .int .i64 0, .int .i64 0, .int .i64 0] 67) ⟨by exact belowAny, by exact blkAny2, by exact blkAny2, by exact blkAny2, by exact blkAny2, by exact blkAny2⟩ ?_
 rintro W1 ⟨hW, b1, b2, b3, b4, b5⟩
 have z2 := hW.size
 have z3 := b1.lt
 have z4 := b2.lt
 have z5 := b3.lt
 have z6 := b4.lt
 have z7 := b5.lt
 have k1 := b1.cell
 have f1 := b1.frozen
 have k2 := b2.cell
 have f2 := b2.frozen
 have k3 := b3.cell
 have f3 := b3.frozen
 have k4 := b4.cell
 have f4 := b4.frozen
 have k5 := b5.cell
 have f5 := b5.frozen
 have c1 := H_c1.out
 go_wp2_with fail
 refine (c1 W1 hW b1 b2 b3 b4).mono ?_
 rintro e w8 ⟨rfl, hb8⟩
 clear c1
 have z9 := hb8.size
 try simp at z9
 clear k1 f1 k2 f2 k3 f3 k4 f4 k5 f5
 have b1 : Blk w8 w.heap.size #[.string nm, ep, fl, la, sc, .slice ps ns cs, .slice po no co] 25 := blkAny2
 have b2 : Blk w8 (w.heap.size + 1) #[k] 3 := blkAny2
 have b3 : Blk w8 (w.heap.size + 1 + 1) #[a] 2 := blkAny2
 have b4 : Blk w8 (w.heap.size + 1 + 1 + 1) #[b] 2 := blkAny2
 have b5 : Blk w8 (w.heap.size + 1 + 1 + 1 + 1) #[.int .i64 0, .int .i64 0, .int .i64 0, .int .i64 0, .int .i64 0, .int .i64 0, .int .i64 0, .int .i64 0, .int .i64 0] 67 := blkAny2
 have hW : Below w.heap.size w w8 := belowAny
 have z10 := b1.lt
 have z11 := b2.lt
 have z12 := b3.lt
 have z13 := b4.lt
 have z14 := b5.lt
 clear hb8
 have k1 := b1.cell
 have f1 := b1.frozen
 have k2 := b2.cell
 have f2 := b2.frozen
 have k3 := b3.cell
 have f3 := b3.frozen
 have k4 := b4.cell
 have f4 := b4.frozen
 have k5 := b5.cell
 have f5 := b5.frozen
 go_wp2
 have y_1 := b1.lt
 have y_2 := b2.lt
 have y_3 := b3.lt
 have y_4 := b4.lt
 have y_5 := b5.lt
 refine bodyPost_ret (v := .agg #[xe, n, x, y, m0, m1, m2, m3, m4]) (by simp [results, Tryz.results33, go_sem, k1, f1, k2, f2, k3, f3, k4, f4, k5, f5, y_1, y_2, y_3, y_4, y_5]) rfl ⟨rfl, by exact belowAny⟩
def oneA (s : SerT) (k a b : Int) : Array Value := if checkB s then (if 1 <= k /\ k <= 5 then ansW s k.toNat a b else ansA 2 0 0 0 0 0 0 0 0) else ansA 340 0 0 0 0 0 0 0 0
theorem c_bkOne (s : SerT) (ps po : Option Addr) (cs co : Nat) (k a b : Int) (w : World) (hin : SerIn w s ps po) (hb : -9223372036854775808 <= b) :
  Calls Tryz.prog 33 #[.agg (serA s ps cs po co), k, a, b] w fun e w' => e = .returned (.agg (oneA s k a b)) /\ Below w.heap.size w w' := by
 unfold serA oneA
 have ck := c_srCheck s ps po cs co
 unfold serA checkE at ck
 cases hc : checkB s with
 | false =>
  rw [hc] at ck
  simp only [Bool.false_eq_true, if_false]
  exact one_e _ _ _ _ _ ps po _ cs _ co k a b 0 0 0 0 0 0 0 0 0 340 w (by decide) fun W hW k1 k2 k3 k4 =>
   tolda_bad s.name s.eps s.floor s.last s.scale ps po s.segs.length cs s.opn.length co _ _ _ _ W (fun W' hW' => ck W' ((hin.below hW).below hW'))
 | true =>
  rw [hc] at ck
  simp only [if_true]
  by_cases hk : 1 <= k /\ k <= 5
  ·rw [if_pos hk]
   obtain ⟨j, hj⟩ : ∃ j : Nat, k = (j : Int) := ⟨k.toNat, by omega⟩
   subst hj
   have hj5 : 1 <= j /\ j <= 5 := by omega
   rw [show ((j : Int).toNat) = j from rfl]
   obtain ⟨er, n, x, y, m0, m1, m2, m3, m4, he⟩ := ansW_is s j a b
   rw [he]
   refine one_0 _ _ _ _ _ ps po _ cs _ co (j : Int) a b er n x y m0 m1 m2 m3 m4 w fun W hW k1 k2 k3 k4 =>
    tolda_ok s.name s.eps s.floor s.last s.scale ps po s.segs.length cs s.opn.length co _ _ _ _ er n x y m0 m1 m2 m3 m4 0 W (fun W' hW' => ck W' ((hin.below hW).below hW')) fun W' hW' => ?_
   have t := one1_yes s ps po cs co j a b _ _ _ _ W' hj5 hb ((hin.below hW).below hW') (k2.below hW') (k1.below hW') (k3.below hW') (k4.below hW')
   rw [he] at t
   exact t
  ·rw [if_neg hk]
   exact one_e _ _ _ _ _ ps po _ cs _ co k a b 0 0 0 0 0 0 0 0 0 2 w (by decide) fun W hW k1 k2 k3 k4 =>
    tolda_ok s.name s.eps s.floor s.last s.scale ps po s.segs.length cs s.opn.length co _ _ _ _ 0 0 0 0 0 0 0 0 0 2 W (fun W' hW' => ck W' ((hin.below hW).below hW')) fun W' hW' =>
     one1_no s ps po cs co k a b _ _ _ _ W' hk (k2.below hW') (k1.below hW') (k3.below hW') (k4.below hW')
def PutPost (B gO : Nat) (L : List (Int × Int × Int)) (w : World) (e : Ending) (w' : World) : Prop :=
 e = .returned (.tuple #[]) /\ Below B w w' /\ (∀ g cs t, g ≠ gO -> t ≠ 63 -> Blk w g cs t -> Blk w' g cs t) /\ ∃ v, Blk w' gO #[v] 52 /\ OwnR w' B 63 3 v L.length (flatCells (L.map bkT))
def putL (fr b t y far : Int) (L : List (Int × Int × Int)) : List (Int × Int × Int) := if selB fr b (t, y) then L ++ [(t, y, far)] else L
attribute [local simp] Oper.looksAt Op.operands Call.operands envOf Det GDet
structure AnsT where
 er : Int
 n : Int
 x : Int
 y : Int
 m0 : Int
 m1 : Int
 m2 : Int
 m3 : Int
 m4 : Int
instance : DecidableEq AnsT := fun a b => decidable_of_iff (a.er = b.er /\ a.n = b.n /\ a.x = b.x /\ a.y = b.y /\ a.m0 = b.m0 /\ a.m1 = b.m1 /\ a.m2 = b.m2 /\ a.m3 = b.m3 /\ a.m4 = b.m4) (by cases a; cases b; simp)
def aT (t : AnsT) : Array Value := ansA t.er t.n t.x t.y t.m0 t.m1 t.m2 t.m3 t.m4
def ansT (s : SerT) (k : Nat) (a b : Int) : AnsT :=
 if k = 1 then ⟨if wholeE s a b = 9 then 0 else wholeE s a b, (wholeV s a b).length, 0, 0, 0, 0, 0, 0, 0⟩
 else if k = 2 then ⟨wholeE s a b, 0, minL (loL (wholeV s a b)), minL (hiL (wholeV s a b)), 0, 0, 0, 0, 0⟩
 else if k = 3 then ⟨wholeE s a b, 0, maxL (loL (wholeV s a b)), maxL (hiL (wholeV s a b)), 0, 0, 0, 0, 0⟩
 else if k = 4 then ⟨sumE (wholeV s a b) (wholeE s a b), 0, sl (wholeV s a b), sh (wholeV s a b), 0, 0, 0, 0, 0⟩
 else ⟨wholeE s a b, 0, 0, 0, (wholeV s a b).length, lsum (loL (wholeV s a b)) / (wholeV s a b).length, lsum (loL (wholeV s a b)) % (wholeV s a b).length, lsum (hiL (wholeV s a b)) / (wholeV s a b).length, lsum (hiL (wholeV s a b)) % (wholeV s a b).length⟩
theorem ansW_T (s : SerT) (k : Nat) (a b : Int) : ansW s k a b = aT (ansT s k a b) := by
 unfold ansW ansT aT
 split
 ·rfl
 ·split
  ·rfl
  ·split
   ·rfl
   ·split <;> rfl
def AnsT.cells (t : AnsT) : List Value := (aT t).toList
def flatAns (l : List AnsT) : List Value := l.flatMap AnsT.cells
def bucketL (s : SerT) (k : Nat) (fr wd : Int) (n : Nat) : List AnsT := (List.range n).map fun (i : Nat) => ansT s k (fr + (i : Int) * wd) (fr + (i : Int) * wd + wd - 1)
theorem bucketL_succ (s : SerT) (k : Nat) (fr wd : Int) (n : Nat) : bucketL s k fr wd (n + 1) = bucketL s k fr wd n ++ [ansT s k (fr + n * wd) (fr + n * wd + wd - 1)] := by
 unfold bucketL
 rw [List.range_succ, List.map_append]
 rfl
theorem flatAns_app (l : List AnsT) (r : AnsT) : flatAns (l ++ [r]) = flatAns l ++ (aT r).toList := by
 unfold flatAns
 rw [List.flatMap_append, List.flatMap_cons, List.flatMap_nil, List.append_nil]
 rfl
def AnsC (B : Nat) (r : AnsT) : Spec := fun v w => ∃ g, v = .slice (some ⟨g, 0, none⟩) 1 1 /\ B <= g /\ Blk w g (aT r) 67
theorem AnsC.closed (B : Nat) (r : AnsT) : Closed [] (AnsC B r) := fun _ _ _ hr ⟨g, e1, h1, h⟩ => ⟨g, e1, h1, h.rex hr (by simp)⟩
theorem Tryz.infoAns : (Tryz.prog.info? 67).map (fun i => (i.zero, i.size, i.bytes)) = some (some (.agg #[.int .i64 0, .int .i64 0, .int .i64 0, .int .i64 0, .int .i64 0, .int .i64 0, .int .i64 0, .int .i64 0, .int .i64 0]), 9, 72) := by kernel_rfl
theorem ans_news {W : World} {g : Nat} {r : AnsT} {t : TypeId} (h : Blk W g (aT r) t) {j : Nat} {u : Value} (hu : [Value.int .i64 r.er, r.n, r.x, r.y, r.m0, r.m1, r.m2, r.m3, r.m4][j]? = some u) : W.cell? ((⟨g, 0, none⟩ : Addr).add j) = some u := by
 have hadd : (⟨g, 0, none⟩ : Addr).add j = ⟨g, j, none⟩ := by unfold Addr.add; split <;> simp_all
 rw [hadd, h.cell]
 unfold aT ansA
 simpa using hu
def bkRel (w : World) (s : SerT) (ps : Option Addr) (cs : Nat) (po : Option Addr) (co : Nat) (k : Nat) (fr wd : Int) (N gk gf gw gn gs : Nat) (a' : Act) (W : World) : Prop :=
 Below w.heap.size w W /\ Blk W gk #[.int .i64 (k : Int)] 3 /\ Blk W gf #[fr] 2 /\ Blk W gw #[wd] 2 /\ Blk W gn #[.int .i64 (N : Int)] 3 /\ Blk W gs #[.string s.name, s.eps, s.floor, s.last, s.scale, .slice ps s.segs.length cs, .slice po s.opn.length co] 25 /\
  ∃ (i : Nat) (v : Value), (∃ u : Nat -> Value, a' = { tmps := #[.pointer (some ⟨gk, 0, none⟩), .pointer (some ⟨gf, 0, none⟩), .pointer (some ⟨gw, 0, none⟩), .pointer (some ⟨gn, 0, none⟩), .pointer (some ⟨gs, 0, none⟩), .slice none 0 0, .int .i64 0, v, u 8, u 9, u 10, u 11, u 12, u 13, u 14, u 15, u 16, u 17, u 18, u 19, u 20, u 21, u 22, u 23, u 24, u 25, u 26, u 27, u 28, u 29, u 30, u 31, u 32, u 33, u 34, u 35, u 36, .int .i64 (N : Int), .int .i64 (i : Int), u 39, u 40, u 41, u 42, u 43, u 44, u 45, u 46, u 47, u 48, u 49, u 50, u 51, u 52, u 53, u 54, u 55, u 56, u 57, u 58, u 59, u 60, u 61], defers := [] }) /\ OwnR W w.heap.size 67 9 v i (flatAns (bucketL s k fr wd i)) /\ i <= N
theorem bk1_no (k fr wd nn : Int) (q : Bool) (gk gf gw gn gs : Nat) (s : SerT) (ps : Option Addr) (cs : Nat) (po : Option Addr) (co : Nat) (w : World) (hq : Hid ((!q || decide (fr < 0) || decide (281474976710656 < fr) || decide (wd < 1) || decide (281474976710656 < wd) || decide (nn < 1) || decide (64 < nn)) = true))
  (cK : ∀ W, Calls Tryz.prog 80 #[k] W fun e w' => e = .returned (.bool q) /\ Below W.heap.size W w')
  (b1 : Blk w gk #[k] 3) (b2 : Blk w gf #[fr] 2) (b3 : Blk w gw #[wd] 2) (b4 : Blk w gn #[nn] 3) (b5 : Blk w gs #[.string s.name, s.eps, s.floor, s.last, s.scale, .slice ps s.segs.length cs, .slice po s.opn.length co] 25) :
  Calls Tryz.prog 88 #[.pointer (some ⟨gk, 0, none⟩), .pointer (some ⟨gf, 0, none⟩), .pointer (some ⟨gw, 0, none⟩), .pointer (some ⟨gn, 0, none⟩), .pointer (some ⟨gs, 0, none⟩)] w fun e w' => e = .returned (.tuple #[.slice none 0 0, .int .i64 2]) /\ Below w.heap.size w w' := by
 have y1 := b1.lt
 have y2 := b2.lt
 have y3 := b3.lt
 have y4 := b4.lt
 have y5 := b5.lt
 have H_cK := Lib.hid cK
 clear cK
 go_enter Tryz.func88, Tryz.ntmps88
 go_upto_region 1 with (fail)
 refine wp_facts (fun W' => Below w.heap.size w W' /\ Blk W' gk #[k] 3 /\ Blk W' gf #[fr] 2 /\ Blk W' gw #[wd] 2 /\ Blk W' gn #[nn] 3 /\ Blk W' gs #[.string s.name, s.eps, s.floor, s.last, s.scale, .slice ps s.segs.length cs, .slice po s.opn.length co] 25) ⟨by exact belowAny, by exact blkAny2, by exact blkAny2, by exact blkAny2, by exact blkAny2, by exact blkAny2⟩ ?_
 clear b1 b2 b3 b4 b5
 rintro W1 ⟨hW, b1, b2, b3, b4, b5⟩
 have z2 := hW.size
 have z3 := b1.lt
 have z4 := b2.lt
 have z5 := b3.lt
 have z6 := b4.lt
 have z7 := b5.lt
 have cK := H_cK.out
 refine wp_region_sq 27 62 [] (fun W' => Rex [] W1 W' /\ Blk W' gk #[k] 3 /\ Blk W' gf #[fr] 2 /\ Blk W' gw #[wd] 2 /\ Blk W' gn #[nn] 3 /\ Blk W' gs #[.string s.name, s.eps, s.floor, s.last, s.scale, .slice ps s.segs.length cs, .slice po s.opn.length co] 25) (by kernel_rfl) rfl ⟨(Rex.refl _ _), b1, b2, b3, b4, b5⟩ (fun w w' ⟨h0, h1, h2, h3, h4, h5⟩ hr => ⟨h0.trans hr, h1.rex hr (by simp <;> omega), h2.rex hr (by simp <;> omega), h3.rex hr (by simp <;> omega), h4.rex hr (by simp <;> omega), h5.rex hr (by simp <;> omega)⟩) ?_
 iterate 1
  apply nd_det (hg := rfl) (hal := rfl)
  ·intro a W' hC hE
   obtain ⟨_, k1, k2, k3, k4, k5⟩ := hC
   have k1 := k1.cell
   have k2 := k2.cell
   have k3 := k3.cell
   have k4 := k4.cell
   have k5 := k5.cell
   first
    | (simp at hE; simp [go_sem, Act.eval, IntWalk.i64_left, hE, k1, k2, k3, k4, k5]; try rfl)
    | (clear hE; simp [go_sem, Act.eval, IntWalk.i64_left, k1, k2, k3, k4, k5]; try rfl)
 refine nd_callv2 rfl rfl (fun W' hC => cK W') (fun a W' hC hE => ?_) ?_
 ·obtain ⟨_, k1, k2, k3, k4, k5⟩ := hC
  have k1 := k1.cell
  have k2 := k2.cell
  have k3 := k3.cell
  have k4 := k4.cell
  have k5 := k5.cell
  first
   | (simp at hE; simp [go_sem, Act.eval, IntWalk.i64_left, hE, k1, k2, k3, k4, k5]; try rfl)
   | (clear hE; simp [go_sem, Act.eval, IntWalk.i64_left, k1, k2, k3, k4, k5]; try rfl)
 iterate 25
  first
  | (
   apply nd_det (hg := rfl) (hal := rfl)
   ·intro a W' hC hE
    obtain ⟨_, k1, k2, k3, k4, k5⟩ := hC
    have k1 := k1.cell
    have k2 := k2.cell
    have k3 := k3.cell
    have k4 := k4.cell
    have k5 := k5.cell
    first
     | (simp at hE; simp [go_sem, Act.eval, IntWalk.i64_left, hE, k1, k2, k3, k4, k5]; try rfl)
     | (clear hE; simp [go_sem, Act.eval, IntWalk.i64_left, k1, k2, k3, k4, k5]; try rfl))
  | (
   apply nd_detg (p := true) (hg := rfl) (hd := rfl) (hal := rfl)
   ·intro v W' h
    simp at h
    simp
    exact h
   ·intro hp hx a W' hC hE
    obtain ⟨_, k1, k2, k3, k4, k5⟩ := hC
    have k1 := k1.cell
    have k2 := k2.cell
    have k3 := k3.cell
    have k4 := k4.cell
    have k5 := k5.cell
    simp [hx] at hE
    simp [go_sem, Act.eval, IntWalk.i64_left, hE, k1, k2, k3, k4, k5]
    try rfl)
  | (
   apply nd_pick_or (ho := rfl) (hg := rfl)
   ·intro v W' h
    simp at h
    exact h
   ·intro v W' h hx
    simp [hx] at h
    exact h)
 rintro W8 ⟨hR, d1, d2, d3, d4, d5⟩
 simp only [ndFinR, Det, forall_eq]
 intros
 repeat (rename GDet _ _ _ _ => hgd; clear hgd)
 simp only [Act.put, List.setIfInBounds_toArray, List.set_cons_zero, List.set_cons_succ]
 refine wpList_nil ?_
 replace hW := hW.trans (hR.of_priv hW.size)
 clear hR
 clear cK
 try clear b1 b2 b3 b4 b5
 have b1 := d1
 clear d1
 have b2 := d2
 clear d2
 have b3 := d3
 clear d3
 have b4 := d4
 clear d4
 have b5 := d5
 clear d5
 have z9 := hW.size
 have k1 := b1.cell
 have f1 := b1.frozen
 have k2 := b2.cell
 have f2 := b2.frozen
 have k3 := b3.cell
 have f3 := b3.frozen
 have k4 := b4.cell
 have f4 := b4.frozen
 have k5 := b5.cell
 have f5 := b5.frozen
 rw [hq.out]
 go_wp2
 have y_1 := b1.lt
 have y_2 := b2.lt
 have y_3 := b3.lt
 have y_4 := b4.lt
 have y_5 := b5.lt
 refine bodyPost_ret (v := .tuple #[.slice none 0 0, .int .i64 2]) (by simp [results, Tryz.results88, go_sem, k1, f1, k2, f2, k3, f3, k4, f4, k5, f5, y_1, y_2, y_3, y_4, y_5]) rfl ⟨rfl, by exact belowAny⟩
theorem bk1_yes (k N : Nat) (fr wd : Int) (q : Bool) (gk gf gw gn gs : Nat) (s : SerT) (ps : Option Addr) (cs : Nat) (po : Option Addr) (co : Nat) (w : World) (hk : 1 <= k /\ k <= 5) (hN : N <= 64) (hf0 : 0 <= fr) (hf1 : fr <= 281474976710656) (hw0 : 1 <= wd) (hw1 : wd <= 281474976710656) (hin : SerIn w s ps po) (hq : Hid ((!q || decide (fr < 0) || decide (281474976710656 < fr) || decide (wd < 1) || decide (281474976710656 < wd) || decide ((N : Int) < 1) || decide (64 < (N : Int))) = false))
  (cK : ∀ W, Calls Tryz.prog 80 #[.int .i64 (k : Int)] W fun e w' => e = .returned (.bool q) /\ Below W.heap.size W w')
  (b1 : Blk w gk #[.int .i64 (k : Int)] 3) (b2 : Blk w gf #[fr] 2) (b3 : Blk w gw #[wd] 2) (b4 : Blk w gn #[.int .i64 (N : Int)] 3) (b5 : Blk w gs #[.string s.name, s.eps, s.floor, s.last, s.scale, .slice ps s.segs.length cs, .slice po s.opn.length co] 25) :
  Calls Tryz.prog 88 #[.pointer (some ⟨gk, 0, none⟩), .pointer (some ⟨gf, 0, none⟩), .pointer (some ⟨gw, 0, none⟩), .pointer (some ⟨gn, 0, none⟩), .pointer (some ⟨gs, 0, none⟩)] w fun e w' => ∃ v, e = .returned (.tuple #[v, .int .i64 0]) /\ OwnR w' w.heap.size 67 9 v N (flatAns (bucketL s k fr wd N)) /\ Below w.heap.size w w' := by
 obtain ⟨i0, hi, hz0, hz1, hz2⟩ := info_parts Tryz.infoAns
 have y1 := b1.lt
 have y2 := b2.lt
 have y3 := b3.lt
 have y4 := b4.lt
 have y5 := b5.lt
 have H_cK := Lib.hid cK
 clear cK
 go_enter Tryz.func88, Tryz.ntmps88
 go_upto_region 1 with (fail)
 refine wp_facts (fun W' => Below w.heap.size w W' /\ Blk W' gk #[.int .i64 (k : Int)] 3 /\ Blk W' gf #[fr] 2 /\ Blk W' gw #[wd] 2 /\ Blk W' gn #[.int .i64 (N : Int)] 3 /\ Blk W' gs #[.string s.name, s.eps, s.floor, s.last, s.scale, .slice ps s.segs.length cs, .slice po s.opn.length co] 25) ⟨by exact belowAny, by exact blkAny2, by exact blkAny2, by exact blkAny2, by exact blkAny2, by exact blkAny2⟩ ?_
 clear b1 b2 b3 b4 b5
 rintro W1 ⟨hW, b1, b2, b3, b4, b5⟩
 have z2 := hW.size
 have z3 := b1.lt
 have z4 := b2.lt
 have z5 := b3.lt
 have z6 := b4.lt
 have z7 := b5.lt
 have cK := H_cK.out
 refine wp_region_sq 27 62 [] (fun W' => Rex [] W1 W' /\ Blk W' gk #[.int .i64 (k : Int)] 3 /\ Blk W' gf #[fr] 2 /\ Blk W' gw #[wd] 2 /\ Blk W' gn #[.int .i64 (N : Int)] 3 /\ Blk W' gs #[.string s.name, s.eps, s.floor, s.last, s.scale, .slice ps s.segs.length cs, .slice po s.opn.length co] 25) (by kernel_rfl) rfl ⟨(Rex.refl _ _), b1, b2, b3, b4, b5⟩ (fun w w' ⟨h0, h1, h2, h3, h4, h5⟩ hr => ⟨h0.trans hr, h1.rex hr (by simp <;> omega), h2.rex hr (by simp <;> omega), h3.rex hr (by simp <;> omega), h4.rex hr (by simp <;> omega), h5.rex hr (by simp <;> omega)⟩) ?_
 iterate 1
  apply nd_det (hg := rfl) (hal := rfl)
  ·intro a W' hC hE
   obtain ⟨_, k1, k2, k3, k4, k5⟩ := hC
   have k1 := k1.cell
   have k2 := k2.cell
   have k3 := k3.cell
   have k4 := k4.cell
   have k5 := k5.cell
   first
    | (simp at hE; simp [go_sem, Act.eval, IntWalk.i64_left, hE, k1, k2, k3, k4, k5]; try rfl)
    | (clear hE; simp [go_sem, Act.eval, IntWalk.i64_left, k1, k2, k3, k4, k5]; try rfl)
 refine nd_callv2 rfl rfl (fun W' hC => cK W') (fun a W' hC hE => ?_) ?_
 ·obtain ⟨_, k1, k2, k3, k4, k5⟩ := hC
  have k1 := k1.cell
  have k2 := k2.cell
  have k3 := k3.cell
  have k4 := k4.cell
  have k5 := k5.cell
  first
   | (simp at hE; simp [go_sem, Act.eval, IntWalk.i64_left, hE, k1, k2, k3, k4, k5]; try rfl)
   | (clear hE; simp [go_sem, Act.eval, IntWalk.i64_left, k1, k2, k3, k4, k5]; try rfl)
 iterate 25
  first
  | (
   apply nd_det (hg := rfl) (hal := rfl)
   ·intro a W' hC hE
    obtain ⟨_, k1, k2, k3, k4, k5⟩ := hC
    have k1 := k1.cell
    have k2 := k2.cell
    have k3 := k3.cell
    have k4 := k4.cell
    have k5 := k5.cell
    first
     | (simp at hE; simp [go_sem, Act.eval, IntWalk.i64_left, hE, k1, k2, k3, k4, k5]; try rfl)
     | (clear hE; simp [go_sem, Act.eval, IntWalk.i64_left, k1, k2, k3, k4, k5]; try rfl))
  | (
   apply nd_detg (p := true) (hg := rfl) (hd := rfl) (hal := rfl)
   ·intro v W' h
    simp at h
    simp
    exact h
   ·intro hp hx a W' hC hE
    obtain ⟨_, k1, k2, k3, k4, k5⟩ := hC
    have k1 := k1.cell
    have k2 := k2.cell
    have k3 := k3.cell
    have k4 := k4.cell
    have k5 := k5.cell
    simp [hx] at hE
    simp [go_sem, Act.eval, IntWalk.i64_left, hE, k1, k2, k3, k4, k5]
    try rfl)
  | (
   apply nd_pick_or (ho := rfl) (hg := rfl)
   ·intro v W' h
    simp at h
    exact h
   ·intro v W' h hx
    simp [hx] at h
    exact h)
 rintro W8 ⟨hR, d1, d2, d3, d4, d5⟩
 simp only [ndFinR, Det, forall_eq]
 intros
 repeat (rename GDet _ _ _ _ => hgd; clear hgd)
 simp only [Act.put, List.setIfInBounds_toArray, List.set_cons_zero, List.set_cons_succ]
 refine wpList_nil ?_
 replace hW := hW.trans (hR.of_priv hW.size)
 clear hR
 clear cK
 try clear b1 b2 b3 b4 b5
 have b1 := d1
 clear d1
 have b2 := d2
 clear d2
 have b3 := d3
 clear d3
 have b4 := d4
 clear d4
 have b5 := d5
 clear d5
 have z9 := hW.size
 have k1 := b1.cell
 have f1 := b1.frozen
 have k2 := b2.cell
 have f2 := b2.frozen
 have k3 := b3.cell
 have f3 := b3.frozen
 have k4 := b4.cell
 have f4 := b4.frozen
 have k5 := b5.cell
 have f5 := b5.frozen
 rw [hq.out]
 clear H_cK
 go_wp2
 refine wp_loop (bkRel w s ps cs po co k fr wd N gk gf gw gn gs) (fun a' _ => N - (intAt (a'.tmps.getD 38 undef)).toNat) ?_ ?_
 ·unfold bkRel
  exact ⟨hW, b1, b2, b3, b4, b5, 0, .slice none 0 0, frame_ex rfl, OwnR.nil _ _ _ _, by omega⟩
 rintro a' W ⟨hW0, b1, b2, b3, b4, b5, i, v, ⟨u, rfl⟩, hown, hi'⟩
 have hz := hW0.size
 have zb1 := b1.lt
 have zb2 := b2.lt
 have zb3 := b3.lt
 have zb4 := b4.lt
 have zb5 := b5.lt
 rcases Nat.lt_or_ge i N with hlt | hge
 ·have hM0 : 0 <= (i : Int) * wd := Int.mul_nonneg (by omega) (by omega)
  have hM1 : (i : Int) * wd <= 64 * 281474976710656 := Int.mul_le_mul (by omega) hw1 (by omega) (by omega)
  have hsc := Lib.hid (bucketL_succ s k fr wd i)
  obtain ⟨M, hM⟩ : ∃ M, (i : Int) * wd = M := ⟨_, rfl⟩
  rw [hM] at hM0 hM1 hsc
  have E1 := Lib.hid (show wrap64 ((i : Int) * wd) = M by rw [hM, wrap64_eq]; omega)
  clear hM
  obtain ⟨F, hF⟩ : ∃ F, fr + M = F := ⟨_, rfl⟩
  rw [hF] at hsc
  have E2 := Lib.hid (show wrap64 (fr + M) = F by rw [<- hF, wrap64_eq]; omega)
  obtain ⟨G, hG⟩ : ∃ G, F + wd = G := ⟨_, rfl⟩
  have E3 := Lib.hid (show wrap64 (F + wd) = G by rw [<- hG, wrap64_eq]; omega)
  obtain ⟨Z, hZz⟩ : ∃ Z, G - 1 = Z := ⟨_, rfl⟩
  have E4 := Lib.hid (show wrap64 (G - 1) = Z by rw [<- hZz, wrap64_eq]; omega)
  rw [hG, hZz] at hsc
  have hZ : -9223372036854775808 <= Z := by omega
  clear hF hG hZz hM0 hM1
  obtain ⟨r, hr⟩ : ∃ r, ansT s k F Z = r := ⟨_, rfl⟩
  rw [hr] at hsc
  have hW9 := Lib.hid (show ansW s k F Z = aT r by rw [<- hr]; exact ansW_T s k F Z)
  have E1' := E1.out
  have E2' := E2.out
  have k1 := b1.cell
  have f1 := b1.frozen
  have k2 := b2.cell
  have f2 := b2.frozen
  have k3 := b3.cell
  have f3 := b3.frozen
  have k4 := b4.cell
  have f4 := b4.frozen
  have k5 := b5.cell
  have f5 := b5.frozen
  go_upto_region 8 with (fail)
  clear k1 f1 k2 f2 k3 f3 k4 f4 k5 f5
  refine wp_facts (fun W' => Below W.heap.size W W' /\ Blk W' gk #[.int .i64 (k : Int)] 3 /\ Blk W' gf #[fr] 2 /\ Blk W' gw #[wd] 2 /\ Blk W' gn #[.int .i64 (N : Int)] 3 /\ Blk W' gs #[.string s.name, s.eps, s.floor, s.last, s.scale, .slice ps s.segs.length cs, .slice po s.opn.length co] 25 /\ SerIn W' s ps po) ⟨by exact belowAny, by exact blkAny2, by exact blkAny2, by exact blkAny2, by exact blkAny2, by exact blkAny2, by exact (hin.below hW0).below belowAny⟩ ?_
  clear b1 b2 b3 b4 b5
  rintro W21 ⟨hW, b1, b2, b3, b4, b5, b6⟩
  have z22 := hW.size
  have z23 := b1.lt
  have z24 := b2.lt
  have z25 := b3.lt
  have z26 := b4.lt
  have z27 := b5.lt
  refine wp_region_nd 13 62 [] (fun W' => Rex [] W21 W' /\ Blk W' gk #[.int .i64 (k : Int)] 3 /\ Blk W' gf #[fr] 2 /\ Blk W' gw #[wd] 2 /\ Blk W' gn #[.int .i64 (N : Int)] 3 /\ Blk W' gs #[.string s.name, s.eps, s.floor, s.last, s.scale, .slice ps s.segs.length cs, .slice po s.opn.length co] 25 /\ SerIn W' s ps po) mixed (by kernel_rfl) rfl ⟨(Rex.refl _ _).drew, b1, b2, b3, b4, b5, b6.drew⟩ (fun w w' ⟨h0, h1, h2, h3, h4, h5, h6⟩ hr => ⟨h0.trans hr, h1.rex hr (by simp <;> omega), h2.rex hr (by simp <;> omega), h3.rex hr (by simp <;> omega), h4.rex hr (by simp <;> omega), h5.rex hr (by simp <;> omega), h6.rex hr (by simp <;> omega)⟩) (fun c a d v w h => by cases d <;> exact h) ?_
  iterate 1
   apply nd_det (hg := rfl) (hal := rfl)
   ·intro a W' hC hE
    obtain ⟨_, k1, k2, k3, k4, k5, k6⟩ := hC
    have k1 := k1.cell
    have k3 := k3.cell
    have k5 := k5.cell
    first
     | (simp at hE; simp [go_sem, Act.eval, IntWalk.i64_left, hE, k1, k2, k3, k4, k5, k6, E3.out, E4.out]; try rfl)
     | (clear hE; simp [go_sem, Act.eval, IntWalk.i64_left, k1, k2, k3, k4, k5, k6, E3.out, E4.out]; try rfl)
  apply nd_call QsF (hg := rfl) (hal := rfl)
  ·exact QsF.closed
  ·intro a' W' hC hE
   refine ⟨_, _, ?_, (c_questions W').mono ?_⟩
   ·simp [go_sem, Act.eval]
    try rfl
   ·rintro e w' ⟨v, rfl, hq, hB⟩
    exact ⟨v, rfl, hB, hq⟩
  iterate 1
   apply nd_det (hg := rfl) (hal := rfl)
   ·intro a W' hC hE
    obtain ⟨_, k1, k2, k3, k4, k5, k6⟩ := hC
    have k1 := k1.cell
    have k3 := k3.cell
    have k5 := k5.cell
    first
     | (simp at hE; simp [go_sem, Act.eval, IntWalk.i64_left, hE, k1, k2, k3, k4, k5, k6, E3.out, E4.out]; try rfl)
     | (clear hE; simp [go_sem, Act.eval, IntWalk.i64_left, k1, k2, k3, k4, k5, k6, E3.out, E4.out]; try rfl)
  apply nd_spec (IdxF k) (hg := rfl) (hal := rfl)
  ·exact IdxF.closed _
  ·intro a' W' hC hE
   simp at hE
   obtain ⟨f, h1, h2⟩ := qs_index hE.1 k hk
   refine ⟨.agg #[f], ?_, f, rfl, h2⟩
   simp [execOp, Act.eval, hE.2, h1]
  apply nd_spec (AskF k) (hg := rfl) (hal := rfl)
  ·exact AskF.closed _
  ·intro a' W' hC hE
   simp at hE
   obtain ⟨f, h1, h2⟩ := hE
   refine ⟨f, ?_, h2⟩
   simp [go_sem, Act.eval, h1, q_field]
  iterate 6
   apply nd_det (hg := rfl) (hal := rfl)
   ·intro a W' hC hE
    obtain ⟨_, k1, k2, k3, k4, k5, k6⟩ := hC
    have k1 := k1.cell
    have k3 := k3.cell
    have k5 := k5.cell
    first
     | (simp at hE; simp [go_sem, Act.eval, IntWalk.i64_left, hE, k1, k2, k3, k4, k5, k6, E3.out, E4.out]; try rfl)
     | (clear hE; simp [go_sem, Act.eval, IntWalk.i64_left, k1, k2, k3, k4, k5, k6, E3.out, E4.out]; try rfl)
  apply nd_callv (.agg (ansW s k F Z)) (hg := rfl) (hal := rfl)
  ·intro a' W' hC hE
   simp [Oper.looksAt, Op.operands, Call.operands, envOf, Det, E2.out, E3.out, E4.out] at hE
   obtain ⟨f, cap, h1, h2, h3⟩ := ask_call hE.1 s ps po cs co F Z hC.2.2.2.2.2.2 hZ
   unfold serA at h3
   refine ⟨f, _, ?_, h3⟩
   simp [go_sem, Act.eval, hE, h1, h2]
  apply nd_mem (AnsC W21.heap.size r) (hg := rfl) (hal := rfl)
  ·exact AnsC.closed _ _
  ·intro a' W' hC hE
   simp at hE
   refine ⟨.slice (some ⟨W'.heap.size, 0, none⟩) 1 1, W'.alloc (.cells (aT r) 67), ?_, (Below.refl _ _).alloc (Nat.le_refl _) _, W'.heap.size, rfl, hC.1.size, Blk.new' rfl⟩
   rw [hW9.out] at hE
   unfold aT ansA at hE ⊢
   simp [go_sem, execOp, Act.eval, hE]
   try rfl
   done
  rintro W28 ⟨hR, d1, d2, d3, d4, d5, d6⟩
  simp only [ndFinR, Det, forall_eq]
  intros
  repeat (rename GDet _ _ _ _ => hgd; clear hgd)
  simp only [Act.put, List.setIfInBounds_toArray, List.set_cons_zero, List.set_cons_succ, List.drop_succ_cons, List.drop_zero]
  replace hW := hW.trans (hR.of_priv hW.size)
  clear hR
  try clear b1 b2 b3 b4 b5 b6
  have b1 := d1
  clear d1
  have b2 := d2
  clear d2
  have b3 := d3
  clear d3
  have b4 := d4
  clear d4
  have b5 := d5
  clear d5
  have b6 := d6
  clear d6
  rename AnsC _ _ _ _ => ho
  obtain ⟨g1, rfl, hg1, bg⟩ := ho
  have y9 := bg.lt
  have hV1 := hW0.trans (hW.mono hz)
  have hO := hown.below hW
  clear hown hW
  have zz := hV1.size
  have hlo := fun g e => hO.own.lt g e
  go_wp2_with (at_builtin; refine wpList_append_own2 rfl (.tmp 46) (.tmp 58) 80 rfl w.heap.size 67 i0 (.agg #[.int .i64 0, .int .i64 0, .int .i64 0, .int .i64 0, .int .i64 0, .int .i64 0, .int .i64 0, .int .i64 0, .int .i64 0]) 9 72 (by kernel_rfl) hi hz0 hz1 hz2 rfl (by decide) _ _ _ rfl hO.own ⟨g1, 0, none⟩ 1 1 [r.er, r.n, r.x, r.y, r.m0, r.m1, r.m2, r.m3, r.m4] rfl rfl (fun j u hu => ans_news bg hu) (by simp [Value.oneCell']) (by simp [maxLen]; omega) (by omega) (by omega) ?_)
  intro v' w9 hown2 hgr hst
  have hB := Lib.hid (grown_below hV1 (by omega) hgr (fun g e => (hlo g e).1))
  have d1 := b1.grown0 hO.own (by decide) hgr
  have d2 := b2.grown0 hO.own (by decide) hgr
  have d3 := b3.grown0 hO.own (by decide) hgr
  have d4 := b4.grown0 hO.own (by decide) hgr
  have d5 := b5.grown0 hO.own (by decide) hgr
  replace hown2 := Lib.hid hown2
  clear hgr hst hO hlo b1 b2 b3 b4 b5 bg
  go_wp2
  rw [show (i : Int) + 1 = ((i + 1 : Nat) : Int) by omega]
  refine ⟨?_, by simp [intAt]; omega⟩
  exact ⟨hB.out, d1, d2, d3, d4, d5, i + 1, v', frame_ex rfl, ⟨own_cast hown2.out rfl (by rw [hsc.out, flatAns_app]; rfl)⟩, by omega⟩
 ·obtain rfl : i = N := by omega
  go_wp2
  refine bodyPost_ret (v := .tuple #[v, .int .i64 0]) (by simp [results, Tryz.results88, go_sem]) rfl ⟨v, rfl, hown, hW0⟩
end Go.Proofs.YtidfcoooccblaaaGreat
namespace Go.Proofs.YtidfcoooccblaaaGreat
open Go.RowKit
def eqBackRel (w : World) (p : Option Addr) (cap : Nat) (p' : Option Addr) (cap' : Nat) (A B : List RunT) (a' : Act) (W : World) : Prop :=
 Below w.heap.size w W /\ ∃ (i : Nat), (∃ u : Nat -> Value, a' = { tmps := #[.slice p A.length cap, .slice p' A.length cap', u 2, u 3, .bool false, u 5, u 6, u 7, u 8, u 9, u 10, u 11, .int .i64 (A.length : Int), .int .i64 (i : Int), u 14, u 15, u 16, u 17, u 18, u 19, u 20, u 21, u 22, u 23, u 24, u 25], defers := [] }) /\ i <= A.length /\ ∀ k, k < i -> A[k]? = B[k]?
structure AnsIn (w : World) (p : Option Addr) (l : List AnsT) : Prop where
 at' : ∀ (i : Nat) (r : AnsT), l[i]? = some r -> ∃ b o, p = some ⟨b, o, none⟩ /\ ∀ j v, r.cells[j]? = some v -> w.cell? ⟨b, o + i * 9 + j, none⟩ = some v
theorem AnsIn.below {w w' : World} {p : Option Addr} {l : List AnsT} (h : AnsIn w p l) (hb : Below w.heap.size w w') : AnsIn w' p l := ⟨fun i r hr => by
 obtain ⟨b, o, e, h1⟩ := h.at' i r hr
 exact ⟨b, o, e, fun j v hv => (hb.cell (p := ⟨b, _, none⟩) (cell_lt (h1 j v hv))).trans (h1 j v hv)⟩⟩
theorem AnsIn.drew {w : World} {p : Option Addr} {l : List AnsT} (h : AnsIn w p l) : AnsIn w.drew p l := ⟨h.at'⟩
theorem AnsIn.rex {L : List Nat} {w w' : World} {p : Option Addr} {l : List AnsT} (h : AnsIn w p l) (hr : Rex L w w') (hL : L = []) : AnsIn w' p l := by subst hL; exact h.below hr.below
theorem AnsIn.nil (w : World) (p : Option Addr) : AnsIn w p [] := ⟨fun i r hr => by simp at hr⟩
structure AnsP (w : World) (b o : Nat) (l : List AnsT) : Prop where
 ans : AnsIn w (some ⟨b, o, none⟩) l
theorem AnsP.below {w w' : World} {b o : Nat} {l : List AnsT} (h : AnsP w b o l) (hb : Below w.heap.size w w') : AnsP w' b o l := ⟨h.ans.below hb⟩
theorem AnsP.rex {L : List Nat} {w w' : World} {b o : Nat} {l : List AnsT} (h : AnsP w b o l) (hr : Rex L w w') (hL : L = []) : AnsP w' b o l := by subst hL; exact h.below hr.below
theorem AnsP.drew {w : World} {b o : Nat} {l : List AnsT} (h : AnsP w b o l) : AnsP w.drew b o l := ⟨⟨h.ans.at'⟩⟩
theorem AnsP.cellAt {w : World} {b o : Nat} {l : List AnsT} (h : AnsP w b o l) {i : Nat} {r : AnsT} (hx : l[i]? = some r) :
  w.cell? ⟨b, o + i * 9, none⟩ = some (r.er) /\ w.cell? ⟨b, o + i * 9 + 1, none⟩ = some (r.n) /\ w.cell? ⟨b, o + i * 9 + 2, none⟩ = some (r.x) /\ w.cell? ⟨b, o + i * 9 + 3, none⟩ = some (r.y) /\
  w.cell? ⟨b, o + i * 9 + 4, none⟩ = some (r.m0) /\ w.cell? ⟨b, o + i * 9 + 5, none⟩ = some (r.m1) /\ w.cell? ⟨b, o + i * 9 + 6, none⟩ = some (r.m2) /\ w.cell? ⟨b, o + i * 9 + 7, none⟩ = some (r.m3) /\ w.cell? ⟨b, o + i * 9 + 8, none⟩ = some (r.m4) := by
 obtain ⟨b', o', e, h1⟩ := h.ans.at' i r hx
 cases e
 exact ⟨h1 0 _ rfl, h1 1 _ rfl, h1 2 _ rfl, h1 3 _ rfl, h1 4 _ rfl, h1 5 _ rfl, h1 6 _ rfl, h1 7 _ rfl, h1 8 _ rfl⟩
theorem ans_len (r : AnsT) : r.cells.length = 9 := rfl
theorem OwnR.ans {W : World} {B n : Nat} {e : TypeId} {p : Option Addr} {cap : Nat} {l : List AnsT} (h : OwnR W B e 9 (.slice p n cap) n (flatAns l)) (hl : l.length = n) : AnsIn W p l := by
 rcases h.own.2 with ⟨h1, h0⟩ | ⟨g, cap', cur, h1, hg, hb, hn, hmx, _, ht⟩
 ·have : l = [] := List.length_eq_zero_iff.1 (by omega)
  subst this
  exact AnsIn.nil _ _
 ·injection h1 with h2 _ _
  subst h2
  refine ⟨fun i r hr => ⟨g, 0, rfl, fun j v hv => ?_⟩⟩
  have h3 := flat_to AnsT.cells 9 ans_len l i r j v hr hv
  rw [cell_of_row W g _ cur e (0, 0) hb, Nat.zero_add]
  exact row_take ht h3
def AnsPost (L : List AnsT) (er : Int) (w : World) (e : Ending) (w' : World) : Prop :=
 ∃ p k, e = .returned (.tuple #[.slice p L.length k, er]) /\ AnsIn w' p L /\ Below w.heap.size w w'
theorem toldb_bad (nm : ByteArray) (ep fl la sc : Int) (ps po : Option Addr) (ns cs no co : Nat) (gk gf gw gn gs : Nat) (w : World)
  (c1 : ∀ W, Below w.heap.size w W -> Calls Tryz.prog 14 #[.agg #[.string nm, ep, fl, la, sc, .slice ps ns cs, .slice po no co]] W fun e w' => e = .returned (.int .i64 340) /\ Below W.heap.size W w') :
  Calls Tryz.prog 87 #[.agg #[.string nm, ep, fl, la, sc, .slice ps ns cs, .slice po no co], .func (.func 88) #[] #[.pointer (some ⟨gk, 0, none⟩), .pointer (some ⟨gf, 0, none⟩), .pointer (some ⟨gw, 0, none⟩), .pointer (some ⟨gn, 0, none⟩), .pointer (some ⟨gs, 0, none⟩)]] w (AnsPost [] 340 w) := by
 have H_c1 := Lib.hid c1
 clear c1
 go_enter Tryz.func87, Tryz.ntmps87
 have c1 := H_c1.out
 go_wp2_with fail
 refine (c1 _ belowAny).mono ?_
 rintro e w1 ⟨rfl, hb1⟩
 clear c1
 have z2 := hb1.size
 try simp at z2
 have b1 : Blk w1 w.heap.size #[.string nm, ep, fl, la, sc, .slice ps ns cs, .slice po no co] 25 := blkAny2
 have hW : Below w.heap.size w w1 := belowAny
 have z3 := b1.lt
 clear hb1
 have k1 := b1.cell
 have f1 := b1.frozen
 go_wp2
 refine bodyPost_ret (v := .tuple #[.slice none 0 0, .int .i64 340]) (by simp [results, Tryz.results87, go_sem]) rfl ⟨none, 0, rfl, AnsIn.nil _ _, belowAny⟩
theorem toldb_ok (nm : ByteArray) (ep fl la sc : Int) (ps po : Option Addr) (ns cs no co : Nat) (gk gf gw gn gs : Nat) (L : List AnsT) (er : Int) (w : World)
  (c1 : ∀ W, Below w.heap.size w W -> Calls Tryz.prog 14 #[.agg #[.string nm, ep, fl, la, sc, .slice ps ns cs, .slice po no co]] W fun e w' => e = .returned (.int .i64 0) /\ Below W.heap.size W w')
  (c2 : ∀ W, Below w.heap.size w W -> Calls Tryz.prog 88 #[.pointer (some ⟨gk, 0, none⟩), .pointer (some ⟨gf, 0, none⟩), .pointer (some ⟨gw, 0, none⟩), .pointer (some ⟨gn, 0, none⟩), .pointer (some ⟨gs, 0, none⟩)] W (AnsPost L er W)) :
  Calls Tryz.prog 87 #[.agg #[.string nm, ep, fl, la, sc, .slice ps ns cs, .slice po no co], .func (.func 88) #[] #[.pointer (some ⟨gk, 0, none⟩), .pointer (some ⟨gf, 0, none⟩), .pointer (some ⟨gw, 0, none⟩), .pointer (some ⟨gn, 0, none⟩), .pointer (some ⟨gs, 0, none⟩)]] w (AnsPost L er w) := by
 have H_c1 := Lib.hid c1
 clear c1
 have H_c2 := Lib.hid c2
 clear c2
 go_enter Tryz.func87, Tryz.ntmps87
 have c1 := H_c1.out
 go_wp2_with fail
 refine (c1 _ belowAny).mono ?_
 rintro e w1 ⟨rfl, hb1⟩
 clear c1
 have z2 := hb1.size
 try simp at z2
 have b1 : Blk w1 w.heap.size #[.string nm, ep, fl, la, sc, .slice ps ns cs, .slice po no co] 25 := blkAny2
 have hW : Below w.heap.size w w1 := belowAny
 have z3 := b1.lt
 clear hb1
 have k1 := b1.cell
 have f1 := b1.frozen
 have c2 := H_c2.out
 go_wp2_with fail
 refine (c2 _ belowAny).mono ?_
 rintro e w4 ⟨p, k, rfl, hR, hb4⟩
 clear c2
 have z5 := hb4.size
 try simp at z5
 clear k1 f1
 have b1 : Blk w4 w.heap.size #[.string nm, ep, fl, la, sc, .slice ps ns cs, .slice po no co] 25 := blkAny2
 have hW : Below w.heap.size w w4 := belowAny
 have z6 := b1.lt
 have k1 := b1.cell
 have f1 := b1.frozen
 replace hR := Lib.hid hR
 go_wp2
 refine bodyPost_ret (v := .tuple #[.slice p L.length k, er]) (by simp [results, Tryz.results87, go_sem]) rfl ⟨p, k, rfl, hR.out, belowAny⟩
theorem buckets_w (nm : ByteArray) (ep fl la sc : Int) (ps po : Option Addr) (ns cs no co : Nat) (k fr wd nn : Int) (L : List AnsT) (er : Int) (w : World)
  (c1 : ∀ W, Below w.heap.size w W -> Blk W w.heap.size #[.string nm, ep, fl, la, sc, .slice ps ns cs, .slice po no co] 25 -> Blk W (w.heap.size + 1) #[k] 3 -> Blk W (w.heap.size + 1 + 1) #[fr] 2 -> Blk W (w.heap.size + 1 + 1 + 1) #[wd] 2 -> Blk W (w.heap.size + 1 + 1 + 1 + 1) #[nn] 3 -> Calls Tryz.prog 87 #[.agg #[.string nm, ep, fl, la, sc, .slice ps ns cs, .slice po no co], .func (.func 88) #[] #[.pointer (some ⟨w.heap.size + 1, 0, none⟩), .pointer (some ⟨w.heap.size + 1 + 1, 0, none⟩), .pointer (some ⟨w.heap.size + 1 + 1 + 1, 0, none⟩), .pointer (some ⟨w.heap.size + 1 + 1 + 1 + 1, 0, none⟩), .pointer (some ⟨w.heap.size, 0, none⟩)]] W (AnsPost L er W)) :
  Calls Tryz.prog 38 #[.agg #[.string nm, ep, fl, la, sc, .slice ps ns cs, .slice po no co], k, fr, wd, nn] w (AnsPost L er w) := by
 have H_c1 := Lib.hid c1
 clear c1
 go_enter Tryz.func38, Tryz.ntmps38
 have hmf : ∀ (fn : Fn) (first cap : Array Value) (w : World), (Instr.makeFunc fn first cap).run Tryz.prog w = .ok (.func fn first cap) w := fun _ _ _ _ => rfl
 go_upto_region 1 with (fail)
 refine wp_facts (fun W' => Below w.heap.size w W' /\ Blk W' w.heap.size #[.string nm, ep, fl, la, sc, .slice ps ns cs, .slice po no co] 25 /\ Blk W' (w.heap.size + 1) #[k] 3 /\ Blk W' (w.heap.size + 1 + 1) #[fr] 2 /\ Blk W' (w.heap.size + 1 + 1 + 1) #[wd] 2 /\ Blk W' (w.heap.size + 1 + 1 + 1 + 1) #[nn] 3) ⟨by exact belowAny, by exact blkAny2, by exact blkAny2, by exact blkAny2, by exact blkAny2, by exact blkAny2⟩ ?_
 rintro W1 ⟨hW, b1, b2, b3, b4, b5⟩
 have z2 := hW.size
 have z3 := b1.lt
 have z4 := b2.lt
 have z5 := b3.lt
 have z6 := b4.lt
 have z7 := b5.lt
 have k1 := b1.cell
 have f1 := b1.frozen
 have k2 := b2.cell
 have f2 := b2.frozen
 have k3 := b3.cell
 have f3 := b3.frozen
 have k4 := b4.cell
 have f4 := b4.frozen
 have k5 := b5.cell
 have f5 := b5.frozen
 have c1 := H_c1.out
 go_wp2_with fail
 refine (c1 W1 hW b1 b2 b3 b4 b5).mono ?_
 rintro e w8 ⟨p, kk, rfl, hR, hb8⟩
 clear c1
 have z9 := hb8.size
 try simp at z9
 clear k1 f1 k2 f2 k3 f3 k4 f4 k5 f5
 have b1 : Blk w8 w.heap.size #[.string nm, ep, fl, la, sc, .slice ps ns cs, .slice po no co] 25 := blkAny2
 have b2 : Blk w8 (w.heap.size + 1) #[k] 3 := blkAny2
 have b3 : Blk w8 (w.heap.size + 1 + 1) #[fr] 2 := blkAny2
 have b4 : Blk w8 (w.heap.size + 1 + 1 + 1) #[wd] 2 := blkAny2
 have b5 : Blk w8 (w.heap.size + 1 + 1 + 1 + 1) #[nn] 3 := blkAny2
 have hW : Below w.heap.size w w8 := belowAny
 have z10 := b1.lt
 have z11 := b2.lt
 have z12 := b3.lt
 have z13 := b4.lt
 have z14 := b5.lt
 have k1 := b1.cell
 have f1 := b1.frozen
 have k2 := b2.cell
 have f2 := b2.frozen
 have k3 := b3.cell
 have f3 := b3.frozen
 have k4 := b4.cell
 have f4 := b4.frozen
 have k5 := b5.cell
 have f5 := b5.frozen
 replace hR := Lib.hid hR
 go_wp2
 refine bodyPost_ret (v := .tuple #[.slice p L.length kk, er]) (by simp [results, Tryz.results38, go_sem]) rfl ⟨p, kk, rfl, hR.out, belowAny⟩
def askedB (k fr wd nn : Int) : Bool := decide (1 <= k /\ k <= 5 /\ 0 <= fr /\ fr <= 281474976710656 /\ 1 <= wd /\ wd <= 281474976710656 /\ 1 <= nn /\ nn <= 64)
def bkL (s : SerT) (k fr wd nn : Int) : List AnsT := if checkB s && askedB k fr wd nn then bucketL s k.toNat fr wd nn.toNat else []
def bkE (s : SerT) (k fr wd nn : Int) : Int := if checkB s then (if askedB k fr wd nn then 0 else 2) else 340
theorem bucketL_len (s : SerT) (k : Nat) (fr wd : Int) (n : Nat) : (bucketL s k fr wd n).length = n := by unfold bucketL; simp
theorem c_bkBuckets (s : SerT) (ps po : Option Addr) (cs co : Nat) (k fr wd nn : Int) (w : World) (hin : SerIn w s ps po) :
  Calls Tryz.prog 38 #[.agg (serA s ps cs po co), k, fr, wd, nn] w (AnsPost (bkL s k fr wd nn) (bkE s k fr wd nn) w) := by
 unfold serA
 refine buckets_w _ _ _ _ _ _ _ _ _ _ _ k fr wd nn _ _ w fun W hW b1 b2 b3 b4 b5 => ?_
 have hin' := hin.below hW
 have ck := c_srCheck s ps po cs co
 unfold serA checkE at ck
 unfold bkL bkE
 cases hc : checkB s with
 | false =>
  rw [hc] at ck
  exact toldb_bad s.name s.eps s.floor s.last s.scale ps po s.segs.length cs s.opn.length co _ _ _ _ _ W (fun W' hW' => ck W' (hin'.below hW'))
 | true =>
  rw [hc] at ck
  simp only [if_true, Bool.true_and]
  refine toldb_ok s.name s.eps s.floor s.last s.scale ps po s.segs.length cs s.opn.length co _ _ _ _ _ _ _ W (fun W' hW' => ck W' (hin'.below hW')) fun W' hW' => ?_
  cases ha : askedB k fr wd nn with
  | false =>
   unfold askedB at ha
   have ha := of_decide_eq_false ha
   refine (bk1_no k fr wd nn _ _ _ _ _ _ s ps cs po co W' (Lib.hid ?_) (fun W2 => c_known k W2) (b2.below hW') (b3.below hW') (b4.below hW') (b5.below hW') (b1.below hW')).mono ?_
   ·simp only [Bool.or_eq_true, Bool.not_eq_true', Bool.and_eq_false_iff, decide_eq_true_eq, decide_eq_false_iff_not]
    omega
   ·rintro e w' ⟨rfl, hB⟩
    exact ⟨none, 0, rfl, AnsIn.nil _ _, hB⟩
  | true =>
   unfold askedB at ha
   have ha := of_decide_eq_true ha
   obtain ⟨j, rfl⟩ : ∃ j : Nat, k = (j : Int) := ⟨k.toNat, by omega⟩
   obtain ⟨m, rfl⟩ : ∃ m : Nat, nn = (m : Int) := ⟨nn.toNat, by omega⟩
   rw [show ((j : Int).toNat) = j from rfl, show ((m : Int).toNat) = m from rfl]
   refine (bk1_yes j m fr wd _ _ _ _ _ _ s ps cs po co W' (by omega) (by omega) (by omega) (by omega) (by omega) (by omega) (hin'.below hW') (Lib.hid ?_) (fun W2 => c_known (j : Int) W2) (b2.below hW') (b3.below hW') (b4.below hW') (b5.below hW') (b1.below hW')).mono ?_
   ·simp only [Bool.or_eq_false_iff, Bool.not_eq_false', Bool.and_eq_true, decide_eq_true_eq, decide_eq_false_iff_not]
    omega
   ·rintro e w' ⟨v, rfl, hO, hB⟩
    obtain ⟨p, cap, rfl, -⟩ := hO.form
    have hl := bucketL_len s j fr wd m
    have hA := hO.ans hl
    rw [if_pos rfl, if_pos rfl]
    exact ⟨p, cap, by rw [hl], hA, hB⟩
attribute [local simp] Oper.looksAt Op.operands Call.operands envOf Det GDet
def eqPieceRel (w : World) (p : Option Addr) (cap : Nat) (p' : Option Addr) (cap' : Nat) (A B : List RunT) (a' : Act) (W : World) : Prop :=
 Below w.heap.size w W /\ ∃ (i : Nat), (∃ u : Nat -> Value, a' = { tmps := #[.slice p A.length cap, .slice p' A.length cap', u 2, u 3, .bool false, u 5, u 6, u 7, u 8, u 9, u 10, u 11, .int .i64 (A.length : Int), .int .i64 (i : Int), u 14, u 15, u 16, u 17, u 18, u 19, u 20, u 21, u 22, u 23, u 24, u 25], defers := [] }) /\ i <= A.length /\ ∀ k, k < i -> A[k]? = B[k]?
theorem eqPiece_w (p : Option Addr) (cap : Nat) (p' : Option Addr) (cap' : Nat) (A B : List RunT) (w : World) (hl : A.length = B.length) (hlen : A.length <= 1000000) (hA0 : RunsIn w p A) (hB0 : RunsIn w p' B) :
  Calls Tryz.prog 35 #[.slice p A.length cap, .slice p' A.length cap'] w fun e w' => e = .returned (.bool (decide (A = B))) /\ Below w.heap.size w w' := by
 go_enter Tryz.func35, Tryz.ntmps35
 replace hl := Lib.hid hl
 go_wp2
 refine wp_loop (eqPieceRel w p cap p' cap' A B) (fun a' _ => A.length - (intAt (a'.tmps.getD 13 undef)).toNat) ?_ ?_
 ·unfold eqPieceRel
  exact ⟨Below.refl _ _, 0, frame_ex rfl, by omega, fun k hk => by omega⟩
 ·rintro a' W ⟨hW0, i, ⟨u, rfl⟩, hi', hall⟩
  have hz := hW0.size
  replace hall := Lib.hid hall
  rcases Nat.lt_or_ge i A.length with hlt | hge
  ·obtain ⟨r, tr⟩ : ∃ r, A[i]? = some r := ⟨A[i]'(by omega), List.getElem?_eq_getElem (by omega)⟩
   obtain ⟨q, tq⟩ : ∃ q, B[i]? = some q := ⟨B[i]'(by have := hl.out; omega), List.getElem?_eq_getElem (by have := hl.out; omega)⟩
   obtain ⟨b, o, rfl, -⟩ := hA0.at' i r tr
   obtain ⟨b', o', rfl, -⟩ := hB0.at' i q tq
   have hA : RunsP W b o A := ⟨hA0.below hW0⟩
   have hB : RunsP W b' o' B := ⟨hB0.below hW0⟩
   replace tr := Lib.hid tr
   replace tq := Lib.hid tq
   have l1 := hlt
   have l2 : i < B.length := by have := hl.out; omega
   go_upto_region 6 with (fail)
   refine wp_facts (fun W' => Below W.heap.size W W' /\ RunsP W' b o A /\ RunsP W' b' o' B) ⟨by exact belowAny, by exact hA.below belowAny, by exact hB.below belowAny⟩ ?_
   rintro W1 ⟨hW, b1, b2⟩
   have z2 := hW.size
   refine wp_region_ndQ 9 26 [] (fun W' => Rex [] W1 W' /\ RunsP W' b o A /\ RunsP W' b' o' B) mixed (by kernel_rfl) rfl ⟨(Rex.refl _ _).drew, b1.drew, b2.drew⟩ (fun w w' ⟨h0, h1, h2⟩ hr => ⟨h0.trans hr, h1.rex hr (by simp <;> omega), h2.rex hr (by simp <;> omega)⟩) rfl ?_
   iterate 9
    apply nd_det (hg := rfl) (hal := rfl)
    ·intro a W' hC hE
     obtain ⟨_, k1, k2⟩ := hC
     obtain ⟨q0, q1, q2⟩ := k1.cellAt tr.out; obtain ⟨q3, q4, q5⟩ := k2.cellAt tq.out
     first
      | (simp at hE; simp [go_sem, Act.eval, IntWalk.i64_left, hE, k1, k2, q0, q1, q2, q3, q4, q5, l1, l2, ite_eq3]; try rfl)
      | (clear hE; simp [go_sem, Act.eval, IntWalk.i64_left, k1, k2, q0, q1, q2, q3, q4, q5, l1, l2, ite_eq3]; try rfl)
   rintro W3 ⟨hR, d1, d2⟩
   simp only [ndFinR, Det, forall_eq]
   intros
   repeat (rename GDet _ _ _ _ => hgd; clear hgd)
   simp only [Act.put, List.setIfInBounds_toArray, List.set_cons_zero, List.set_cons_succ]
   refine wpList_nil ?_
   replace hW := hW.trans (hR.of_priv hW.size)
   clear hR
   try clear b1 b2
   have b1 := d1
   clear d1
   have b2 := d2
   clear d2
   by_cases hrq : r = q
   ·have hall' := Lib.hid (show ∀ k, k < i + 1 -> A[k]? = B[k]? from fun k hk => by
     rcases Nat.lt_or_ge k i with h | h
     ·exact hall.out k h
     ·obtain rfl : k = i := by omega
      rw [tr.out, tq.out, hrq])
    rw [show (!decide (r.f = q.f) || !decide (r.s = q.s) || !decide (r.c = q.c)) = false by subst hrq; simp]
    clear hrq
    go_wp2
    rw [show (i : Int) + 1 = ((i + 1 : Nat) : Int) by omega]
    refine ⟨?_, by simp [intAt]; omega⟩
    unfold eqPieceRel
    exact ⟨hW0.trans (hW.mono hz), i + 1, frame_ex rfl, by omega, hall'.out⟩
   ·have hne := Lib.hid (show decide (A = B) = false by
     rw [decide_eq_false_iff_not]
     rintro rfl
     rw [tr.out] at tq
     exact hrq (Option.some.inj tq.out))
    rw [show (!decide (r.f = q.f) || !decide (r.s = q.s) || !decide (r.c = q.c)) = true by
     obtain ⟨r1, r2, r3⟩ := r
     obtain ⟨q1, q2, q3⟩ := q
     simp at hrq
     simp
     by_cases h1 : r1 = q1 <;> by_cases h2 : r2 = q2 <;> simp [h1, h2] at hrq ⊢
     exact hrq]
    clear hrq
    go_wp2
    go_ret
    exact ⟨by rw [hne.out]; rfl, hW0.trans (hW.mono hz)⟩
  ·obtain rfl : i = A.length := by omega
   have heq := Lib.hid (show decide (A = B) = true by
    rw [decide_eq_true_eq]
    apply List.ext_getElem?
    intro k
    rcases Nat.lt_or_ge k A.length with h | h
    ·exact hall.out k h
    ·rw [List.getElem?_eq_none h, List.getElem?_eq_none (by have := hl.out; omega)])
   go_wp2
   go_ret
   exact ⟨by rw [heq.out]; rfl, hW0⟩
theorem eqPiece_len (p : Option Addr) (n cap : Nat) (p' : Option Addr) (m cap' : Nat) (w : World) (hl : ¬ n = m) :
  Calls Tryz.prog 35 #[.slice p n cap, .slice p' m cap'] w fun e w' => e = .returned (.bool false) /\ Below w.heap.size w w' := by
 go_enter Tryz.func35, Tryz.ntmps35
 go_wp2
 go_ret
 exact ⟨rfl, Below.refl _ _⟩
theorem c_eqPiece (p : Option Addr) (cap : Nat) (p' : Option Addr) (cap' : Nat) (A B : List RunT) (w : World) (hlen : A.length <= 1000000) (hA0 : RunsIn w p A) (hB0 : RunsIn w p' B) :
  Calls Tryz.prog 35 #[.slice p A.length cap, .slice p' B.length cap'] w fun e w' => e = .returned (.bool (decide (A = B))) /\ Below w.heap.size w w' := by
 by_cases h : A.length = B.length
 ·rw [<- h]; exact eqPiece_w p cap p' cap' A B w h hlen hA0 hB0
 ·rw [show decide (A = B) = false by rw [decide_eq_false_iff_not]; rintro rfl; exact h rfl]
  exact eqPiece_len p _ cap p' _ cap' w h
def eqAnsRel (w : World) (p : Option Addr) (cap : Nat) (p' : Option Addr) (cap' : Nat) (A B : List AnsT) (a' : Act) (W : World) : Prop :=
 Below w.heap.size w W /\ ∃ (i : Nat), (∃ u : Nat -> Value, a' = { tmps := #[.slice p A.length cap, .slice p' A.length cap', u 2, u 3, .bool false, u 5, u 6, u 7, u 8, u 9, u 10, u 11, .int .i64 (A.length : Int), .int .i64 (i : Int), u 14, u 15, u 16, u 17, u 18, u 19, u 20, u 21, u 22, u 23, u 24, u 25], defers := [] }) /\ i <= A.length /\ ∀ k, k < i -> A[k]? = B[k]?
end Go.Proofs.YtidfcoooccblaaaGreat
