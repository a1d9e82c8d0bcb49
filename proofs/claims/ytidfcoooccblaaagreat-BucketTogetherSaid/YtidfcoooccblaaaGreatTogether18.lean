/- Parts of the proof that follows: Layer bucket: One, told. No condition. | answer.Scan's inner function put: one more is told, or not. No condition but bounds. | Layer bucket: the answers of buckets in a row. No condition. | slices.Equal, of what is told. No condition. | Layer bucket: Buckets, told; rows of answers. No condition. | Buckets that lie side by side, plainly: what all of them come to. No condition but that the series may be. | The laws of chapter 26: may (which buckets are asked for). No condition. -/
import Derived.Test.YtidfcoooccblaaaGreatTogether17
set_option maxRecDepth 100000
set_option maxHeartbeats 8000000
set_option linter.unusedSimpArgs false
set_option linter.unusedVariables false
namespace Go.Proofs.YtidfcoooccblaaaGreat
open Go.RowKit
theorem tolda_bad (nm : ByteArray) (ep fl la sc : Int) (ps po : Option Addr) (ns cs no co : Nat) (gk gs ga gb : Nat) (w : World)
  (c1 : ∀ W, Below w.heap.size w W -> Calls Tryz.prog 14 #[.agg #[.string nm, ep, fl, la, sc, .slice ps ns cs, .slice po no co]] W fun e w' => e = .returned (.int .i64 340) /\ Below W.heap.size W w') :
  Calls Tryz.prog 78 #[.agg #[.string nm, ep, fl, la, sc, .slice ps ns cs, .slice po no co], .func (.func 79) #[] #[.pointer (some ⟨gk, 0, none⟩), .pointer (some ⟨gs, 0, none⟩), .pointer (some ⟨ga, 0, none⟩), .pointer (some ⟨gb, 0, none⟩)]] w fun e w' => e = .returned (.tuple #[.agg #[.int .i64 0, .int .i64 0, .int .i64 0, .int .i64 0, .int .i64 0, .int .i64 0, .int .i64 0, .int .i64 0, .int .i64 0], .int .i64 340]) /\ Below w.heap.size w w' := by
 have H_c1 := Lib.hid c1
 clear c1
 go_enter Tryz.func78, Tryz.ntmps78
 have c1 := H_c1.out
 go_wp2_with fail
 refine (c1 _ belowAny).mono ?_
 rintro e w1 ⟨rfl, hb1⟩
 clear c1
 have z2 := hb1.size
 try simp at z2
 have b1 : Blk w1 w.heap.size #[.string nm, ep, fl, la, sc, .slice ps ns cs, .slice po no co] 25 := blkAny2
 have b2 : Blk w1 (w.heap.size + 1) #[.int .i64 0, .int .i64 0, .int .i64 0, .int .i64 0, .int .i64 0, .int .i64 0, .int .i64 0, .int .i64 0, .int .i64 0] 67 := blkAny2
 have hW : Below w.heap.size w w1 := belowAny
 have z3 := b1.lt
 have z4 := b2.lt
 clear hb1
 have k1 := b1.cell
 have f1 := b1.frozen
 have k2 := b2.cell
 have f2 := b2.frozen
 go_wp2
 have y_1 := b1.lt
 have y_2 := b2.lt
 refine bodyPost_ret (v := .tuple #[.agg #[.int .i64 0, .int .i64 0, .int .i64 0, .int .i64 0, .int .i64 0, .int .i64 0, .int .i64 0, .int .i64 0, .int .i64 0], .int .i64 340]) (by simp [results, Tryz.results78, go_sem, k1, f1, k2, f2, y_1, y_2]) rfl ⟨rfl, by exact belowAny⟩
theorem tolda_ok (nm : ByteArray) (ep fl la sc : Int) (ps po : Option Addr) (ns cs no co : Nat) (gk gs ga gb : Nat) (xe n x y m0 m1 m2 m3 m4 er : Int) (w : World)
  (c1 : ∀ W, Below w.heap.size w W -> Calls Tryz.prog 14 #[.agg #[.string nm, ep, fl, la, sc, .slice ps ns cs, .slice po no co]] W fun e w' => e = .returned (.int .i64 0) /\ Below W.heap.size W w')
  (c2 : ∀ W, Below w.heap.size w W -> Calls Tryz.prog 79 #[.pointer (some ⟨gk, 0, none⟩), .pointer (some ⟨gs, 0, none⟩), .pointer (some ⟨ga, 0, none⟩), .pointer (some ⟨gb, 0, none⟩)] W fun e w' => e = .returned (.tuple #[.agg #[xe, n, x, y, m0, m1, m2, m3, m4], er]) /\ Below W.heap.size W w') :
  Calls Tryz.prog 78 #[.agg #[.string nm, ep, fl, la, sc, .slice ps ns cs, .slice po no co], .func (.func 79) #[] #[.pointer (some ⟨gk, 0, none⟩), .pointer (some ⟨gs, 0, none⟩), .pointer (some ⟨ga, 0, none⟩), .pointer (some ⟨gb, 0, none⟩)]] w fun e w' => e = .returned (.tuple #[.agg #[xe, n, x, y, m0, m1, m2, m3, m4], er]) /\ Below w.heap.size w w' := by
 have H_c1 := Lib.hid c1
 clear c1
 have H_c2 := Lib.hid c2
 clear c2
 go_enter Tryz.func78, Tryz.ntmps78
 have c1 := H_c1.out
 go_wp2_with fail
 refine (c1 _ belowAny).mono ?_
 rintro e w1 ⟨rfl, hb1⟩
 clear c1
 have z2 := hb1.size
 try simp at z2
 have b1 : Blk w1 w.heap.size #[.string nm, ep, fl, la, sc, .slice ps ns cs, .slice po no co] 25 := blkAny2
 have b2 : Blk w1 (w.heap.size + 1) #[.int .i64 0, .int .i64 0, .int .i64 0, .int .i64 0, .int .i64 0, .int .i64 0, .int .i64 0, .int .i64 0, .int .i64 0] 67 := blkAny2
 have hW : Below w.heap.size w w1 := belowAny
 have z3 := b1.lt
 have z4 := b2.lt
 clear hb1
 have k1 := b1.cell
 have f1 := b1.frozen
 have k2 := b2.cell
 have f2 := b2.frozen
 have c2 := H_c2.out
 go_wp2_with fail
 refine (c2 _ belowAny).mono ?_
 rintro e w5 ⟨rfl, hb5⟩
 clear c2
 have z6 := hb5.size
 try simp at z6
 clear k1 f1 k2 f2
 have b1 : Blk w5 w.heap.size #[.string nm, ep, fl, la, sc, .slice ps ns cs, .slice po no co] 25 := blkAny2
 have b2 : Blk w5 (w.heap.size + 1) #[.int .i64 0, .int .i64 0, .int .i64 0, .int .i64 0, .int .i64 0, .int .i64 0, .int .i64 0, .int .i64 0, .int .i64 0] 67 := blkAny2
 have hW : Below w.heap.size w w5 := belowAny
 have z7 := b1.lt
 have z8 := b2.lt
 clear hb5
 have k1 := b1.cell
 have f1 := b1.frozen
 have k2 := b2.cell
 have f2 := b2.frozen
 go_wp2
 have y_1 := b1.lt
 have y_2 := b2.lt
 refine bodyPost_ret (v := .tuple #[.agg #[xe, n, x, y, m0, m1, m2, m3, m4], er]) (by simp [results, Tryz.results78, go_sem, k1, f1, k2, f2, y_1, y_2]) rfl ⟨rfl, by exact belowAny⟩
theorem one_e (nm : ByteArray) (ep fl la sc : Int) (ps po : Option Addr) (ns cs no co : Nat) (k a b : Int) (xe n x y m0 m1 m2 m3 m4 er : Int) (w : World) (her : er ≠ 0)
  (c1 : ∀ W, Below w.heap.size w W -> Blk W w.heap.size #[.string nm, ep, fl, la, sc, .slice ps ns cs, .slice po no co] 25 -> Blk W (w.heap.size + 1) #[k] 3 -> Blk W (w.heap.size + 1 + 1) #[a] 2 -> Blk W (w.heap.size + 1 + 1 + 1) #[b] 2 -> Calls Tryz.prog 78 #[.agg #[.string nm, ep, fl, la, sc, .slice ps ns cs, .slice po no co], .func (.func 79) #[] #[.pointer (some ⟨w.heap.size + 1, 0, none⟩), .pointer (some ⟨w.heap.size, 0, none⟩), .pointer (some ⟨w.heap.size + 1 + 1, 0, none⟩), .pointer (some ⟨w.heap.size + 1 + 1 + 1, 0, none⟩)]] W fun e w' => e = .returned (.tuple #[.agg #[xe, n, x, y, m0, m1, m2, m3, m4], er]) /\ Below W.heap.size W w') :
  Calls Tryz.prog 33 #[.agg #[.string nm, ep, fl, la, sc, .slice ps ns cs, .slice po no co], k, a, b] w fun e w' => e = .returned (.agg #[er, .int .i64 0, .int .i64 0, .int .i64 0, .int .i64 0, .int .i64 0, .int .i64 0, .int .i64 0, .int .i64 0]) /\ Below w.heap.size w w' := by
 have H_c1 := Lib.hid c1
 clear c1
 go_enter Tryz.func33, Tryz.ntmps33
 have hmf : ∀ (fn : Fn) (first cap : Array Value) (w : World), (Instr.makeFunc fn first cap).run Tryz.prog w = .ok (.func fn first cap) w := fun _ _ _ _ => rfl
 go_upto_region 1 with (fail)
 refine wp_facts (fun W' => Below w.heap.size w W' /\ Blk W' w.heap.size #[.string nm, ep, fl, la, sc, .slice ps ns cs, .slice po no co] 25 /\ Blk W' (w.heap.size + 1) #[k] 3 /\ Blk W' (w.heap.size + 1 + 1) #[a] 2 /\ Blk W' (w.heap.size + 1 + 1 + 1) #[b] 2 /\ Blk W' (w.heap.size + 1 + 1 + 1 + 1) #[.int .i64 0, .int .i64 0, .int .i64 0, .int .i64 0, .int .i64 0, .int .i64 0, .int .i64 0, .int .i64 0, .int .i64 0] 67) ⟨by exact belowAny, by exact blkAny2, by exact blkAny2, by exact blkAny2, by exact blkAny2, by exact blkAny2⟩ ?_
 rintro W1 ⟨hW, b1, b2, b3, b4, b5⟩
 have z2 := hW.size
 have z3 := b1.lt
 have z4 := b2.lt
 have z5 := b3.lt
 have z6 := b4.lt
 have z7 := b5.lt
 have k1 := b1.cell
 have f1 := b1.frozen
 have k2 := b2.cell
 have f2 := b2.frozen
 have k3 := b3.cell
 have f3 := b3.frozen
 have k4 := b4.cell
 have f4 := b4.frozen
 have k5 := b5.cell
 have f5 := b5.frozen
 have c1 := H_c1.out
 go_wp2_with fail
 refine (c1 W1 hW b1 b2 b3 b4).mono ?_
 rintro e w8 ⟨rfl, hb8⟩
 clear c1
 have z9 := hb8.size
 try simp at z9
 clear k1 f1 k2 f2 k3 f3 k4 f4 k5 f5
 have b1 : Blk w8 w.heap.size #[.string nm, ep, fl, la, sc, .slice ps ns cs, .slice po no co] 25 := blkAny2
 have b2 : Blk w8 (w.heap.size + 1) #[k] 3 := blkAny2
 have b3 : Blk w8 (w.heap.size + 1 + 1) #[a] 2 := blkAny2
 have b4 : Blk w8 (w.heap.size + 1 + 1 + 1) #[b] 2 := blkAny2
 have b5 : Blk w8 (w.heap.size + 1 + 1 + 1 + 1) #[.int .i64 0, .int .i64 0, .int .i64 0, .int .i64 0, .int .i64 0, .int .i64 0, .int .i64 0, .int .i64 0, .int .i64 0] 67 := blkAny2
 have hW : Below w.heap.size w w8 := belowAny
 have z10 := b1.lt
 have z11 := b2.lt
 have z12 := b3.lt
 have z13 := b4.lt
 have z14 := b5.lt
 clear hb8
 have k1 := b1.cell
 have f1 := b1.frozen
 have k2 := b2.cell
 have f2 := b2.frozen
 have k3 := b3.cell
 have f3 := b3.frozen
 have k4 := b4.cell
 have f4 := b4.frozen
 have k5 := b5.cell
 have f5 := b5.frozen
 go_wp2
 have y_1 := b1.lt
 have y_2 := b2.lt
 have y_3 := b3.lt
 have y_4 := b4.lt
 have y_5 := b5.lt
 refine bodyPost_ret (v := .agg #[er, .int .i64 0, .int .i64 0, .int .i64 0, .int .i64 0, .int .i64 0, .int .i64 0, .int .i64 0, .int .i64 0]) (by simp [results, Tryz.results33, go_sem, k1, f1, k2, f2, k3, f3, k4, f4, k5, f5, y_1, y_2, y_3, y_4, y_5]) rfl ⟨rfl, by exact belowAny⟩
theorem one_0 (nm : ByteArray) (ep fl la sc : Int) (ps po : Option Addr) (ns cs no co : Nat) (k a b : Int) (xe n x y m0 m1 m2 m3 m4 : Int) (w : World)
  (c1 : ∀ W, Below w.heap.size w W -> Blk W w.heap.size #[.string nm, ep, fl, la, sc, .slice ps ns cs, .slice po no co] 25 -> Blk W (w.heap.size + 1) #[k] 3 -> Blk W (w.heap.size + 1 + 1) #[a] 2 -> Blk W (w.heap.size + 1 + 1 + 1) #[b] 2 -> Calls Tryz.prog 78 #[.agg #[.string nm, ep, fl, la, sc, .slice ps ns cs, .slice po no co], .func (.func 79) #[] #[.pointer (some ⟨w.heap.size + 1, 0, none⟩), .pointer (some ⟨w.heap.size, 0, none⟩), .pointer (some ⟨w.heap.size + 1 + 1, 0, none⟩), .pointer (some ⟨w.heap.size + 1 + 1 + 1, 0, none⟩)]] W fun e w' => e = .returned (.tuple #[.agg #[xe, n, x, y, m0, m1, m2, m3, m4], .int .i64 0]) /\ Below W.heap.size W w') :
  Calls Tryz.prog 33 #[.agg #[.string nm, ep, fl, la, sc, .slice ps ns cs, .slice po no co], k, a, b] w fun e w' => e = .returned (.agg #[xe, n, x, y, m0, m1, m2, m3, m4]) /\ Below w.heap.size w w' := by
 have H_c1 := Lib.hid c1
 clear c1
 go_enter Tryz.func33, Tryz.ntmps33
 have hmf : ∀ (fn : Fn) (first cap : Array Value) (w : World), (Instr.makeFunc fn first cap).run Tryz.prog w = .ok (.func fn first cap) w := fun _ _ _ _ => rfl
 go_upto_region 1 with (fail)
 refine wp_facts (fun W' => Below w.heap.size w W' /\ Blk W' w.heap.size #[.string nm, ep, fl, la, sc, .slice ps ns cs, .slice po no co] 25 /\ Blk W' (w.heap.size + 1) #[k] 3 /\ Blk W' (w.heap.size + 1 + 1) #[a] 2 /\ Blk W' (w.heap.size + 1 + 1 + 1) #[b] 2 /\ Blk W' (w.heap.size + 1 + 1 + 1 + 1) #[.int .i64 0, .int .i64 0, .int .i64 0, .int .i64 0, .int .i64 0, .int .i64 0, .int .i64 0, .int .i64 0, .int .i64 0] 67) ⟨by exact belowAny, by exact blkAny2, by exact blkAny2, by exact blkAny2, by exact blkAny2, by exact blkAny2⟩ ?_
 rintro W1 ⟨hW, b1, b2, b3, b4, b5⟩
 have z2 := hW.size
 have z3 := b1.lt
 have z4 := b2.lt
 have z5 := b3.lt
 have z6 := b4.lt
 have z7 := b5.lt
 have k1 := b1.cell
 have f1 := b1.frozen
 have k2 := b2.cell
 have f2 := b2.frozen
 have k3 := b3.cell
 have f3 := b3.frozen
 have k4 := b4.cell
 have f4 := b4.frozen
 have k5 := b5.cell
 have f5 := b5.frozen
 have c1 := H_c1.out
 go_wp2_with fail
 refine (c1 W1 hW b1 b2 b3 b4).mono ?_
 rintro e w8 ⟨rfl, hb8⟩
 clear c1
 have z9 := hb8.size
 try simp at z9
 clear k1 f1 k2 f2 k3 f3 k4 f4 k5 f5
 have b1 : Blk w8 w.heap.size #[.string nm, ep, fl, la, sc, .slice ps ns cs, .slice po no co] 25 := blkAny2
 have b2 : Blk w8 (w.heap.size + 1) #[k] 3 := blkAny2
 have b3 : Blk w8 (w.heap.size + 1 + 1) #[a] 2 := blkAny2
 have b4 : Blk w8 (w.heap.size + 1 + 1 + 1) #[b] 2 := blkAny2
 have b5 : Blk w8 (w.heap.size + 1 + 1 + 1 + 1) #[.int .i64 0, .int .i64 0, .int .i64 0, .int .i64 0, .int .i64 0, .int .i64 0, .int .i64 0, .int .i64 0, .int .i64 0] 67 := blkAny2
 have hW : Below w.heap.size w w8 := belowAny
 have z10 := b1.lt
 have z11 := b2.lt
 have z12 := b3.lt
 have z13 := b4.lt
 have z14 := b5.lt
 clear hb8
 have k1 := b1.cell
 have f1 := b1.frozen
 have k2 := b2.cell
 have f2 := b2.frozen
 have k3 := b3.cell
 have f3 := b3.frozen
 have k4 := b4.cell
 have f4 := b4.frozen
 have k5 := b5.cell
 have f5 := b5.frozen
 go_wp2
 have y_1 := b1.lt
 have y_2 := b2.lt
 have y_3 := b3.lt
 have y_4 := b4.lt
 have y_5 := b5.lt
 refine bodyPost_ret (v := .agg #[xe, n, x, y, m0, m1, m2, m3, m4]) (by simp [results, Tryz.results33, go_sem, k1, f1, k2, f2, k3, f3, k4, f4, k5, f5, y_1, y_2, y_3, y_4, y_5]) rfl ⟨rfl, by exact belowAny⟩
def oneA (s : SerT) (k a b : Int) : Array Value := if checkB s then (if 1 <= k /\ k <= 5 then ansW s k.toNat a b else ansA 2 0 0 0 0 0 0 0 0) else ansA 340 0 0 0 0 0 0 0 0
theorem c_bkOne (s : SerT) (ps po : Option Addr) (cs co : Nat) (k a b : Int) (w : World) (hin : SerIn w s ps po) (hb : -9223372036854775808 <= b) :
  Calls Tryz.prog 33 #[.agg (serA s ps cs po co), k, a, b] w fun e w' => e = .returned (.agg (oneA s k a b)) /\ Below w.heap.size w w' := by
 unfold serA oneA
 have ck := c_srCheck s ps po cs co
 unfold serA checkE at ck
 cases hc : checkB s with
 | false =>
  rw [hc] at ck
  simp only [Bool.false_eq_true, if_false]
  exact one_e _ _ _ _ _ ps po _ cs _ co k a b 0 0 0 0 0 0 0 0 0 340 w (by decide) fun W hW k1 k2 k3 k4 =>
   tolda_bad s.name s.eps s.floor s.last s.scale ps po s.segs.length cs s.opn.length co _ _ _ _ W (fun W' hW' => ck W' ((hin.below hW).below hW'))
 | true =>
  rw [hc] at ck
  simp only [if_true]
  by_cases hk : 1 <= k /\ k <= 5
  ·rw [if_pos hk]
   obtain ⟨j, hj⟩ : ∃ j : Nat, k = (j : Int) := ⟨k.toNat, by omega⟩
   subst hj
   have hj5 : 1 <= j /\ j <= 5 := by omega
   rw [show ((j : Int).toNat) = j from rfl]
   obtain ⟨er, n, x, y, m0, m1, m2, m3, m4, he⟩ := ansW_is s j a b
   rw [he]
   refine one_0 _ _ _ _ _ ps po _ cs _ co (j : Int) a b er n x y m0 m1 m2 m3 m4 w fun W hW k1 k2 k3 k4 =>
    tolda_ok s.name s.eps s.floor s.last s.scale ps po s.segs.length cs s.opn.length co _ _ _ _ er n x y m0 m1 m2 m3 m4 0 W (fun W' hW' => ck W' ((hin.below hW).below hW')) fun W' hW' => ?_
   have t := one1_yes s ps po cs co j a b _ _ _ _ W' hj5 hb ((hin.below hW).below hW') (k2.below hW') (k1.below hW') (k3.below hW') (k4.below hW')
   rw [he] at t
   exact t
  ·rw [if_neg hk]
   exact one_e _ _ _ _ _ ps po _ cs _ co k a b 0 0 0 0 0 0 0 0 0 2 w (by decide) fun W hW k1 k2 k3 k4 =>
    tolda_ok s.name s.eps s.floor s.last s.scale ps po s.segs.length cs s.opn.length co _ _ _ _ 0 0 0 0 0 0 0 0 0 2 W (fun W' hW' => ck W' ((hin.below hW).below hW')) fun W' hW' =>
     one1_no s ps po cs co k a b _ _ _ _ W' hk (k2.below hW') (k1.below hW') (k3.below hW') (k4.below hW')
def PutPost (B gO : Nat) (L : List (Int × Int × Int)) (w : World) (e : Ending) (w' : World) : Prop :=
 e = .returned (.tuple #[]) /\ Below B w w' /\ (∀ g cs t, g ≠ gO -> t ≠ 63 -> Blk w g cs t -> Blk w' g cs t) /\ ∃ v, Blk w' gO #[v] 52 /\ OwnR w' B 63 3 v L.length (flatCells (L.map bkT))
def putL (fr b t y far : Int) (L : List (Int × Int × Int)) : List (Int × Int × Int) := if selB fr b (t, y) then L ++ [(t, y, far)] else L
attribute [local simp] Oper.looksAt Op.operands Call.operands envOf Det GDet
structure AnsT where
 er : Int
 n : Int
 x : Int
 y : Int
 m0 : Int
 m1 : Int
 m2 : Int
 m3 : Int
 m4 : Int
instance : DecidableEq AnsT := fun a b => decidable_of_iff (a.er = b.er /\ a.n = b.n /\ a.x = b.x /\ a.y = b.y /\ a.m0 = b.m0 /\ a.m1 = b.m1 /\ a.m2 = b.m2 /\ a.m3 = b.m3 /\ a.m4 = b.m4) (by cases a; cases b; simp)
def aT (t : AnsT) : Array Value := ansA t.er t.n t.x t.y t.m0 t.m1 t.m2 t.m3 t.m4
def ansT (s : SerT) (k : Nat) (a b : Int) : AnsT :=
 if k = 1 then ⟨if wholeE s a b = 9 then 0 else wholeE s a b, (wholeV s a b).length, 0, 0, 0, 0, 0, 0, 0⟩
 else if k = 2 then ⟨wholeE s a b, 0, minL (loL (wholeV s a b)), minL (hiL (wholeV s a b)), 0, 0, 0, 0, 0⟩
 else if k = 3 then ⟨wholeE s a b, 0, maxL (loL (wholeV s a b)), maxL (hiL (wholeV s a b)), 0, 0, 0, 0, 0⟩
 else if k = 4 then ⟨sumE (wholeV s a b) (wholeE s a b), 0, sl (wholeV s a b), sh (wholeV s a b), 0, 0, 0, 0, 0⟩
 else ⟨wholeE s a b, 0, 0, 0, (wholeV s a b).length, lsum (loL (wholeV s a b)) / (wholeV s a b).length, lsum (loL (wholeV s a b)) % (wholeV s a b).length, lsum (hiL (wholeV s a b)) / (wholeV s a b).length, lsum (hiL (wholeV s a b)) % (wholeV s a b).length⟩
theorem ansW_T (s : SerT) (k : Nat) (a b : Int) : ansW s k a b = aT (ansT s k a b) := by
 unfold ansW ansT aT
 split
 ·rfl
 ·split
  ·rfl
  ·split
   ·rfl
   ·split <;> rfl
def AnsT.cells (t : AnsT) : List Value := (aT t).toList
def flatAns (l : List AnsT) : List Value := l.flatMap AnsT.cells
def bucketL (s : SerT) (k : Nat) (fr wd : Int) (n : Nat) : List AnsT := (List.range n).map fun (i : Nat) => ansT s k (fr + (i : Int) * wd) (fr + (i : Int) * wd + wd - 1)
theorem bucketL_succ (s : SerT) (k : Nat) (fr wd : Int) (n : Nat) : bucketL s k fr wd (n + 1) = bucketL s k fr wd n ++ [ansT s k (fr + n * wd) (fr + n * wd + wd - 1)] := by
 unfold bucketL
 rw [List.range_succ, List.map_append]
 rfl
theorem flatAns_app (l : List AnsT) (r : AnsT) : flatAns (l ++ [r]) = flatAns l ++ (aT r).toList := by
 unfold flatAns
 rw [List.flatMap_append, List.flatMap_cons, List.flatMap_nil, List.append_nil]
 rfl
def AnsC (B : Nat) (r : AnsT) : Spec := fun v w => ∃ g, v = .slice (some ⟨g, 0, none⟩) 1 1 /\ B <= g /\ Blk w g (aT r) 67
theorem AnsC.closed (B : Nat) (r : AnsT) : Closed [] (AnsC B r) := fun _ _ _ hr ⟨g, e1, h1, h⟩ => ⟨g, e1, h1, h.rex hr (by simp)⟩
theorem Tryz.infoAns : (Tryz.prog.info? 67).map (fun i => (i.zero, i.size, i.bytes)) = some (some (.agg #[.int .i64 0, .int .i64 0, .int .i64 0, .int .i64 0, .int .i64 0, .int .i64 0, .int .i64 0, .int .i64 0, .int .i64 0]), 9, 72) := by kernel_rfl
theorem ans_news {W : World} {g : Nat} {r : AnsT} {t : TypeId} (h : Blk W g (aT r) t) {j : Nat} {u : Value} (hu : [Value.int .i64 r.er, r.n, r.x, r.y, r.m0, r.m1, r.m2, r.m3, r.m4][j]? = some u) : W.cell? ((⟨g, 0, none⟩ : Addr).add j) = some u := by
 have hadd : (⟨g, 0, none⟩ : Addr).add j = ⟨g, j, none⟩ := by unfold Addr.add; split <;> simp_all
 rw [hadd, h.cell]
 unfold aT ansA
 simpa using hu
def bkRel (w : World) (s : SerT) (ps : Option Addr) (cs : Nat) (po : Option Addr) (co : Nat) (k : Nat) (fr wd : Int) (N gk gf gw gn gs : Nat) (a' : Act) (W : World) : Prop :=
 Below w.heap.size w W /\ Blk W gk #[.int .i64 (k : Int)] 3 /\ Blk W gf #[fr] 2 /\ Blk W gw #[wd] 2 /\ Blk W gn #[.int .i64 (N : Int)] 3 /\ Blk W gs #[.string s.name, s.eps, s.floor, s.last, s.scale, .slice ps s.segs.length cs, .slice po s.opn.length co] 25 /\
  ∃ (i : Nat) (v : Value), (∃ u : Nat -> Value, a' = { tmps := #[.pointer (some ⟨gk, 0, none⟩), .pointer (some ⟨gf, 0, none⟩), .pointer (some ⟨gw, 0, none⟩), .pointer (some ⟨gn, 0, none⟩), .pointer (some ⟨gs, 0, none⟩), .slice none 0 0, .int .i64 0, v, u 8, u 9, u 10, u 11, u 12, u 13, u 14, u 15, u 16, u 17, u 18, u 19, u 20, u 21, u 22, u 23, u 24, u 25, u 26, u 27, u 28, u 29, u 30, u 31, u 32, u 33, u 34, u 35, u 36, .int .i64 (N : Int), .int .i64 (i : Int), u 39, u 40, u 41, u 42, u 43, u 44, u 45, u 46, u 47, u 48, u 49, u 50, u 51, u 52, u 53, u 54, u 55, u 56, u 57, u 58, u 59, u 60, u 61], defers := [] }) /\ OwnR W w.heap.size 67 9 v i (flatAns (bucketL s k fr wd i)) /\ i <= N
theorem bk1_no (k fr wd nn : Int) (q : Bool) (gk gf gw gn gs : Nat) (s : SerT) (ps : Option Addr) (cs : Nat) (po : Option Addr) (co : Nat) (w : World) (hq : Hid ((!q || decide (fr < 0) || decide (281474976710656 < fr) || decide (wd < 1) || decide (281474976710656 < wd) || decide (nn < 1) || decide (64 < nn)) = true))
  (cK : ∀ W, Calls Tryz.prog 80 #[k] W fun e w' => e = .returned (.bool q) /\ Below W.heap.size W w')
  (b1 : Blk w gk #[k] 3) (b2 : Blk w gf #[fr] 2) (b3 : Blk w gw #[wd] 2) (b4 : Blk w gn #[nn] 3) (b5 : Blk w gs #[.string s.name, s.eps, s.floor, s.last, s.scale, .slice ps s.segs.length cs, .slice po s.opn.length co] 25) :
  Calls Tryz.prog 88 #[.pointer (some ⟨gk, 0, none⟩), .pointer (some ⟨gf, 0, none⟩), .pointer (some ⟨gw, 0, none⟩), .pointer (some ⟨gn, 0, none⟩), .pointer (some ⟨gs, 0, none⟩)] w fun e w' => e = .returned (.tuple #[.slice none 0 0, .int .i64 2]) /\ Below w.heap.size w w' := by
 have y1 := b1.lt
 have y2 := b2.lt
 have y3 := b3.lt
 have y4 := b4.lt
 have y5 := b5.lt
 have H_cK := Lib.hid cK
 clear cK
 go_enter Tryz.func88, Tryz.ntmps88
 go_upto_region 1 with (fail)
 refine wp_facts (fun W' => Below w.heap.size w W' /\ Blk W' gk #[k] 3 /\ Blk W' gf #[fr] 2 /\ Blk W' gw #[wd] 2 /\ Blk W' gn #[nn] 3 /\ Blk W' gs #[.string s.name, s.eps, s.floor, s.last, s.scale, .slice ps s.segs.length cs, .slice po s.opn.length co] 25) ⟨by exact belowAny, by exact blkAny2, by exact blkAny2, by exact blkAny2, by exact blkAny2, by exact blkAny2⟩ ?_
 clear b1 b2 b3 b4 b5
 rintro W1 ⟨hW, b1, b2, b3, b4, b5⟩
 have z2 := hW.size
 have z3 := b1.lt
 have z4 := b2.lt
 have z5 := b3.lt
 have z6 := b4.lt
 have z7 := b5.lt
 have cK := H_cK.out
 refine wp_region_sq 27 62 [] (fun W' => Rex [] W1 W' /\ Blk W' gk #[k] 3 /\ Blk W' gf #[fr] 2 /\ Blk W' gw #[wd] 2 /\ Blk W' gn #[nn] 3 /\ Blk W' gs #[.string s.name, s.eps, s.floor, s.last, s.scale, .slice ps s.segs.length cs, .slice po s.opn.length co] 25) (by kernel_rfl) rfl ⟨(Rex.refl _ _), b1, b2, b3, b4, b5⟩ (fun w w' ⟨h0, h1, h2, h3, h4, h5⟩ hr => ⟨h0.trans hr, h1.rex hr (by simp <;> omega), h2.rex hr (by simp <;> omega), h3.rex hr (by simp <;> omega), h4.rex hr (by simp <;> omega), h5.rex hr (by simp <;> omega)⟩) ?_
 iterate 1
  apply nd_det (hg := rfl) (hal := rfl)
  ·intro a W' hC hE
   obtain ⟨_, k1, k2, k3, k4, k5⟩ := hC
   have k1 := k1.cell
   have k2 := k2.cell
   have k3 := k3.cell
   have k4 := k4.cell
   have k5 := k5.cell
   first
    | (simp at hE; simp [go_sem, Act.eval, IntWalk.i64_left, hE, k1, k2, k3, k4, k5]; try rfl)
    | (clear hE; simp [go_sem, Act.eval, IntWalk.i64_left, k1, k2, k3, k4, k5]; try rfl)
 refine nd_callv2 rfl rfl (fun W' hC => cK W') (fun a W' hC hE => ?_) ?_
 ·obtain ⟨_, k1, k2, k3, k4, k5⟩ := hC
  have k1 := k1.cell
  have k2 := k2.cell
  have k3 := k3.cell
  have k4 := k4.cell
  have k5 := k5.cell
  first
   | (simp at hE; simp [go_sem, Act.eval, IntWalk.i64_left, hE, k1, k2, k3, k4, k5]; try rfl)
   | (clear hE; simp [go_sem, Act.eval, IntWalk.i64_left, k1, k2, k3, k4, k5]; try rfl)
 iterate 25
  first
  | (
   apply nd_det (hg := rfl) (hal := rfl)
   ·intro a W' hC hE
    obtain ⟨_, k1, k2, k3, k4, k5⟩ := hC
    have k1 := k1.cell
    have k2 := k2.cell
    have k3 := k3.cell
    have k4 := k4.cell
    have k5 := k5.cell
    first
     | (simp at hE; simp [go_sem, Act.eval, IntWalk.i64_left, hE, k1, k2, k3, k4, k5]; try rfl)
     | (clear hE; simp [go_sem, Act.eval, IntWalk.i64_left, k1, k2, k3, k4, k5]; try rfl))
  | (
   apply nd_detg (p := true) (hg := rfl) (hd := rfl) (hal := rfl)
   ·intro v W' h
    simp at h
    simp
    exact h
   ·intro hp hx a W' hC hE
    obtain ⟨_, k1, k2, k3, k4, k5⟩ := hC
    have k1 := k1.cell
    have k2 := k2.cell
    have k3 := k3.cell
    have k4 := k4.cell
    have k5 := k5.cell
    simp [hx] at hE
    simp [go_sem, Act.eval, IntWalk.i64_left, hE, k1, k2, k3, k4, k5]
    try rfl)
  | (
   apply nd_pick_or (ho := rfl) (hg := rfl)
   ·intro v W' h
    simp at h
    exact h
   ·intro v W' h hx
    simp [hx] at h
    exact h)
 rintro W8 ⟨hR, d1, d2, d3, d4, d5⟩
 simp only [ndFinR, Det, forall_eq]
 intros
 repeat (rename GDet _ _ _ _ => hgd; clear hgd)
 simp only [Act.put, List.setIfInBounds_toArray, List.set_cons_zero, List.set_cons_succ]
 refine wpList_nil ?_
 replace hW := hW.trans (hR.of_priv hW.size)
 clear hR
 clear cK
 try clear b1 b2 b3 b4 b5
 have b1 := d1
 clear d1
 have b2 := d2
 clear d2
 have b3 := d3
 clear d3
 have b4 := d4
 clear d4
 have b5 := d5
 clear d5
 have z9 := hW.size
 have k1 := b1.cell
 have f1 := b1.frozen
 have k2 := b2.cell
 have f2 := b2.frozen
 have k3 := b3.cell
 have f3 := b3.frozen
 have k4 := b4.cell
 have f4 := b4.frozen
 have k5 := b5.cell
 have f5 := b5.frozen
 rw [hq.out]
 go_wp2
 have y_1 := b1.lt
 have y_2 := b2.lt
 have y_3 := b3.lt
 have y_4 := b4.lt
 have y_5 := b5.lt
 refine bodyPost_ret (v := .tuple #[.slice none 0 0, .int .i64 2]) (by simp [results, Tryz.results88, go_sem, k1, f1, k2, f2, k3, f3, k4, f4, k5, f5, y_1, y_2, y_3, y_4, y_5]) rfl ⟨rfl, by exact belowAny⟩
theorem bk1_yes (k N : Nat) (fr wd : Int) (q : Bool) (gk gf gw gn gs : Nat) (s : SerT) (ps : Option Addr) (cs : Nat) (po : Option Addr) (co : Nat) (w : World) (hk : 1 <= k /\ k <= 5) (hN : N <= 64) (hf0 : 0 <= fr) (hf1 : fr <= 281474976710656) (hw0 : 1 <= wd) (hw1 : wd <= 281474976710656) (hin : SerIn w s ps po) (hq : Hid ((!q || decide (fr < 0) || decide (281474976710656 < fr) || decide (wd < 1) || decide (281474976710656 < wd) || decide ((N : Int) < 1) || decide (64 < (N : Int))) = false))
  (cK : ∀ W, Calls Tryz.prog 80 #[.int .i64 (k : Int)] W fun e w' => e = .returned (.bool q) /\ Below W.heap.size W w')
  (b1 : Blk w gk #[.int .i64 (k : Int)] 3) (b2 : Blk w gf #[fr] 2) (b3 : Blk w gw #[wd] 2) (b4 : Blk w gn #[.int .i64 (N : Int)] 3) (b5 : Blk w gs #[.string s.name, s.eps, s.floor, s.last, s.scale, .slice ps s.segs.length cs, .slice po s.opn.length co] 25) :
  Calls Tryz.prog 88 #[.pointer (some ⟨gk, 0, none⟩), .pointer (some ⟨gf, 0, none⟩), .pointer (some ⟨gw, 0, none⟩), .pointer (some ⟨gn, 0, none⟩), .pointer (some ⟨gs, 0, none⟩)] w fun e w' => ∃ v, e = .returned (.tuple #[v, .int .i64 0]) /\ OwnR w' w.heap.size 67 9 v N (flatAns (bucketL s k fr wd N)) /\ Below w.heap.size w w' := by
 obtain ⟨i0, hi, hz0, hz1, hz2⟩ := info_parts Tryz.infoAns
 have y1 := b1.lt
 have y2 := b2.lt
 have y3 := b3.lt
 have y4 := b4.lt
 have y5 := b5.lt
 have H_cK := Lib.hid cK
 clear cK
 go_enter Tryz.func88, Tryz.ntmps88
 go_upto_region 1 with (fail)
 refine wp_facts (fun W' => Below w.heap.size w W' /\ Blk W' gk #[.int .i64 (k : Int)] 3 /\ Blk W' gf #[fr] 2 /\ Blk W' gw #[wd] 2 /\ Blk W' gn #[.int .i64 (N : Int)] 3 /\ Blk W' gs #[.string s.name, s.eps, s.floor, s.last, s.scale, .slice ps s.segs.length cs, .slice po s.opn.length co] 25) ⟨by exact belowAny, by exact blkAny2, by exact blkAny2, by exact blkAny2, by exact blkAny2, by exact blkAny2⟩ ?_
 clear b1 b2 b3 b4 b5
 rintro W1 ⟨hW, b1, b2, b3, b4, b5⟩
 have z2 := hW.size
 have z3 := b1.lt
 have z4 := b2.lt
 have z5 := b3.lt
 have z6 := b4.lt
 have z7 := b5.lt
 have cK := H_cK.out
 refine wp_region_sq 27 62 [] (fun W' => Rex [] W1 W' /\ Blk W' gk #[.int .i64 (k : Int)] 3 /\ Blk W' gf #[fr] 2 /\ Blk W' gw #[wd] 2 /\ Blk W' gn #[.int .i64 (N : Int)] 3 /\ Blk W' gs #[.string s.name, s.eps, s.floor, s.last, s.scale, .slice ps s.segs.length cs, .slice po s.opn.length co] 25) (by kernel_rfl) rfl ⟨(Rex.refl _ _), b1, b2, b3, b4, b5⟩ (fun w w' ⟨h0, h1, h2, h3, h4, h5⟩ hr => ⟨h0.trans hr, h1.rex hr (by simp <;> omega), h2.rex hr (by simp <;> omega), h3.rex hr (by simp <;> omega), h4.rex hr (by simp <;> omega), h5.rex hr (by simp <;> omega)⟩) ?_
 iterate 1
  apply nd_det (hg := rfl) (hal := rfl)
  ·intro a W' hC hE
   obtain ⟨_, k1, k2, k3, k4, k5⟩ := hC
   have k1 := k1.cell
   have k2 := k2.cell
   have k3 := k3.cell
   have k4 := k4.cell
   have k5 := k5.cell
   first
    | (simp at hE; simp [go_sem, Act.eval, IntWalk.i64_left, hE, k1, k2, k3, k4, k5]; try rfl)
    | (clear hE; simp [go_sem, Act.eval, IntWalk.i64_left, k1, k2, k3, k4, k5]; try rfl)
 refine nd_callv2 rfl rfl (fun W' hC => cK W') (fun a W' hC hE => ?_) ?_
 ·obtain ⟨_, k1, k2, k3, k4, k5⟩ := hC
  have k1 := k1.cell
  have k2 := k2.cell
  have k3 := k3.cell
  have k4 := k4.cell
  have k5 := k5.cell
  first
   | (simp at hE; simp [go_sem, Act.eval, IntWalk.i64_left, hE, k1, k2, k3, k4, k5]; try rfl)
   | (clear hE; simp [go_sem, Act.eval, IntWalk.i64_left, k1, k2, k3, k4, k5]; try rfl)
 iterate 25
  first
  | (
   apply nd_det (hg := rfl) (hal := rfl)
   ·intro a W' hC hE
    obtain ⟨_, k1, k2, k3, k4, k5⟩ := hC
    have k1 := k1.cell
    have k2 := k2.cell
    have k3 := k3.cell
    have k4 := k4.cell
    have k5 := k5.cell
    first
     | (simp at hE; simp [go_sem, Act.eval, IntWalk.i64_left, hE, k1, k2, k3, k4, k5]; try rfl)
     | (clear hE; simp [go_sem, Act.eval, IntWalk.i64_left, k1, k2, k3, k4, k5]; try rfl))
  | (
   apply nd_detg (p := true) (hg := rfl) (hd := rfl) (hal := rfl)
   ·intro v W' h
    simp at h
    simp
    exact h
   ·intro hp hx a W' hC hE
    obtain ⟨_, k1, k2, k3, k4, k5⟩ := hC
    have k1 := k1.cell
    have k2 := k2.cell
    have k3 := k3.cell
    have k4 := k4.cell
    have k5 := k5.cell
    simp [hx] at hE
    simp [go_sem, Act.eval, IntWalk.i64_left, hE, k1, k2, k3, k4, k5]
    try rfl)
  | (
   apply nd_pick_or (ho := rfl) (hg := rfl)
   ·intro v W' h
    simp at h
    exact h
   ·intro v W' h hx
    simp [hx] at h
    exact h)
 rintro W8 ⟨hR, d1, d2, d3, d4, d5⟩
 simp only [ndFinR, Det, forall_eq]
 intros
 repeat (rename GDet _ _ _ _ => hgd; clear hgd)
 simp only [Act.put, List.setIfInBounds_toArray, List.set_cons_zero, List.set_cons_succ]
 refine wpList_nil ?_
 replace hW := hW.trans (hR.of_priv hW.size)
 clear hR
 clear cK
 try clear b1 b2 b3 b4 b5
 have b1 := d1
 clear d1
 have b2 := d2
 clear d2
 have b3 := d3
 clear d3
 have b4 := d4
 clear d4
 have b5 := d5
 clear d5
 have z9 := hW.size
 have k1 := b1.cell
 have f1 := b1.frozen
 have k2 := b2.cell
 have f2 := b2.frozen
 have k3 := b3.cell
 have f3 := b3.frozen
 have k4 := b4.cell
 have f4 := b4.frozen
 have k5 := b5.cell
 have f5 := b5.frozen
 rw [hq.out]
 clear H_cK
 go_wp2
 refine wp_loop (bkRel w s ps cs po co k fr wd N gk gf gw gn gs) (fun a' _ => N - (intAt (a'.tmps.getD 38 undef)).toNat) ?_ ?_
 ·unfold bkRel
  exact ⟨hW, b1, b2, b3, b4, b5, 0, .slice none 0 0, frame_ex rfl, OwnR.nil _ _ _ _, by omega⟩
 rintro a' W ⟨hW0, b1, b2, b3, b4, b5, i, v, ⟨u, rfl⟩, hown, hi'⟩
 have hz := hW0.size
 have zb1 := b1.lt
 have zb2 := b2.lt
 have zb3 := b3.lt
 have zb4 := b4.lt
 have zb5 := b5.lt
 rcases Nat.lt_or_ge i N with hlt | hge
 ·have hM0 : 0 <= (i : Int) * wd := Int.mul_nonneg (by omega) (by omega)
  have hM1 : (i : Int) * wd <= 64 * 281474976710656 := Int.mul_le_mul (by omega) hw1 (by omega) (by omega)
  have hsc := Lib.hid (bucketL_succ s k fr wd i)
  obtain ⟨M, hM⟩ : ∃ M, (i : Int) * wd = M := ⟨_, rfl⟩
  rw [hM] at hM0 hM1 hsc
  have E1 := Lib.hid (show wrap64 ((i : Int) * wd) = M by rw [hM, wrap64_eq]; omega)
  clear hM
  obtain ⟨F, hF⟩ : ∃ F, fr + M = F := ⟨_, rfl⟩
  rw [hF] at hsc
  have E2 := Lib.hid (show wrap64 (fr + M) = F by rw [<- hF, wrap64_eq]; omega)
  obtain ⟨G, hG⟩ : ∃ G, F + wd = G := ⟨_, rfl⟩
  have E3 := Lib.hid (show wrap64 (F + wd) = G by rw [<- hG, wrap64_eq]; omega)
  obtain ⟨Z, hZz⟩ : ∃ Z, G - 1 = Z := ⟨_, rfl⟩
  have E4 := Lib.hid (show wrap64 (G - 1) = Z by rw [<- hZz, wrap64_eq]; omega)
  rw [hG, hZz] at hsc
  have hZ : -9223372036854775808 <= Z := by omega
  clear hF hG hZz hM0 hM1
  obtain ⟨r, hr⟩ : ∃ r, ansT s k F Z = r := ⟨_, rfl⟩
  rw [hr] at hsc
  have hW9 := Lib.hid (show ansW s k F Z = aT r by rw [<- hr]; exact ansW_T s k F Z)
  have E1' := E1.out
  have E2' := E2.out
  have k1 := b1.cell
  have f1 := b1.frozen
  have k2 := b2.cell
  have f2 := b2.frozen
  have k3 := b3.cell
  have f3 := b3.frozen
  have k4 := b4.cell
  have f4 := b4.frozen
  have k5 := b5.cell
  have f5 := b5.frozen
  go_upto_region 8 with (fail)
  clear k1 f1 k2 f2 k3 f3 k4 f4 k5 f5
  refine wp_facts (fun W' => Below W.heap.size W W' /\ Blk W' gk #[.int .i64 (k : Int)] 3 /\ Blk W' gf #[fr] 2 /\ Blk W' gw #[wd] 2 /\ Blk W' gn #[.int .i64 (N : Int)] 3 /\ Blk W' gs #[.string s.name, s.eps, s.floor, s.last, s.scale, .slice ps s.segs.length cs, .slice po s.opn.length co] 25 /\ SerIn W' s ps po) ⟨by exact belowAny, by exact blkAny2, by exact blkAny2, by exact blkAny2, by exact blkAny2, by exact blkAny2, by exact (hin.below hW0).below belowAny⟩ ?_
  clear b1 b2 b3 b4 b5
  rintro W21 ⟨hW, b1, b2, b3, b4, b5, b6⟩
  have z22 := hW.size
  have z23 := b1.lt
  have z24 := b2.lt
  have z25 := b3.lt
  have z26 := b4.lt
  have z27 := b5.lt
  refine wp_region_nd 13 62 [] (fun W' => Rex [] W21 W' /\ Blk W' gk #[.int .i64 (k : Int)] 3 /\ Blk W' gf #[fr] 2 /\ Blk W' gw #[wd] 2 /\ Blk W' gn #[.int .i64 (N : Int)] 3 /\ Blk W' gs #[.string s.name, s.eps, s.floor, s.last, s.scale, .slice ps s.segs.length cs, .slice po s.opn.length co] 25 /\ SerIn W' s ps po) mixed (by kernel_rfl) rfl ⟨(Rex.refl _ _).drew, b1, b2, b3, b4, b5, b6.drew⟩ (fun w w' ⟨h0, h1, h2, h3, h4, h5, h6⟩ hr => ⟨h0.trans hr, h1.rex hr (by simp <;> omega), h2.rex hr (by simp <;> omega), h3.rex hr (by simp <;> omega), h4.rex hr (by simp <;> omega), h5.rex hr (by simp <;> omega), h6.rex hr (by simp <;> omega)⟩) (fun c a d v w h => by cases d <;> exact h) ?_
  iterate 1
   apply nd_det (hg := rfl) (hal := rfl)
   ·intro a W' hC hE
    obtain ⟨_, k1, k2, k3, k4, k5, k6⟩ := hC
    have k1 := k1.cell
    have k3 := k3.cell
    have k5 := k5.cell
    first
     | (simp at hE; simp [go_sem, Act.eval, IntWalk.i64_left, hE, k1, k2, k3, k4, k5, k6, E3.out, E4.out]; try rfl)
     | (clear hE; simp [go_sem, Act.eval, IntWalk.i64_left, k1, k2, k3, k4, k5, k6, E3.out, E4.out]; try rfl)
  apply nd_call QsF (hg := rfl) (hal := rfl)
  ·exact QsF.closed
  ·intro a' W' hC hE
   refine ⟨_, _, ?_, (c_questions W').mono ?_⟩
   ·simp [go_sem, Act.eval]
    try rfl
   ·rintro e w' ⟨v, rfl, hq, hB⟩
    exact ⟨v, rfl, hB, hq⟩
  iterate 1
   apply nd_det (hg := rfl) (hal := rfl)
   ·intro a W' hC hE
    obtain ⟨_, k1, k2, k3, k4, k5, k6⟩ := hC
    have k1 := k1.cell
    have k3 := k3.cell
    have k5 := k5.cell
    first
     | (simp at hE; simp [go_sem, Act.eval, IntWalk.i64_left, hE, k1, k2, k3, k4, k5, k6, E3.out, E4.out]; try rfl)
     | (clear hE; simp [go_sem, Act.eval, IntWalk.i64_left, k1, k2, k3, k4, k5, k6, E3.out, E4.out]; try rfl)
  apply nd_spec (IdxF k) (hg := rfl) (hal := rfl)
  ·exact IdxF.closed _
  ·intro a' W' hC hE
   simp at hE
   obtain ⟨f, h1, h2⟩ := qs_index hE.1 k hk
   refine ⟨.agg #[f], ?_, f, rfl, h2⟩
   simp [execOp, Act.eval, hE.2, h1]
  apply nd_spec (AskF k) (hg := rfl) (hal := rfl)
  ·exact AskF.closed _
  ·intro a' W' hC hE
   simp at hE
   obtain ⟨f, h1, h2⟩ := hE
   refine ⟨f, ?_, h2⟩
   simp [go_sem, Act.eval, h1, q_field]
  iterate 6
   apply nd_det (hg := rfl) (hal := rfl)
   ·intro a W' hC hE
    obtain ⟨_, k1, k2, k3, k4, k5, k6⟩ := hC
    have k1 := k1.cell
    have k3 := k3.cell
    have k5 := k5.cell
    first
     | (simp at hE; simp [go_sem, Act.eval, IntWalk.i64_left, hE, k1, k2, k3, k4, k5, k6, E3.out, E4.out]; try rfl)
     | (clear hE; simp [go_sem, Act.eval, IntWalk.i64_left, k1, k2, k3, k4, k5, k6, E3.out, E4.out]; try rfl)
  apply nd_callv (.agg (ansW s k F Z)) (hg := rfl) (hal := rfl)
  ·intro a' W' hC hE
   simp [Oper.looksAt, Op.operands, Call.operands, envOf, Det, E2.out, E3.out, E4.out] at hE
   obtain ⟨f, cap, h1, h2, h3⟩ := ask_call hE.1 s ps po cs co F Z hC.2.2.2.2.2.2 hZ
   unfold serA at h3
   refine ⟨f, _, ?_, h3⟩
   simp [go_sem, Act.eval, hE, h1, h2]
  apply nd_mem (AnsC W21.heap.size r) (hg := rfl) (hal := rfl)
  ·exact AnsC.closed _ _
  ·intro a' W' hC hE
   simp at hE
   refine ⟨.slice (some ⟨W'.heap.size, 0, none⟩) 1 1, W'.alloc (.cells (aT r) 67), ?_, (Below.refl _ _).alloc (Nat.le_refl _) _, W'.heap.size, rfl, hC.1.size, Blk.new' rfl⟩
   rw [hW9.out] at hE
   unfold aT ansA at hE ⊢
   simp [go_sem, execOp, Act.eval, hE]
   try rfl
   done
  rintro W28 ⟨hR, d1, d2, d3, d4, d5, d6⟩
  simp only [ndFinR, Det, forall_eq]
  intros
  repeat (rename GDet _ _ _ _ => hgd; clear hgd)
  simp only [Act.put, List.setIfInBounds_toArray, List.set_cons_zero, List.set_cons_succ, List.drop_succ_cons, List.drop_zero]
  replace hW := hW.trans (hR.of_priv hW.size)
  clear hR
  try clear b1 b2 b3 b4 b5 b6
  have b1 := d1
  clear d1
  have b2 := d2
  clear d2
  have b3 := d3
  clear d3
  have b4 := d4
  clear d4
  have b5 := d5
  clear d5
  have b6 := d6
  clear d6
  rename AnsC _ _ _ _ => ho
  obtain ⟨g1, rfl, hg1, bg⟩ := ho
  have y9 := bg.lt
  have hV1 := hW0.trans (hW.mono hz)
  have hO := hown.below hW
  clear hown hW
  have zz := hV1.size
  have hlo := fun g e => hO.own.lt g e
  go_wp2_with (at_builtin; refine wpList_append_own2 rfl (.tmp 46) (.tmp 58) 80 rfl w.heap.size 67 i0 (.agg #[.int .i64 0, .int .i64 0, .int .i64 0, .int .i64 0, .int .i64 0, .int .i64 0, .int .i64 0, .int .i64 0, .int .i64 0]) 9 72 (by kernel_rfl) hi hz0 hz1 hz2 rfl (by decide) _ _ _ rfl hO.own ⟨g1, 0, none⟩ 1 1 [r.er, r.n, r.x, r.y, r.m0, r.m1, r.m2, r.m3, r.m4] rfl rfl (fun j u hu => ans_news bg hu) (by simp [Value.oneCell']) (by simp [maxLen]; omega) (by omega) (by omega) ?_)
  intro v' w9 hown2 hgr hst
  have hB := Lib.hid (grown_below hV1 (by omega) hgr (fun g e => (hlo g e).1))
  have d1 := b1.grown0 hO.own (by decide) hgr
  have d2 := b2.grown0 hO.own (by decide) hgr
  have d3 := b3.grown0 hO.own (by decide) hgr
  have d4 := b4.grown0 hO.own (by decide) hgr
  have d5 := b5.grown0 hO.own (by decide) hgr
  replace hown2 := Lib.hid hown2
  clear hgr hst hO hlo b1 b2 b3 b4 b5 bg
  go_wp2
  rw [show (i : Int) + 1 = ((i + 1 : Nat) : Int) by omega]
  refine ⟨?_, by simp [intAt]; omega⟩
  exact ⟨hB.out, d1, d2, d3, d4, d5, i + 1, v', frame_ex rfl, ⟨own_cast hown2.out rfl (by rw [hsc.out, flatAns_app]; rfl)⟩, by omega⟩
 ·obtain rfl : i = N := by omega
  go_wp2
  refine bodyPost_ret (v := .tuple #[v, .int .i64 0]) (by simp [results, Tryz.results88, go_sem]) rfl ⟨v, rfl, hown, hW0⟩
end Go.Proofs.YtidfcoooccblaaaGreat
namespace Go.Proofs.YtidfcoooccblaaaGreat
open Go.RowKit
def eqBackRel (w : World) (p : Option Addr) (cap : Nat) (p' : Option Addr) (cap' : Nat) (A B : List RunT) (a' : Act) (W : World) : Prop :=
 Below w.heap.size w W /\ ∃ (i : Nat), (∃ u : Nat -> Value, a' = { tmps := #[.slice p A.length cap, .slice p' A.length cap', u 2, u 3, .bool false, u 5, u 6, u 7, u 8, u 9, u 10, u 11, .int .i64 (A.length : Int), .int .i64 (i : Int), u 14, u 15, u 16, u 17, u 18, u 19, u 20, u 21, u 22, u 23, u 24, u 25], defers := [] }) /\ i <= A.length /\ ∀ k, k < i -> A[k]? = B[k]?
structure AnsIn (w : World) (p : Option Addr) (l : List AnsT) : Prop where
 at' : ∀ (i : Nat) (r : AnsT), l[i]? = some r -> ∃ b o, p = some ⟨b, o, none⟩ /\ ∀ j v, r.cells[j]? = some v -> w.cell? ⟨b, o + i * 9 + j, none⟩ = some v
theorem AnsIn.below {w w' : World} {p : Option Addr} {l : List AnsT} (h : AnsIn w p l) (hb : Below w.heap.size w w') : AnsIn w' p l := ⟨fun i r hr => by
 obtain ⟨b, o, e, h1⟩ := h.at' i r hr
 exact ⟨b, o, e, fun j v hv => (hb.cell (p := ⟨b, _, none⟩) (cell_lt (h1 j v hv))).trans (h1 j v hv)⟩⟩
theorem AnsIn.drew {w : World} {p : Option Addr} {l : List AnsT} (h : AnsIn w p l) : AnsIn w.drew p l := ⟨h.at'⟩
theorem AnsIn.rex {L : List Nat} {w w' : World} {p : Option Addr} {l : List AnsT} (h : AnsIn w p l) (hr : Rex L w w') (hL : L = []) : AnsIn w' p l := by subst hL; exact h.below hr.below
theorem AnsIn.nil (w : World) (p : Option Addr) : AnsIn w p [] := ⟨fun i r hr => by simp at hr⟩
structure AnsP (w : World) (b o : Nat) (l : List AnsT) : Prop where
 ans : AnsIn w (some ⟨b, o, none⟩) l
theorem AnsP.below {w w' : World} {b o : Nat} {l : List AnsT} (h : AnsP w b o l) (hb : Below w.heap.size w w') : AnsP w' b o l := ⟨h.ans.below hb⟩
theorem AnsP.rex {L : List Nat} {w w' : World} {b o : Nat} {l : List AnsT} (h : AnsP w b o l) (hr : Rex L w w') (hL : L = []) : AnsP w' b o l := by subst hL; exact h.below hr.below
theorem AnsP.drew {w : World} {b o : Nat} {l : List AnsT} (h : AnsP w b o l) : AnsP w.drew b o l := ⟨⟨h.ans.at'⟩⟩
theorem AnsP.cellAt {w : World} {b o : Nat} {l : List AnsT} (h : AnsP w b o l) {i : Nat} {r : AnsT} (hx : l[i]? = some r) :
  w.cell? ⟨b, o + i * 9, none⟩ = some (r.er) /\ w.cell? ⟨b, o + i * 9 + 1, none⟩ = some (r.n) /\ w.cell? ⟨b, o + i * 9 + 2, none⟩ = some (r.x) /\ w.cell? ⟨b, o + i * 9 + 3, none⟩ = some (r.y) /\
  w.cell? ⟨b, o + i * 9 + 4, none⟩ = some (r.m0) /\ w.cell? ⟨b, o + i * 9 + 5, none⟩ = some (r.m1) /\ w.cell? ⟨b, o + i * 9 + 6, none⟩ = some (r.m2) /\ w.cell? ⟨b, o + i * 9 + 7, none⟩ = some (r.m3) /\ w.cell? ⟨b, o + i * 9 + 8, none⟩ = some (r.m4) := by
 obtain ⟨b', o', e, h1⟩ := h.ans.at' i r hx
 cases e
 exact ⟨h1 0 _ rfl, h1 1 _ rfl, h1 2 _ rfl, h1 3 _ rfl, h1 4 _ rfl, h1 5 _ rfl, h1 6 _ rfl, h1 7 _ rfl, h1 8 _ rfl⟩
theorem ans_len (r : AnsT) : r.cells.length = 9 := rfl
theorem OwnR.ans {W : World} {B n : Nat} {e : TypeId} {p : Option Addr} {cap : Nat} {l : List AnsT} (h : OwnR W B e 9 (.slice p n cap) n (flatAns l)) (hl : l.length = n) : AnsIn W p l := by
 rcases h.own.2 with ⟨h1, h0⟩ | ⟨g, cap', cur, h1, hg, hb, hn, hmx, _, ht⟩
 ·have : l = [] := List.length_eq_zero_iff.1 (by omega)
  subst this
  exact AnsIn.nil _ _
 ·injection h1 with h2 _ _
  subst h2
  refine ⟨fun i r hr => ⟨g, 0, rfl, fun j v hv => ?_⟩⟩
  have h3 := flat_to AnsT.cells 9 ans_len l i r j v hr hv
  rw [cell_of_row W g _ cur e (0, 0) hb, Nat.zero_add]
  exact row_take ht h3
def AnsPost (L : List AnsT) (er : Int) (w : World) (e : Ending) (w' : World) : Prop :=
 ∃ p k, e = .returned (.tuple #[.slice p L.length k, er]) /\ AnsIn w' p L /\ Below w.heap.size w w'
theorem toldb_bad (nm : ByteArray) (ep fl la sc : Int) (ps po : Option Addr) (ns cs no co : Nat) (gk gf gw gn gs : Nat) (w : World)
  (c1 : ∀ W, Below w.heap.size w W -> Calls Tryz.prog 14 #[.agg #[.string nm, ep, fl, la, sc, .slice ps ns cs, .slice po no co]] W fun e w' => e = .returned (.int .i64 340) /\ Below W.heap.size W w') :
  Calls Tryz.prog 87 #[.agg #[.string nm, ep, fl, la, sc, .slice ps ns cs, .slice po no co], .func (.func 88) #[] #[.pointer (some ⟨gk, 0, none⟩), .pointer (some ⟨gf, 0, none⟩), .pointer (some ⟨gw, 0, none⟩), .pointer (some ⟨gn, 0, none⟩), .pointer (some ⟨gs, 0, none⟩)]] w (AnsPost [] 340 w) := by
 have H_c1 := Lib.hid c1
 clear c1
 go_enter Tryz.func87, Tryz.ntmps87
 have c1 := H_c1.out
 go_wp2_with fail
 refine (c1 _ belowAny).mono ?_
 rintro e w1 ⟨rfl, hb1⟩
 clear c1
 have z2 := hb1.size
 try simp at z2
 have b1 : Blk w1 w.heap.size #[.string nm, ep, fl, la, sc, .slice ps ns cs, .slice po no co] 25 := blkAny2
 have hW : Below w.heap.size w w1 := belowAny
 have z3 := b1.lt
 clear hb1
 have k1 := b1.cell
 have f1 := b1.frozen
 go_wp2
 refine bodyPost_ret (v := .tuple #[.slice none 0 0, .int .i64 340]) (by simp [results, Tryz.results87, go_sem]) rfl ⟨none, 0, rfl, AnsIn.nil _ _, belowAny⟩
theorem toldb_ok (nm : ByteArray) (ep fl la sc : Int) (ps po : Option Addr) (ns cs no co : Nat) (gk gf gw gn gs : Nat) (L : List AnsT) (er : Int) (w : World)
  (c1 : ∀ W, Below w.heap.size w W -> Calls Tryz.prog 14 #[.agg #[.string nm, ep, fl, la, sc, .slice ps ns cs, .slice po no co]] W fun e w' => e = .returned (.int .i64 0) /\ Below W.heap.size W w')
  (c2 : ∀ W, Below w.heap.size w W -> Calls Tryz.prog 88 #[.pointer (some ⟨gk, 0, none⟩), .pointer (some ⟨gf, 0, none⟩), .pointer (some ⟨gw, 0, none⟩), .pointer (some ⟨gn, 0, none⟩), .pointer (some ⟨gs, 0, none⟩)] W (AnsPost L er W)) :
  Calls Tryz.prog 87 #[.agg #[.string nm, ep, fl, la, sc, .slice ps ns cs, .slice po no co], .func (.func 88) #[] #[.pointer (some ⟨gk, 0, none⟩), .pointer (some ⟨gf, 0, none⟩), .pointer (some ⟨gw, 0, none⟩), .pointer (some ⟨gn, 0, none⟩), .pointer (some ⟨gs, 0, none⟩)]] w (AnsPost L er w) := by
 have H_c1 := Lib.hid c1
 clear c1
 have H_c2 := Lib.hid c2
 clear c2
 go_enter Tryz.func87, Tryz.ntmps87
 have c1 := H_c1.out
 go_wp2_with fail
 refine (c1 _ belowAny).mono ?_
 rintro e w1 ⟨rfl, hb1⟩
 clear c1
 have z2 := hb1.size
 try simp at z2
 have b1 : Blk w1 w.heap.size #[.string nm, ep, fl, la, sc, .slice ps ns cs, .slice po no co] 25 := blkAny2
 have hW : Below w.heap.size w w1 := belowAny
 have z3 := b1.lt
 clear hb1
 have k1 := b1.cell
 have f1 := b1.frozen
 have c2 := H_c2.out
 go_wp2_with fail
 refine (c2 _ belowAny).mono ?_
 rintro e w4 ⟨p, k, rfl, hR, hb4⟩
 clear c2
 have z5 := hb4.size
 try simp at z5
 clear k1 f1
 have b1 : Blk w4 w.heap.size #[.string nm, ep, fl, la, sc, .slice ps ns cs, .slice po no co] 25 := blkAny2
 have hW : Below w.heap.size w w4 := belowAny
 have z6 := b1.lt
 have k1 := b1.cell
 have f1 := b1.frozen
 replace hR := Lib.hid hR
 go_wp2
 refine bodyPost_ret (v := .tuple #[.slice p L.length k, er]) (by simp [results, Tryz.results87, go_sem]) rfl ⟨p, k, rfl, hR.out, belowAny⟩
theorem buckets_w (nm : ByteArray) (ep fl la sc : Int) (ps po : Option Addr) (ns cs no co : Nat) (k fr wd nn : Int) (L : List AnsT) (er : Int) (w : World)
  (c1 : ∀ W, Below w.heap.size w W -> Blk W w.heap.size #[.string nm, ep, fl, la, sc, .slice ps ns cs, .slice po no co] 25 -> Blk W (w.heap.size + 1) #[k] 3 -> Blk W (w.heap.size + 1 + 1) #[fr] 2 -> Blk W (w.heap.size + 1 + 1 + 1) #[wd] 2 -> Blk W (w.heap.size + 1 + 1 + 1 + 1) #[nn] 3 -> Calls Tryz.prog 87 #[.agg #[.string nm, ep, fl, la, sc, .slice ps ns cs, .slice po no co], .func (.func 88) #[] #[.pointer (some ⟨w.heap.size + 1, 0, none⟩), .pointer (some ⟨w.heap.size + 1 + 1, 0, none⟩), .pointer (some ⟨w.heap.size + 1 + 1 + 1, 0, none⟩), .pointer (some ⟨w.heap.size + 1 + 1 + 1 + 1, 0, none⟩), .pointer (some ⟨w.heap.size, 0, none⟩)]] W (AnsPost L er W)) :
  Calls Tryz.prog 38 #[.agg #[.string nm, ep, fl, la, sc, .slice ps ns cs, .slice po no co], k, fr, wd, nn] w (AnsPost L er w) := by
 have H_c1 := Lib.hid c1
 clear c1
 go_enter Tryz.func38, Tryz.ntmps38
 have hmf : ∀ (fn : Fn) (first cap : Array Value) (w : World), (Instr.makeFunc fn first cap).run Tryz.prog w = .ok (.func fn first cap) w := fun _ _ _ _ => rfl
 go_upto_region 1 with (fail)
 refine wp_facts (fun W' => Below w.heap.size w W' /\ Blk W' w.heap.size #[.string nm, ep, fl, la, sc, .slice ps ns cs, .slice po no co] 25 /\ Blk W' (w.heap.size + 1) #[k] 3 /\ Blk W' (w.heap.size + 1 + 1) #[fr] 2 /\ Blk W' (w.heap.size + 1 + 1 + 1) #[wd] 2 /\ Blk W' (w.heap.size + 1 + 1 + 1 + 1) #[nn] 3) ⟨by exact belowAny, by exact blkAny2, by exact blkAny2, by exact blkAny2, by exact blkAny2, by exact blkAny2⟩ ?_
 rintro W1 ⟨hW, b1, b2, b3, b4, b5⟩
 have z2 := hW.size
 have z3 := b1.lt
 have z4 := b2.lt
 have z5 := b3.lt
 have z6 := b4.lt
 have z7 := b5.lt
 have k1 := b1.cell
 have f1 := b1.frozen
 have k2 := b2.cell
 have f2 := b2.frozen
 have k3 := b3.cell
 have f3 := b3.frozen
 have k4 := b4.cell
 have f4 := b4.frozen
 have k5 := b5.cell
 have f5 := b5.frozen
 have c1 := H_c1.out
 go_wp2_with fail
 refine (c1 W1 hW b1 b2 b3 b4 b5).mono ?_
 rintro e w8 ⟨p, kk, rfl, hR, hb8⟩
 clear c1
 have z9 := hb8.size
 try simp at z9
 clear k1 f1 k2 f2 k3 f3 k4 f4 k5 f5
 have b1 : Blk w8 w.heap.size #[.string nm, ep, fl, la, sc, .slice ps ns cs, .slice po no co] 25 := blkAny2
 have b2 : Blk w8 (w.heap.size + 1) #[k] 3 := blkAny2
 have b3 : Blk w8 (w.heap.size + 1 + 1) #[fr] 2 := blkAny2
 have b4 : Blk w8 (w.heap.size + 1 + 1 + 1) #[wd] 2 := blkAny2
 have b5 : Blk w8 (w.heap.size + 1 + 1 + 1 + 1) #[nn] 3 := blkAny2
 have hW : Below w.heap.size w w8 := belowAny
 have z10 := b1.lt
 have z11 := b2.lt
 have z12 := b3.lt
 have z13 := b4.lt
 have z14 := b5.lt
 have k1 := b1.cell
 have f1 := b1.frozen
 have k2 := b2.cell
 have f2 := b2.frozen
 have k3 := b3.cell
 have f3 := b3.frozen
 have k4 := b4.cell
 have f4 := b4.frozen
 have k5 := b5.cell
 have f5 := b5.frozen
 replace hR := Lib.hid hR
 go_wp2
 refine bodyPost_ret (v := .tuple #[.slice p L.length kk, er]) (by simp [results, Tryz.results38, go_sem]) rfl ⟨p, kk, rfl, hR.out, belowAny⟩
def askedB (k fr wd nn : Int) : Bool := decide (1 <= k /\ k <= 5 /\ 0 <= fr /\ fr <= 281474976710656 /\ 1 <= wd /\ wd <= 281474976710656 /\ 1 <= nn /\ nn <= 64)
def bkL (s : SerT) (k fr wd nn : Int) : List AnsT := if checkB s && askedB k fr wd nn then bucketL s k.toNat fr wd nn.toNat else []
def bkE (s : SerT) (k fr wd nn : Int) : Int := if checkB s then (if askedB k fr wd nn then 0 else 2) else 340
theorem bucketL_len (s : SerT) (k : Nat) (fr wd : Int) (n : Nat) : (bucketL s k fr wd n).length = n := by unfold bucketL; simp
theorem c_bkBuckets (s : SerT) (ps po : Option Addr) (cs co : Nat) (k fr wd nn : Int) (w : World) (hin : SerIn w s ps po) :
  Calls Tryz.prog 38 #[.agg (serA s ps cs po co), k, fr, wd, nn] w (AnsPost (bkL s k fr wd nn) (bkE s k fr wd nn) w) := by
 unfold serA
 refine buckets_w _ _ _ _ _ _ _ _ _ _ _ k fr wd nn _ _ w fun W hW b1 b2 b3 b4 b5 => ?_
 have hin' := hin.below hW
 have ck := c_srCheck s ps po cs co
 unfold serA checkE at ck
 unfold bkL bkE
 cases hc : checkB s with
 | false =>
  rw [hc] at ck
  exact toldb_bad s.name s.eps s.floor s.last s.scale ps po s.segs.length cs s.opn.length co _ _ _ _ _ W (fun W' hW' => ck W' (hin'.below hW'))
 | true =>
  rw [hc] at ck
  simp only [if_true, Bool.true_and]
  refine toldb_ok s.name s.eps s.floor s.last s.scale ps po s.segs.length cs s.opn.length co _ _ _ _ _ _ _ W (fun W' hW' => ck W' (hin'.below hW')) fun W' hW' => ?_
  cases ha : askedB k fr wd nn with
  | false =>
   unfold askedB at ha
   have ha := of_decide_eq_false ha
   refine (bk1_no k fr wd nn _ _ _ _ _ _ s ps cs po co W' (Lib.hid ?_) (fun W2 => c_known k W2) (b2.below hW') (b3.below hW') (b4.below hW') (b5.below hW') (b1.below hW')).mono ?_
   ·simp only [Bool.or_eq_true, Bool.not_eq_true', Bool.and_eq_false_iff, decide_eq_true_eq, decide_eq_false_iff_not]
    omega
   ·rintro e w' ⟨rfl, hB⟩
    exact ⟨none, 0, rfl, AnsIn.nil _ _, hB⟩
  | true =>
   unfold askedB at ha
   have ha := of_decide_eq_true ha
   obtain ⟨j, rfl⟩ : ∃ j : Nat, k = (j : Int) := ⟨k.toNat, by omega⟩
   obtain ⟨m, rfl⟩ : ∃ m : Nat, nn = (m : Int) := ⟨nn.toNat, by omega⟩
   rw [show ((j : Int).toNat) = j from rfl, show ((m : Int).toNat) = m from rfl]
   refine (bk1_yes j m fr wd _ _ _ _ _ _ s ps cs po co W' (by omega) (by omega) (by omega) (by omega) (by omega) (by omega) (hin'.below hW') (Lib.hid ?_) (fun W2 => c_known (j : Int) W2) (b2.below hW') (b3.below hW') (b4.below hW') (b5.below hW') (b1.below hW')).mono ?_
   ·simp only [Bool.or_eq_false_iff, Bool.not_eq_false', Bool.and_eq_true, decide_eq_true_eq, decide_eq_false_iff_not]
    omega
   ·rintro e w' ⟨v, rfl, hO, hB⟩
    obtain ⟨p, cap, rfl, -⟩ := hO.form
    have hl := bucketL_len s j fr wd m
    have hA := hO.ans hl
    rw [if_pos rfl, if_pos rfl]
    exact ⟨p, cap, by rw [hl], hA, hB⟩
theorem told_row (s : SerT) (fr wd : Int) (hw : 1 <= wd) : ∀ n : Nat, (toldL s fr (fr + (n : Int) * wd - 1)).Perm ((List.range n).flatMap fun (i : Nat) => toldL s (fr + (i : Int) * wd) (fr + (i : Int) * wd + wd - 1))
 | 0 => by rw [told_floor s _ _ (by omega)]; simp
 | n + 1 => by
  have ih := told_row s fr wd hw n
  have e : ((n + 1 : Nat) : Int) * wd = (n : Int) * wd + wd := by rw [Int.natCast_succ, Int.add_mul, Int.one_mul]
  rw [List.range_succ, List.flatMap_append, List.flatMap_cons, List.flatMap_nil, List.append_nil, e]
  rcases Nat.eq_zero_or_pos n with rfl | hn
  ·simp
  ·have hq : 1 * wd <= (n : Int) * wd := Int.mul_le_mul_of_nonneg_right (by omega) (by omega)
   rw [Int.one_mul] at hq
   have h2 := told_split s (a := fr) (mid := fr + (n : Int) * wd - 1) (b := fr + ((n : Int) * wd + wd) - 1) (by omega) (by omega)
   rw [show fr + (n : Int) * wd - 1 + 1 = fr + (n : Int) * wd by omega] at h2
   rw [show fr + (n : Int) * wd + wd - 1 = fr + ((n : Int) * wd + wd) - 1 by omega]
   exact h2.trans (ih.append_right _)
def bI (s : SerT) (fr wd : Int) (i : Nat) : List (Int × Int) := wholeL s (fr + (i : Int) * wd) (fr + (i : Int) * wd + wd - 1)
def bLs (s : SerT) (fr wd : Int) (n : Nat) : List (List (Int × Int)) := (List.range n).map (bI s fr wd)
theorem whole_row (s : SerT) (fr wd : Int) (hw : 1 <= wd) (n : Nat) : (wholeL s fr (fr + (n : Int) * wd - 1)).Perm (bLs s fr wd n).flatten := by
 have h := (told_row s fr wd hw n).map (fun x => x.2)
 rw [List.map_flatMap] at h
 unfold bLs
 rw [<- List.flatMap_def]
 exact h
theorem len_flat : ∀ (ls : List (List (Int × Int))), ((ls.flatten.length : Nat) : Int) = lsum (ls.map fun l => ((l.length : Nat) : Int))
 | [] => by simp [lsum]
 | l :: ls => by
  have h := len_flat ls
  simp only [List.flatten_cons, List.length_append, List.map_cons, lsum]
  omega
def neB (l : List (Int × Int)) : Bool := !l.isEmpty
theorem neB_iff {l : List (Int × Int)} : neB l = true ↔ l ≠ [] := by unfold neB; cases l <;> simp
theorem minL_flat {f : List (Int × Int) -> List Int} {g : Int × Int -> Int} (hf : ∀ l, f l = l.map g) {ls : List (List (Int × Int))} (h : ls.flatten ≠ []) : minL (f ls.flatten) = minL ((ls.filter neB).map fun l => minL (f l)) := by
 have hne : ∀ l : List (Int × Int), l ≠ [] -> f l ≠ [] := fun l hl => by rw [hf]; simp [hl]
 obtain ⟨h1, h2⟩ := minL_is (hne _ h)
 have hm : ∀ v, v ∈ f ls.flatten ↔ ∃ l, l ∈ ls /\ v ∈ f l := by
  intro v
  rw [hf]
  simp only [List.mem_map, List.mem_flatten]
  constructor
  ·rintro ⟨x, ⟨l, hl, hx⟩, rfl⟩; exact ⟨l, hl, by rw [hf]; exact List.mem_map_of_mem hx⟩
  ·rintro ⟨l, hl, hv⟩; rw [hf] at hv; obtain ⟨x, hx, rfl⟩ := List.mem_map.1 hv; exact ⟨x, ⟨l, hl, hx⟩, rfl⟩
 refine (minL_eq ?_ fun v hv => ?_).symm
 ·obtain ⟨l, hl, hv⟩ := (hm _).1 h1
  have hl' : l ≠ [] := fun e => by rw [e, hf] at hv; simp at hv
  refine List.mem_map.2 ⟨l, List.mem_filter.2 ⟨hl, neB_iff.2 hl'⟩, ?_⟩
  exact minL_eq hv fun u hu => h2 u ((hm u).2 ⟨l, hl, hu⟩)
 ·obtain ⟨l, hl, rfl⟩ := List.mem_map.1 hv
  obtain ⟨hl1, hl2⟩ := List.mem_filter.1 hl
  exact h2 _ ((hm _).2 ⟨l, hl1, (minL_is (hne l (neB_iff.1 hl2))).1⟩)
theorem maxL_flat {f : List (Int × Int) -> List Int} {g : Int × Int -> Int} (hf : ∀ l, f l = l.map g) {ls : List (List (Int × Int))} (h : ls.flatten ≠ []) : maxL (f ls.flatten) = maxL ((ls.filter neB).map fun l => maxL (f l)) := by
 have hne : ∀ l : List (Int × Int), l ≠ [] -> f l ≠ [] := fun l hl => by rw [hf]; simp [hl]
 obtain ⟨h1, h2⟩ := maxL_is (hne _ h)
 have hm : ∀ v, v ∈ f ls.flatten ↔ ∃ l, l ∈ ls /\ v ∈ f l := by
  intro v
  rw [hf]
  simp only [List.mem_map, List.mem_flatten]
  constructor
  ·rintro ⟨x, ⟨l, hl, hx⟩, rfl⟩; exact ⟨l, hl, by rw [hf]; exact List.mem_map_of_mem hx⟩
  ·rintro ⟨l, hl, hv⟩; rw [hf] at hv; obtain ⟨x, hx, rfl⟩ := List.mem_map.1 hv; exact ⟨x, ⟨l, hl, hx⟩, rfl⟩
 refine (maxL_eq ?_ fun v hv => ?_).symm
 ·obtain ⟨l, hl, hv⟩ := (hm _).1 h1
  have hl' : l ≠ [] := fun e => by rw [e, hf] at hv; simp at hv
  refine List.mem_map.2 ⟨l, List.mem_filter.2 ⟨hl, neB_iff.2 hl'⟩, ?_⟩
  exact maxL_eq hv fun u hu => h2 u ((hm u).2 ⟨l, hl, hu⟩)
 ·obtain ⟨l, hl, rfl⟩ := List.mem_map.1 hv
  obtain ⟨hl1, hl2⟩ := List.mem_filter.1 hl
  exact h2 _ ((hm _).2 ⟨l, hl1, (maxL_is (hne l (neB_iff.1 hl2))).1⟩)
theorem lsum_flat {f : List (Int × Int) -> List Int} {g : Int × Int -> Int} (hf : ∀ l, f l = l.map g) : ∀ (ls : List (List (Int × Int))), lsum (f ls.flatten) = lsum ((ls.filter neB).map fun l => lsum (f l))
 | [] => by rw [hf]; simp [lsum]
 | l :: ls => by
  have h := lsum_flat hf ls
  have e : f (l :: ls).flatten = f l ++ f ls.flatten := by rw [hf, hf l, hf ls.flatten, List.flatten_cons, List.map_append]
  rw [e, lsum_append, h]
  cases l with
  | nil => rw [hf]; simp [lsum, neB]
  | cons x l => simp [lsum, neB]
def ansK (k : Nat) (l : List (Int × Int)) : AnsT :=
 if k = 1 then ⟨0, l.length, 0, 0, 0, 0, 0, 0, 0⟩
 else if k = 2 then ⟨if l = [] then 9 else 0, 0, minL (loL l), minL (hiL l), 0, 0, 0, 0, 0⟩
 else if k = 3 then ⟨if l = [] then 9 else 0, 0, maxL (loL l), maxL (hiL l), 0, 0, 0, 0, 0⟩
 else if k = 4 then ⟨sumE l (if l = [] then 9 else 0), 0, sl l, sh l, 0, 0, 0, 0, 0⟩
 else ⟨if l = [] then 9 else 0, 0, 0, 0, l.length, lsum (loL l) / l.length, lsum (loL l) % l.length, lsum (hiL l) / l.length, lsum (hiL l) % l.length⟩
theorem ansT_K {s : SerT} (hc : checkB s = true) (k : Nat) (a b : Int) : ansT s k a b = ansK k (wholeL s a b) := by
 have e1 : wholeV s a b = wholeL s a b := by simp [wholeV, hc]
 have e2 : wholeE s a b = if wholeL s a b = [] then 9 else 0 := by unfold wholeE; rw [if_pos hc]; simp only [told_nil]
 unfold ansT ansK
 rw [e1, e2]
 by_cases h : wholeL s a b = [] <;> simp [h]
theorem bucketL_K {s : SerT} (hc : checkB s = true) (k : Nat) (fr wd : Int) (n : Nat) : bucketL s k fr wd n = (bLs s fr wd n).map (ansK k) := by
 unfold bucketL bLs
 rw [List.map_map]
 exact List.map_congr_left fun i _ => ansT_K hc k _ _
theorem oneA_K {s : SerT} (hc : checkB s = true) {k : Nat} (h1 : 1 <= k) (h2 : k <= 5) (a b : Int) : oneA s (k : Int) a b = aT (ansK k (wholeL s a b)) := by
 unfold oneA
 rw [if_pos hc, if_pos (by omega), ansW_T, Int.toNat_natCast, ansT_K hc]
theorem ansK_ways (k : Nat) (l : List (Int × Int)) :
  (k = 1 /\ (ansK k l).er = 0) ∨ (k ≠ 1 /\ l = [] /\ (ansK k l).er = 9) ∨ (k ≠ 1 /\ l ≠ [] /\ (ansK k l).er = 0) ∨ (k = 4 /\ l ≠ [] /\ (ansK k l).er = 5) := by
 by_cases h1 : k = 1
 ·exact .inl ⟨h1, by unfold ansK; rw [if_pos h1]⟩
 ·by_cases hl : l = []
  ·refine .inr (.inl ⟨h1, hl, ?_⟩)
   unfold ansK sumE
   rw [if_neg h1]
   by_cases h2 : k = 2
   ·simp [h2, hl]
   ·by_cases h3 : k = 3
    ·simp [h3, hl]
    ·by_cases h4 : k = 4 <;> simp [h2, h3, h4, hl]
  ·by_cases h4 : k = 4 /\ ¬ ((inI (lsum (loL l)) && inI (lsum (hiL l))) = true)
   ·refine .inr (.inr (.inr ⟨h4.1, hl, ?_⟩))
    unfold ansK sumE
    rw [if_neg h1, if_neg (by omega), if_neg (by omega), if_pos h4.1]
    simp only [if_neg hl, if_true]
    rw [if_neg h4.2]
   ·refine .inr (.inr (.inl ⟨h1, hl, ?_⟩))
    unfold ansK sumE
    rw [if_neg h1]
    by_cases h2 : k = 2
    ·simp [h2, hl]
    ·by_cases h3 : k = 3
     ·simp [h3, hl]
     ·by_cases h5 : k = 4
      ·have h6 : (inI (lsum (loL l)) && inI (lsum (hiL l))) = true := Classical.byContradiction fun hb => h4 ⟨h5, hb⟩
       simp only [if_neg h2, if_neg h3, if_pos h5, if_neg hl, h6, if_true]
      ·simp [h2, h3, h5, hl]
def spsK (k : Nat) (ls : List (List (Int × Int))) : List (Int × Int) := (ls.filter fun l => decide ((ansK k l).er = 0)).map fun l => ((ansK k l).x, (ansK k l).y)
def ovK (k : Nat) (ls : List (List (Int × Int))) : Bool := ls.any fun l => decide ((ansK k l).er = 5)
def cntK (ls : List (List (Int × Int))) : Int := lsum (ls.map fun l => ((l.length : Nat) : Int))
theorem all_nil (k : Nat) : k ≠ 1 -> ansK k [] = ⟨9, 0, 0, 0, 0, 0, 0, 0, 0⟩ := by
 intro h
 unfold ansK
 rw [if_neg h]
 have e1 : loL ([] : List (Int × Int)) = [] := rfl
 have e2 : hiL ([] : List (Int × Int)) = [] := rfl
 split
 ·rw [e1, e2]; rfl
 ·split
  ·rw [e1, e2]; rfl
  ·split
   ·unfold sumE sl sh; rw [e1, e2]; rfl
   ·rw [e1, e2]; rfl
theorem ansK_perm (k : Nat) {a b : List (Int × Int)} (h : a.Perm b) : ansK k a = ansK k b := by
 have h1 : (loL a).Perm (loL b) := h.map _
 have h2 : (hiL a).Perm (hiL b) := h.map _
 have h3 : (a = []) ↔ (b = []) := ⟨fun e => by subst e; exact h.symm.eq_nil, fun e => by subst e; exact h.eq_nil⟩
 unfold ansK sumE sl sh
 rw [minL_perm h1, minL_perm h2, maxL_perm h1, maxL_perm h2, lsum_perm h1, lsum_perm h2, h.length_eq]
 simp only [h3]
theorem tog_least {ls : List (List (Int × Int))} (h : ls.flatten ≠ []) : spsK 2 ls ≠ [] /\ (ansK 2 ls.flatten).er = 0 /\ (ansK 2 ls.flatten).x = minL ((spsK 2 ls).map (·.1)) /\ (ansK 2 ls.flatten).y = minL ((spsK 2 ls).map (·.2)) := by
 have e : spsK 2 ls = (ls.filter neB).map fun l => (minL (loL l), minL (hiL l)) := by
  unfold spsK
  have : (fun l : List (Int × Int) => decide ((ansK 2 l).er = 0)) = neB := by funext l; cases l <;> simp [ansK, neB]
  rw [this]
  exact List.map_congr_left fun l _ => by simp [ansK]
 have h1 := minL_flat (f := loL) (fun l => rfl) h
 have h2 := minL_flat (f := hiL) (fun l => rfl) h
 refine ⟨?_, by simp [ansK, h], ?_, ?_⟩
 ·rw [e]
  intro h0
  rw [List.map_eq_nil_iff, List.filter_eq_nil_iff] at h0
  exact h (List.flatten_eq_nil_iff.2 fun l hl => Classical.byContradiction fun hn => h0 l hl (neB_iff.2 hn))
 ·rw [e, List.map_map]; simp only [ansK]; exact h1
 ·rw [e, List.map_map]; simp only [ansK]; exact h2
theorem tog_most {ls : List (List (Int × Int))} (h : ls.flatten ≠ []) : spsK 3 ls ≠ [] /\ (ansK 3 ls.flatten).er = 0 /\ (ansK 3 ls.flatten).x = maxL ((spsK 3 ls).map (·.1)) /\ (ansK 3 ls.flatten).y = maxL ((spsK 3 ls).map (·.2)) := by
 have e : spsK 3 ls = (ls.filter neB).map fun l => (maxL (loL l), maxL (hiL l)) := by
  unfold spsK
  have : (fun l : List (Int × Int) => decide ((ansK 3 l).er = 0)) = neB := by funext l; cases l <;> simp [ansK, neB]
  rw [this]
  exact List.map_congr_left fun l _ => by simp [ansK]
 have h1 := maxL_flat (f := loL) (fun l => rfl) h
 have h2 := maxL_flat (f := hiL) (fun l => rfl) h
 refine ⟨?_, by simp [ansK, h], ?_, ?_⟩
 ·rw [e]
  intro h0
  rw [List.map_eq_nil_iff, List.filter_eq_nil_iff] at h0
  exact h (List.flatten_eq_nil_iff.2 fun l hl => Classical.byContradiction fun hn => h0 l hl (neB_iff.2 hn))
 ·rw [e, List.map_map]; simp only [ansK]; exact h1
 ·rw [e, List.map_map]; simp only [ansK]; exact h2
theorem tog_sum {ls : List (List (Int × Int))} (h : ls.flatten ≠ []) (ho : ovK 4 ls = false) : (ansK 4 ls.flatten).er = plusE (inI (spA (spsK 4 ls)) && inI (spB (spsK 4 ls))) /\ #[Value.int .i64 (ansK 4 ls.flatten).x, .int .i64 (ansK 4 ls.flatten).y] = plusV (inI (spA (spsK 4 ls)) && inI (spB (spsK 4 ls))) (spA (spsK 4 ls)) (spB (spsK 4 ls)) := by
 have hno : ∀ l, l ∈ ls -> l ≠ [] -> (inI (lsum (loL l)) && inI (lsum (hiL l))) = true := by
  intro l hl hn
  unfold ovK at ho
  rw [List.any_eq_false] at ho
  have h5 := ho l hl
  apply Classical.byContradiction
  intro hb
  apply h5
  simp only [ansK, sumE]
  simp [hn, hb]
 have e : spsK 4 ls = (ls.filter neB).map fun l => (lsum (loL l), lsum (hiL l)) := by
  unfold spsK
  have : ls.filter (fun l : List (Int × Int) => decide ((ansK 4 l).er = 0)) = ls.filter neB := by
   apply List.filter_congr
   intro l hl
   cases l with
   | nil => simp [ansK, neB, sumE]
   | cons x l => simp [ansK, neB, sumE, hno _ hl (by simp)]
  rw [this]
  refine List.map_congr_left fun l hl => ?_
  obtain ⟨hl1, hl2⟩ := List.mem_filter.1 hl
  simp [ansK, sl, sh, hno l hl1 (neB_iff.1 hl2)]
 have h1 := lsum_flat (f := loL) (fun l => rfl) ls
 have h2 := lsum_flat (f := hiL) (fun l => rfl) ls
 have eA : spA (spsK 4 ls) = lsum (loL ls.flatten) := by unfold spA; rw [e, List.map_map, h1]; rfl
 have eB : spB (spsK 4 ls) = lsum (hiL ls.flatten) := by unfold spB; rw [e, List.map_map, h2]; rfl
 rw [eA, eB]
 constructor
 ·simp only [ansK, sumE, plusE]; simp [h]
 ·simp only [ansK, sl, sh, plusV]
  cases (inI (lsum (loL ls.flatten)) && inI (lsum (hiL ls.flatten))) <;> simp
theorem takeL_step {ls : List (List (Int × Int))} {i : Nat} {l : List (Int × Int)} (h : ls[i]? = some l) : ls.take (i + 1) = ls.take i ++ [l] := by rw [List.take_add_one, h]; rfl
theorem spsK_step (k : Nat) {ls : List (List (Int × Int))} {i : Nat} {l : List (Int × Int)} (h : ls[i]? = some l) : spsK k (ls.take (i + 1)) = spsK k (ls.take i) ++ if (ansK k l).er = 0 then [((ansK k l).x, (ansK k l).y)] else [] := by
 rw [takeL_step h]
 unfold spsK
 rw [List.filter_append, List.map_append]
 by_cases h0 : (ansK k l).er = 0 <;> simp [h0]
theorem spsK_len (k : Nat) (ls : List (List (Int × Int))) : (spsK k ls).length <= ls.length := by unfold spsK; rw [List.length_map]; exact List.length_filter_le _ _
theorem ovK_step (k : Nat) {ls : List (List (Int × Int))} {i : Nat} {l : List (Int × Int)} (h : ls[i]? = some l) : ovK k (ls.take (i + 1)) = (ovK k (ls.take i) || decide ((ansK k l).er = 5)) := by
 rw [takeL_step h]
 unfold ovK
 rw [List.any_append]
 simp
theorem cntK_step {ls : List (List (Int × Int))} {i : Nat} {l : List (Int × Int)} (h : ls[i]? = some l) : cntK (ls.take (i + 1)) = cntK (ls.take i) + l.length := by
 rw [takeL_step h]
 unfold cntK
 rw [List.map_append, lsum_append]
 simp [lsum]
theorem cntK_nonneg : ∀ ls : List (List (Int × Int)), 0 <= cntK ls
 | [] => by simp [cntK, lsum]
 | l :: ls => by
  have h := cntK_nonneg ls
  unfold cntK at h ⊢
  simp only [List.map_cons, lsum]
  omega
theorem cntK_take (ls : List (List (Int × Int))) (i : Nat) : 0 <= cntK (ls.take i) /\ cntK (ls.take i) <= cntK ls := by
 refine ⟨cntK_nonneg _, ?_⟩
 have h2 := cntK_nonneg (ls.drop i)
 have h3 : cntK ls = cntK (ls.take i) + cntK (ls.drop i) := by
  unfold cntK
  rw [<- lsum_append, <- List.map_append, List.take_append_drop]
 omega
theorem lo_hi_min {l : List (Int × Int)} (h : ∀ x, x ∈ l -> 0 <= x.2) : minL (loL l) <= minL (hiL l) := by
 by_cases hl : l = []
 ·subst hl; exact Int.le_refl _
 ·obtain ⟨x, hx, e⟩ := List.mem_map.1 (minL_is (hiL_ne hl)).1
  have h1 := (minL_is (loL_ne hl)).2 (x.1 - x.2) (List.mem_map.2 ⟨x, hx, rfl⟩)
  have h2 := h x hx
  rw [<- e]
  omega
theorem lo_hi_max {l : List (Int × Int)} (h : ∀ x, x ∈ l -> 0 <= x.2) : maxL (loL l) <= maxL (hiL l) := by
 by_cases hl : l = []
 ·subst hl; exact Int.le_refl _
 ·obtain ⟨x, hx, e⟩ := List.mem_map.1 (maxL_is (loL_ne hl)).1
  have h1 := (maxL_is (hiL_ne hl)).2 (x.1 + x.2) (List.mem_map.2 ⟨x, hx, rfl⟩)
  have h2 := h x hx
  rw [<- e]
  omega
theorem lo_hi_sum : ∀ {l : List (Int × Int)}, (∀ x, x ∈ l -> 0 <= x.2) -> lsum (loL l) <= lsum (hiL l)
 | [], _ => Int.le_refl _
 | x :: l, h => by
  have h1 := lo_hi_sum (l := l) fun y hy => h y (List.mem_cons_of_mem _ hy)
  have h2 := h x (List.mem_cons_self ..)
  show x.1 - x.2 + lsum (loL l) <= x.1 + x.2 + lsum (hiL l)
  omega
theorem spsK_mem {k : Nat} {ls : List (List (Int × Int))} {x : Int × Int} (h : x ∈ spsK k ls) : ∃ l, l ∈ ls /\ (ansK k l).x = x.1 /\ (ansK k l).y = x.2 := by
 obtain ⟨l, hl, rfl⟩ := List.mem_map.1 h
 exact ⟨l, (List.mem_filter.1 hl).1, rfl, rfl⟩
theorem spsK_all {k : Nat} (hk : k = 2 ∨ k = 3 ∨ k = 4) {ls : List (List (Int × Int))} (h : ∀ l, l ∈ ls -> ∀ x, x ∈ l -> 0 <= x.2) : (spsK k ls).all (fun x => decide (x.1 <= x.2)) = true := by
 rw [List.all_eq_true]
 intro x hx
 obtain ⟨l, hl, e1, e2⟩ := spsK_mem hx
 rw [<- e1, <- e2, decide_eq_true_eq]
 rcases hk with rfl | rfl | rfl
 ·exact lo_hi_min (h l hl)
 ·exact lo_hi_max (h l hl)
 ·show sl l <= sh l
  unfold sl sh
  split
  ·exact lo_hi_sum (h l hl)
  ·exact Int.le_refl _
theorem spsK_i64 {ls : List (List (Int × Int))} : ∀ x, x ∈ spsK 4 ls -> I64 x.1 /\ I64 x.2 := by
 intro x hx
 obtain ⟨l, hl, e1, e2⟩ := spsK_mem hx
 rw [<- e1, <- e2]
 show I64 (sl l) /\ I64 (sh l)
 unfold sl sh I64
 split
 ·rename_i h
  rw [Bool.and_eq_true] at h
  have h1 := inI_bd.1 h.1
  have h2 := inI_bd.1 h.2
  omega
 ·omega
theorem tog_cases {k : Nat} (h1 : 1 <= k) (h5 : k <= 5) (ls : List (List (Int × Int))) {M : Int} (hM : cntK ls = M) :
  (M = 0 /\ ((k = 1 /\ (ansK k ls.flatten).er = 0) ∨ (k ≠ 1 /\ ansK k ls.flatten = ⟨9, 0, 0, 0, 0, 0, 0, 0, 0⟩))) ∨ (0 < M /\ ((k = 1 /\ ansK k ls.flatten = ⟨0, M, 0, 0, 0, 0, 0, 0, 0⟩) ∨ ((k = 2 ∨ k = 3) /\ (ansK k ls.flatten).er = 0 /\ spsK k ls ≠ []) ∨ (k = 4 /\ ovK k ls = true) ∨ (k = 4 /\ ovK k ls = false /\ spsK k ls ≠ []) ∨ (k = 5 /\ (ansK k ls.flatten).er = 0 /\ (ansK k ls.flatten).m0 = M))) := by
 have hl : ((ls.flatten.length : Nat) : Int) = M := by rw [len_flat]; exact hM
 by_cases h0 : ls.flatten = []
 ·refine .inl ⟨by rw [<- hl, h0]; rfl, ?_⟩
  rw [h0]
  by_cases hk : k = 1
  ·exact .inl ⟨hk, by unfold ansK; rw [if_pos hk]⟩
  ·exact .inr ⟨hk, all_nil k hk⟩
 ·have hp := List.length_pos_iff.2 h0
  refine .inr ⟨by omega, ?_⟩
  have hk : k = 1 ∨ k = 2 ∨ k = 3 ∨ k = 4 ∨ k = 5 := by omega
  rcases hk with rfl | rfl | rfl | rfl | rfl
  ·exact .inl ⟨rfl, by unfold ansK; rw [if_pos rfl, hl]⟩
  ·obtain ⟨a, b, -⟩ := tog_least h0
   exact .inr (.inl ⟨.inl rfl, b, a⟩)
  ·obtain ⟨a, b, -⟩ := tog_most h0
   exact .inr (.inl ⟨.inr rfl, b, a⟩)
  ·cases ho : ovK 4 ls with
   | true => exact .inr (.inr (.inl ⟨rfl, rfl⟩))
   | false =>
    refine .inr (.inr (.inr (.inl ⟨rfl, rfl, fun hn => ?_⟩)))
    unfold ovK at ho
    rw [List.any_eq_false] at ho
    unfold spsK at hn
    rw [List.map_eq_nil_iff, List.filter_eq_nil_iff] at hn
    refine h0 (List.flatten_eq_nil_iff.2 fun l hl => Classical.byContradiction fun hne => ?_)
    have a := hn l hl
    have b := ho l hl
    simp only [decide_eq_true_eq] at a b
    rcases ansK_ways 4 l with ⟨h, _⟩ | ⟨_, h, _⟩ | ⟨_, _, h⟩ | ⟨_, _, h⟩
    ·omega
    ·exact hne h
    ·exact a h
    ·exact b h
  ·exact .inr (.inr (.inr (.inr ⟨rfl, by simp [ansK, h0], by simp only [ansK]; simpa using hl⟩)))
def ab0 (x : Int) : Int := if x < 0 then 0 else x
theorem ab0_neg {x : Int} (h : x < 0) : ab0 x = 0 := if_pos h
theorem ab0_pos {x : Int} (h : 0 <= x) : ab0 x = x := if_neg (by omega)
theorem may_w (a b c d : Int) (w : World) : Calls Tryz.prog 42 #[.agg #[a, b, c, d]] w fun e w' => e = .returned (.agg #[.int .i64 (IntKind.u64.wrap a % 5 + 1), .int .i64 (ab0 b % 281474976710657), .int .i64 (ab0 c % 281474976710656 + 1), .int .i64 (ab0 d % 64 + 1)]) /\ Below w.heap.size w w' := by
 go_enter Tryz.func42, Tryz.ntmps42
 go_wp2
 all_goals
  have h0 : wrap64 (wrap64 ((IntKind.u64.wrap a).tmod 5) + 1) = IntKind.u64.wrap a % 5 + 1 := by
   rw [Int.tmod_eq_emod_of_nonneg (u64_bd a).1, wrap64_eq, wrap64_eq]
   omega
  refine bodyPost_ret (by simp [results, Tryz.results42, go_sem]; rfl) rfl ⟨?_, by exact belowAny⟩
  rw [h0]
  clear h0
  first
   | rw [ab0_neg (x := b) (by assumption)]
   | rw [ab0_pos (x := b) (by assumption)]
  try rw [Int.tmod_eq_emod_of_nonneg (a := b) (by assumption)]
  first
   | rw [ab0_neg (x := c) (by assumption)]
   | rw [ab0_pos (x := c) (by assumption)]
  try rw [Int.tmod_eq_emod_of_nonneg (a := c) (by assumption)]
  first
   | rw [ab0_neg (x := d) (by assumption)]
   | rw [ab0_pos (x := d) (by assumption)]
  try rw [Int.tmod_eq_emod_of_nonneg (a := d) (by assumption)]
  try rfl
theorem c_may (a b c d : Int) : ∃ (k N : Nat) (f v : Int), (1 <= k /\ k <= 5 /\ 0 <= f /\ f <= 281474976710656 /\ 1 <= v /\ v <= 281474976710656 /\ 1 <= N /\ N <= 64) /\ ∀ w : World, Calls Tryz.prog 42 #[.agg #[a, b, c, d]] w fun e w' => e = .returned (.agg #[.int .i64 (k : Int), f, v, .int .i64 (N : Int)]) /\ Below w.heap.size w w' := by
 have h0 : ∀ x, 0 <= ab0 x := fun x => by unfold ab0; split <;> omega
 have h1 := (u64_bd a).1
 have h2 := h0 b
 have h3 := h0 c
 have h4 := h0 d
 refine ⟨(IntKind.u64.wrap a % 5 + 1).toNat, (ab0 d % 64 + 1).toNat, ab0 b % 281474976710657, ab0 c % 281474976710656 + 1, by omega, fun w => ?_⟩
 rw [show (((IntKind.u64.wrap a % 5 + 1).toNat : Nat) : Int) = IntKind.u64.wrap a % 5 + 1 by omega, show (((ab0 d % 64 + 1).toNat : Nat) : Int) = ab0 d % 64 + 1 by omega]
 exact may_w a b c d w
end Go.Proofs.YtidfcoooccblaaaGreat
