/- Parts of the proof that follows: Layer bucket: what may be asked, and each question's answer. No condition. | Layer bucket: the questions, and what each answers of a series. No condition. | Reference 25: ends, Total. No condition but that there is one at least, or that they are few. | The document's segments: Kind, Right walked. | The document's segments: Right, Points told. | Reference 25: Total. No condition but that they are few. | Append to a row of one's own: the row stays in its block or is in a new one. No condition. | Reference 25: Bounds. No condition but that they are few. -/
import Derived.Test.YtidfcoooccblaaaGreatTogether15
set_option maxRecDepth 100000
set_option maxHeartbeats 8000000
set_option linter.unusedSimpArgs false
set_option linter.unusedVariables false
namespace Go.Proofs.YtidfcoooccblaaaGreat
open Go.RowKit
def ansA (er n x y m0 m1 m2 m3 m4 : Int) : Array Value := #[er, n, x, y, m0, m1, m2, m3, m4]
theorem q1_w (nm : ByteArray) (ep fl la sc : Int) (ps po : Option Addr) (ns cs no co : Nat) (a b : Int) (n er : Int) (w : World)
  (c1 : ∀ W, Below w.heap.size w W -> Calls Tryz.prog 13 #[.agg #[.string nm, ep, fl, la, sc, .slice ps ns cs, .slice po no co], a, b] W fun e w' => e = .returned (.tuple #[n, er]) /\ Below W.heap.size W w') :
  Calls Tryz.prog 140 #[.agg #[.string nm, ep, fl, la, sc, .slice ps ns cs, .slice po no co], a, b] w fun e w' => e = .returned (.agg #[er, n, .int .i64 0, .int .i64 0, .int .i64 0, .int .i64 0, .int .i64 0, .int .i64 0, .int .i64 0]) /\ Below w.heap.size w w' := by
 have H_c1 := Lib.hid c1
 clear c1
 go_enter Tryz.func140, Tryz.ntmps140
 have c1 := H_c1.out
 go_wp2_with fail
 refine (c1 _ belowAny).mono ?_
 rintro e w1 ⟨rfl, hb1⟩
 clear c1
 have z2 := hb1.size
 try simp at z2
 have b1 : Blk w1 w.heap.size #[.string nm, ep, fl, la, sc, .slice ps ns cs, .slice po no co] 25 := blkAny2
 have b2 : Blk w1 (w.heap.size + 1) #[.int .i64 0, .int .i64 0, .int .i64 0, .int .i64 0, .int .i64 0, .int .i64 0, .int .i64 0, .int .i64 0, .int .i64 0] 67 := blkAny2
 have hW : Below w.heap.size w w1 := belowAny
 have z3 := b1.lt
 have z4 := b2.lt
 clear hb1
 have k1 := b1.cell
 have f1 := b1.frozen
 have k2 := b2.cell
 have f2 := b2.frozen
 go_wp2
 have y_1 := b1.lt
 have y_2 := b2.lt
 refine bodyPost_ret (v := .agg #[er, n, .int .i64 0, .int .i64 0, .int .i64 0, .int .i64 0, .int .i64 0, .int .i64 0, .int .i64 0]) (by simp [results, Tryz.results140, go_sem, k1, f1, k2, f2, y_1, y_2]) rfl ⟨rfl, by exact belowAny⟩
theorem q2_w (nm : ByteArray) (ep fl la sc : Int) (ps po : Option Addr) (ns cs no co : Nat) (a b : Int) (m0 m1 m2 m3 m4 er : Int) (w : World)
  (c1 : ∀ W, Below w.heap.size w W -> Calls Tryz.prog 20 #[.agg #[.string nm, ep, fl, la, sc, .slice ps ns cs, .slice po no co], a, b] W fun e w' => e = .returned (.tuple #[.agg #[m0, m1, m2, m3, m4], er]) /\ Below W.heap.size W w') :
  Calls Tryz.prog 142 #[.agg #[.string nm, ep, fl, la, sc, .slice ps ns cs, .slice po no co], a, b] w fun e w' => e = .returned (.agg #[er, .int .i64 0, .int .i64 0, .int .i64 0, m0, m1, m2, m3, m4]) /\ Below w.heap.size w w' := by
 have H_c1 := Lib.hid c1
 clear c1
 go_enter Tryz.func142, Tryz.ntmps142
 have c1 := H_c1.out
 go_wp2_with fail
 refine (c1 _ belowAny).mono ?_
 rintro e w1 ⟨rfl, hb1⟩
 clear c1
 have z2 := hb1.size
 try simp at z2
 have b1 : Blk w1 w.heap.size #[.string nm, ep, fl, la, sc, .slice ps ns cs, .slice po no co] 25 := blkAny2
 have b2 : Blk w1 (w.heap.size + 1) #[.int .i64 0, .int .i64 0, .int .i64 0, .int .i64 0, .int .i64 0, .int .i64 0, .int .i64 0, .int .i64 0, .int .i64 0] 67 := blkAny2
 have hW : Below w.heap.size w w1 := belowAny
 have z3 := b1.lt
 have z4 := b2.lt
 clear hb1
 have k1 := b1.cell
 have f1 := b1.frozen
 have k2 := b2.cell
 have f2 := b2.frozen
 go_wp2
 have y_1 := b1.lt
 have y_2 := b2.lt
 refine bodyPost_ret (v := .agg #[er, .int .i64 0, .int .i64 0, .int .i64 0, m0, m1, m2, m3, m4]) (by simp [results, Tryz.results142, go_sem, k1, f1, k2, f2, y_1, y_2]) rfl ⟨rfl, by exact belowAny⟩
theorem spans1_Least (nm : ByteArray) (ep fl la sc : Int) (ps po : Option Addr) (ns cs no co : Nat) (a b : Int) (g : Nat) (x y er : Int) (w : World) (b1 : Blk w g #[.func (.func 17) #[] #[]] 45)
  (c1 : ∀ W, Below w.heap.size w W -> Calls Tryz.prog 17 #[.agg #[.string nm, ep, fl, la, sc, .slice ps ns cs, .slice po no co], a, b] W fun e w' => e = .returned (.tuple #[.agg #[x, y], er]) /\ Below W.heap.size W w') :
  Calls Tryz.prog 176 #[.agg #[.string nm, ep, fl, la, sc, .slice ps ns cs, .slice po no co], a, b, .pointer (some ⟨g, 0, none⟩)] w fun e w' => e = .returned (.agg #[er, .int .i64 0, x, y, .int .i64 0, .int .i64 0, .int .i64 0, .int .i64 0, .int .i64 0]) /\ Below w.heap.size w w' := by
 have y1 := b1.lt
 have H_c1 := Lib.hid c1
 clear c1
 go_enter Tryz.func176, Tryz.ntmps176
 have k1 := b1.cell
 have f1 := b1.frozen
 have c1 := H_c1.out
 go_wp2_with fail
 refine (c1 _ belowAny).mono ?_
 rintro e w1 ⟨rfl, hb1⟩
 clear c1
 have z2 := hb1.size
 try simp at z2
 clear k1 f1
 have b1 : Blk w1 g #[.func (.func 17) #[] #[]] 45 := blkAny2
 have b2 : Blk w1 w.heap.size #[.string nm, ep, fl, la, sc, .slice ps ns cs, .slice po no co] 25 := blkAny2
 have b3 : Blk w1 (w.heap.size + 1) #[.int .i64 0, .int .i64 0, .int .i64 0, .int .i64 0, .int .i64 0, .int .i64 0, .int .i64 0, .int .i64 0, .int .i64 0] 67 := blkAny2
 have hW : Below w.heap.size w w1 := belowAny
 have z3 := b1.lt
 have z4 := b2.lt
 have z5 := b3.lt
 clear hb1
 have k1 := b1.cell
 have f1 := b1.frozen
 have k2 := b2.cell
 have f2 := b2.frozen
 have k3 := b3.cell
 have f3 := b3.frozen
 go_wp2
 have y_1 := b1.lt
 have y_2 := b2.lt
 have y_3 := b3.lt
 refine bodyPost_ret (v := .agg #[er, .int .i64 0, x, y, .int .i64 0, .int .i64 0, .int .i64 0, .int .i64 0, .int .i64 0]) (by simp [results, Tryz.results176, go_sem, k1, f1, k2, f2, k3, f3, y_1, y_2, y_3]) rfl ⟨rfl, by exact belowAny⟩
theorem spans1_Most (nm : ByteArray) (ep fl la sc : Int) (ps po : Option Addr) (ns cs no co : Nat) (a b : Int) (g : Nat) (x y er : Int) (w : World) (b1 : Blk w g #[.func (.func 18) #[] #[]] 45)
  (c1 : ∀ W, Below w.heap.size w W -> Calls Tryz.prog 18 #[.agg #[.string nm, ep, fl, la, sc, .slice ps ns cs, .slice po no co], a, b] W fun e w' => e = .returned (.tuple #[.agg #[x, y], er]) /\ Below W.heap.size W w') :
  Calls Tryz.prog 176 #[.agg #[.string nm, ep, fl, la, sc, .slice ps ns cs, .slice po no co], a, b, .pointer (some ⟨g, 0, none⟩)] w fun e w' => e = .returned (.agg #[er, .int .i64 0, x, y, .int .i64 0, .int .i64 0, .int .i64 0, .int .i64 0, .int .i64 0]) /\ Below w.heap.size w w' := by
 have y1 := b1.lt
 have H_c1 := Lib.hid c1
 clear c1
 go_enter Tryz.func176, Tryz.ntmps176
 have k1 := b1.cell
 have f1 := b1.frozen
 have c1 := H_c1.out
 go_wp2_with fail
 refine (c1 _ belowAny).mono ?_
 rintro e w1 ⟨rfl, hb1⟩
 clear c1
 have z2 := hb1.size
 try simp at z2
 clear k1 f1
 have b1 : Blk w1 g #[.func (.func 18) #[] #[]] 45 := blkAny2
 have b2 : Blk w1 w.heap.size #[.string nm, ep, fl, la, sc, .slice ps ns cs, .slice po no co] 25 := blkAny2
 have b3 : Blk w1 (w.heap.size + 1) #[.int .i64 0, .int .i64 0, .int .i64 0, .int .i64 0, .int .i64 0, .int .i64 0, .int .i64 0, .int .i64 0, .int .i64 0] 67 := blkAny2
 have hW : Below w.heap.size w w1 := belowAny
 have z3 := b1.lt
 have z4 := b2.lt
 have z5 := b3.lt
 clear hb1
 have k1 := b1.cell
 have f1 := b1.frozen
 have k2 := b2.cell
 have f2 := b2.frozen
 have k3 := b3.cell
 have f3 := b3.frozen
 go_wp2
 have y_1 := b1.lt
 have y_2 := b2.lt
 have y_3 := b3.lt
 refine bodyPost_ret (v := .agg #[er, .int .i64 0, x, y, .int .i64 0, .int .i64 0, .int .i64 0, .int .i64 0, .int .i64 0]) (by simp [results, Tryz.results176, go_sem, k1, f1, k2, f2, k3, f3, y_1, y_2, y_3]) rfl ⟨rfl, by exact belowAny⟩
theorem spans1_Sum (nm : ByteArray) (ep fl la sc : Int) (ps po : Option Addr) (ns cs no co : Nat) (a b : Int) (g : Nat) (x y er : Int) (w : World) (b1 : Blk w g #[.func (.func 19) #[] #[]] 45)
  (c1 : ∀ W, Below w.heap.size w W -> Calls Tryz.prog 19 #[.agg #[.string nm, ep, fl, la, sc, .slice ps ns cs, .slice po no co], a, b] W fun e w' => e = .returned (.tuple #[.agg #[x, y], er]) /\ Below W.heap.size W w') :
  Calls Tryz.prog 176 #[.agg #[.string nm, ep, fl, la, sc, .slice ps ns cs, .slice po no co], a, b, .pointer (some ⟨g, 0, none⟩)] w fun e w' => e = .returned (.agg #[er, .int .i64 0, x, y, .int .i64 0, .int .i64 0, .int .i64 0, .int .i64 0, .int .i64 0]) /\ Below w.heap.size w w' := by
 have y1 := b1.lt
 have H_c1 := Lib.hid c1
 clear c1
 go_enter Tryz.func176, Tryz.ntmps176
 have k1 := b1.cell
 have f1 := b1.frozen
 have c1 := H_c1.out
 go_wp2_with fail
 refine (c1 _ belowAny).mono ?_
 rintro e w1 ⟨rfl, hb1⟩
 clear c1
 have z2 := hb1.size
 try simp at z2
 clear k1 f1
 have b1 : Blk w1 g #[.func (.func 19) #[] #[]] 45 := blkAny2
 have b2 : Blk w1 w.heap.size #[.string nm, ep, fl, la, sc, .slice ps ns cs, .slice po no co] 25 := blkAny2
 have b3 : Blk w1 (w.heap.size + 1) #[.int .i64 0, .int .i64 0, .int .i64 0, .int .i64 0, .int .i64 0, .int .i64 0, .int .i64 0, .int .i64 0, .int .i64 0] 67 := blkAny2
 have hW : Below w.heap.size w w1 := belowAny
 have z3 := b1.lt
 have z4 := b2.lt
 have z5 := b3.lt
 clear hb1
 have k1 := b1.cell
 have f1 := b1.frozen
 have k2 := b2.cell
 have f2 := b2.frozen
 have k3 := b3.cell
 have f3 := b3.frozen
 go_wp2
 have y_1 := b1.lt
 have y_2 := b2.lt
 have y_3 := b3.lt
 refine bodyPost_ret (v := .agg #[er, .int .i64 0, x, y, .int .i64 0, .int .i64 0, .int .i64 0, .int .i64 0, .int .i64 0]) (by simp [results, Tryz.results176, go_sem, k1, f1, k2, f2, k3, f3, y_1, y_2, y_3]) rfl ⟨rfl, by exact belowAny⟩
theorem c_spans (fn : FuncId) (w : World) :
  Calls Tryz.prog 141 #[.func (.func fn) #[] #[]] w fun e w' => e = .returned (.agg #[.func (.func 176) #[] #[.pointer (some ⟨w.heap.size, 0, none⟩)]]) /\ Below w.heap.size w w' /\ Blk w' w.heap.size #[.func (.func fn) #[] #[]] 45 := by
 have hmf : ∀ (fn : Fn) (first cap : Array Value) (w : World), (Instr.makeFunc fn first cap).run Tryz.prog w = .ok (.func fn first cap) w := fun _ _ _ _ => rfl
 go_enter Tryz.func141, Tryz.ntmps141
 go_wp2
 refine bodyPost_ret (v := .agg #[.func (.func 176) #[] #[.pointer (some ⟨w.heap.size, 0, none⟩)]]) (by simp [results, Tryz.results141, go_sem]) rfl ⟨rfl, belowAny, blkAny2⟩
def QsV (g2 g3 g4 : Nat) : Array Value := #[.nilFunc, .func (.func 140) #[] #[], .func (.func 176) #[] #[.pointer (some ⟨g2, 0, none⟩)], .func (.func 176) #[] #[.pointer (some ⟨g3, 0, none⟩)], .func (.func 176) #[] #[.pointer (some ⟨g4, 0, none⟩)], .func (.func 142) #[] #[]]
def sl (l : List (Int × Int)) : Int := if inI (lsum (loL l)) && inI (lsum (hiL l)) then lsum (loL l) else 0
def sh (l : List (Int × Int)) : Int := if inI (lsum (loL l)) && inI (lsum (hiL l)) then lsum (hiL l) else 0
theorem sumV_is (l : List (Int × Int)) : sumV l = #[.int .i64 (sl l), .int .i64 (sh l)] := by
 unfold sumV sl sh
 cases inI (lsum (loL l)) && inI (lsum (hiL l)) <;> rfl
def ansW (s : SerT) (k : Nat) (a b : Int) : Array Value :=
 if k = 1 then ansA (if wholeE s a b = 9 then 0 else wholeE s a b) (wholeV s a b).length 0 0 0 0 0 0 0
 else if k = 2 then ansA (wholeE s a b) 0 (minL (loL (wholeV s a b))) (minL (hiL (wholeV s a b))) 0 0 0 0 0
 else if k = 3 then ansA (wholeE s a b) 0 (maxL (loL (wholeV s a b))) (maxL (hiL (wholeV s a b))) 0 0 0 0 0
 else if k = 4 then ansA (sumE (wholeV s a b) (wholeE s a b)) 0 (sl (wholeV s a b)) (sh (wholeV s a b)) 0 0 0 0 0
 else ansA (wholeE s a b) 0 0 0 (wholeV s a b).length (lsum (loL (wholeV s a b)) / (wholeV s a b).length) (lsum (loL (wholeV s a b)) % (wholeV s a b).length) (lsum (hiL (wholeV s a b)) / (wholeV s a b).length) (lsum (hiL (wholeV s a b)) % (wholeV s a b).length)
def AskF (k : Nat) : Spec := fun v w =>
 (k = 1 /\ v = .func (.func 140) #[] #[]) ∨ (∃ g fn, ((k = 2 /\ fn = 17) ∨ (k = 3 /\ fn = 18) ∨ (k = 4 /\ fn = 19)) /\ v = .func (.func 176) #[] #[.pointer (some ⟨g, 0, none⟩)] /\ Blk w g #[.func (.func fn) #[] #[]] 45) ∨ (k = 5 /\ v = .func (.func 142) #[] #[])
theorem AskF.closed (k : Nat) : Closed [] (AskF k) := fun _ _ _ hr h => by
 rcases h with h | ⟨g, fn, h1, h2, h3⟩ | h
 ·exact .inl h
 ·exact .inr (.inl ⟨g, fn, h1, h2, h3.rex hr (by simp)⟩)
 ·exact .inr (.inr h)
theorem AskF.below {k : Nat} {v : Value} {w w' : World} (h : AskF k v w) (hb : Below w.heap.size w w') : AskF k v w' := by
 rcases h with h | ⟨g, fn, h1, h2, h3⟩ | h
 ·exact .inl h
 ·exact .inr (.inl ⟨g, fn, h1, h2, h3.below hb⟩)
 ·exact .inr (.inr h)
theorem ask_call {k : Nat} {v : Value} {w : World} (h : AskF k v w) (s : SerT) (ps po : Option Addr) (cs co : Nat) (a b : Int) (hin : SerIn w s ps po) (hb : -9223372036854775808 <= b) :
  ∃ f cap, v = .func (.func f) #[] cap /\ (∀ A W, (callFunc f A).run Tryz.prog W = .ok (.enter f A) W) /\ Calls Tryz.prog f (#[.agg (serA s ps cs po co), .int .i64 a, .int .i64 b] ++ cap) w fun e w' => e = .returned (.agg (ansW s k a b)) /\ Below w.heap.size w w' := by
 rcases h with ⟨rfl, rfl⟩ | ⟨g, fn, h1, rfl, h3⟩ | ⟨rfl, rfl⟩
 ·refine ⟨_, _, rfl, fun A W => by kernel_rfl, ?_⟩
  have c1 := fun W (hW : Below w.heap.size w W) => c_anCount s ps po cs co a b W (hin.below hW) hb
  unfold serA at c1
  exact q1_w _ _ _ _ _ _ _ _ _ _ _ a b _ _ w c1
 ·refine ⟨_, _, rfl, fun A W => by kernel_rfl, ?_⟩
  rcases h1 with ⟨rfl, rfl⟩ | ⟨rfl, rfl⟩ | ⟨rfl, rfl⟩
  ·have c1 := fun W (hW : Below w.heap.size w W) => c_anLeast s ps po cs co a b W (hin.below hW) hb
   unfold serA minA at c1
   exact spans1_Least _ _ _ _ _ _ _ _ _ _ _ a b g _ _ _ w h3 c1
  ·have c1 := fun W (hW : Below w.heap.size w W) => c_anMost s ps po cs co a b W (hin.below hW) hb
   unfold serA maxA at c1
   exact spans1_Most _ _ _ _ _ _ _ _ _ _ _ a b g _ _ _ w h3 c1
  ·have c1 := fun W (hW : Below w.heap.size w W) => c_anSum s ps po cs co a b W (hin.below hW) hb
   rw [sumV_is] at c1
   unfold serA at c1
   exact spans1_Sum _ _ _ _ _ _ _ _ _ _ _ a b g _ _ _ w h3 c1
 ·refine ⟨_, _, rfl, fun A W => by kernel_rfl, ?_⟩
  have c1 := fun W (hW : Below w.heap.size w W) => c_anMean s ps po cs co a b W (hin.below hW) hb
  unfold serA meanV at c1
  exact q2_w _ _ _ _ _ _ _ _ _ _ _ a b _ _ _ _ _ _ w c1
def QsF : Spec := fun v w => ∃ g2 g3 g4, v = .agg (QsV g2 g3 g4) /\ Blk w g2 #[.func (.func 17) #[] #[]] 45 /\ Blk w g3 #[.func (.func 18) #[] #[]] 45 /\ Blk w g4 #[.func (.func 19) #[] #[]] 45
theorem QsF.closed : Closed [] QsF := fun _ _ _ hr ⟨g2, g3, g4, e, h2, h3, h4⟩ => ⟨g2, g3, g4, e, h2.rex hr (by simp), h3.rex hr (by simp), h4.rex hr (by simp)⟩
theorem size_alloc9 (w : World) (o : Obj) : (w.alloc o).heap.size = w.heap.size + 1 := by simp
theorem c_questions (w : World) :
  Calls Tryz.prog 81 #[] w fun e w' => ∃ v, e = .returned v /\ QsF v w' /\ Below w.heap.size w w' := by
 have s1 := Lib.hid (fun W => c_spans 17 W)
 have s2 := Lib.hid (fun W => c_spans 18 W)
 have s3 := Lib.hid (fun W => c_spans 19 W)
 go_enter Tryz.func81, Tryz.ntmps81
 go_wp2_with fail
 refine (s1.out _).mono ?_
 rintro e w1 ⟨rfl, hb1, hs⟩
 have z2 := hb1.size
 try simp at z2
 have b1 : Blk w1 w.heap.size #[.nilFunc, .nilFunc, .nilFunc, .nilFunc, .nilFunc, .nilFunc] 151 := blkAny2
 have hW : Below w.heap.size w w1 := belowAny
 have z3 := b1.lt
 have k1 := b1.cell
 have f1 := b1.frozen
 have b2 : Blk w1 (w.heap.size + 1) #[.func (.func 17) #[] #[]] 45 := by first | exact hs | (simp only [size_alloc9] at hs; exact hs)
 clear hs
 have z4 := b2.lt
 clear k1 f1
 have k1 := b1.cell
 have f1 := b1.frozen
 have k2 := b2.cell
 have f2 := b2.frozen
 go_wp2_with fail
 refine (s2.out _).mono ?_
 rintro e w5 ⟨rfl, hb5, hs⟩
 have z6 := hb5.size
 try simp at z6
 clear k1 f1 k2 f2
 have b1 : Blk w5 w.heap.size #[.nilFunc, .nilFunc, .nilFunc, .nilFunc, .nilFunc, .nilFunc] 151 := blkAny2
 have b2 : Blk w5 (w.heap.size + 1) #[.func (.func 17) #[] #[]] 45 := blkAny2
 have hW : Below w.heap.size w w5 := belowAny
 have z7 := b1.lt
 have z8 := b2.lt
 have k1 := b1.cell
 have f1 := b1.frozen
 have k2 := b2.cell
 have f2 := b2.frozen
 have b3 : Blk w5 w1.heap.size #[.func (.func 18) #[] #[]] 45 := by first | exact hs | (simp only [size_alloc9] at hs; exact hs)
 clear hs
 have z9 := b3.lt
 clear k1 f1 k2 f2
 have k1 := b1.cell
 have f1 := b1.frozen
 have k2 := b2.cell
 have f2 := b2.frozen
 have k3 := b3.cell
 have f3 := b3.frozen
 go_wp2_with fail
 refine (s3.out _).mono ?_
 rintro e w10 ⟨rfl, hb10, hs⟩
 have z11 := hb10.size
 try simp at z11
 clear k1 f1 k2 f2 k3 f3
 have b1 : Blk w10 w.heap.size #[.nilFunc, .nilFunc, .nilFunc, .nilFunc, .nilFunc, .nilFunc] 151 := blkAny2
 have b2 : Blk w10 (w.heap.size + 1) #[.func (.func 17) #[] #[]] 45 := blkAny2
 have b3 : Blk w10 w1.heap.size #[.func (.func 18) #[] #[]] 45 := blkAny2
 have hW : Below w.heap.size w w10 := belowAny
 have z12 := b1.lt
 have z13 := b2.lt
 have z14 := b3.lt
 have k1 := b1.cell
 have f1 := b1.frozen
 have k2 := b2.cell
 have f2 := b2.frozen
 have k3 := b3.cell
 have f3 := b3.frozen
 have b4 : Blk w10 w5.heap.size #[.func (.func 19) #[] #[]] 45 := by first | exact hs | (simp only [size_alloc9] at hs; exact hs)
 clear hs
 have z15 := b4.lt
 clear k1 f1 k2 f2 k3 f3
 have k1 := b1.cell
 have f1 := b1.frozen
 have k2 := b2.cell
 have f2 := b2.frozen
 have k3 := b3.cell
 have f3 := b3.frozen
 have k4 := b4.cell
 have f4 := b4.frozen
 go_wp2
 have y_1 := b1.lt
 have y_2 := b2.lt
 have y_3 := b3.lt
 have y_4 := b4.lt
 refine bodyPost_ret (v := .agg (QsV (w.heap.size + 1) w1.heap.size w5.heap.size)) (by simp [results, Tryz.results81, go_sem, QsV, k1, f1, k2, f2, k3, f3, k4, f4, y_1, y_2, y_3, y_4]) rfl ⟨_, rfl, ⟨_, _, _, rfl, by exact blkAny2, by exact blkAny2, by exact blkAny2⟩, by exact belowAny⟩
def IntsF (w : World) (p : Option Addr) (l : List Int) : Prop := IntsIn w p l
theorem IntsF.rex {L : List Nat} {w w' : World} {p : Option Addr} {l : List Int} (h : IntsF w p l) (hr : Rex L w w') (hL : L = []) : IntsF w' p l := by subst hL; exact IntsIn.below h hr.below
def enRel (w : World) (p : Option Addr) (l : List Int) (cap : Nat) (x0 : Int) (a' : Act) (W : World) : Prop :=
 Below w.heap.size w W /\ ∃ i : Nat, (∃ u : Nat -> Value, a' = { tmps := #[.slice p l.length cap, u 1, u 2, u 3, .int .i64 (minL (x0 :: l.take i)), .int .i64 (maxL (x0 :: l.take i)), .int .i64 (i : Int), u 7, u 8, u 9, u 10, u 11, u 12, u 13, u 14, u 15, u 16, u 17, u 18, u 19, u 20, u 21, u 22, u 23, u 24, u 25, u 26, u 27, u 28, u 29, u 30, u 31, u 32, u 33, u 34, u 35, u 36, u 37, u 38, u 39, u 40], defers := [] }) /\ i <= l.length
def OV (B : Nat) (T : List Int) : Spec := fun v w => OwnR w B 2 1 v T.length (T.map (Value.int .i64))
theorem OV.closed (B : Nat) (T : List Int) : Closed [] (OV B T) := fun _ _ _ hr h => OwnR.rex h hr rfl
def kindR (R n : Int) : Int := if n = 0 then 1 else if R = 0 then 2 else 3
def PtsDom (s : SegT) : Prop := (s.K = 4 /\ (s.raw.length : Int) = cnt s.runs) ∨ (s.K ≠ 4 /\ isLine s.A s.R s.n s.d = true)
def toRel (w : World) (gs : Nat) (p : Option Addr) (cap : Nat) (l : List Int) (a' : Act) (W : World) : Prop :=
 Below w.heap.size w W /\ ∃ (i : Nat) (S : Int) (ps : Option Addr) (ls cs : Nat), (∃ u : Nat -> Value, a' = { tmps := #[.slice p l.length cap, u 1, .pointer (some ⟨w.heap.size, 0, none⟩), .pointer (some ⟨gs, 0, none⟩), .int .i64 (i : Int), u 5, u 6, u 7, u 8, u 9, u 10, u 11, u 12, u 13, u 14, u 15, u 16, u 17, u 18, u 19], defers := [] }) /\ S = lsum (l.take i) /\ i <= l.length /\ Blk W w.heap.size #[.bool false, .slice none 0 0] 132 /\ Blk W gs #[.bool (decide (S < 0)), .slice ps ls cs] 132 /\ Bits W (.slice ps ls cs) S.natAbs
section
variable {P : Program} {w : World}
theorem run_append_own2 (base : Nat) (t ty e : TypeId) (i : TypeInfo) (z : Value) (size bytes : Nat) (ht : P.underlying t = some (.slice e)) (hi : P.info? e = some i) (hz : i.zero = some z)
  (hsize : i.size = size) (hby : i.bytes = bytes) (hzs : z.cells.size = size) (hsz : 0 < size)
  (v : Value) (n : Nat) (xs : List Value) (hown : w.ownsRow base e size v n xs)
  (a : Addr) (m c : Nat) (news : List Value) (hl : news.length = m * size) (hnews : ∀ j u, news[j]? = some u -> w.cell? (a.add j) = some u) (h1 : ∀ u ∈ news, u.oneCell' = true)
  (h63 : n + m <= maxLen) (hbytes : (n + m) * bytes <= 140737488355328) (hbase : base <= w.heap.size) :
  ∃ v' w', (Builtin.append_ #[t, t] ty #[v, .slice (some a) m c]).run P w = .ok v' w' /\ w'.ownsRow base e size v' (n + m) (xs ++ news) /\ w.grownBy w' v.ownBlock /\
   (v' = .slice none 0 0 ↔ v = .slice none 0 0 /\ m = 0) /\ (v'.ownBlock = v.ownBlock ∨ v'.ownBlock = some w.heap.size) := by
 obtain ⟨v', w', hr, h2, h3, h4⟩ := run_append_own (P := P) w base t ty e i z size bytes ht hi hz hsize hby hzs hsz v n xs hown a m c news hl hnews h1 h63 hbytes hbase
 refine ⟨v', w', hr, h2, h3, h4, ?_⟩
 subst hsize
 subst hby
 have hsmall : n + m <= 9223372036854775807 := by simp only [maxLen] at h63; omega
 rcases hown.2 with ⟨rfl, rfl⟩ | ⟨g, cap, cur, rfl, hbg, hg, hnc, hcm, hcs, htake⟩
 ·by_cases hm : m = 0
  ·left
   rw [h4.2 ⟨rfl, hm⟩]
  ·have hr2 := run_append_nil (P := P) w t ty e i z ht hi hz a m c news hl hnews (by omega) (by omega) (by have hb := hbytes; simp only [Nat.zero_add] at hb; omega)
   rw [hr2] at hr
   injection hr with hr _
   subst hr
   right; rfl
 ·by_cases hroom : n + m <= cap
  ·have hfit : n * i.size + news.length <= cur.size := by rw [hl, hcs, <- Nat.add_mul]; exact Nat.mul_le_mul_right _ hroom
   have hr2 := run_append_room (P := P) w t ty e i ht hi g n cap cur hg a m c news hl hnews h1 hroom hfit
   rw [hr2] at hr
   injection hr with hr _
   subst hr
   left; rfl
  ·have holds : ∀ j u, xs[j]? = some u -> w.cell? ((⟨g, 0, none⟩ : Addr).add j) = some u := hown.cells (g := g) rfl
   have hr2 := run_append_grow (P := P) w t ty e i z ht hi hz ⟨g, 0, none⟩ n cap xs hown.1 holds a m c news hl hnews (by omega) (by omega) (growslice_fits (by omega) hbytes)
   rw [hr2] at hr
   injection hr with hr _
   subst hr
   right; rfl
theorem wpList_append_own2 {ops : Array Oper} {rest : List Oper} {o : Oper} {a : Act} {Q : Exit -> Act -> World -> Prop} (hgd : o.guard = none) (s x : Operand) (t : TypeId)
  (ho : o.op = .call { callee := .builtin .append, args := #[s, x], argTypes := #[t, t] })
  (base : Nat) (e : TypeId) (i : TypeInfo) (z : Value) (size bytes : Nat) (ht : P.underlying t = some (.slice e)) (hi : P.info? e = some i) (hz : i.zero = some z)
  (hsize : i.size = size) (hby : i.bytes = bytes) (hzs : z.cells.size = size) (hsz : 0 < size)
  (v : Value) (n : Nat) (xs : List Value) (hs : a.eval s = v) (hown : w.ownsRow base e size v n xs)
  (ad : Addr) (m c : Nat) (news : List Value) (hx : a.eval x = .slice (some ad) m c) (hl : news.length = m * size) (hnews : ∀ j u, news[j]? = some u -> w.cell? (ad.add j) = some u) (h1 : ∀ u ∈ news, u.oneCell' = true)
  (h63 : n + m <= maxLen) (hbytes : (n + m) * bytes <= 140737488355328) (hbase : base <= w.heap.size)
  (h : ∀ v' w', w'.ownsRow base e size v' (n + m) (xs ++ news) -> w.grownBy w' v.ownBlock -> (v'.ownBlock = v.ownBlock ∨ v'.ownBlock = some w.heap.size) -> wpList P ops Q rest (a.put o.dst v') w') : wpList P ops Q (o :: rest) a w := by
 refine wpList_plain hgd fun K hK => ?_
 obtain ⟨v', w', hr, h2, h3, _, h4⟩ := run_append_own2 (P := P) (w := w) base t o.type e i z size bytes ht hi hz hsize hby hzs hsz v n xs hown ad m c news hl hnews h1 h63 hbytes hbase
 unfold Oper.wp
 simp [execOp, ho, resolve, invoke, builtin, hs, hx, hr, Result.andThen]
 exact hK _ _ (h v' w' h2 h3 h4)
end
def OneV (B : Nat) (d : Int) : Spec := fun v w => ∃ g, v = .slice (some ⟨g, 0, none⟩) 1 1 /\ B <= g /\ Blk w g #[d] 2
theorem OneV.closed (B : Nat) (d : Int) : Closed [] (OneV B d) := fun _ _ _ hr ⟨g, e1, h1, h⟩ => ⟨g, e1, h1, h.rex hr (by simp)⟩
def Apart2 (v1 v2 : Value) : Prop := ∀ g, v1.ownBlock = some g -> v2.ownBlock = some g -> False
theorem Apart2.symm {v1 v2 : Value} (h : Apart2 v1 v2) : Apart2 v2 v1 := fun g a b => h g b a
theorem grown_below {B : Nat} {w0 w w' : World} {r : Option Nat} (h : Below B w0 w) (hB : B <= w.heap.size) (hg : w.grownBy w' r) (hr : ∀ g, r = some g -> B <= g) : Below B w0 w' :=
 h.trans ⟨hg.os, hg.tape, hg.output, hg.size, fun k hk => hg.block k (by omega) fun e => by have := hr k e.symm; omega⟩
theorem one_news {W : World} {g : Nat} {d : Int} (h : Blk W g #[d] 2) {j : Nat} {u : Value} (hu : [Value.int .i64 d][j]? = some u) : W.cell? ((⟨g, 0, none⟩ : Addr).add j) = some u := by
 match j, hu with
 | 0, hu =>
  obtain rfl : Value.int .i64 d = u := by simpa using hu
  exact h.cell 0
 | j + 1, hu => simp at hu
def loB (x : RunT) : Int := x.s - x.c
def hiB (x : RunT) : Int := x.s + x.c
def boRel (w : World) (p : Option Addr) (cap : Nat) (l : List RunT) (a' : Act) (W : World) : Prop :=
 Below w.heap.size w W /\ ∃ (i : Nat) (v1 v2 : Value), (∃ u : Nat -> Value, a' = { tmps := #[.slice p l.length cap, u 1, .slice none 0 0, .slice none 0 0, v1, v2, .int .i64 (i : Int), u 7, u 8, u 9, u 10, u 11, u 12, u 13, u 14, u 15, u 16, u 17, u 18, u 19, u 20, u 21, u 22, u 23, u 24, u 25, u 26, u 27, u 28, u 29, u 30, u 31, u 32, u 33, u 34, u 35, u 36, u 37, u 38, u 39, u 40, u 41, u 42], defers := [] }) /\ i <= l.length /\
  OwnR W w.heap.size 2 1 v1 i (((l.take i).map loB).map (Value.int .i64)) /\ OwnR W w.heap.size 2 1 v2 i (((l.take i).map hiB).map (Value.int .i64)) /\ Apart2 v1 v2
end Go.Proofs.YtidfcoooccblaaaGreat
