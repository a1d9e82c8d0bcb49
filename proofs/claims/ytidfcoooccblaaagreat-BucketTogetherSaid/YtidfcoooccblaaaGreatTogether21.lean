/- Parts of the proof that follows: The laws of chapter 25: AnswerParted's walks. No condition. | The laws of chapter 25: AnswerParted, at every series. No condition. | The laws of chapter 26: own, of every series. No condition. | The laws of chapter 26: BucketTogether's walk. No condition. -/
import Derived.BigQuiet
import Derived.Test.YtidfcoooccblaaaGreatTogether20
set_option maxRecDepth 100000
set_option maxHeartbeats 8000000
set_option linter.unusedSimpArgs false
set_option linter.unusedVariables false
namespace Go.Proofs.YtidfcoooccblaaaGreat
open Go.RowKit

def ownSer (nm : ByteArray) (ep fl la sc : Int) (rows : List SegR) (pts : List (Int × Int)) : SerT := ⟨nm, ep, fl, la, sc, (rows.take (min rows.length 60)).map fun r => ownG r.s, pts.take (min pts.length 60)⟩
structure SerCame (w : World) (ps po : Option Addr) (cs co : Nat) (rows : List SegR) (pts : List (Int × Int)) : Prop where
 segs : SegsCame w ps rows
 opn : PtsIn w po pts
 nilS : ps = none -> rows.length = 0 /\ cs = 0
 nilO : po = none -> pts.length = 0 /\ co = 0
 capS : rows.length <= cs
 capO : pts.length <= co
theorem SerCame.below {w w' : World} {ps po : Option Addr} {cs co : Nat} {rows : List SegR} {pts : List (Int × Int)} (h : SerCame w ps po cs co rows pts) (hb : Below w.heap.size w w') : SerCame w' ps po cs co rows pts := ⟨h.segs.below hb, h.opn.below hb, h.nilS, h.nilO, h.capS, h.capO⟩
def ownSer26 (nm : ByteArray) (ep fl la sc : Int) (rows : List SegR) (pts : List (Int × Int)) : SerT := ⟨nm.extract 0 (mn (nm.size : Int) 20).toNat, ep, fl, la, sc, (rows.take (min rows.length 12)).map fun r => ownK r.s, pts.take (min pts.length 40)⟩
theorem c_own26L (nm : ByteArray) (ep fl la sc : Int) (ps po : Option Addr) (cs co : Nat) (rows : List SegR) (pts : List (Int × Int)) (w : World) (h : SerCame w ps po cs co rows pts) :
  Calls Tryz.prog 29 #[.agg #[.string nm, ep, fl, la, sc, .slice ps rows.length cs, .slice po pts.length co]] w fun e w' => ∃ pS capS pP capP, e = .returned (.agg (serA (ownSer26 nm ep fl la sc rows pts) pS capS pP capP)) /\ Below w.heap.size w w' /\ Lasts w.heap.size w' fun W => SerIn W (ownSer26 nm ep fl la sc rows pts) pS pP := by
 have h1 := h.capS
 have h2 := h.capO
 have l1 : ((rows.take (min rows.length 12)).map fun r => ownK r.s).length = min rows.length 12 := by rw [List.length_map, List.length_take]; omega
 have l2 : (pts.take (min pts.length 40)).length = min pts.length 40 := by rw [List.length_take]; omega
 cases hps : ps with
 | none =>
  obtain ⟨e1, e2⟩ := h.nilS hps
  subst e2
  rw [e1]
  have e3 : rows = [] := List.length_eq_zero_iff.1 e1
  subst e3
  refine (own26n_w nm ep fl la sc po co pts w (min pts.length 40) h.opn h.nilO h.capO (by omega) (by omega) (Lib.hid (by split <;> omega)) (by omega) (by omega) _ (Lib.hid rfl)).mono ?_
  rintro e w' ⟨pP, capP, rfl, hB, hP⟩
  refine ⟨none, 0, pP, capP, ?_, hB, fun L Wx hL hr => ⟨⟨fun i s hs => by simp [ownSer26] at hs⟩, hP L Wx hL hr, ?_, ?_⟩⟩
  ·unfold serA ownSer26
   simp only [l2]
   rfl
  ·show ([] : List SegT).length <= 100
   decide
  ·show (pts.take (min pts.length 40)).length <= 100
   omega
 | some ad =>
  subst hps
  refine (own26_w nm ep fl la sc ad po cs co rows pts w (min rows.length 12) (min pts.length 40) h.segs h.opn h.nilO h.capS h.capO (by omega) (by omega) (Lib.hid (by split <;> omega)) (by omega) (by omega) (by omega) (by omega) (Lib.hid (by split <;> omega)) (by omega) (by omega) _ (Lib.hid rfl)).mono ?_
  rintro e w' ⟨gS, capS, pP, capP, rfl, hB, hS⟩
  refine ⟨_, capS, pP, capP, ?_, hB, fun L Wx hL hr => ⟨(hS L Wx hL hr).1, (hS L Wx hL hr).2, ?_, ?_⟩⟩
  ·unfold serA ownSer26
   simp only [l1, l2]
  ·show ((rows.take (min rows.length 12)).map fun r => ownK r.s).length <= 100
   omega
  ·show (pts.take (min pts.length 40)).length <= 100
   omega
attribute [local simp] Oper.looksAt Op.operands Call.operands envOf Det GDet
theorem Lasts.below {B : Nat} {w w' : World} {F : World -> Prop} (h : Lasts B w F) (hb : Below w.heap.size w w') : Lasts B w' F := fun L W hL hr => h L W hL (((Rex.of_below hb).more (fun x hx => absurd hx List.not_mem_nil)).trans hr)
theorem Below.calls2 {w w' : World} {o : Obj} (h : Below (w.alloc o).heap.size (w.alloc o) w') : Below w.heap.size w w' := BelowCalls ((Below.refl _ _).alloc (Nat.le_refl _) o) h (by simp)
theorem Tryz.infoSpan : (Tryz.prog.info? 33).map (fun i => (i.zero, i.size, i.bytes)) = some (some (.agg #[.int .i64 0, .int .i64 0]), 2, 16) := by kernel_rfl
def btRel (w : World) (k N : Nat) (ls : List (List (Int × Int))) (last : Int) (pc pl : Option Addr) (jc jl gr gs ga : Nat) (a' : Act) (W : World) : Prop :=
 Below w.heap.size w W /\ ∃ (i : Nat) (m : Int) (ov : Bool) (v : Value), OwnR W w.heap.size 33 2 v (spsK k (ls.take i)).length (flatPts (spsK k (ls.take i))) /\ (∃ u : Nat -> Value, a' = { tmps := #[u 0, u 1, u 2, .pointer (some ⟨gr, 0, none⟩), u 4, .pointer (some ⟨gs, 0, none⟩), u 6, u 7, .int .i64 last, .slice pc N jc, u 10, .slice pl N jl, u 12, .pointer (some ⟨ga, 0, none⟩), .int .i64 m, v, .bool ov, u 17, u 18, u 19, u 20, u 21, u 22, u 23, u 24, u 25, u 26, u 27, u 28, u 29, u 30, u 31, u 32, u 33, u 34, u 35, u 36, u 37, u 38, u 39, u 40, u 41, u 42, u 43, u 44, u 45, u 46, u 47, u 48, u 49, u 50, u 51, u 52, u 53, u 54, u 55, u 56, u 57, u 58, u 59, u 60, u 61, u 62, u 63, u 64, u 65, u 66, u 67, u 68, u 69, u 70, u 71, u 72, u 73, u 74, u 75, u 76, u 77, u 78, u 79, u 80, u 81, u 82, u 83, u 84, u 85, u 86, u 87, u 88, u 89, u 90, u 91, u 92, u 93, u 94, u 95, u 96, u 97, u 98, u 99, u 100, u 101, u 102, u 103, u 104, .slice pl N jl, .int .i64 (N : Int), .int .i64 (i : Int), u 108, u 109, u 110, u 111, u 112, u 113, u 114, u 115, u 116, u 117, u 118, u 119, u 120, u 121, u 122, u 123, u 124, u 125, u 126, u 127, u 128, u 129, u 130, u 131, u 132, u 133, u 134, u 135, u 136, u 137, u 138, u 139, u 140, u 141, u 142, u 143, u 144, u 145, u 146, u 147, u 148, u 149, u 150, u 151, u 152, u 153, u 154, u 155, u 156, u 157, u 158, u 159, u 160, u 161, u 162, u 163, u 164, u 165, u 166, u 167, u 168, u 169, u 170, u 171, u 172, u 173, u 174, u 175, u 176, u 177, u 178, u 179, u 180, u 181, u 182, u 183, u 184, u 185, u 186, u 187, u 188, u 189, u 190, u 191, u 192, u 193, u 194, u 195, u 196, u 197, u 198, u 199, u 200, u 201, u 202, u 203, u 204, u 205, u 206, u 207, u 208, u 209, u 210, u 211, u 212, u 213, u 214, u 215, u 216, u 217, u 218, u 219, u 220, u 221, u 222, u 223, u 224, u 225, u 226, u 227, u 228, u 229, u 230], defers := [] }) /\ cntK (ls.take i) = m /\ ovK k (ls.take i) = ov /\ i <= N
theorem btog_w (nm : ByteArray) (ep fl la sc : Int) (ps po : Option Addr) (ns cs no co : Nat) (s : SerT) (qa qb qc qd : Int) (k N : Nat) (fr wd last : Int) (ls : List (List (Int × Int))) (nn M aer an ax ay p0 p1 p2 p3 p4 : Int) (w : World) (hk : 1 <= k /\ k <= 5) (hf : 0 <= fr /\ fr <= 281474976710656) (hw : 1 <= wd /\ wd <= 281474976710656) (hN : 1 <= N /\ N <= 64) (hlast : Hid (wrap64 (wrap64 (fr + wrap64 ((N : Int) * wd)) - 1) = last)) (hln : nn = 0 -> ls.length = N) (hM : cntK ls = M) (hM9 : M <= 100000)
  (hcase : Hid (nn = 340 ∨ (nn = 0 /\ Hid (
   (M = 0 /\ ((k = 1 /\ aer = 0) ∨ (k ≠ 1 /\ aer = 9 /\ an = 0 /\ ax = 0 /\ ay = 0 /\ p0 = 0 /\ p1 = 0 /\ p2 = 0 /\ p3 = 0 /\ p4 = 0))) ∨ (0 < M /\ ((k = 1 /\ aer = 0 /\ an = M /\ ax = 0 /\ ay = 0 /\ p0 = 0 /\ p1 = 0 /\ p2 = 0 /\ p3 = 0 /\ p4 = 0) ∨ ((k = 2 ∨ k = 3) /\ aer = 0 /\ spsK k ls ≠ []) ∨ (k = 4 /\ ovK k ls = true) ∨ (k = 4 /\ ovK k ls = false /\ spsK k ls ≠ []) ∨ (k = 5 /\ aer = 0 /\ p0 = M)))))))
  (c1 : ∀ W, Below w.heap.size w W -> Calls Tryz.prog 28 #[] W fun e w' => e = .returned (.bool true) /\ Below W.heap.size W w')
  (c2 : ∀ W, Below w.heap.size w W -> Calls Tryz.prog 29 #[.agg #[.string nm, .int .i64 ep, .int .i64 fl, .int .i64 la, .int .i64 sc, .slice ps ns cs, .slice po no co]] W fun e w' => ∃ pS capS pP capP, e = .returned (.agg #[.string s.name, .int .i64 s.eps, .int .i64 s.floor, .int .i64 s.last, .int .i64 s.scale, .slice pS s.segs.length capS, .slice pP s.opn.length capP]) /\ Below W.heap.size W w' /\ Lasts W.heap.size w' fun W => SerIn W s pS pP)
  (cM : ∀ W, Calls Tryz.prog 42 #[.agg #[.int .i64 qa, .int .i64 qb, .int .i64 qc, .int .i64 qd]] W fun e w' => e = .returned (.agg #[.int .i64 (k : Int), .int .i64 fr, .int .i64 wd, .int .i64 (N : Int)]) /\ Below W.heap.size W w')
  (cC : ∀ W pS capS pP capP, SerIn W s pS pP -> Calls Tryz.prog 14 #[.agg #[.string s.name, .int .i64 s.eps, .int .i64 s.floor, .int .i64 s.last, .int .i64 s.scale, .slice pS s.segs.length capS, .slice pP s.opn.length capP]] W fun e w' => e = .returned (.int .i64 nn) /\ Below W.heap.size W w')
  (cB : nn = 340 -> ∀ W pS capS pP capP, SerIn W s pS pP -> Calls Tryz.prog 38 #[.agg #[.string s.name, .int .i64 s.eps, .int .i64 s.floor, .int .i64 s.last, .int .i64 s.scale, .slice pS s.segs.length capS, .slice pP s.opn.length capP], .int .i64 (k : Int), .int .i64 fr, .int .i64 wd, .int .i64 (N : Int)] W fun e w' => ∃ p j, e = .returned (.tuple #[.slice p 0 j, .int .i64 340]) /\ AnsIn w' p [] /\ Below W.heap.size W w')
  (cK : nn = 0 -> ∀ W pS capS pP capP, SerIn W s pS pP -> Calls Tryz.prog 38 #[.agg #[.string s.name, .int .i64 s.eps, .int .i64 s.floor, .int .i64 s.last, .int .i64 s.scale, .slice pS s.segs.length capS, .slice pP s.opn.length capP], .int .i64 1, .int .i64 fr, .int .i64 wd, .int .i64 (N : Int)] W fun e w' => ∃ p j, e = .returned (.tuple #[.slice p N j, .int .i64 0]) /\ AnsIn w' p (ls.map (ansK 1)) /\ Below W.heap.size W w')
  (cL : nn = 0 -> ∀ W pS capS pP capP, SerIn W s pS pP -> Calls Tryz.prog 38 #[.agg #[.string s.name, .int .i64 s.eps, .int .i64 s.floor, .int .i64 s.last, .int .i64 s.scale, .slice pS s.segs.length capS, .slice pP s.opn.length capP], .int .i64 (k : Int), .int .i64 fr, .int .i64 wd, .int .i64 (N : Int)] W fun e w' => ∃ p j, e = .returned (.tuple #[.slice p N j, .int .i64 0]) /\ AnsIn w' p (ls.map (ansK k)) /\ Below W.heap.size W w')
  (cA : nn = 0 -> ∀ W pS capS pP capP, SerIn W s pS pP -> Calls Tryz.prog 33 #[.agg #[.string s.name, .int .i64 s.eps, .int .i64 s.floor, .int .i64 s.last, .int .i64 s.scale, .slice pS s.segs.length capS, .slice pP s.opn.length capP], .int .i64 (k : Int), .int .i64 fr, .int .i64 last] W fun e w' => e = .returned (.agg #[.int .i64 aer, .int .i64 an, .int .i64 ax, .int .i64 ay, .int .i64 p0, .int .i64 p1, .int .i64 p2, .int .i64 p3, .int .i64 p4]) /\ Below W.heap.size W w')
  (cN : nn = 0 -> ∀ W pS capS pP capP, SerIn W s pS pP -> Calls Tryz.prog 33 #[.agg #[.string s.name, .int .i64 s.eps, .int .i64 s.floor, .int .i64 s.last, .int .i64 s.scale, .slice pS s.segs.length capS, .slice pP s.opn.length capP], .int .i64 1, .int .i64 fr, .int .i64 last] W fun e w' => e = .returned (.agg #[.int .i64 0, .int .i64 M, .int .i64 0, .int .i64 0, .int .i64 0, .int .i64 0, .int .i64 0, .int .i64 0, .int .i64 0]) /\ Below W.heap.size W w')
  (c2s : k = 2 /\ 0 < M -> ∀ W p j, PtsIn W p (spsK k ls) -> Calls Tryz.prog 43 #[.slice p (spsK k ls).length j] W fun e w' => e = .returned (.tuple #[.agg #[.int .i64 ax, .int .i64 ay], .int .i64 0]) /\ Below W.heap.size W w')
  (c3s : k = 3 /\ 0 < M -> ∀ W p j, PtsIn W p (spsK k ls) -> Calls Tryz.prog 44 #[.slice p (spsK k ls).length j] W fun e w' => e = .returned (.tuple #[.agg #[.int .i64 ax, .int .i64 ay], .int .i64 0]) /\ Below W.heap.size W w')
  (c4s : k = 4 /\ ovK k ls = false /\ 0 < M -> ∀ W p j, PtsIn W p (spsK k ls) -> Calls Tryz.prog 45 #[.slice p (spsK k ls).length j] W fun e w' => e = .returned (.tuple #[.agg #[.int .i64 ax, .int .i64 ay], .int .i64 aer]) /\ Below W.heap.size W w') :
  Calls Tryz.prog 8 #[.agg #[.string nm, .int .i64 ep, .int .i64 fl, .int .i64 la, .int .i64 sc, .slice ps ns cs, .slice po no co], .agg #[.int .i64 qa, .int .i64 qb, .int .i64 qc, .int .i64 qd]] w fun e w' => e = .returned (.bool true) /\ Below w.heap.size w w' := by
 obtain ⟨i0, hi0, hz0, hz1, hz2⟩ := info_parts Tryz.infoSpan
 replace cN := Lib.hid cN
 replace c2s := Lib.hid c2s
 replace c3s := Lib.hid c3s
 replace c4s := Lib.hid c4s
 have H_c1 := Lib.hid c1
 clear c1
 have H_c2 := Lib.hid c2
 clear c2
 have H_cM := Lib.hid cM
 clear cM
 have H_cC := Lib.hid cC
 clear cC
 have H_cB := Lib.hid cB
 clear cB
 have H_cK := Lib.hid cK
 clear cK
 have H_cL := Lib.hid cL
 clear cL
 have H_cA := Lib.hid cA
 clear cA
 go_enter Tryz.func8, Tryz.ntmps8
 have c1 := H_c1.out
 go_wp2_with fail
 refine (c1 _ belowAny).mono ?_
 rintro e w1 ⟨rfl, hb1⟩
 clear c1
 have z2 := hb1.size
 try simp at z2
 have b1 : Blk w1 w.heap.size #[.string nm, .int .i64 ep, .int .i64 fl, .int .i64 la, .int .i64 sc, .slice ps ns cs, .slice po no co] 25 := blkAny2
 have b2 : Blk w1 (w.heap.size + 1) #[.int .i64 qa, .int .i64 qb, .int .i64 qc, .int .i64 qd] 79 := blkAny2
 have hW : Below w.heap.size w w1 := belowAny
 have z3 := b1.lt
 have z4 := b2.lt
 clear hb1
 have k1 := b1.cell
 have f1 := b1.frozen
 have k2 := b2.cell
 have f2 := b2.frozen
 have c2 := H_c2.out
 go_wp2_with fail
 refine (c2 _ belowAny).mono ?_
 rintro e w5 ⟨pS, capS, pP, capP, rfl, hb5, hs⟩
 clear c2
 have z6 := hb5.size
 try simp at z6
 clear k1 f1 k2 f2
 have b1 : Blk w5 w.heap.size #[.string nm, .int .i64 ep, .int .i64 fl, .int .i64 la, .int .i64 sc, .slice ps ns cs, .slice po no co] 25 := blkAny2
 have b2 : Blk w5 (w.heap.size + 1) #[.int .i64 qa, .int .i64 qb, .int .i64 qc, .int .i64 qd] 79 := blkAny2
 have hW : Below w.heap.size w w5 := belowAny
 have z7 := b1.lt
 have z8 := b2.lt
 have k1 := b1.cell
 have f1 := b1.frozen
 have k2 := b2.cell
 have f2 := b2.frozen
 have b3 := hs
 clear hs
 have cM := H_cM.out
 go_wp2_with fail
 refine (cM _).mono ?_
 rintro e w9 ⟨rfl, hb9⟩
 clear cM
 have z10 := hb9.size
 try simp at z10
 clear k1 f1 k2 f2
 have b1 : Blk w9 w.heap.size #[.string nm, .int .i64 ep, .int .i64 fl, .int .i64 la, .int .i64 sc, .slice ps ns cs, .slice po no co] 25 := blkAny2
 have b2 : Blk w9 (w.heap.size + 1) #[.int .i64 qa, .int .i64 qb, .int .i64 qc, .int .i64 qd] 79 := blkAny2
 have b3 : Lasts w1.heap.size w9 (fun W => SerIn W s pS pP) := by first | exact b3 | exact b3.below (by assumption) | exact Lasts.below b3 (Below.calls2 (by assumption)) | exact b3.below belowAny
 have b4 : Blk w9 w5.heap.size #[.string s.name, .int .i64 s.eps, .int .i64 s.floor, .int .i64 s.last, .int .i64 s.scale, .slice pS s.segs.length capS, .slice pP s.opn.length capP] 25 := blkAny2
 have hW : Below w.heap.size w w9 := belowAny
 have z11 := b1.lt
 have z12 := b2.lt
 have z13 := b4.lt
 clear hb9
 have k1 := b1.cell
 have f1 := b1.frozen
 have k2 := b2.cell
 have f2 := b2.frozen
 have k4 := b4.cell
 have f4 := b4.frozen
 go_upto_region 5 with (fail)
 clear k1 f1 k2 f2 k4 f4
 refine wp_facts (fun W' => Below w.heap.size w W' /\ SerIn W' s pS pP /\ Blk W' (w.heap.size + 1) #[.int .i64 (k : Int), .int .i64 fr, .int .i64 wd, .int .i64 (N : Int)] 79 /\ Blk W' w5.heap.size #[.string s.name, .int .i64 s.eps, .int .i64 s.floor, .int .i64 s.last, .int .i64 s.scale, .slice pS s.segs.length capS, .slice pP s.opn.length capP] 25) ⟨by exact belowAny, by exact b3 [w.heap.size + 1] _ (by simp; omega) (by exact rexAny), by exact blkAny2, by exact blkAny2⟩ ?_
 clear b1 b2 b3 b4 hW
 rintro W14 ⟨hW, b1, b2, b3⟩
 have z15 := hW.size
 have z16 := b2.lt
 have z17 := b3.lt
 have k2 := b2.cell
 have f2 := b2.frozen
 have k3 := b3.cell
 have f3 := b3.frozen
 have cC := H_cC.out
 go_wp2_with fail
 refine (cC _ pS capS pP capP b1).mono ?_
 rintro e w18 ⟨rfl, hb18⟩
 clear cC
 have z19 := hb18.size
 try simp at z19
 clear k2 f2 k3 f3
 have b1 : SerIn w18 s pS pP := by first | exact b1 | exact (SerIn.alloc b1 _).below (by assumption) | exact b1.below (by assumption) | exact b1.below belowAny
 have b2 : Blk w18 (w.heap.size + 1) #[.int .i64 (k : Int), .int .i64 fr, .int .i64 wd, .int .i64 (N : Int)] 79 := blkAny2
 have b3 : Blk w18 w5.heap.size #[.string s.name, .int .i64 s.eps, .int .i64 s.floor, .int .i64 s.last, .int .i64 s.scale, .slice pS s.segs.length capS, .slice pP s.opn.length capP] 25 := blkAny2
 have hW : Below w.heap.size w w18 := belowAny
 have z20 := b2.lt
 have z21 := b3.lt
 clear hb18
 have k2 := b2.cell
 have f2 := b2.frozen
 have k3 := b3.cell
 have f3 := b3.frozen
 rcases hcase.out with rfl | ⟨rfl, hfin⟩
 ·
  have cB := H_cB.out
  go_wp2_with fail
  refine (cB (by trivial) _ pS capS pP capP b1).mono ?_
  rintro e w22 ⟨pl, jl, rfl, hL, hb22⟩
  clear cB
  have z23 := hb22.size
  try simp at z23
  clear k2 f2 k3 f3
  have b1 : SerIn w22 s pS pP := by first | exact b1 | exact (SerIn.alloc b1 _).below (by assumption) | exact b1.below (by assumption) | exact b1.below belowAny
  have b2 : Blk w22 (w.heap.size + 1) #[.int .i64 (k : Int), .int .i64 fr, .int .i64 wd, .int .i64 (N : Int)] 79 := blkAny2
  have b3 : Blk w22 w5.heap.size #[.string s.name, .int .i64 s.eps, .int .i64 s.floor, .int .i64 s.last, .int .i64 s.scale, .slice pS s.segs.length capS, .slice pP s.opn.length capP] 25 := blkAny2
  have hW : Below w.heap.size w w22 := belowAny
  have z24 := b2.lt
  have z25 := b3.lt
  have k2 := b2.cell
  have f2 := b2.frozen
  have k3 := b3.cell
  have f3 := b3.frozen
  go_wp2
  have y_2 := b2.lt
  have y_3 := b3.lt
  refine bodyPost_ret (v := .bool true) (by simp [results, Tryz.results8, go_sem, k2, f2, k3, f3, y_2, y_3]) rfl ⟨rfl, by exact belowAny⟩
 ·
  go_upto_region 9 with (fail)
  rw [hlast.out]
  have cK := H_cK.out
  go_wp2_with fail
  refine (cK (by trivial) _ pS capS pP capP b1).mono ?_
  rintro e w22 ⟨pc, jc, rfl, hC, hb22⟩
  clear cK
  have z23 := hb22.size
  try simp at z23
  clear k2 f2 k3 f3
  have b1 : SerIn w22 s pS pP := by first | exact b1 | exact (SerIn.alloc b1 _).below (by assumption) | exact b1.below (by assumption) | exact b1.below belowAny
  have b2 : Blk w22 (w.heap.size + 1) #[.int .i64 (k : Int), .int .i64 fr, .int .i64 wd, .int .i64 (N : Int)] 79 := blkAny2
  have b3 : Blk w22 w5.heap.size #[.string s.name, .int .i64 s.eps, .int .i64 s.floor, .int .i64 s.last, .int .i64 s.scale, .slice pS s.segs.length capS, .slice pP s.opn.length capP] 25 := blkAny2
  have hW : Below w.heap.size w w22 := belowAny
  have z24 := b2.lt
  have z25 := b3.lt
  have k2 := b2.cell
  have f2 := b2.frozen
  have k3 := b3.cell
  have f3 := b3.frozen
  have b4 := hC
  clear hC
  have cL := H_cL.out
  go_wp2_with fail
  refine (cL (by trivial) _ pS capS pP capP b1).mono ?_
  rintro e w26 ⟨pl, jl, rfl, hL, hb26⟩
  clear cL
  have z27 := hb26.size
  try simp at z27
  clear k2 f2 k3 f3
  have b1 : SerIn w26 s pS pP := by first | exact b1 | exact (SerIn.alloc b1 _).below (by assumption) | exact b1.below (by assumption) | exact b1.below belowAny
  have b2 : Blk w26 (w.heap.size + 1) #[.int .i64 (k : Int), .int .i64 fr, .int .i64 wd, .int .i64 (N : Int)] 79 := blkAny2
  have b3 : Blk w26 w5.heap.size #[.string s.name, .int .i64 s.eps, .int .i64 s.floor, .int .i64 s.last, .int .i64 s.scale, .slice pS s.segs.length capS, .slice pP s.opn.length capP] 25 := blkAny2
  have b4 : AnsIn w26 pc (ls.map (ansK 1)) := by first | exact b4 | exact b4.below (by assumption) | exact b4.below belowAny
  have hW : Below w.heap.size w w26 := belowAny
  have z28 := b2.lt
  have z29 := b3.lt
  have k2 := b2.cell
  have f2 := b2.frozen
  have k3 := b3.cell
  have f3 := b3.frozen
  have b5 := hL
  clear hL
  have cA := H_cA.out
  go_wp2_with fail
  refine (cA (by trivial) _ pS capS pP capP b1).mono ?_
  rintro e w30 ⟨rfl, hb30⟩
  clear cA
  have z31 := hb30.size
  try simp at z31
  clear k2 f2 k3 f3
  have b1 : SerIn w30 s pS pP := by first | exact b1 | exact (SerIn.alloc b1 _).below (by assumption) | exact b1.below (by assumption) | exact b1.below belowAny
  have b2 : Blk w30 (w.heap.size + 1) #[.int .i64 (k : Int), .int .i64 fr, .int .i64 wd, .int .i64 (N : Int)] 79 := blkAny2
  have b3 : Blk w30 w5.heap.size #[.string s.name, .int .i64 s.eps, .int .i64 s.floor, .int .i64 s.last, .int .i64 s.scale, .slice pS s.segs.length capS, .slice pP s.opn.length capP] 25 := blkAny2
  have b4 : AnsIn w30 pc (ls.map (ansK 1)) := by first | exact b4 | exact b4.below (by assumption) | exact b4.below belowAny
  have b5 : AnsIn w30 pl (ls.map (ansK k)) := by first | exact b5 | exact b5.below (by assumption) | exact b5.below belowAny
  have hW : Below w.heap.size w w30 := belowAny
  have z32 := b2.lt
  have z33 := b3.lt
  clear hb30
  have k2 := b2.cell
  have f2 := b2.frozen
  have k3 := b3.cell
  have f3 := b3.frozen
  go_upto_region 12 with (fail)
  clear k2 f2 k3 f3
  refine wp_facts (fun W' => Below w.heap.size w W' /\ SerIn W' s pS pP /\ Blk W' (w.heap.size + 1) #[.int .i64 (k : Int), .int .i64 fr, .int .i64 wd, .int .i64 (N : Int)] 79 /\ Blk W' w5.heap.size #[.string s.name, .int .i64 s.eps, .int .i64 s.floor, .int .i64 s.last, .int .i64 s.scale, .slice pS s.segs.length capS, .slice pP s.opn.length capP] 25 /\ AnsIn W' pc (ls.map (ansK 1)) /\ AnsIn W' pl (ls.map (ansK k)) /\ Blk W' w30.heap.size #[.int .i64 aer, .int .i64 an, .int .i64 ax, .int .i64 ay, .int .i64 p0, .int .i64 p1, .int .i64 p2, .int .i64 p3, .int .i64 p4] 67) ⟨by exact belowAny, by first | exact b1 | exact (SerIn.alloc b1 _).below (by assumption) | exact b1.below (by assumption) | exact b1.below belowAny, by exact blkAny2, by exact blkAny2, by first | exact b4 | exact b4.below (by assumption) | exact b4.below belowAny, by first | exact b5 | exact b5.below (by assumption) | exact b5.below belowAny, by exact blkAny2⟩ ?_
  clear b1 b2 b3 b4 b5 hW
  rintro W34 ⟨hW, b1, b2, b3, b4, b5, b6⟩
  have z35 := hW.size
  have z36 := b2.lt
  have z37 := b3.lt
  have z38 := b6.lt
  have k2 := b2.cell
  have f2 := b2.frozen
  have k3 := b3.cell
  have f3 := b3.frozen
  have k6 := b6.cell
  have f6 := b6.frozen
  go_wp2
  refine wp_loop (btRel W34 k N ls last pc pl jc jl (w.heap.size + 1) w5.heap.size w30.heap.size) (fun a' _ => N - (intAt (a'.tmps.getD 107 undef)).toNat) ?_ ?_
  ·unfold btRel
   exact ⟨Below.refl _ _, 0, 0, false, _, OwnR.nil _ _ _ _, frame_ex rfl, rfl, rfl, Nat.zero_le _⟩
  clear k2 f2 k3 f3 k6 f6
  obtain ⟨gr, hgr⟩ : ∃ g, (w.heap.size + 1) = g := ⟨_, rfl⟩
  obtain ⟨gs, hgs⟩ : ∃ g, w5.heap.size = g := ⟨_, rfl⟩
  obtain ⟨ga, hga⟩ : ∃ g, w30.heap.size = g := ⟨_, rfl⟩
  rw [hgr] at b2 ⊢
  rw [hgs] at b3 ⊢
  rw [hga] at b6 ⊢
  clear hgr hgs hga
  obtain ⟨w5, hw5⟩ : ∃ W, W34 = W := ⟨_, rfl⟩
  rw [hw5] at b1 b2 b3 b4 b5 b6 hW ⊢
  clear hw5
  rintro a' W ⟨hW0, i, m, ov, v, hown, ⟨u, rfl⟩, hm, hov, hi'⟩
  have hz := hW0.size
  have hlen := Lib.hid hln
  clear hln
  rcases Nat.lt_or_ge i N with hlt | hge
  ·obtain ⟨l, hl⟩ : ∃ l, ls[i]? = some l := ⟨ls[i]'(by have := hlen.out (by trivial); omega), List.getElem?_eq_getElem _⟩
   have hsl : (spsK k (ls.take i)).length <= 64 := by have := spsK_len k (ls.take i); rw [List.length_take] at this; omega
   have st1 := Lib.hid (spsK_step k hl)
   have st2 := Lib.hid (ovK_step k hl)
   have st3 := Lib.hid (cntK_step hl)
   have bt1 := cntK_take ls i
   have bt2 := cntK_take ls (i + 1)
   rw [st3.out] at bt2
   rw [hM] at bt1 bt2
   rw [hm] at bt1 bt2
   have hLr : (ls.map (ansK k))[i]? = some (ansK k l) := by rw [List.getElem?_map, hl]; rfl
   have hcr : (ls.map (ansK 1))[i]? = some ⟨0, (l.length : Int), 0, 0, 0, 0, 0, 0, 0⟩ := by rw [List.getElem?_map, hl]; rfl
   obtain ⟨bl, ol, rfl, -⟩ := (b5.below hW0).at' i _ hLr
   obtain ⟨bc, oc, rfl, -⟩ := (b4.below hW0).at' i _ hcr
   have r1 := b2.below hW0
   have r3 : AnsP W bc oc (ls.map (ansK 1)) := ⟨b4.below hW0⟩
   have r5 : AnsP W bl ol (ls.map (ansK k)) := ⟨b5.below hW0⟩
   have ways := ansK_ways k l
   obtain ⟨⟨er, n, x, y, m0, m1, m2, m3, m4⟩, hr⟩ : ∃ r, ansK k l = r := ⟨_, rfl⟩
   rw [hr] at hLr ways
   rw [hr] at st1 st2
   obtain ⟨q0, q1, q2, q3, q4, q5, q6, q7, q8⟩ := r5.cellAt hLr
   simp only at q0 q1 q2 q3 q4 q5 q6 q7 q8 ways
   obtain ⟨c, hc⟩ : ∃ c : Int, (l.length : Int) = c := ⟨_, rfl⟩
   have hc9 : 0 <= c := by omega
   rw [hc] at hcr bt2
   have hlc : l = [] ↔ c = 0 := ⟨fun h => by rw [<- hc, h]; rfl, fun h => List.length_eq_zero_iff.1 (by omega)⟩
   replace hcr := Lib.hid hcr
   have hj0 : ¬ ((i : Int) < 0) := by omega
   clear b1 b2 b3 b4 b5 b6 r5 hLr hr
   have b1 := r1
   have b3 := r3
   clear r1 r3
   obtain ⟨b9, hb9⟩ : ∃ b, (er == 9) = b := ⟨_, rfl⟩
   obtain ⟨b0, hb0⟩ : ∃ b, (c == 0) = b := ⟨_, rfl⟩
   have H := Lib.hid (show (((k : Int) != 1) && !(b9 == b0)) = false by
    rw [<- hb9, <- hb0]
    rcases ways with ⟨rfl, rfl⟩ | ⟨hk1, hl0, rfl⟩ | ⟨hk1, hl0, rfl⟩ | ⟨rfl, hl0, rfl⟩
    ·rfl
    ·rw [hlc.1 hl0]; simp
    ·have : ¬ c = 0 := fun h => hl0 (hlc.2 h)
     simp [this]
    ·have : ¬ c = 0 := fun h => hl0 (hlc.2 h)
     simp [this])
   replace ways := Lib.hid ways
   have k1 := b1.cell
   have f1 := b1.frozen
   go_upto_region 20 with (fail)
   clear q0 q1 q2 q3 q4 q5 q6 q7 q8 k1 f1
   refine wp_facts (fun W' => Below W.heap.size W W' /\ Blk W' gr #[.int .i64 (k : Int), .int .i64 fr, .int .i64 wd, .int .i64 (N : Int)] 79 /\ Blk W' W.heap.size #[.int .i64 er, .int .i64 n, .int .i64 x, .int .i64 y, .int .i64 m0, .int .i64 m1, .int .i64 m2, .int .i64 m3, .int .i64 m4] 67 /\ AnsP W' bc oc (ls.map (ansK 1))) ⟨by exact belowAny, by exact blkAny2, by exact blkAny2, by first | exact b3 | exact b3.below (by assumption) | exact b3.below belowAny⟩ ?_
   clear b1 b2 b3
   rintro W21 ⟨hW, b1, b2, b3⟩
   have z22 := hW.size
   have z23 := b1.lt
   have z24 := b2.lt
   refine wp_region_nd 23 231 [] (fun W' => Rex [] W21 W' /\ Blk W' gr #[.int .i64 (k : Int), .int .i64 fr, .int .i64 wd, .int .i64 (N : Int)] 79 /\ Blk W' W.heap.size #[.int .i64 er, .int .i64 n, .int .i64 x, .int .i64 y, .int .i64 m0, .int .i64 m1, .int .i64 m2, .int .i64 m3, .int .i64 m4] 67 /\ AnsP W' bc oc (ls.map (ansK 1))) mixed (by kernel_rfl) rfl ⟨(Rex.refl _ _).drew, b1, b2, b3.drew⟩ (fun w w' ⟨h0, h1, h2, h3⟩ hr => ⟨h0.trans hr, h1.rex hr (by simp <;> omega), h2.rex hr (by simp <;> omega), h3.rex hr (by simp <;> omega)⟩) (fun c a d v w h => by cases d <;> exact h) ?_
   iterate 7
    apply nd_det (hg := rfl) (hal := rfl)
    ·intro a W' hC hE
     obtain ⟨_, k1, k2, k3⟩ := hC
     have k1 := k1.cell
     have k2 := k2.cell
     obtain ⟨v0, v1, -⟩ := k3.cellAt hcr.out
     first
      | (simp at hE; simp [go_sem, Act.eval, IntWalk.i64_left, hE, k1, k2, k3, v0, v1, hj0, hlt, Nat.not_le.2 hlt, hb9, hb0]; try rfl)
      | (clear hE; simp [go_sem, Act.eval, IntWalk.i64_left, k1, k2, k3, v0, v1, hj0, hlt, Nat.not_le.2 hlt, hb9, hb0]; try rfl)
   iterate 4
    apply nd_detg (p := true) (hg := rfl) (hd := rfl) (hal := rfl)
    ·intro v W' h
     simp [envOf, Det, GDet] at h
     simp
     exact h
    ·intro hp hx a W' hC hE
     obtain ⟨_, k1, k2, k3⟩ := hC
     have k1 := k1.cell
     have k2 := k2.cell
     obtain ⟨v0, v1, -⟩ := k3.cellAt hcr.out
     simp [hx] at hE
     simp [go_sem, Act.eval, IntWalk.i64_left, hE, k1, k2, k3, v0, v1, hj0, hlt, Nat.not_le.2 hlt, hb9, hb0]
     try rfl
   iterate 10
    apply nd_detg (p := true) (hg := rfl) (hd := rfl) (hal := rfl)
    ·intro v W' h
     simp [envOf, Det, GDet] at h
     simp
     exact h
    ·intro hp hx a W' hC hE
     obtain ⟨_, k1, k2, k3⟩ := hC
     have k1 := k1.cell
     have k2 := k2.cell
     obtain ⟨v0, v1, -⟩ := k3.cellAt hcr.out
     simp [hx] at hE
     simp [go_sem, Act.eval, IntWalk.i64_left, hE, k1, k2, k3, v0, v1, hj0, hlt, Nat.not_le.2 hlt, hb9, hb0]
     try rfl
   apply nd_pickg_and (p := true) (ho := rfl) (hg := rfl) (hd := rfl)
   ·intro v W' h
    simp [envOf, Det, GDet] at h
    simp
    exact h
   ·intro _ hx v W' h
    simp [hx] at h
    exact h
   ·intro _ hx v W' h hy
    simp [hx, hy] at h
    exact h
   apply nd_pick_or (ho := rfl) (hg := rfl)
   ·intro v W' h
    simp at h
    exact h
   ·intro v W' h hx
    simp [hx] at h
    exact h
   rintro W25 ⟨hR, d1, d2, d3⟩
   simp only [ndFinR, Det, forall_eq]
   intros
   repeat (rename GDet _ _ _ _ => hgd; clear hgd)
   simp only [Act.put, List.setIfInBounds_toArray, List.set_cons_zero, List.set_cons_succ]
   refine wpList_nil ?_
   replace hW := hW.trans (hR.of_priv hW.size)
   clear hR
   try clear b1 b2 b3
   have b1 := d1
   clear d1
   have b2 := d2
   clear d2
   have b3 := d3
   clear d3
   simp only [Bool.false_or, H.out]
   clear H
   clear hb9 hb0
   rcases ways.out with ⟨rfl, rfl⟩ | ⟨hk1, hl0, rfl⟩ | ⟨hk1, hl0, rfl⟩ | ⟨rfl, hl0, rfl⟩
   ·
    have htk := Lib.hid (show flatPts (spsK 1 (ls.take (i + 1))) = flatPts (spsK 1 (ls.take i)) ++ [.int .i64 x, .int .i64 y] by rw [st1.out]; simp only [if_true]; exact flatPts_snoc _ _)
    have hts := Lib.hid (show (spsK 1 (ls.take (i + 1))).length = (spsK 1 (ls.take i)).length + 1 by rw [st1.out]; simp)
    have k1 := b1.cell
    have f1 := b1.frozen
    have k2 := b2.cell
    have f2 := b2.frozen
    obtain ⟨v0, v1, -⟩ := b3.cellAt hcr.out
    simp only at v0 v1
    have hown' := (hown.below hW).own
    have hW9 := hW0.trans (hW.mono hz)
    have ya9 := hW9.size
    clear hown hW
    go_wp2_with (at_builtin; refine wpList_append_own _ rfl (.tmp 151) (.tmp 154) 88 rfl w5.heap.size 33 i0 (.agg #[.int .i64 0, .int .i64 0]) 2 16 (by kernel_rfl) hi0 hz0 hz1 hz2 rfl (by decide) _ _ _ rfl (hown'.alloc _) ⟨W25.heap.size, 0, none⟩ 1 1 [.int .i64 x, .int .i64 y] rfl rfl (cell_two_new _ _ _ _) (by simp [Value.oneCell']) (by simp [maxLen]; omega) (by omega) (by simp; omega) ?_)
    all_goals
     intro v' w9 hown2 hgr _
     have hB := Lib.hid (below_append hW9 ya9 hown' hgr)
     replace hown2 := Lib.hid hown2
     clear hgr hown' b1 b2 b3 v0 v1 k1 f1 k2 f2
     go_wp2
     rw [show (i : Int) + 1 = ((i + 1 : Nat) : Int) by omega]
     refine ⟨?_, by simp [intAt]; omega⟩
     unfold btRel
     exact ⟨hB.out, i + 1, m + c, _, v', ⟨by rw [htk.out, hts.out]; simpa using hown2.out⟩, frame_ex rfl, by rw [st3.out, hm, hc], by rw [st2.out, hov]; simp; try first | assumption | (cases ov <;> first | rfl | contradiction), by omega⟩
   ·
    have k1 := b1.cell
    have f1 := b1.frozen
    have k2 := b2.cell
    have f2 := b2.frozen
    obtain ⟨v0, v1, -⟩ := b3.cellAt hcr.out
    simp only at v0 v1
    go_wp2
    all_goals
     rw [show (i : Int) + 1 = ((i + 1 : Nat) : Int) by omega]
     refine ⟨?_, by simp [intAt]; omega⟩
     unfold btRel
     exact ⟨hW0.trans (hW.mono hz), i + 1, m + c, _, v, by rw [show spsK k (ls.take (i + 1)) = spsK k (ls.take i) from by rw [st1.out]; simp]; exact hown.below hW, frame_ex rfl, by rw [st3.out, hm, hc], by rw [st2.out, hov]; simp; try first | assumption | (cases ov <;> first | rfl | contradiction), by omega⟩
   ·
    have htk := Lib.hid (show flatPts (spsK k (ls.take (i + 1))) = flatPts (spsK k (ls.take i)) ++ [.int .i64 x, .int .i64 y] by rw [st1.out]; simp only [if_true]; exact flatPts_snoc _ _)
    have hts := Lib.hid (show (spsK k (ls.take (i + 1))).length = (spsK k (ls.take i)).length + 1 by rw [st1.out]; simp)
    have k1 := b1.cell
    have f1 := b1.frozen
    have k2 := b2.cell
    have f2 := b2.frozen
    obtain ⟨v0, v1, -⟩ := b3.cellAt hcr.out
    simp only at v0 v1
    have hown' := (hown.below hW).own
    have hW9 := hW0.trans (hW.mono hz)
    have ya9 := hW9.size
    clear hown hW
    go_wp2_with (at_builtin; refine wpList_append_own _ rfl (.tmp 151) (.tmp 154) 88 rfl w5.heap.size 33 i0 (.agg #[.int .i64 0, .int .i64 0]) 2 16 (by kernel_rfl) hi0 hz0 hz1 hz2 rfl (by decide) _ _ _ rfl (hown'.alloc _) ⟨W25.heap.size, 0, none⟩ 1 1 [.int .i64 x, .int .i64 y] rfl rfl (cell_two_new _ _ _ _) (by simp [Value.oneCell']) (by simp [maxLen]; omega) (by omega) (by simp; omega) ?_)
    all_goals
     intro v' w9 hown2 hgr _
     have hB := Lib.hid (below_append hW9 ya9 hown' hgr)
     replace hown2 := Lib.hid hown2
     clear hgr hown' b1 b2 b3 v0 v1 k1 f1 k2 f2
     go_wp2
     rw [show (i : Int) + 1 = ((i + 1 : Nat) : Int) by omega]
     refine ⟨?_, by simp [intAt]; omega⟩
     unfold btRel
     exact ⟨hB.out, i + 1, m + c, _, v', ⟨by rw [htk.out, hts.out]; simpa using hown2.out⟩, frame_ex rfl, by rw [st3.out, hm, hc], by rw [st2.out, hov]; simp; try first | assumption | (cases ov <;> first | rfl | contradiction), by omega⟩
   ·
    have k1 := b1.cell
    have f1 := b1.frozen
    have k2 := b2.cell
    have f2 := b2.frozen
    obtain ⟨v0, v1, -⟩ := b3.cellAt hcr.out
    simp only at v0 v1
    go_wp2
    all_goals
     rw [show (i : Int) + 1 = ((i + 1 : Nat) : Int) by omega]
     refine ⟨?_, by simp [intAt]; omega⟩
     unfold btRel
     exact ⟨hW0.trans (hW.mono hz), i + 1, m + c, _, v, by rw [show spsK 4 (ls.take (i + 1)) = spsK 4 (ls.take i) from by rw [st1.out]; simp]; exact hown.below hW, frame_ex rfl, by rw [st3.out, hm, hc], by rw [st2.out, hov]; simp; try first | assumption | (cases ov <;> first | rfl | contradiction), by omega⟩
  ·have hiN : N = i := by omega
   subst hiN
   have ht : ls.take N = ls := List.take_of_length_le (by rw [hlen.out (by trivial)]; omega)
   rw [ht] at hown hm hov
   obtain rfl : M = m := by rw [<- hM, hm]
   clear hm hM ht hlen
   replace b1 := b1.below hW0
   replace b2 := b2.below hW0
   replace b3 := b3.below hW0
   replace b6 := b6.below hW0
   clear b4 b5
   have b4 := b6
   clear b6
   have hWo := hW
   clear hW
   have k2 := b2.cell
   have f2 := b2.frozen
   have k3 := b3.cell
   have f3 := b3.frozen
   have k4 := b4.cell
   have f4 := b4.frozen
   go_wp2_with fail
   refine (cN.out (by trivial) _ pS capS pP capP b1).mono ?_
   rintro e w21 ⟨rfl, hb21⟩
   have z22 := hb21.size
   try simp at z22
   clear k2 f2 k3 f3 k4 f4
   have b1 : SerIn w21 s pS pP := by first | exact b1 | exact (SerIn.alloc b1 _).below (by assumption) | exact b1.below (by assumption) | exact b1.below belowAny
   have b2 : Blk w21 gr #[.int .i64 (k : Int), .int .i64 fr, .int .i64 wd, .int .i64 (N : Int)] 79 := blkAny2
   have b3 : Blk w21 gs #[.string s.name, .int .i64 s.eps, .int .i64 s.floor, .int .i64 s.last, .int .i64 s.scale, .slice pS s.segs.length capS, .slice pP s.opn.length capP] 25 := blkAny2
   have b4 : Blk w21 ga #[.int .i64 aer, .int .i64 an, .int .i64 ax, .int .i64 ay, .int .i64 p0, .int .i64 p1, .int .i64 p2, .int .i64 p3, .int .i64 p4] 67 := blkAny2
   have hW : Below W.heap.size W w21 := belowAny
   have z23 := b2.lt
   have z24 := b3.lt
   have z25 := b4.lt
   clear hb21
   have k2 := b2.cell
   have f2 := b2.frozen
   have k3 := b3.cell
   have f3 := b3.frozen
   have k4 := b4.cell
   have f4 := b4.frozen
   have hfld : ∀ W : World, (Instr.field 67 (.agg #[.int .i64 0, .int .i64 M, .int .i64 0, .int .i64 0, .int .i64 0, .int .i64 0, .int .i64 0, .int .i64 0, .int .i64 0]) 1).run Tryz.prog W = .ok (.int .i64 M) W := fun _ => rfl
   clear cN
   have hX := Lib.hid hW
   replace hW := hWo.trans ((hW0.trans (hW.mono hz)).mono hWo.size)
   have zz9 := hW.size
   rcases hfin.out with ⟨rfl, ⟨rfl, rfl⟩ | ⟨hk1, rfl, rfl, rfl, rfl, rfl, rfl, rfl, rfl, rfl⟩⟩ | ⟨hM0, ⟨rfl, rfl, rfl, rfl, rfl, rfl, rfl, rfl, rfl, rfl⟩ | ⟨rfl | rfl, rfl, hne⟩ | ⟨rfl, ho⟩ | ⟨rfl, ho, hne⟩ | ⟨rfl, rfl, rfl⟩⟩
   ·
    go_wp2
    have y_2 := b2.lt
    have y_3 := b3.lt
    have y_4 := b4.lt
    refine bodyPost_ret (v := .bool true) (by simp [results, Tryz.results8, go_sem, k2, f2, k3, f3, k4, f4, y_2, y_3, y_4]) rfl ⟨rfl, by exact belowAny⟩
   ·
    go_wp2
    have y_2 := b2.lt
    have y_3 := b3.lt
    have y_4 := b4.lt
    refine bodyPost_ret (v := .bool true) (by simp [results, Tryz.results8, go_sem, k2, f2, k3, f3, k4, f4, y_2, y_3, y_4]) rfl ⟨rfl, by exact belowAny⟩
   ·
    go_wp2
    have y_2 := b2.lt
    have y_3 := b3.lt
    have y_4 := b4.lt
    refine bodyPost_ret (v := .bool true) (by simp [results, Tryz.results8, go_sem, k2, f2, k3, f3, k4, f4, y_2, y_3, y_4]) rfl ⟨rfl, by exact belowAny⟩
   ·
    obtain ⟨g0, j0, rfl, hP⟩ := hown.ptsS (List.length_pos_iff.2 hne)
    replace hP := Lib.hid (hP.below hX.out)
    clear hown
    go_wp2_with fail
    refine (c2s.out ⟨by trivial, hM0⟩ _ _ j0 (hP.out.below belowAny)).mono ?_
    rintro e w26 ⟨rfl, hb26⟩
    have z27 := hb26.size
    try simp at z27
    clear k2 f2 k3 f3 k4 f4
    have b1 : SerIn w26 s pS pP := by first | exact b1 | exact (SerIn.alloc b1 _).below (by assumption) | exact b1.below (by assumption) | exact b1.below belowAny
    have b2 : Blk w26 gr #[.int .i64 (((2 : Nat) : Int)), .int .i64 fr, .int .i64 wd, .int .i64 (N : Int)] 79 := blkAny2
    have b3 : Blk w26 gs #[.string s.name, .int .i64 s.eps, .int .i64 s.floor, .int .i64 s.last, .int .i64 s.scale, .slice pS s.segs.length capS, .slice pP s.opn.length capP] 25 := blkAny2
    have b4 : Blk w26 ga #[.int .i64 0, .int .i64 an, .int .i64 ax, .int .i64 ay, .int .i64 p0, .int .i64 p1, .int .i64 p2, .int .i64 p3, .int .i64 p4] 67 := blkAny2
    have b5 : Blk w26 w21.heap.size #[.int .i64 0, .int .i64 0] 33 := blkAny2
    have hW : Below w.heap.size w w26 := belowAny
    have z28 := b2.lt
    have z29 := b3.lt
    have z30 := b4.lt
    have z31 := b5.lt
    clear hb26
    have k2 := b2.cell
    have f2 := b2.frozen
    have k3 := b3.cell
    have f3 := b3.frozen
    have k4 := b4.cell
    have f4 := b4.frozen
    have k5 := b5.cell
    have f5 := b5.frozen
    go_wp2
    have y_2 := b2.lt
    have y_3 := b3.lt
    have y_4 := b4.lt
    have y_5 := b5.lt
    refine bodyPost_ret (v := .bool true) (by simp [results, Tryz.results8, go_sem, k2, f2, k3, f3, k4, f4, k5, f5, y_2, y_3, y_4, y_5]) rfl ⟨rfl, by exact belowAny⟩
   ·
    obtain ⟨g0, j0, rfl, hP⟩ := hown.ptsS (List.length_pos_iff.2 hne)
    replace hP := Lib.hid (hP.below hX.out)
    clear hown
    go_wp2_with fail
    refine (c3s.out ⟨by trivial, hM0⟩ _ _ j0 (hP.out.below belowAny)).mono ?_
    rintro e w26 ⟨rfl, hb26⟩
    have z27 := hb26.size
    try simp at z27
    clear k2 f2 k3 f3 k4 f4
    have b1 : SerIn w26 s pS pP := by first | exact b1 | exact (SerIn.alloc b1 _).below (by assumption) | exact b1.below (by assumption) | exact b1.below belowAny
    have b2 : Blk w26 gr #[.int .i64 (((3 : Nat) : Int)), .int .i64 fr, .int .i64 wd, .int .i64 (N : Int)] 79 := blkAny2
    have b3 : Blk w26 gs #[.string s.name, .int .i64 s.eps, .int .i64 s.floor, .int .i64 s.last, .int .i64 s.scale, .slice pS s.segs.length capS, .slice pP s.opn.length capP] 25 := blkAny2
    have b4 : Blk w26 ga #[.int .i64 0, .int .i64 an, .int .i64 ax, .int .i64 ay, .int .i64 p0, .int .i64 p1, .int .i64 p2, .int .i64 p3, .int .i64 p4] 67 := blkAny2
    have b5 : Blk w26 w21.heap.size #[.int .i64 0, .int .i64 0] 33 := blkAny2
    have hW : Below w.heap.size w w26 := belowAny
    have z28 := b2.lt
    have z29 := b3.lt
    have z30 := b4.lt
    have z31 := b5.lt
    clear hb26
    have k2 := b2.cell
    have f2 := b2.frozen
    have k3 := b3.cell
    have f3 := b3.frozen
    have k4 := b4.cell
    have f4 := b4.frozen
    have k5 := b5.cell
    have f5 := b5.frozen
    go_wp2
    have y_2 := b2.lt
    have y_3 := b3.lt
    have y_4 := b4.lt
    have y_5 := b5.lt
    refine bodyPost_ret (v := .bool true) (by simp [results, Tryz.results8, go_sem, k2, f2, k3, f3, k4, f4, k5, f5, y_2, y_3, y_4, y_5]) rfl ⟨rfl, by exact belowAny⟩
   ·
    have ho' := ho
    rw [hov] at ho'
    subst ho'
    go_wp2
    have y_2 := b2.lt
    have y_3 := b3.lt
    have y_4 := b4.lt
    refine bodyPost_ret (v := .bool true) (by simp [results, Tryz.results8, go_sem, k2, f2, k3, f3, k4, f4, y_2, y_3, y_4]) rfl ⟨rfl, by exact belowAny⟩
   ·
    have ho' := ho
    rw [hov] at ho'
    subst ho'
    obtain ⟨g0, j0, rfl, hP⟩ := hown.ptsS (List.length_pos_iff.2 hne)
    replace hP := Lib.hid (hP.below hX.out)
    clear hown
    go_wp2_with fail
    refine (c4s.out ⟨by trivial, ho, hM0⟩ _ _ j0 (hP.out.below belowAny)).mono ?_
    rintro e w26 ⟨rfl, hb26⟩
    have z27 := hb26.size
    try simp at z27
    clear k2 f2 k3 f3 k4 f4
    have b1 : SerIn w26 s pS pP := by first | exact b1 | exact (SerIn.alloc b1 _).below (by assumption) | exact b1.below (by assumption) | exact b1.below belowAny
    have b2 : Blk w26 gr #[.int .i64 (((4 : Nat) : Int)), .int .i64 fr, .int .i64 wd, .int .i64 (N : Int)] 79 := blkAny2
    have b3 : Blk w26 gs #[.string s.name, .int .i64 s.eps, .int .i64 s.floor, .int .i64 s.last, .int .i64 s.scale, .slice pS s.segs.length capS, .slice pP s.opn.length capP] 25 := blkAny2
    have b4 : Blk w26 ga #[.int .i64 aer, .int .i64 an, .int .i64 ax, .int .i64 ay, .int .i64 p0, .int .i64 p1, .int .i64 p2, .int .i64 p3, .int .i64 p4] 67 := blkAny2
    have b5 : Blk w26 w21.heap.size #[.int .i64 0, .int .i64 0] 33 := blkAny2
    have hW : Below w.heap.size w w26 := belowAny
    have z28 := b2.lt
    have z29 := b3.lt
    have z30 := b4.lt
    have z31 := b5.lt
    clear hb26
    have k2 := b2.cell
    have f2 := b2.frozen
    have k3 := b3.cell
    have f3 := b3.frozen
    have k4 := b4.cell
    have f4 := b4.frozen
    have k5 := b5.cell
    have f5 := b5.frozen
    go_wp2
    have y_2 := b2.lt
    have y_3 := b3.lt
    have y_4 := b4.lt
    have y_5 := b5.lt
    refine bodyPost_ret (v := .bool true) (by simp [results, Tryz.results8, go_sem, k2, f2, k3, f3, k4, f4, k5, f5, y_2, y_3, y_4, y_5]) rfl ⟨rfl, by exact belowAny⟩
   ·
    go_wp2
    have y_2 := b2.lt
    have y_3 := b3.lt
    have y_4 := b4.lt
    refine bodyPost_ret (v := .bool true) (by simp [results, Tryz.results8, go_sem, k2, f2, k3, f3, k4, f4, y_2, y_3, y_4]) rfl ⟨rfl, by exact belowAny⟩
end Go.Proofs.YtidfcoooccblaaaGreat
