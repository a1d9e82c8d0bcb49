/- Parts of the proof that follows. No condition. -/
import Derived.Test.YtidfcoooccblaaaGreatBho14
set_option maxRecDepth 100000
set_option maxHeartbeats 8000000
set_option linter.unusedSimpArgs false
set_option linter.unusedVariables false
namespace Go.Proofs.YtidfcoooccblaaaGreat
open Go.RowKit
theorem Blk.grown0 {W w1:World} {B g:Nat} {cs:Array Value} {t e:TypeId} {s n:Nat} {v:Value} {xs:List Value} (h:Blk W g cs t) (hown:W.ownsRow B e s v n xs) (ht:t≠e) (hgr:W.grownBy w1 v.ownBlock):Blk w1 g cs t:=by
 have hlt:=h.lt
 have h':W.heap[g]? =some (.cells cs t (0,0)):=h
 refine(hgr.block g (by omega) fun e1=> ?_).trans h'
 rcases hown.2 with⟨rfl,_⟩|⟨g',cap,cur,rfl,_,hb,_⟩
 ·simp[Value.ownBlock] at e1
 ·have:g=g':=by simpa [Value.ownBlock] using e1
  subst this
  unfold Blk at h
  rw[h] at hb
  injection hb with hb
  injection hb with _ h2 _
  exact ht h2
theorem A9.rex {L:List Nat} {w w':World} {s:A3} {ps po:Option Addr} (h:A9 w s ps po) (hr:Rex L w w') (hL:L= []):A9 w' s ps po:=by subst hL;exact h.below hr.below
theorem A9.drew {w:World} {s:A3} {ps po:Option Addr} (h:A9 w s ps po):A9 w.drew s ps po:=
 ⟨⟨fun i r hr=>by
  obtain⟨b,o,p',q',cap,vc,e,h1,h2,h3⟩:=h.segs.at' i r hr
  exact⟨b,o,p',q',cap,vc,e,h1,⟨⟨h2.runs.at'⟩,⟨h2.raw.at'⟩,h2.fewR,h2.fewV⟩,h3⟩⟩,h.opn.drew,h.fewS,h.fewO⟩
theorem N3 {w:World} {B:Nat} {e:TypeId} {s n n':Nat} {v:Value} {xs xs':List Value} (h:w.ownsRow B e s v n xs) (e1:n=n') (e2:xs=xs'):w.ownsRow B e s v n' xs':=by subst e1;subst e2;exact h
def OneB (B:Nat) (x y z:Int):Bg:=fun v w=>∃g,v= .slice (some ⟨g,0,none⟩) 1 1/\B<=g/\Blk w g #[.int .i64 x,.int .i64 y,.int .i64 z] 63
theorem OneB.closed (B:Nat) (x y z:Int):A8 [] (OneB B x y z):=fun _ _ _ hr ⟨g,e1,h1,h⟩=>⟨g,e1,h1,h.rex hr (by simp)⟩
def bkT (x:Int×Int×Int):Af:=⟨x.1,x.2.1,x.2.2⟩
def bk1Rel (w:World) (s:A3) (ps:Option Addr) (cs:Nat) (po:Option Addr) (co:Nat) (a b:Int) (a':Act) (W:World):Prop:=
 Below w.heap.size w W/\Blk W w.heap.size #[.string s.name,.int .i64 s.eps,.int .i64 s.floor,.int .i64 s.last,.int .i64 s.scale,.slice ps s.segs.length cs,.slice po s.opn.length co] 25/\∃(k:Nat) (L:List (Int×Int×Int)) (v:Value),(∃u:Nat->Value,a'= {tmps:= #[.agg #[.string s.name,.int .i64 s.eps,.int .i64 s.floor,.int .i64 s.last,.int .i64 s.scale,.slice ps s.segs.length cs,.slice po s.opn.length co],.int .i64 a,.int .i64 b,.pointer (some ⟨w.heap.size,0,none⟩),u 4,u 5,u 6,v,.int .i64 (k:Int),u 9,u 10,u 11,u 12,u 13,u 14,u 15,u 16,u 17,u 18,u 19,u 20,u 21,u 22,u 23,u 24,u 25,u 26,u 27,u 28,u 29,u 30,u 31,u 32,u 33,u 34,u 35,u 36,u 37,u 38,u 39,u 40,u 41,u 42,u 43,u 44,u 45,u 46,u 47,u 48,u 49,u 50,u 51,u 52,u 53,u 54,u 55,u 56,u 57,u 58,u 59,u 60,u 61,u 62,u 63,u 64,u 65,u 66,u 67,u 68,u 69,u 70,u 71,u 72,u 73,u 74,u 75,u 76,u 77,u 78,u 79,u 80,u 81,u 82,u 83,u 84,u 85,u 86,u 87,u 88,u 89,u 90,u 91,u 92,u 93,u 94,u 95,u 96,u 97,u 98,u 99,u 100,u 101,u 102,u 103,u 104,u 105,u 106,u 107,u 108,u 109,u 110,u 111,u 112,u 113,u 114,u 115,u 116,u 117,u 118,u 119],defers:= []})/\
  Ca W w.heap.size 63 3 v L.length (As (L.map bkT))/\L=(s.segs.take k).flatMap (R6 (mx a s.floor) b)/\k<=s.segs.length/\L.length<=256*k
def bk2Rel (w:World) (s:A3) (ps:Option Addr) (cs:Nat) (po:Option Addr) (co:Nat) (a b:Int) (k g cp:Nat) (cur:Array Value) (x:A4) (L:List (Int×Int×Int)) (a':Act) (W:World):Prop:=
 Below w.heap.size w W/\Blk W w.heap.size #[.string s.name,.int .i64 s.eps,.int .i64 s.floor,.int .i64 s.last,.int .i64 s.scale,.slice ps s.segs.length cs,.slice po s.opn.length co] 25/\Blk W g cur 91/\∃(m:Nat) (M:List (Int×Int×Int)) (v:Value),(∃u:Nat->Value,a'= {tmps:= #[.agg #[.string s.name,.int .i64 s.eps,.int .i64 s.floor,.int .i64 s.last,.int .i64 s.scale,.slice ps s.segs.length cs,.slice po s.opn.length co],.int .i64 a,.int .i64 b,.pointer (some ⟨w.heap.size,0,none⟩),u 4,u 5,u 6,v,.int .i64 (k:Int),.slice (some ⟨g,0,none⟩) (B2 x).length cp,.bool true,.int .i64 (m:Int),u 12,u 13,u 14,u 15,u 16,u 17,u 18,u 19,u 20,u 21,u 22,u 23,u 24,u 25,u 26,u 27,u 28,u 29,u 30,u 31,u 32,u 33,u 34,u 35,u 36,u 37,u 38,u 39,u 40,u 41,u 42,u 43,u 44,u 45,u 46,u 47,u 48,u 49,u 50,u 51,u 52,u 53,u 54,u 55,u 56,u 57,u 58,u 59,u 60,u 61,u 62,u 63,u 64,u 65,u 66,u 67,u 68,u 69,u 70,u 71,u 72,u 73,u 74,u 75,u 76,u 77,u 78,u 79,u 80,u 81,u 82,u 83,u 84,u 85,u 86,u 87,u 88,u 89,u 90,u 91,u 92,u 93,u 94,u 95,u 96,u 97,u 98,u 99,u 100,u 101,u 102,u 103,u 104,u 105,u 106,u 107,u 108,u 109,u 110,u 111,u 112,u 113,u 114,u 115,u 116,u 117,u 118,u 119],defers:= []})/\
  Ca W w.heap.size 63 3 v (L++M).length (As ((L++M).map bkT))/\M=(((B2 x).take m).filter (Ja (mx a s.floor) b)).map (fun p=>(p.1,p.2,x.E))/\m<=(B2 x).length/\M.length<=m
def bk3Rel (w:World) (s:A3) (ps:Option Addr) (cs:Nat) (po:Option Addr) (co:Nat) (a b:Int) (L:List (Int×Int×Int)) (a':Act) (W:World):Prop:=
 Below w.heap.size w W/\Blk W w.heap.size #[.string s.name,.int .i64 s.eps,.int .i64 s.floor,.int .i64 s.last,.int .i64 s.scale,.slice ps s.segs.length cs,.slice po s.opn.length co] 25/\∃(m:Nat) (M:List (Int×Int×Int)) (v:Value),(∃u:Nat->Value,a'= {tmps:= #[.agg #[.string s.name,.int .i64 s.eps,.int .i64 s.floor,.int .i64 s.last,.int .i64 s.scale,.slice ps s.segs.length cs,.slice po s.opn.length co],.int .i64 a,.int .i64 b,.pointer (some ⟨w.heap.size,0,none⟩),u 4,u 5,u 6,v,u 8,u 9,u 10,u 11,.int .i64 (m:Int),u 13,u 14,u 15,u 16,u 17,u 18,u 19,u 20,u 21,u 22,u 23,u 24,u 25,u 26,u 27,u 28,u 29,u 30,u 31,u 32,u 33,u 34,u 35,u 36,u 37,u 38,u 39,u 40,u 41,u 42,u 43,u 44,u 45,u 46,u 47,u 48,u 49,u 50,u 51,u 52,u 53,u 54,u 55,u 56,u 57,u 58,u 59,u 60,u 61,u 62,u 63,u 64,u 65,u 66,u 67,u 68,u 69,u 70,u 71,u 72,u 73,u 74,u 75,u 76,u 77,u 78,u 79,u 80,u 81,u 82,u 83,u 84,u 85,u 86,u 87,u 88,u 89,u 90,u 91,u 92,u 93,u 94,u 95,u 96,u 97,u 98,u 99,u 100,u 101,u 102,u 103,u 104,u 105,u 106,u 107,u 108,u 109,u 110,u 111,u 112,u 113,u 114,u 115,u 116,u 117,u 118,u 119],defers:= []})/\
  Ca W w.heap.size 63 3 v (L++M).length (As ((L++M).map bkT))/\M=((s.opn.take m).filter (Ja (mx a s.floor) b)).map (fun p=>(p.1,p.2,0))/\m<=s.opn.length/\M.length<=m
attribute [local simp] Oper.looksAt Op.operands Call.operands Al Det Ap
theorem Wf (s:A3) (k:Nat) (a b:Int):∃er n x y m0 m1 m2 m3 m4,O4 s k a b=M9 er n x y m0 m1 m2 m3 m4:=by
 unfold O4
 split
 ·exact⟨_,_,_,_,_,_,_,_,_,rfl⟩
 ·split
  ·exact⟨_,_,_,_,_,_,_,_,_,rfl⟩
  ·split
   ·exact⟨_,_,_,_,_,_,_,_,_,rfl⟩
   ·split
    ·exact⟨_,_,_,_,_,_,_,_,_,rfl⟩
    ·exact⟨_,_,_,_,_,_,_,_,_,rfl⟩
def Yy (k:Nat):Bg:=fun v w=>∃f,v= .agg #[f]/\Mf k f w
theorem Yy.closed (k:Nat):A8 [] (Yy k):=fun _ _ _ hr ⟨f,e,h⟩=>⟨f,e,Mf.closed k _ _ _ hr h⟩
theorem Vt (f:Value) (w:World):(Instr.field 150 (.agg #[f]) 0).run Tryz.prog w= .ok f w:=rfl
theorem Sa {v:Value} {w:World} (h:QsF v w) (k:Nat) (hk:1<=k/\k<=5):∃f,(Instr.index 151 v (.int .i64 (k:Int))).run Tryz.prog w= .ok (.agg #[f]) w/\Mf k f w:=by
 obtain⟨g2,g3,g4,rfl,h2,h3,h4⟩:=h
 obtain⟨k1,k5⟩:=hk
 match k,k1,k5 with
 |1,_,_=>exact⟨_,rfl,.inl ⟨rfl,rfl⟩⟩
 |2,_,_=>exact⟨_,rfl,.inr (.inl ⟨g2,_,.inl ⟨rfl,rfl⟩,rfl,h2⟩)⟩
 |3,_,_=>exact⟨_,rfl,.inr (.inl ⟨g3,_,.inr (.inl ⟨rfl,rfl⟩),rfl,h3⟩)⟩
 |4,_,_=>exact⟨_,rfl,.inr (.inl ⟨g4,_,.inr (.inr ⟨rfl,rfl⟩),rfl,h4⟩)⟩
 |5,_,_=>exact⟨_,rfl,.inr (.inr ⟨rfl,rfl⟩)⟩
theorem Nk (k:Int) (w:World):
  Cb 80 #[k] w (.bool (decide (1<=k)&&decide (k<=5))):=by
 go_enter Tryz.func80,Tryz.ntmps80
 by_cases h1:1<=k
 ·by_cases h2:k<=5
  ·rw[decide_eq_true h1,decide_eq_true h2]
   go_wp2
   go_ret
   exact⟨rfl,Below.refl _ _⟩
  ·rw[decide_eq_false h2,Bool.and_false]
   go_wp2
   go_ret
   exact⟨rfl,Below.refl _ _⟩
 ·rw[decide_eq_false h1,Bool.false_and]
  go_wp2
  go_ret
  exact⟨rfl,Below.refl _ _⟩
theorem one1_no (s:A3) (ps po:Option Addr) (cs co:Nat) (k a b:Int) (gk gs ga gb:Nat) (w:World) (hk:¬(1<=k/\k<=5)) (b1:Blk w gk #[k] 3) (b2:Blk w gs #[.string s.name,s.eps,s.floor,s.last,s.scale,.slice ps s.segs.length cs,.slice po s.opn.length co] 25) (b3:Blk w ga #[a] 2) (b4:Blk w gb #[b] 2):
  Cb 79 #[.pointer (some ⟨gk,0,none⟩),.pointer (some ⟨gs,0,none⟩),.pointer (some ⟨ga,0,none⟩),.pointer (some ⟨gb,0,none⟩)] w (.tuple #[.agg #[.int .i64 0,.int .i64 0,.int .i64 0,.int .i64 0,.int .i64 0,.int .i64 0,.int .i64 0,.int .i64 0,.int .i64 0],.int .i64 2]):=by
 have hkb:=Hd (show (decide (1<=k)&&decide (k<=5))=false by simp;omega)
 have y1:=b1.lt
 have y2:=b2.lt
 have y3:=b3.lt
 have y4:=b4.lt
 go_enter Tryz.func79,Tryz.ntmps79
 have k1:=b1.cell
 have f1:=b1.frozen
 have k2:=b2.cell
 have f2:=b2.frozen
 have k3:=b3.cell
 have f3:=b3.frozen
 have k4:=b4.cell
 have f4:=b4.frozen
 go_wp2_with fail
 refine(Nk _ _).mono ?_
 rintro e w1 ⟨rfl,hb1⟩
 have z2:=hb1.size
 try simp at z2
 clear k1 f1 k2 f2 k3 f3 k4 f4
 have b1:Blk w1 gk #[k] 3:=Ab
 have b2:Blk w1 gs #[.string s.name,s.eps,s.floor,s.last,s.scale,.slice ps s.segs.length cs,.slice po s.opn.length co] 25:=Ab
 have b3:Blk w1 ga #[a] 2:=Ab
 have b4:Blk w1 gb #[b] 2:=Ab
 have b5:Blk w1 w.heap.size #[.int .i64 0,.int .i64 0,.int .i64 0,.int .i64 0,.int .i64 0,.int .i64 0,.int .i64 0,.int .i64 0,.int .i64 0] 67:=Ab
 have hW:Below w.heap.size w w1:=Aa
 have z3:=b1.lt
 have z4:=b2.lt
 have z5:=b3.lt
 have z6:=b4.lt
 have z7:=b5.lt
 clear hb1
 have k1:=b1.cell
 have f1:=b1.frozen
 have k2:=b2.cell
 have f2:=b2.frozen
 have k3:=b3.cell
 have f3:=b3.frozen
 have k4:=b4.cell
 have f4:=b4.frozen
 have k5:=b5.cell
 have f5:=b5.frozen
 simp only[hkb.out]
 go_wp2
 have y_1:=b1.lt
 have y_2:=b2.lt
 have y_3:=b3.lt
 have y_4:=b4.lt
 have y_5:=b5.lt
 refine bodyPost_ret (v:= .tuple #[.agg #[.int .i64 0,.int .i64 0,.int .i64 0,.int .i64 0,.int .i64 0,.int .i64 0,.int .i64 0,.int .i64 0,.int .i64 0],.int .i64 2]) (by simp[results,Tryz.results79,go_sem,k1,f1,k2,f2,k3,f3,k4,f4,k5,f5,y_1,y_2,y_3,y_4,y_5]) rfl ⟨rfl,by exact Aa⟩
theorem Zz (s:A3) (ps po:Option Addr) (cs co:Nat) (k:Nat) (a b:Int) (gk gs ga gb:Nat) (w:World) (hk:1<=k/\k<=5) (hb: -9223372036854775808<=b) (hin:A9 w s ps po) (b1:Blk w gk #[.int .i64 (k:Int)] 3) (b2:Blk w gs #[.string s.name,s.eps,s.floor,s.last,s.scale,.slice ps s.segs.length cs,.slice po s.opn.length co] 25) (b3:Blk w ga #[a] 2) (b4:Blk w gb #[b] 2):
  Cb 79 #[.pointer (some ⟨gk,0,none⟩),.pointer (some ⟨gs,0,none⟩),.pointer (some ⟨ga,0,none⟩),.pointer (some ⟨gb,0,none⟩)] w (.tuple #[.agg (O4 s k a b),.int .i64 0]):=by
 have hkb:=Hd (show (decide ((1:Int)<=(k:Int))&&decide ((k:Int)<=5))=true by simp;omega)
 have y1:=b1.lt
 have y2:=b2.lt
 have y3:=b3.lt
 have y4:=b4.lt
 go_enter Tryz.func79,Tryz.ntmps79
 have k1:=b1.cell
 have f1:=b1.frozen
 have k2:=b2.cell
 have f2:=b2.frozen
 have k3:=b3.cell
 have f3:=b3.frozen
 have k4:=b4.cell
 have f4:=b4.frozen
 go_wp2_with fail
 refine(Nk _ _).mono ?_
 rintro e w1 ⟨rfl,hb1⟩
 have z2:=hb1.size
 try simp at z2
 clear k1 f1 k2 f2 k3 f3 k4 f4
 have b1:Blk w1 gk #[.int .i64 (k:Int)] 3:=Ab
 have b2:Blk w1 gs #[.string s.name,s.eps,s.floor,s.last,s.scale,.slice ps s.segs.length cs,.slice po s.opn.length co] 25:=Ab
 have b3:Blk w1 ga #[a] 2:=Ab
 have b4:Blk w1 gb #[b] 2:=Ab
 have b5:Blk w1 w.heap.size #[.int .i64 0,.int .i64 0,.int .i64 0,.int .i64 0,.int .i64 0,.int .i64 0,.int .i64 0,.int .i64 0,.int .i64 0] 67:=Ab
 have hW:Below w.heap.size w w1:=Aa
 have z3:=b1.lt
 have z4:=b2.lt
 have z5:=b3.lt
 have z6:=b4.lt
 have z7:=b5.lt
 clear hb1
 have k1:=b1.cell
 have f1:=b1.frozen
 have k2:=b2.cell
 have f2:=b2.frozen
 have k3:=b3.cell
 have f3:=b3.frozen
 have k4:=b4.cell
 have f4:=b4.frozen
 have k5:=b5.cell
 have f5:=b5.frozen
 simp only[hkb.out]
 go_upto_region 3 with(fail)
 clear k1 f1 k2 f2 k3 f3 k4 f4 k5 f5
 refine Bw (fun W'=>Below w.heap.size w W'/\Blk W' gk #[.int .i64 (k:Int)] 3/\Blk W' gs #[.string s.name,s.eps,s.floor,s.last,s.scale,.slice ps s.segs.length cs,.slice po s.opn.length co] 25/\Blk W' ga #[a] 2/\Blk W' gb #[b] 2/\Blk W' w.heap.size #[.int .i64 0,.int .i64 0,.int .i64 0,.int .i64 0,.int .i64 0,.int .i64 0,.int .i64 0,.int .i64 0,.int .i64 0] 67/\A9 W' s ps po) ⟨by exact Aa,by exact Ab,by exact Ab,by exact Ab,by exact Ab,by exact Ab,by exact hin.below Aa⟩ ?_
 clear b1 b2 b3 b4 b5 hW
 rintro W8 ⟨hW,b1,b2,b3,b4,b5,b6⟩
 have z9:=hW.size
 have z10:=b1.lt
 have z11:=b2.lt
 have z12:=b3.lt
 have z13:=b4.lt
 have z14:=b5.lt
 refine Am 8 18 [] (fun W'=>Rex [] W8 W'/\Blk W' gk #[.int .i64 (k:Int)] 3/\Blk W' gs #[.string s.name,s.eps,s.floor,s.last,s.scale,.slice ps s.segs.length cs,.slice po s.opn.length co] 25/\Blk W' ga #[a] 2/\Blk W' gb #[b] 2/\Blk W' w.heap.size #[.int .i64 0,.int .i64 0,.int .i64 0,.int .i64 0,.int .i64 0,.int .i64 0,.int .i64 0,.int .i64 0,.int .i64 0] 67/\A9 W' s ps po) Co (by kernel_rfl) rfl ⟨(Rex.refl _ _).drew,b1,b2,b3,b4,b5,b6.drew⟩ (fun w w' ⟨h0,h1,h2,h3,h4,h5,h6⟩ hr=>⟨h0.trans hr,h1.rex hr (by simp<;>omega),h2.rex hr (by simp<;>omega),h3.rex hr (by simp<;>omega),h4.rex hr (by simp<;>omega),h5.rex hr (by simp<;>omega),h6.rex hr (by simp<;>omega)⟩) (fun c a d v w h=>by cases d<;>exact h) ?_
 apply F6 QsF (hg:=rfl) (hal:=rfl)
 ·exact QsF.closed
 ·intro a' W' hC hE
  refine⟨_,_,?_,(M0 W').mono ?_⟩
  ·simp[go_sem,Act.eval]
   try rfl
  ·rintro e w' ⟨v,rfl,hq,hB⟩
   exact⟨v,rfl,hB,hq⟩
 iterate 1
  apply Aj (hg:=rfl) (hal:=rfl)
  ·intro a W' hC hE
   obtain⟨_,k1,k2,k3,k4,k5,k6⟩:=hC
   have k1:=k1.cell
   have k2:=k2.cell
   have k3:=k3.cell
   have k4:=k4.cell
   first
    |(simp at hE;simp[go_sem,Act.eval,iw,hE,k1,k2,k3,k4,k5,k6];try rfl)
    |(clear hE;simp[go_sem,Act.eval,iw,k1,k2,k3,k4,k5,k6];try rfl)
 apply Nf (Yy k) (hg:=rfl) (hal:=rfl)
 ·exact Yy.closed _
 ·intro a' W' hC hE
  simp at hE
  obtain⟨f,h1,h2⟩:=Sa hE.1 k hk
  refine⟨.agg #[f],?_,f,rfl,h2⟩
  simp[execOp,Act.eval,hE.2,h1]
 apply Nf (Mf k) (hg:=rfl) (hal:=rfl)
 ·exact Mf.closed _
 ·intro a' W' hC hE
  simp at hE
  obtain⟨f,h1,h2⟩:=hE
  refine⟨f,?_,h2⟩
  simp[go_sem,Act.eval,h1,Vt]
 iterate 3
  apply Aj (hg:=rfl) (hal:=rfl)
  ·intro a W' hC hE
   obtain⟨_,k1,k2,k3,k4,k5,k6⟩:=hC
   have k1:=k1.cell
   have k2:=k2.cell
   have k3:=k3.cell
   have k4:=k4.cell
   first
    |(simp at hE;simp[go_sem,Act.eval,iw,hE,k1,k2,k3,k4,k5,k6];try rfl)
    |(clear hE;simp[go_sem,Act.eval,iw,k1,k2,k3,k4,k5,k6];try rfl)
 apply Jc (.agg (O4 s k a b)) (hg:=rfl) (hal:=rfl)
 ·intro a' W' hC hE
  simp at hE
  obtain⟨f,cap,h1,h2,h3⟩:=Ti hE.1 s ps po cs co a b hC.2.2.2.2.2.2 hb
  unfold Cd at h3
  refine⟨f,_,?_,h3⟩
  simp[go_sem,Act.eval,hE,h1,h2]
 rintro W15 ⟨hR,d1,d2,d3,d4,d5,d6⟩
 simp only[Av,Det,forall_eq]
 intros
 repeat (rename Ap _ _ _ _=>hgd;clear hgd)
 simp only[nS]
 replace hW:=hW.trans (hR.of_priv hW.size)
 clear hR
 try clear b1 b2 b3 b4 b5 b6
 have b1:=d1
 clear d1
 have b2:=d2
 clear d2
 have b3:=d3
 clear d3
 have b4:=d4
 clear d4
 have b5:=d5
 clear d5
 have b6:=d6
 clear d6
 have z16:=hW.size
 obtain⟨er,n,x,y,m0,m1,m2,m3,m4,he⟩:=Wf s k a b
 unfold M9 at he
 rw[he]
 replace he:=Hd he
 have k1:=b1.cell
 have f1:=b1.frozen
 have k2:=b2.cell
 have f2:=b2.frozen
 have k3:=b3.cell
 have f3:=b3.frozen
 have k4:=b4.cell
 have f4:=b4.frozen
 have k5:=b5.cell
 have f5:=b5.frozen
 go_wp2
 have y_1:=b1.lt
 have y_2:=b2.lt
 have y_3:=b3.lt
 have y_4:=b4.lt
 have y_5:=b5.lt
 refine bodyPost_ret (v:= .tuple #[.agg #[er,n,x,y,m0,m1,m2,m3,m4],.int .i64 0]) (by simp[results,Tryz.results79,go_sem,k1,f1,k2,f2,k3,f3,k4,f4,k5,f5,y_1,y_2,y_3,y_4,y_5]) rfl ⟨by rw[he.out],by exact Aa⟩
end Go.Proofs.YtidfcoooccblaaaGreat
namespace Go.Proofs.YtidfcoooccblaaaGreat
open Go.RowKit
def M2 (fl a b t:Int):Bool:=decide (fl<=t)&&(decide (a<=t)&&decide (t<=b))
def Fo (fl a b:Int) (l:List Int):Nat:=(l.filter (M2 fl a b)).length
def M5 (fl a b:Int) (l:List Int):Nat:=if Fo fl a b l=0 then 0 else l.findIdx (M2 fl a b)
theorem Pt (fl a b:Int) (l:List Int) (t:Int):Fo fl a b (l++ [t])=Fo fl a b l+(if M2 fl a b t then 1 else 0):=by
 unfold Fo
 rw[List.filter_append,List.length_append]
 cases h:M2 fl a b t<;>simp[h]
theorem Sz (fl a b:Int) (l:List Int):l.findIdx (M2 fl a b)<l.length↔0<Fo fl a b l:=by
 unfold Fo
 rw[List.findIdx_lt_length,List.length_pos_iff_exists_mem]
 constructor
 ·rintro⟨x,hx,h⟩;exact⟨x,List.mem_filter.2 ⟨hx,h⟩⟩
 ·rintro⟨x,hx⟩;exact⟨x,(List.mem_filter.1 hx).1,(List.mem_filter.1 hx).2⟩
theorem X1 (fl a b:Int) (l:List Int) (t:Int):M5 fl a b (l++ [t])=if M2 fl a b t=true/\Fo fl a b l=0 then l.length else M5 fl a b l:=by
 have hf:=Sz fl a b l
 unfold M5
 rw[Pt,List.findIdx_append]
 by_cases h0:Fo fl a b l=0
 ·have hn:¬l.findIdx (M2 fl a b)<l.length:=by omega
  rw[if_neg hn]
  cases h:M2 fl a b t
  ·simp[h0,h]
  ·simp[h0,h]
 ·rw[if_pos (hf.2 (by omega)),if_neg (by omega),if_neg h0,if_neg (fun h=>h0 h.2)]
def akRel (w:World) (s:A3) (ps:Option Addr) (cs:Nat) (po:Option Addr) (co:Nat) (a b:Int) (gp:Nat) (pl:Option Addr) (cap:Nat) (l:List Int) (a':Act) (W:World):Prop:=
 Below w.heap.size w W/\Blk W gp #[.string s.name,s.eps,s.floor,s.last,s.scale,.slice ps s.segs.length cs,.slice po s.opn.length co,a,b] 157/\∃(i c d:Nat),(∃u:Nat->Value,a'= {tmps:= #[.pointer (some ⟨gp,0,none⟩),.slice pl l.length cap,u 2,u 3,.int .i64 0,.int .i64 0,.int .i64 (d:Int),.int .i64 (c:Int),u 8,u 9,.slice pl l.length cap,.int .i64 (l.length:Int),.int .i64 (i:Int),u 13,u 14,u 15,u 16,u 17,u 18,u 19,u 20,u 21,u 22,u 23,u 24,u 25,u 26,u 27,u 28,u 29,u 30,u 31,u 32,u 33,u 34,u 35,u 36,u 37,u 38,u 39,u 40,u 41,u 42,u 43,u 44,u 45,u 46,u 47],defers:= []})/\i<=l.length/\Hid (Fo s.floor a b (l.take i)=c)/\Hid (M5 s.floor a b (l.take i)=d)
theorem Nl (s:A3) (ps:Option Addr) (cs:Nat) (po:Option Addr) (co:Nat) (a b:Int) (gp:Nat) (pl:Option Addr) (cap:Nat) (l:List Int) (w:World) (b1:Blk w gp #[.string s.name,s.eps,s.floor,s.last,s.scale,.slice ps s.segs.length cs,.slice po s.opn.length co,a,b] 157) (hl:Au w pl l) (hn:l.length<=300000):
  Cb 143 #[.pointer (some ⟨gp,0,none⟩),.slice pl l.length cap] w (.tuple #[.int .i64 (Fo s.floor a b l:Int),.int .i64 (M5 s.floor a b l:Int)]):=by
 have y1:=b1.lt
 go_enter Tryz.func143,Tryz.ntmps143
 have k1:=b1.cell
 have f1:=b1.frozen
 go_wp2
 refine wp_loop (akRel w s ps cs po co a b gp pl cap l) (fun a' _=>l.length-(Aq (a'.tmps.getD 12 undef)).toNat) ?_ ?_
 ·unfold akRel
  exact⟨Below.refl _ _,b1,0,0,0,Ag rfl,by omega,Hd rfl,Hd rfl⟩
 rintro a' W ⟨hW0,b1,i,c,d,⟨u,rfl⟩,hi',hc,hd⟩
 have hz:=hW0.size
 have zb1:=b1.lt
 rcases Nat.lt_or_ge i l.length with hlt|hge
 ·obtain⟨t,ht⟩:∃t,l[i]? =some t:=⟨l[i]'(by omega),List.getElem?_eq_getElem (by omega)⟩
  obtain⟨bl,ol,rfl,q0⟩:=(hl.below hW0).at' i t ht
  have zq:=Br q0
  try simp only at zq
  have e1:l.take (i+1)=l.take i++ [t]:=by rw[List.take_add_one,ht];rfl
  have hs1':=X1 s.floor a b (l.take i) t
  have hs2':=Pt s.floor a b (l.take i) t
  rw[<-e1,List.length_take,Nat.min_eq_left (by omega)] at hs1'
  rw[<-e1] at hs2'
  have hcb:Fo s.floor a b (l.take i)<=300000:=by unfold Fo;have:=List.length_filter_le (M2 s.floor a b) (l.take i);rw[List.length_take] at this;omega
  clear e1 ht
  rw[hc.out] at hs1' hs2' hcb
  rw[hd.out] at hs1'
  clear hc hd
  cases hsel:M2 s.floor a b t with
  |false=>
   have hcond:=Hd (show (decide (t<s.floor)||decide (t<a)||decide (b<t))=true by
    unfold M2 at hsel
    simp only[Bool.and_eq_false_iff,decide_eq_false_iff_not] at hsel
    simp only[Bool.or_eq_true,decide_eq_true_eq]
    omega)
   have hs1:=Hd (show M5 s.floor a b (l.take (i+1))=d by rw[hs1',hsel];simp)
   have hs2:=Hd (show Fo s.floor a b (l.take (i+1))=c by rw[hs2',hsel];simp)
   clear hs1' hs2' hsel
   have k1:=b1.cell
   have f1:=b1.frozen
   go_upto_region 5 with(fail)
   clear k1 f1
   refine Ac W (Bc gp #[.string s.name,s.eps,s.floor,s.last,s.scale,.slice ps s.segs.length cs,.slice po s.opn.length co,a,b] 157<|Bz) ?_
   clear b1
   rintro W21 hW z22 hL
   refine Ci 23 48 hW hL ?_
   iterate 8 refine dA ?_
   iterate 6 refine gA ?_
   refine pO ?_
   refine dA ?_
   iterate 6 refine gA ?_
   refine pO ?_
   clear hW hL
   rintro W23 hW z24 hL
   simp only[ndR]
   intros
   repeat (rename Ap _ _ _ _=>hgd;clear hgd)
   simp only[ndS]
   refine wpList_nil ?_
   obtain⟨⟨b1,yb1,k1,f1⟩,-⟩:=hL
   rw[hcond.out]
   go_wp2
   rw[show (i:Int)+1=((i+1:Nat):Int) by omega]
   refine⟨?_,by simp[Aq];omega⟩
   exact⟨hW0.trans (hW.mono hz),b1,i+1,_,_,Ag rfl,by omega,hs2,hs1⟩
  |true=>
   have hcond:=Hd (show (decide (t<s.floor)||decide (t<a)||decide (b<t))=false by
    unfold M2 at hsel
    simp only[Bool.and_eq_true,decide_eq_true_eq] at hsel
    simp only[Bool.or_eq_false_iff,decide_eq_false_iff_not]
    omega)
   have hs2:=Hd (show Fo s.floor a b (l.take (i+1))=c+1 by rw[hs2',hsel];simp)
   by_cases h0:c=0
   ·subst h0
    have hs1:=Hd (show M5 s.floor a b (l.take (i+1))=i by rw[hs1',hsel];simp)
    clear hs1' hs2' hsel
    have k1:=b1.cell
    have f1:=b1.frozen
    go_upto_region 5 with(fail)
    clear k1 f1
    refine Ac W (Bc gp #[.string s.name,s.eps,s.floor,s.last,s.scale,.slice ps s.segs.length cs,.slice po s.opn.length co,a,b] 157<|Bz) ?_
    clear b1
    rintro W21 hW z22 hL
    refine Ci 23 48 hW hL ?_
    iterate 8 refine dA ?_
    iterate 6 refine gA ?_
    refine pO ?_
    refine dA ?_
    iterate 6 refine gA ?_
    refine pO ?_
    clear hW hL
    rintro W23 hW z24 hL
    simp only[ndR]
    intros
    repeat (rename Ap _ _ _ _=>hgd;clear hgd)
    simp only[ndS]
    refine wpList_nil ?_
    obtain⟨⟨b1,yb1,k1,f1⟩,-⟩:=hL
    rw[hcond.out]
    go_wp2
    rw[show (i:Int)+1=((i+1:Nat):Int) by omega]
    refine⟨?_,by simp[Aq];omega⟩
    exact⟨hW0.trans (hW.mono hz),b1,i+1,_,_,Ag rfl,by omega,hs2,hs1⟩
   ·have hs1:=Hd (show M5 s.floor a b (l.take (i+1))=d by rw[hs1',hsel];simp[h0])
    have h0':((c:Int)==0)=false:=by simpa using h0
    clear hs1' hs2' hsel
    have k1:=b1.cell
    have f1:=b1.frozen
    go_upto_region 5 with(fail)
    clear k1 f1
    refine Ac W (Bc gp #[.string s.name,s.eps,s.floor,s.last,s.scale,.slice ps s.segs.length cs,.slice po s.opn.length co,a,b] 157<|Bz) ?_
    clear b1
    rintro W21 hW z22 hL
    refine Ci 23 48 hW hL ?_
    iterate 8 refine dA ?_
    iterate 6 refine gA ?_
    refine pO ?_
    refine dA ?_
    iterate 6 refine gA ?_
    refine pO ?_
    clear hW hL
    rintro W23 hW z24 hL
    simp only[ndR]
    intros
    repeat (rename Ap _ _ _ _=>hgd;clear hgd)
    simp only[ndS]
    refine wpList_nil ?_
    obtain⟨⟨b1,yb1,k1,f1⟩,-⟩:=hL
    rw[hcond.out]
    go_wp2
    rw[show (c:Int)+1=((c+1:Nat):Int) by omega]
    rw[show (i:Int)+1=((i+1:Nat):Int) by omega]
    refine⟨?_,by simp[Aq];omega⟩
    exact⟨hW0.trans (hW.mono hz),b1,i+1,_,_,Ag rfl,by omega,hs2,hs1⟩
 ·obtain rfl:i=l.length:=by omega
  rw[List.take_length] at hc hd
  go_wp2
  go_ret2
  exact⟨by rw[hc.out,hd.out];rfl,hW0⟩
theorem U6 (gp:Nat) (w:World):
  Calls Tryz.prog 84 #[.pointer (some ⟨gp,0,none⟩)] w fun e w'=>e= .returned (.func (.func 144) #[] #[.pointer (some ⟨w.heap.size,0,none⟩),.pointer (some ⟨w.heap.size+1,0,none⟩)])/\w'=(w.alloc (.cells #[.pointer (some ⟨gp,0,none⟩)] 155)).alloc (.cells #[.func (.func 143) #[.pointer (some ⟨gp,0,none⟩)] #[]] 228):=by
 have hmf:∀(fn:Fn) (first cap:Array Value) (w:World),(Instr.makeFunc fn first cap).run Tryz.prog w= .ok (.func fn first cap) w:=fun _ _ _ _=>rfl
 go_enter Tryz.func84,Tryz.ntmps84
 go_wp2
 go_ret
 exact⟨by simp,by simp⟩
end Go.Proofs.YtidfcoooccblaaaGreat
namespace Go.Proofs.YtidfcoooccblaaaGreat
open Go.RowKit Go.Shelf
attribute [local go_sem] Oper.semAt_some
def K8 (fl a b:Int) (i:Nat) (x:A4):List Af:=if Fo fl a b (Ae x.runs)=0 then [] else [⟨if Fo fl a b (Ae x.runs)=(Ae x.runs).length then 1 else 2,i,Fo fl a b (Ae x.runs)⟩]
def Vw (s:A3) (a b:Int) (i:Nat):List Af:=match s.segs[i]? with|some x=>K8 s.floor a b i x|none=> []
def Fs (s:A3) (a b:Int) (k:Nat):List Af:=(List.range k).flatMap (Vw s a b)
def Pd (s:A3) (a b:Int):List Af:=if Fo s.floor a b (s.opn.map (·.1))=0 then [] else [⟨3,M5 s.floor a b (s.opn.map (·.1)),Fo s.floor a b (s.opn.map (·.1))⟩]
def Eg (s:A3) (a b:Int):List Af:=Fs s a b s.segs.length++Pd s a b
theorem Ua {s:A3} {a b:Int} {k:Nat} {x:A4} (h:s.segs[k]? =some x):Fs s a b (k+1)=Fs s a b k++K8 s.floor a b k x:=by
 unfold Fs
 rw[List.range_succ,List.flatMap_append,List.flatMap_cons,List.flatMap_nil,List.append_nil]
 unfold Vw
 rw[h]
theorem Xj (s:A3) (a b:Int) {k n:Nat} (h:k<=n):Fs s a b k<+:Fs s a b n:=by
 induction n with
 |zero=>
  obtain rfl:k=0:=by omega
  exact List.prefix_refl _
 |succ n ih=>
  by_cases hk:k=n+1
  ·subst hk;exact List.prefix_refl _
  ·refine(ih (by omega)).trans ?_
   unfold Fs
   rw[List.range_succ,List.flatMap_append]
   exact List.prefix_append _ _
theorem Qg (n:Nat) (hn:1<=n) (lr Bq Bf gp:Nat) (s:A3) (ps po:Option Addr) (cs co:Nat) (a b:Int) (w₁:World) (hin:A9 w₁ s ps po) (hv:∀x,x∈s.segs->Cw x=true)
  (Kp:World->World->Prop) (hK:∀ {A B},Kp A B->Below w₁.heap.size A B/\∀T,T≠70->T≠75->Dg T A B)
  (J Jx:List Af->World->Prop) (W:World) (hJ:AbidesFrom W.heap.size J)
  (hY:∀pre (x:Af) W,J pre W->pre++ [x]<+:Eg s a b->YieldAt Fence.wide (n-1) Tryz.prog lr #[.agg #[.int .i64 x.f,.int .i64 x.s,.int .i64 x.c]] W fun e W'=>(e= .returned (.bool true)/\J (pre++ [x]) W'/\Kp W W')∨(e= .returned (.bool false)/\Jx (pre++ [x]) W'))
  (hW:Below w₁.heap.size w₁ W) (hBq:Blk W Bq #[.pointer (some ⟨gp,0,none⟩)] 155) (hBf:Blk W Bf #[.func (.func 143) #[.pointer (some ⟨gp,0,none⟩)] #[]] 228) (hgp:Blk W gp #[.string s.name,.int .i64 s.eps,.int .i64 s.floor,.int .i64 s.last,.int .i64 s.scale,.slice ps s.segs.length cs,.slice po s.opn.length co,.int .i64 a,.int .i64 b] 157) (h0:J [] W):
  CallsIn Fence.wide n Tryz.prog 144 #[.func (.yield lr) #[] #[],.pointer (some ⟨Bq,0,none⟩),.pointer (some ⟨Bf,0,none⟩)] W fun e W'=>(∃v,e= .returned v)/\((∃ys,ys=Eg s a b/\J ys W')∨(∃pre,pre<+:Eg s a b/\Jx pre W')):=by
 obtain⟨i0,hi,hz0,hz1,hz2⟩:=info_parts Tryz.infoInt
 have hfS:=hin.fewS
 have hfO:=hin.fewO
 have hWsz:=hW.size
 refine callsIn_of_wp Tryz.func144 rfl trivial ?_ rfl
 simp only[Tryz.ntmps144,List.size_toArray,List.length_cons,List.length_nil,Nat.reduceAdd,Nat.reduceSub,Array.replicate_succ,Array.replicate_zero,List.push_toArray,List.append_toArray,List.nil_append,List.cons_append]
 refine G3 (Rq ?_)
 have k1:=hBq.cell
 have k3:=hgp.cell
 gi_wp2
 clear k1 k3
 gi_loopw [22] (fun i wr=>∃k:Nat,k<=s.segs.length/\i= .int .i64 k/\J (Fs s a b k) wr/\Below w₁.heap.size w₁ wr/\Blk wr Bq #[.pointer (some ⟨gp,0,none⟩)] 155/\Blk wr Bf #[.func (.func 143) #[.pointer (some ⟨gp,0,none⟩)] #[]] 228/\Blk wr gp #[.string s.name,.int .i64 s.eps,.int .i64 s.floor,.int .i64 s.last,.int .i64 s.scale,.slice ps s.segs.length cs,.slice po s.opn.length co,.int .i64 a,.int .i64 b] 157) (fun i _=>s.segs.length-(intOf i).toNat)
 case atStart=>exact⟨0,Nat.zero_le _,rfl,h0,hW,hBq,hBf,hgp⟩
 case round=>
  obtain⟨k,hk,rfl,hJk,hbw,d1,d2,d3⟩:=hrel
  have y1:=d1.lt
  have y2:=d2.lt
  have y3:=d3.lt
  rcases Nat.lt_or_ge k s.segs.length with hlk|hge
  ·obtain⟨x,tr⟩:∃r,s.segs[k]? =some r:=⟨s.segs[k]'(by omega),List.getElem?_eq_getElem (by omega)⟩
   have hsx:=hv x (List.mem_of_getElem? tr)
   obtain⟨b0,o0,p',q',cp,vc,rfl,hs,hvc,q0,q1,q2,q3,q4,q5,q6,q7⟩:=(hin.below hbw).segs.one tr
   have hlen:(Ae x.runs).length<=300000:=by have:=Bp (Bj hsx);have:=(Da (Bj hsx)).2;omega
   have cT:=Hd (fun W' (hW':Below wr.heap.size wr W')=>(show Calls Tryz.prog 114 #[.slice p' x.runs.length cp] W' fun e w'=>∃v,e= .returned (.tuple #[v,.int .i64 0])/\w'.ownsRow W'.heap.size 2 1 v (Ae x.runs).length ((Ae x.runs).map (Value.int .i64))/\Below W'.heap.size W' w' from Rf p' cp x.runs W' (Bj hsx) (hs.runs.below hW')))
   have zb:=Br q0
   try simp only at zb
   have hst:=Ua (a:=a) (b:=b) tr
   have hpre:=(Xj s a b (show k+1<=s.segs.length by omega)).trans (List.prefix_append _ (Pd s a b))
   rw[hst] at hpre
   obtain⟨c,hc⟩:∃c,Fo s.floor a b (Ae x.runs)=c:=⟨_,rfl⟩
   have hcl:c<=(Ae x.runs).length:=by rw[<-hc];unfold Fo;exact List.length_filter_le _ _
   clear hsx hs tr
   by_cases hc0:c=0
   ·subst hc0
    rw[show K8 s.floor a b k x= [] by unfold K8;rw[if_pos hc],List.append_nil] at hst
    replace hst:=Hd hst
    clear hpre
    gi_wp2_with (refine⟨trivial,?_⟩;gi_at_call 114;refine(callsIn_wide.2 (cT.out _ (Aa))).mono ?_;rintro e w2 ⟨v2,rfl,hv2,hB⟩;have hAB:=((Below.refl wr.heap.size wr).alloc (Nat.le_refl _) (Obj.cells #[.int .i64 x.K,.slice p' x.runs.length cp,.int .i64 x.A,.int .i64 x.R,.int .i64 x.n,.int .i64 x.d,.slice q' x.raw.length vc,.int .i64 x.E] 98)).trans (hB.mono (by simp));obtain⟨pt,ct,rfl,-,-,-,-⟩:=(Ca.mk hv2).form;have hI:=Hd (Ca.mk hv2).ints;have e1:=d1.below hAB;have e2:=d2.below hAB;have e3:=d3.below hAB;have kf:=e2.cell;have zf:=e2.lt;have zs:=hAB.size;clear hv2 hB)
    have cA:=Hd (Nl s (some ⟨b0,o0,none⟩) cs po co a b gp pt ct (Ae x.runs) w2 e3 hI.out (by omega))
    rw[hc] at cA
    gi_wp2_with (refine⟨trivial,?_⟩;gi_at_call 143;refine(callsIn_wide.2 cA.out).mono ?_;rintro e w3 ⟨rfl,hB3⟩;have hAC:=hAB.trans (hB3.mono hAB.size);replace e1:=e1.below hB3;replace e2:=e2.below hB3;replace e3:=e3.below hB3;clear kf zf;have zs3:=hAC.size;have hbw3:=hbw.trans (hAC.mono hbw.size);have hJ3':=By hJ hJk hAC;clear hAB hAC hB3)
    clear cA hI
    go_roundw
    case rel=>exact⟨k+1,by omega,by simp,by rw[hst.out];exact hJ3',hbw3,e1,e2,e3⟩
    case measure=>simp[intOf];omega
   ·have hn0:((c:Int)==0)=false:=by simpa using hc0
    by_cases hcn:c=(Ae x.runs).length
    ·have hsg:K8 s.floor a b k x= [⟨1,k,c⟩]:=by unfold K8;rw[hc,if_neg hc0,if_pos hcn]
     rw[hsg] at hst hpre
     have hroom:=Hd (show Fs s a b k++ [(⟨1,(k:Int),(c:Int)⟩:Af)]<+:Eg s a b from hpre)
     have hnl:((c:Int)==((Ae x.runs).length:Int))=true:=by rw[hcn];exact beq_self_eq_true _
     replace hst:=Hd hst
     clear hpre hsg hc0 hcn
     gi_wp2_with (refine⟨trivial,?_⟩;gi_at_call 114;refine(callsIn_wide.2 (cT.out _ (Aa))).mono ?_;rintro e w2 ⟨v2,rfl,hv2,hB⟩;have hAB:=((Below.refl wr.heap.size wr).alloc (Nat.le_refl _) (Obj.cells #[.int .i64 x.K,.slice p' x.runs.length cp,.int .i64 x.A,.int .i64 x.R,.int .i64 x.n,.int .i64 x.d,.slice q' x.raw.length vc,.int .i64 x.E] 98)).trans (hB.mono (by simp));obtain⟨pt,ct,rfl,-,-,-,-⟩:=(Ca.mk hv2).form;have hI:=Hd (Ca.mk hv2).ints;have e1:=d1.below hAB;have e2:=d2.below hAB;have e3:=d3.below hAB;have kf:=e2.cell;have zf:=e2.lt;have zs:=hAB.size;clear hv2 hB)
     have cA:=Hd (Nl s (some ⟨b0,o0,none⟩) cs po co a b gp pt ct (Ae x.runs) w2 e3 hI.out (by omega))
     rw[hc] at cA
     gi_wp2_with (refine⟨trivial,?_⟩;gi_at_call 143;refine(callsIn_wide.2 cA.out).mono ?_;rintro e w3 ⟨rfl,hB3⟩;have hAC:=hAB.trans (hB3.mono hAB.size);replace e1:=e1.below hB3;replace e2:=e2.below hB3;replace e3:=e3.below hB3;clear kf zf;have zs3:=hAC.size;have hbw3:=hbw.trans (hAC.mono hbw.size);have hJ3':=By hJ hJk hAC;clear hAB hAC hB3;obtain⟨fn,tmps,assign,body,hy,hR⟩:=hY _ (⟨1,(k:Int),(c:Int)⟩:Af) w3 hJ3' hroom.out;dsimp only at hy)
     clear cA hI
     refine hR.mono ?_
     rintro e W3 (⟨rfl,hJ3,hk3⟩|⟨rfl,hJx3⟩)
     ·obtain⟨g1,g2⟩:=hK hk3
      gi_wp2
      go_roundw
      case rel=>exact⟨k+1,by omega,by simp,by rw[hst.out];exact hJ3,hbw3.trans g1,g2 _ (by decide) (by decide) _ _ _ e1,g2 _ (by decide) (by decide) _ _ _ e2,g2 _ (by decide) (by decide) _ _ _ e3⟩
      case measure=>simp[intOf];omega
     ·gi_wp2
      simp only[Exit.noGoto]
      refine bodyPost_ret (v:= .tuple #[]) (results_none rfl _ _ _) rfl ?_
      exact⟨⟨_,rfl⟩,.inr ⟨_,hroom.out,hJx3⟩⟩
    ·have hsg:K8 s.floor a b k x= [⟨2,k,c⟩]:=by unfold K8;rw[hc,if_neg hc0,if_neg hcn]
     rw[hsg] at hst hpre
     have hroom:=Hd (show Fs s a b k++ [(⟨2,(k:Int),(c:Int)⟩:Af)]<+:Eg s a b from hpre)
     have hnl:((c:Int)==((Ae x.runs).length:Int))=false:=by simp;omega
     replace hst:=Hd hst
     clear hpre hsg hc0 hcn
     gi_wp2_with (refine⟨trivial,?_⟩;gi_at_call 114;refine(callsIn_wide.2 (cT.out _ (Aa))).mono ?_;rintro e w2 ⟨v2,rfl,hv2,hB⟩;have hAB:=((Below.refl wr.heap.size wr).alloc (Nat.le_refl _) (Obj.cells #[.int .i64 x.K,.slice p' x.runs.length cp,.int .i64 x.A,.int .i64 x.R,.int .i64 x.n,.int .i64 x.d,.slice q' x.raw.length vc,.int .i64 x.E] 98)).trans (hB.mono (by simp));obtain⟨pt,ct,rfl,-,-,-,-⟩:=(Ca.mk hv2).form;have hI:=Hd (Ca.mk hv2).ints;have e1:=d1.below hAB;have e2:=d2.below hAB;have e3:=d3.below hAB;have kf:=e2.cell;have zf:=e2.lt;have zs:=hAB.size;clear hv2 hB)
     have cA:=Hd (Nl s (some ⟨b0,o0,none⟩) cs po co a b gp pt ct (Ae x.runs) w2 e3 hI.out (by omega))
     rw[hc] at cA
     gi_wp2_with (refine⟨trivial,?_⟩;gi_at_call 143;refine(callsIn_wide.2 cA.out).mono ?_;rintro e w3 ⟨rfl,hB3⟩;have hAC:=hAB.trans (hB3.mono hAB.size);replace e1:=e1.below hB3;replace e2:=e2.below hB3;replace e3:=e3.below hB3;clear kf zf;have zs3:=hAC.size;have hbw3:=hbw.trans (hAC.mono hbw.size);have hJ3':=By hJ hJk hAC;clear hAB hAC hB3;obtain⟨fn,tmps,assign,body,hy,hR⟩:=hY _ (⟨2,(k:Int),(c:Int)⟩:Af) w3 hJ3' hroom.out;dsimp only at hy)
     clear cA hI
     refine hR.mono ?_
     rintro e W3 (⟨rfl,hJ3,hk3⟩|⟨rfl,hJx3⟩)
     ·obtain⟨g1,g2⟩:=hK hk3
      gi_wp2
      go_roundw
      case rel=>exact⟨k+1,by omega,by simp,by rw[hst.out];exact hJ3,hbw3.trans g1,g2 _ (by decide) (by decide) _ _ _ e1,g2 _ (by decide) (by decide) _ _ _ e2,g2 _ (by decide) (by decide) _ _ _ e3⟩
      case measure=>simp[intOf];omega
     ·gi_wp2
      simp only[Exit.noGoto]
      refine bodyPost_ret (v:= .tuple #[]) (results_none rfl _ _ _) rfl ?_
      exact⟨⟨_,rfl⟩,.inr ⟨_,hroom.out,hJx3⟩⟩
  ·obtain rfl:k=s.segs.length:=by omega
   have k1:=d1.cell
   have k3:=d3.cell
   gi_wp2
   clear k1 k3
   obtain⟨w5,hw5⟩:∃w5,w5=wr:=⟨_,rfl⟩
   rw[<-hw5] at hJk hbw d1 d2 d3 y1 y2 y3⊢
   clear hw5
   gi_loopw [11,59] (fun v i wr=>∃m:Nat,m<=s.opn.length/\i= .int .i64 m/\Below w5.heap.size w5 wr/\Ca wr w5.heap.size 2 1 v m (((s.opn.take m).map (·.1)).map (Value.int .i64))) (fun _ i _=>s.opn.length-(intOf i).toNat)
   case atStart=>exact⟨0,Nat.zero_le _,rfl,Below.refl _ _,Ca.nil _ _ _ _⟩
   case round=>
    obtain⟨m,hm,rfl,hbw5,hrow⟩:=hrel
    have zz:=hbw5.size
    rcases Nat.lt_or_ge m s.opn.length with hlm|hgem
    ·obtain⟨⟨t,y⟩,tr⟩:∃t,s.opn[m]? =some t:=⟨s.opn[m]'hlm,List.getElem?_eq_getElem _⟩
     obtain⟨b0,o0,rfl,q0,q1⟩:=((hin.below hbw).below hbw5).opn.at' m _ tr
     simp only at q0 q1
     have zb:=Br q0
     try simp only at zb
     have hst:=Hd (show ((s.opn.take (m+1)).map (·.1)).map (Value.int .i64)=((s.opn.take m).map (·.1)).map (Value.int .i64)++ [.int .i64 t] by rw[Js tr];simp)
     clear tr
     gi_wp2_with (gi_at_builtin;refine wpListIn_append_own _ rfl (.tmp 63) (.tmp 66) 96 rfl w5.heap.size 2 i0 (.int .i64 0) 1 8 (by kernel_rfl) hi hz0 hz1 hz2 rfl (by decide) _ _ _ rfl ((hrow.own.alloc _).alloc _) ⟨wr.heap.size+1,0,none⟩ 1 1 [.int .i64 t] rfl rfl (fun j u hu=>Zy (g:=wr.heap.size+1) (Blk.new' (by simp)) hu) (by simp[Value.oneCell']) (by simp[maxLen];omega) (by omega) (by simp;omega) ?_;intro v' w1 hown' hgrow _;have hb9:=Hd (Mt ((hbw5.alloc zz _).alloc (by simp;omega) _) (by simp;omega) hgrow (fun g e=>(hrow.own.lt g e).1));have hr9:=Hd (Ca.mk (N3 hown' rfl hst.out.symm));clear hgrow hown')
     go_roundw
     case rel=>exact⟨m+1,by omega,by simp,hb9.out,hr9.out⟩
     case measure=>simp[intOf];omega
    ·obtain rfl:m=s.opn.length:=by omega
     rw[List.take_length] at hrow
     obtain⟨l9,hl9⟩:∃l9,s.opn.map (·.1)=l9:=⟨_,rfl⟩
     rw[hl9] at hrow
     have hn9:l9.length=s.opn.length:=by rw[<-hl9,List.length_map]
     have hpo:Pd s a b=if Fo s.floor a b l9=0 then [] else [⟨3,M5 s.floor a b l9,Fo s.floor a b l9⟩]:=by unfold Pd;rw[hl9]
     obtain⟨pt,ct,rfl,-,-,-,-⟩:=hrow.form
     have hI:=hrow.ints
     rw[<-hn9] at hrow
     have e1:=d1.below hbw5
     have e2:=d2.below hbw5
     have e3:=d3.below hbw5
     have hJ5:=By hJ hJk hbw5
     have cA:=Nl s ps cs po co a b gp pt ct l9 wr e3 hI (by omega)
     rw[hn9] at cA
     obtain⟨c,hc⟩:∃c,Fo s.floor a b l9=c:=⟨_,rfl⟩
     rw[hc] at cA hpo
     replace cA:=Hd cA
     clear hl9 hn9 hrow hI hc
     have kf:=e2.cell
     have zf:=e2.lt
     by_cases hc0:c=0
     ·subst hc0
      rw[if_pos rfl] at hpo
      have hpl:=Hd (show Fs s a b s.segs.length=Eg s a b by unfold Eg;rw[hpo,List.append_nil])
      clear hpo
      gi_wp2_with (refine⟨trivial,?_⟩;gi_at_call 143;refine(callsIn_wide.2 cA.out).mono ?_;rintro e w3 ⟨rfl,hB3⟩;have hJ3':=By hJ hJ5 hB3;clear hB3)
      simp only[Exit.noGoto]
      refine bodyPost_end (results_none rfl _ _ _) rfl ?_
      exact⟨⟨_,rfl⟩,.inl ⟨_,rfl,by rw[<-hpl.out];exact hJ3'⟩⟩
     ·rw[if_neg hc0] at hpo
      have hpl:=Hd (show Fs s a b s.segs.length++ [(⟨3,(M5 s.floor a b l9:Int),(c:Int)⟩:Af)]=Eg s a b by unfold Eg;rw[hpo])
      have hn0:0<c:=by omega
      clear hpo hc0
      gi_wp2_with (refine⟨trivial,?_⟩;gi_at_call 143;refine(callsIn_wide.2 cA.out).mono ?_;rintro e w3 ⟨rfl,hB3⟩;have hJ3':=By hJ hJ5 hB3;clear hB3;obtain⟨fn,tmps,assign,body,hy,hR⟩:=hY _ (⟨3,(M5 s.floor a b l9:Int),(c:Int)⟩:Af) w3 hJ3' (by rw[hpl.out];exact List.prefix_refl _);dsimp only at hy)
      refine hR.mono ?_
      rintro e W3 (⟨rfl,hJ3,hk3⟩|⟨rfl,hJx3⟩)
      ·gi_wp2
       simp only[Exit.noGoto]
       refine bodyPost_end (results_none rfl _ _ _) rfl ?_
       exact⟨⟨_,rfl⟩,.inl ⟨_,rfl,by rw[<-hpl.out];exact hJ3⟩⟩
      ·gi_wp2
       simp only[Exit.noGoto]
       refine bodyPost_end (results_none rfl _ _ _) rfl ?_
       exact⟨⟨_,rfl⟩,.inr ⟨_,List.prefix_refl _,by rw[<-hpl.out];exact hJx3⟩⟩
end Go.Proofs.YtidfcoooccblaaaGreat
namespace Go.Proofs.YtidfcoooccblaaaGreat
open Go.RowKit
def selT (a b t:Int):Bool:=decide (a<=t)&&decide (t<=b)
def sumPc (l:List Af):Int:=Ak (l.map (·.c))
def PlanOk (s:A3) (a b:Int) (P:List Af) (tot:Int):Prop:=
 sumPc P=tot/\tot<=100000/\(∀i r,P[i]? =some r->1<=r.c/\
  ((r.f=3/\i+1=P.length/\∃(j e:Nat) (t y t' y':Int),r.s=(j:Int)/\r.c=(e:Int)+1-(j:Int)/\e<s.opn.length/\j<=e/\s.opn[j]? =some (t,y)/\a<=t/\s.opn[e]? =some (t',y')/\t'<=b)∨
   ∃(j:Nat) (x:A4),r.s=(j:Int)/\s.segs[j]? =some x/\((r.f=1/\r.c=cnt x.runs)∨(r.f=2/\r.c≠cnt x.runs))))/\
 ∀i r r',P[i]? =some r->P[i+1]? =some r'->r'.f≠3->r.s<r'.s
theorem Wm (nm:ByteArray) (ep fl la sc:Int) (ps po:Option Addr) (ns cs no co:Nat) (gk gs ga gb:Nat) (w:World)
  (c1:∀W,Below w.heap.size w W->Cb 14 #[.agg #[.string nm,ep,fl,la,sc,.slice ps ns cs,.slice po no co]] W (.int .i64 340)):
  Cb 78 #[.agg #[.string nm,ep,fl,la,sc,.slice ps ns cs,.slice po no co],.func (.func 79) #[] #[.pointer (some ⟨gk,0,none⟩),.pointer (some ⟨gs,0,none⟩),.pointer (some ⟨ga,0,none⟩),.pointer (some ⟨gb,0,none⟩)]] w (.tuple #[.agg #[.int .i64 0,.int .i64 0,.int .i64 0,.int .i64 0,.int .i64 0,.int .i64 0,.int .i64 0,.int .i64 0,.int .i64 0],.int .i64 340]):=by
 have H_c1:=Hd c1
 clear c1
 go_enter Tryz.func78,Tryz.ntmps78
 go_wp2_with fail
 refine(H_c1.out _ Aa).mono ?_
 rintro e w1 ⟨rfl,hb1⟩
 have z2:=hb1.size
 try simp at z2
 refine Ad w w1 (Bc w.heap.size #[.string nm,ep,fl,la,sc,.slice ps ns cs,.slice po no co] 25<|Bc (w.heap.size+1) #[.int .i64 0,.int .i64 0,.int .i64 0,.int .i64 0,.int .i64 0,.int .i64 0,.int .i64 0,.int .i64 0,.int .i64 0] 67<|Bz) ?_
 rintro hW z3 ⟨⟨b1,yb1,k1,f1⟩,⟨b2,yb2,k2,f2⟩,-⟩
 clear hb1
 go_wp2
 refine bodyPost_ret (by simp[results,Tryz.results78,go_sem,k1,f1,k2,f2,yb1,yb2]) rfl ⟨rfl,by exact Aa⟩
theorem Rt (nm:ByteArray) (ep fl la sc:Int) (ps po:Option Addr) (ns cs no co:Nat) (gk gs ga gb:Nat) (xe n x y m0 m1 m2 m3 m4 er:Int) (w:World)
  (c1:∀W,Below w.heap.size w W->Cb 14 #[.agg #[.string nm,ep,fl,la,sc,.slice ps ns cs,.slice po no co]] W (.int .i64 0))
  (c2:∀W,Below w.heap.size w W->Cb 79 #[.pointer (some ⟨gk,0,none⟩),.pointer (some ⟨gs,0,none⟩),.pointer (some ⟨ga,0,none⟩),.pointer (some ⟨gb,0,none⟩)] W (.tuple #[.agg #[xe,n,x,y,m0,m1,m2,m3,m4],er])):
  Cb 78 #[.agg #[.string nm,ep,fl,la,sc,.slice ps ns cs,.slice po no co],.func (.func 79) #[] #[.pointer (some ⟨gk,0,none⟩),.pointer (some ⟨gs,0,none⟩),.pointer (some ⟨ga,0,none⟩),.pointer (some ⟨gb,0,none⟩)]] w (.tuple #[.agg #[xe,n,x,y,m0,m1,m2,m3,m4],er]):=by
 have H_c1:=Hd c1
 clear c1
 have H_c2:=Hd c2
 clear c2
 go_enter Tryz.func78,Tryz.ntmps78
 go_wp2_with fail
 refine(H_c1.out _ Aa).mono ?_
 rintro e w1 ⟨rfl,hb1⟩
 have z2:=hb1.size
 try simp at z2
 refine Ad w w1 (Bc w.heap.size #[.string nm,ep,fl,la,sc,.slice ps ns cs,.slice po no co] 25<|Bc (w.heap.size+1) #[.int .i64 0,.int .i64 0,.int .i64 0,.int .i64 0,.int .i64 0,.int .i64 0,.int .i64 0,.int .i64 0,.int .i64 0] 67<|Bz) ?_
 rintro hW z3 ⟨⟨b1,yb1,k1,f1⟩,⟨b2,yb2,k2,f2⟩,-⟩
 clear hb1
 go_wp2_with fail
 refine(H_c2.out _ Aa).mono ?_
 rintro e w4 ⟨rfl,hb4⟩
 have z5:=hb4.size
 try simp at z5
 clear k1 f1 k2 f2
 refine Ad w w4 (Bc w.heap.size #[.string nm,ep,fl,la,sc,.slice ps ns cs,.slice po no co] 25<|Bc (w.heap.size+1) #[.int .i64 0,.int .i64 0,.int .i64 0,.int .i64 0,.int .i64 0,.int .i64 0,.int .i64 0,.int .i64 0,.int .i64 0] 67<|Bz) ?_
 clear b1 b2 hW
 rintro hW z6 ⟨⟨b1,yb1,k1,f1⟩,⟨b2,yb2,k2,f2⟩,-⟩
 clear hb4
 go_wp2
 refine bodyPost_ret (by simp[results,Tryz.results78,go_sem,k1,f1,k2,f2,yb1,yb2]) rfl ⟨rfl,by exact Aa⟩
theorem one_e (nm:ByteArray) (ep fl la sc:Int) (ps po:Option Addr) (ns cs no co:Nat) (k a b:Int) (xe n x y m0 m1 m2 m3 m4 er:Int) (w:World) (her:er≠0)
  (c1:∀W,Below w.heap.size w W->Blk W w.heap.size #[.string nm,ep,fl,la,sc,.slice ps ns cs,.slice po no co] 25->Blk W (w.heap.size+1) #[k] 3->Blk W (w.heap.size+1+1) #[a] 2->Blk W (w.heap.size+1+1+1) #[b] 2->Cb 78 #[.agg #[.string nm,ep,fl,la,sc,.slice ps ns cs,.slice po no co],.func (.func 79) #[] #[.pointer (some ⟨w.heap.size+1,0,none⟩),.pointer (some ⟨w.heap.size,0,none⟩),.pointer (some ⟨w.heap.size+1+1,0,none⟩),.pointer (some ⟨w.heap.size+1+1+1,0,none⟩)]] W (.tuple #[.agg #[xe,n,x,y,m0,m1,m2,m3,m4],er])):
  Cb 33 #[.agg #[.string nm,ep,fl,la,sc,.slice ps ns cs,.slice po no co],k,a,b] w (.agg #[er,.int .i64 0,.int .i64 0,.int .i64 0,.int .i64 0,.int .i64 0,.int .i64 0,.int .i64 0,.int .i64 0]):=by
 have H_c1:=Hd c1
 clear c1
 go_enter Tryz.func33,Tryz.ntmps33
 have hmf:∀(fn:Fn) (first cap:Array Value) (w:World),(Instr.makeFunc fn first cap).run Tryz.prog w= .ok (.func fn first cap) w:=fun _ _ _ _=>rfl
 go_upto_region 1 with(fail)
 refine Ac w (Bc w.heap.size #[.string nm,ep,fl,la,sc,.slice ps ns cs,.slice po no co] 25<|Bc (w.heap.size+1) #[k] 3<|Bc (w.heap.size+1+1) #[a] 2<|Bc (w.heap.size+1+1+1) #[b] 2<|Bc (w.heap.size+1+1+1+1) #[.int .i64 0,.int .i64 0,.int .i64 0,.int .i64 0,.int .i64 0,.int .i64 0,.int .i64 0,.int .i64 0,.int .i64 0] 67<|Bz) ?_
 rintro W1 hW z2 ⟨⟨b1,yb1,k1,f1⟩,⟨b2,yb2,k2,f2⟩,⟨b3,yb3,k3,f3⟩,⟨b4,yb4,k4,f4⟩,⟨b5,yb5,k5,f5⟩,-⟩
 go_wp2_with fail
 refine(H_c1.out W1 hW b1 b2 b3 b4).mono ?_
 rintro e w3 ⟨rfl,hb3⟩
 have z4:=hb3.size
 try simp at z4
 clear k1 f1 k2 f2 k3 f3 k4 f4 k5 f5
 refine Ad w w3 (Bc w.heap.size #[.string nm,ep,fl,la,sc,.slice ps ns cs,.slice po no co] 25<|Bc (w.heap.size+1) #[k] 3<|Bc (w.heap.size+1+1) #[a] 2<|Bc (w.heap.size+1+1+1) #[b] 2<|Bc (w.heap.size+1+1+1+1) #[.int .i64 0,.int .i64 0,.int .i64 0,.int .i64 0,.int .i64 0,.int .i64 0,.int .i64 0,.int .i64 0,.int .i64 0] 67<|Bz) ?_
 clear b1 b2 b3 b4 b5 hW
 rintro hW z5 ⟨⟨b1,yb1,k1,f1⟩,⟨b2,yb2,k2,f2⟩,⟨b3,yb3,k3,f3⟩,⟨b4,yb4,k4,f4⟩,⟨b5,yb5,k5,f5⟩,-⟩
 clear hb3
 go_wp2
 refine bodyPost_ret (by simp[results,Tryz.results33,go_sem,k1,f1,k2,f2,k3,f3,k4,f4,k5,f5,yb1,yb2,yb3,yb4,yb5]) rfl ⟨rfl,by exact Aa⟩
theorem one_0 (nm:ByteArray) (ep fl la sc:Int) (ps po:Option Addr) (ns cs no co:Nat) (k a b:Int) (xe n x y m0 m1 m2 m3 m4:Int) (w:World)
  (c1:∀W,Below w.heap.size w W->Blk W w.heap.size #[.string nm,ep,fl,la,sc,.slice ps ns cs,.slice po no co] 25->Blk W (w.heap.size+1) #[k] 3->Blk W (w.heap.size+1+1) #[a] 2->Blk W (w.heap.size+1+1+1) #[b] 2->Cb 78 #[.agg #[.string nm,ep,fl,la,sc,.slice ps ns cs,.slice po no co],.func (.func 79) #[] #[.pointer (some ⟨w.heap.size+1,0,none⟩),.pointer (some ⟨w.heap.size,0,none⟩),.pointer (some ⟨w.heap.size+1+1,0,none⟩),.pointer (some ⟨w.heap.size+1+1+1,0,none⟩)]] W (.tuple #[.agg #[xe,n,x,y,m0,m1,m2,m3,m4],.int .i64 0])):
  Cb 33 #[.agg #[.string nm,ep,fl,la,sc,.slice ps ns cs,.slice po no co],k,a,b] w (.agg #[xe,n,x,y,m0,m1,m2,m3,m4]):=by
 have H_c1:=Hd c1
 clear c1
 go_enter Tryz.func33,Tryz.ntmps33
 have hmf:∀(fn:Fn) (first cap:Array Value) (w:World),(Instr.makeFunc fn first cap).run Tryz.prog w= .ok (.func fn first cap) w:=fun _ _ _ _=>rfl
 go_upto_region 1 with(fail)
 refine Ac w (Bc w.heap.size #[.string nm,ep,fl,la,sc,.slice ps ns cs,.slice po no co] 25<|Bc (w.heap.size+1) #[k] 3<|Bc (w.heap.size+1+1) #[a] 2<|Bc (w.heap.size+1+1+1) #[b] 2<|Bc (w.heap.size+1+1+1+1) #[.int .i64 0,.int .i64 0,.int .i64 0,.int .i64 0,.int .i64 0,.int .i64 0,.int .i64 0,.int .i64 0,.int .i64 0] 67<|Bz) ?_
 rintro W1 hW z2 ⟨⟨b1,yb1,k1,f1⟩,⟨b2,yb2,k2,f2⟩,⟨b3,yb3,k3,f3⟩,⟨b4,yb4,k4,f4⟩,⟨b5,yb5,k5,f5⟩,-⟩
 go_wp2_with fail
 refine(H_c1.out W1 hW b1 b2 b3 b4).mono ?_
 rintro e w3 ⟨rfl,hb3⟩
 have z4:=hb3.size
 try simp at z4
 clear k1 f1 k2 f2 k3 f3 k4 f4 k5 f5
 refine Ad w w3 (Bc w.heap.size #[.string nm,ep,fl,la,sc,.slice ps ns cs,.slice po no co] 25<|Bc (w.heap.size+1) #[k] 3<|Bc (w.heap.size+1+1) #[a] 2<|Bc (w.heap.size+1+1+1) #[b] 2<|Bc (w.heap.size+1+1+1+1) #[.int .i64 0,.int .i64 0,.int .i64 0,.int .i64 0,.int .i64 0,.int .i64 0,.int .i64 0,.int .i64 0,.int .i64 0] 67<|Bz) ?_
 clear b1 b2 b3 b4 b5 hW
 rintro hW z5 ⟨⟨b1,yb1,k1,f1⟩,⟨b2,yb2,k2,f2⟩,⟨b3,yb3,k3,f3⟩,⟨b4,yb4,k4,f4⟩,⟨b5,yb5,k5,f5⟩,-⟩
 clear hb3
 go_wp2
 refine bodyPost_ret (by simp[results,Tryz.results33,go_sem,k1,f1,k2,f2,k3,f3,k4,f4,k5,f5,yb1,yb2,yb3,yb4,yb5]) rfl ⟨rfl,by exact Aa⟩
def oneA (s:A3) (k a b:Int):Array Value:=if Bv s then (if 1<=k/\k<=5 then O4 s k.toNat a b else M9 2 0 0 0 0 0 0 0 0) else M9 340 0 0 0 0 0 0 0 0
theorem Wb (s:A3) (ps po:Option Addr) (cs co:Nat) (k a b:Int) (w:World) (hin:A9 w s ps po) (hb: -9223372036854775808<=b):
  Cb 33 #[.agg (Cd s ps cs po co),k,a,b] w (.agg (oneA s k a b)):=by
 unfold Cd oneA
 have ck:=Gv s ps po cs co
 unfold Cd Du at ck
 cases hc:Bv s with
 |false=>
  rw[hc] at ck
  simp only[Bool.false_eq_true,if_false]
  exact one_e _ _ _ _ _ ps po _ cs _ co k a b 0 0 0 0 0 0 0 0 0 340 w (by decide) fun W hW k1 k2 k3 k4=>
   Wm s.name s.eps s.floor s.last s.scale ps po s.segs.length cs s.opn.length co _ _ _ _ W (fun W' hW'=>ck W' ((hin.below hW).below hW'))
 |true=>
  rw[hc] at ck
  simp only[if_true]
  by_cases hk:1<=k/\k<=5
  ·rw[if_pos hk]
   obtain⟨j,hj⟩:∃j:Nat,k=(j:Int):=⟨k.toNat,by omega⟩
   subst hj
   have hj5:1<=j/\j<=5:=by omega
   rw[show ((j:Int).toNat)=j from rfl]
   obtain⟨er,n,x,y,m0,m1,m2,m3,m4,he⟩:=Wf s j a b
   rw[he]
   refine one_0 _ _ _ _ _ ps po _ cs _ co (j:Int) a b er n x y m0 m1 m2 m3 m4 w fun W hW k1 k2 k3 k4=>
    Rt s.name s.eps s.floor s.last s.scale ps po s.segs.length cs s.opn.length co _ _ _ _ er n x y m0 m1 m2 m3 m4 0 W (fun W' hW'=>ck W' ((hin.below hW).below hW')) fun W' hW'=> ?_
   have t:=Zz s ps po cs co j a b _ _ _ _ W' hj5 hb ((hin.below hW).below hW') (k2.below hW') (k1.below hW') (k3.below hW') (k4.below hW')
   rw[he] at t
   exact t
  ·rw[if_neg hk]
   exact one_e _ _ _ _ _ ps po _ cs _ co k a b 0 0 0 0 0 0 0 0 0 2 w (by decide) fun W hW k1 k2 k3 k4=>
    Rt s.name s.eps s.floor s.last s.scale ps po s.segs.length cs s.opn.length co _ _ _ _ 0 0 0 0 0 0 0 0 0 2 W (fun W' hW'=>ck W' ((hin.below hW).below hW')) fun W' hW'=>
     one1_no s ps po cs co k a b _ _ _ _ W' hk (k2.below hW') (k1.below hW') (k3.below hW') (k4.below hW')
end Go.Proofs.YtidfcoooccblaaaGreat
