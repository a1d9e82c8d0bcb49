/- Parts of the proof that follows. No condition. -/
import Derived.Test.YtidfcoooccblaaaGreatBon16
set_option maxRecDepth 100000
set_option maxHeartbeats 8000000
set_option linter.unusedSimpArgs false
set_option linter.unusedVariables false
namespace Go.Proofs.YtidfcoooccblaaaGreat
open Go.RowKit
def QsV (g2 g3 g4:Nat):Array Value:= #[.nilFunc,.func (.func 140) #[] #[],.func (.func 176) #[] #[.pointer (some ⟨g2,0,none⟩)],.func (.func 176) #[] #[.pointer (some ⟨g3,0,none⟩)],.func (.func 176) #[] #[.pointer (some ⟨g4,0,none⟩)],.func (.func 142) #[] #[]]
def sl (l:List (Int×Int)):Int:=if inI (Ap (loL l))&&inI (Ap (hiL l)) then Ap (loL l) else 0
def sh (l:List (Int×Int)):Int:=if inI (Ap (loL l))&&inI (Ap (hiL l)) then Ap (hiL l) else 0
theorem Z4 (l:List (Int×Int)):sumV l= #[.int .i64 (sl l),.int .i64 (sh l)]:=by
 unfold sumV sl sh
 cases inI (Ap (loL l))&&inI (Ap (hiL l))<;>rfl
def Ru (s:Be) (k:Nat) (a b:Int):Array Value:=
 if k=1 then Km (if Cz s a b=9 then 0 else Cz s a b) (Bd s a b).length 0 0 0 0 0 0 0
 else if k=2 then Km (Cz s a b) 0 (Bh (loL (Bd s a b))) (Bh (hiL (Bd s a b))) 0 0 0 0 0
 else if k=3 then Km (Cz s a b) 0 (Bi (loL (Bd s a b))) (Bi (hiL (Bd s a b))) 0 0 0 0 0
 else if k=4 then Km (Xv (Bd s a b) (Cz s a b)) 0 (sl (Bd s a b)) (sh (Bd s a b)) 0 0 0 0 0
 else Km (Cz s a b) 0 0 0 (Bd s a b).length (Ap (loL (Bd s a b))/(Bd s a b).length) (Ap (loL (Bd s a b))%(Bd s a b).length) (Ap (hiL (Bd s a b))/(Bd s a b).length) (Ap (hiL (Bd s a b))%(Bd s a b).length)
def O9 (k:Nat):Bo:=fun v w=>
 (k=1/\v= .func (.func 140) #[] #[])∨(∃g fn,((k=2/\fn=17)∨(k=3/\fn=18)∨(k=4/\fn=19))/\v= .func (.func 176) #[] #[.pointer (some ⟨g,0,none⟩)]/\Blk w g #[.func (.func fn) #[] #[]] 45)∨(k=5/\v= .func (.func 142) #[] #[])
theorem O9.closed (k:Nat):Bj [] (O9 k):=fun _ _ _ hr h=>by
 rcases h with h|⟨g,fn,h1,h2,h3⟩|h
 ·exact .inl h
 ·exact .inr (.inl ⟨g,fn,h1,h2,h3.rex hr (by simp)⟩)
 ·exact .inr (.inr h)
theorem O9.below {k:Nat} {v:Value} {w w':World} (h:O9 k v w) (hb:Below w.heap.size w w'):O9 k v w':=by
 rcases h with h|⟨g,fn,h1,h2,h3⟩|h
 ·exact .inl h
 ·exact .inr (.inl ⟨g,fn,h1,h2,h3.below hb⟩)
 ·exact .inr (.inr h)
theorem Xd {k:Nat} {v:Value} {w:World} (h:O9 k v w) (s:Be) (ps po:Option Addr) (cs co:Nat) (a b:Int) (hin:Av w s ps po) (hb: -9223372036854775808<=b):
  ∃f cap,v= .func (.func f) #[] cap/\(∀A W,(callFunc f A).run Tryz.prog W= .ok (.enter f A) W)/\Calls Tryz.prog f (#[.agg (Cg s ps cs po co),.int .i64 a,.int .i64 b]++cap) w fun e w'=>e= .returned (.agg (Ru s k a b))/\Below w.heap.size w w':=by
 rcases h with⟨rfl,rfl⟩|⟨g,fn,h1,rfl,h3⟩|⟨rfl,rfl⟩
 ·refine⟨_,_,rfl,fun A W=>by kernel_rfl,?_⟩
  have c1:=fun W (hW:Below w.heap.size w W)=>c_anCount s ps po cs co a b W (hin.below hW) hb
  unfold Cg at c1
  exact q1_w _ _ _ _ _ _ _ _ _ _ _ a b _ _ w c1
 ·refine⟨_,_,rfl,fun A W=>by kernel_rfl,?_⟩
  rcases h1 with⟨rfl,rfl⟩|⟨rfl,rfl⟩|⟨rfl,rfl⟩
  ·have c1:=fun W (hW:Below w.heap.size w W)=>c_anLeast s ps po cs co a b W (hin.below hW) hb
   unfold Cg minA at c1
   exact Ta _ _ _ _ _ _ _ _ _ _ _ a b g _ _ _ w h3 c1
  ·have c1:=fun W (hW:Below w.heap.size w W)=>c_anMost s ps po cs co a b W (hin.below hW) hb
   unfold Cg maxA at c1
   exact Va _ _ _ _ _ _ _ _ _ _ _ a b g _ _ _ w h3 c1
  ·have c1:=fun W (hW:Below w.heap.size w W)=>c_anSum s ps po cs co a b W (hin.below hW) hb
   rw[Z4] at c1
   unfold Cg at c1
   exact Xy _ _ _ _ _ _ _ _ _ _ _ a b g _ _ _ w h3 c1
 ·refine⟨_,_,rfl,fun A W=>by kernel_rfl,?_⟩
  have c1:=fun W (hW:Below w.heap.size w W)=>c_anMean s ps po cs co a b W (hin.below hW) hb
  unfold Cg Ph at c1
  exact q2_w _ _ _ _ _ _ _ _ _ _ _ a b _ _ _ _ _ _ w c1
def QsF:Bo:=fun v w=>∃g2 g3 g4,v= .agg (QsV g2 g3 g4)/\Blk w g2 #[.func (.func 17) #[] #[]] 45/\Blk w g3 #[.func (.func 18) #[] #[]] 45/\Blk w g4 #[.func (.func 19) #[] #[]] 45
theorem QsF.closed :Bj [] QsF:=fun _ _ _ hr ⟨g2,g3,g4,e,h2,h3,h4⟩=>⟨g2,g3,g4,e,h2.rex hr (by simp),h3.rex hr (by simp),h4.rex hr (by simp)⟩
theorem Kv (w:World) (o:Obj):(w.alloc o).heap.size=w.heap.size+1:=by simp
theorem Pq (w:World):
  Calls Tryz.prog 81 #[] w fun e w'=>∃v,e= .returned v/\QsF v w'/\Below w.heap.size w w':=by
 have s1:=Hd (fun W=>Ui 17 W)
 have s2:=Hd (fun W=>Ui 18 W)
 have s3:=Hd (fun W=>Ui 19 W)
 go_enter Tryz.func81,Tryz.ntmps81
 go_wp2_with fail
 refine(s1.out _).mono ?_
 rintro e w1 ⟨rfl,hb1,hs⟩
 have z2:=hb1.size
 try simp at z2
 refine Ae w w1 (Bc w.heap.size #[.nilFunc,.nilFunc,.nilFunc,.nilFunc,.nilFunc,.nilFunc] 151<|Bz) ?_
 rintro hW z3 ⟨⟨b1,yb1,k1,f1⟩,-⟩
 have b2:Blk w1 (w.heap.size+1) #[.func (.func 17) #[] #[]] 45:=by first|exact hs|(simp only[Kv] at hs;exact hs)
 clear hs
 have z4:=b2.lt
 have k2:=b2.cell
 have f2:=b2.frozen
 go_wp2_with fail
 refine(s2.out _).mono ?_
 rintro e w5 ⟨rfl,hb5,hs⟩
 have z6:=hb5.size
 try simp at z6
 clear k1 f1 k2 f2
 refine Ae w w5 (Bc w.heap.size #[.nilFunc,.nilFunc,.nilFunc,.nilFunc,.nilFunc,.nilFunc] 151<|Bc (w.heap.size+1) #[.func (.func 17) #[] #[]] 45<|Bz) ?_
 clear b1 b2 hW
 rintro hW z7 ⟨⟨b1,yb1,k1,f1⟩,⟨b2,yb2,k2,f2⟩,-⟩
 have b3:Blk w5 w1.heap.size #[.func (.func 18) #[] #[]] 45:=by first|exact hs|(simp only[Kv] at hs;exact hs)
 clear hs
 have z8:=b3.lt
 have k3:=b3.cell
 have f3:=b3.frozen
 go_wp2_with fail
 refine(s3.out _).mono ?_
 rintro e w9 ⟨rfl,hb9,hs⟩
 have z10:=hb9.size
 try simp at z10
 clear k1 f1 k2 f2 k3 f3
 refine Ae w w9 (Bc w.heap.size #[.nilFunc,.nilFunc,.nilFunc,.nilFunc,.nilFunc,.nilFunc] 151<|Bc (w.heap.size+1) #[.func (.func 17) #[] #[]] 45<|Bc w1.heap.size #[.func (.func 18) #[] #[]] 45<|Bz) ?_
 clear b1 b2 b3 hW
 rintro hW z11 ⟨⟨b1,yb1,k1,f1⟩,⟨b2,yb2,k2,f2⟩,⟨b3,yb3,k3,f3⟩,-⟩
 have b4:Blk w9 w5.heap.size #[.func (.func 19) #[] #[]] 45:=by first|exact hs|(simp only[Kv] at hs;exact hs)
 clear hs
 have z12:=b4.lt
 have k4:=b4.cell
 have f4:=b4.frozen
 go_wp2
 have y_1:=b1.lt
 have y_2:=b2.lt
 have y_3:=b3.lt
 have y_4:=b4.lt
 refine bodyPost_ret (v:= .agg (QsV (w.heap.size+1) w1.heap.size w5.heap.size)) (by simp[results,Tryz.results81,go_sem,QsV,k1,f1,k2,f2,k3,f3,k4,f4,y_1,y_2,y_3,y_4]) rfl ⟨_,rfl,⟨_,_,_,rfl,by exact Ab,by exact Ab,by exact Ab⟩,by exact Aa⟩
attribute [local simp] Oper.looksAt Op.operands Call.operands Aj Det Ao
theorem ansW_is (s:Be) (k:Nat) (a b:Int):∃er n x y m0 m1 m2 m3 m4,Ru s k a b=Km er n x y m0 m1 m2 m3 m4:=by
 unfold Ru
 split
 ·exact⟨_,_,_,_,_,_,_,_,_,rfl⟩
 ·split
  ·exact⟨_,_,_,_,_,_,_,_,_,rfl⟩
  ·split
   ·exact⟨_,_,_,_,_,_,_,_,_,rfl⟩
   ·split
    ·exact⟨_,_,_,_,_,_,_,_,_,rfl⟩
    ·exact⟨_,_,_,_,_,_,_,_,_,rfl⟩
def IdxF (k:Nat):Bo:=fun v w=>∃f,v= .agg #[f]/\O9 k f w
theorem IdxF.closed (k:Nat):Bj [] (IdxF k):=fun _ _ _ hr ⟨f,e,h⟩=>⟨f,e,O9.closed k _ _ _ hr h⟩
theorem Z6 (f:Value) (w:World):(Instr.field 150 (.agg #[f]) 0).run Tryz.prog w= .ok f w:=rfl
theorem Vj {v:Value} {w:World} (h:QsF v w) (k:Nat) (hk:1<=k/\k<=5):∃f,(Instr.index 151 v (.int .i64 (k:Int))).run Tryz.prog w= .ok (.agg #[f]) w/\O9 k f w:=by
 obtain⟨g2,g3,g4,rfl,h2,h3,h4⟩:=h
 obtain⟨k1,k5⟩:=hk
 match k,k1,k5 with
 |1,_,_=>exact⟨_,rfl,.inl ⟨rfl,rfl⟩⟩
 |2,_,_=>exact⟨_,rfl,.inr (.inl ⟨g2,_,.inl ⟨rfl,rfl⟩,rfl,h2⟩)⟩
 |3,_,_=>exact⟨_,rfl,.inr (.inl ⟨g3,_,.inr (.inl ⟨rfl,rfl⟩),rfl,h3⟩)⟩
 |4,_,_=>exact⟨_,rfl,.inr (.inl ⟨g4,_,.inr (.inr ⟨rfl,rfl⟩),rfl,h4⟩)⟩
 |5,_,_=>exact⟨_,rfl,.inr (.inr ⟨rfl,rfl⟩)⟩
theorem P8 (k:Int) (w:World):
  Cb 80 #[k] w (.bool (decide (1<=k)&&decide (k<=5))):=by
 go_enter Tryz.func80,Tryz.ntmps80
 by_cases h1:1<=k
 ·by_cases h2:k<=5
  ·rw[decide_eq_true h1,decide_eq_true h2]
   go_wp2
   go_ret
   exact⟨rfl,Below.refl _ _⟩
  ·rw[decide_eq_false h2,Bool.and_false]
   go_wp2
   go_ret
   exact⟨rfl,Below.refl _ _⟩
 ·rw[decide_eq_false h1,Bool.false_and]
  go_wp2
  go_ret
  exact⟨rfl,Below.refl _ _⟩
theorem one1_no (s:Be) (ps po:Option Addr) (cs co:Nat) (k a b:Int) (gk gs ga gb:Nat) (w:World) (hk:¬(1<=k/\k<=5)) (b1:Blk w gk #[k] 3) (b2:Blk w gs #[.string s.name,s.eps,s.floor,s.last,s.scale,.slice ps s.segs.length cs,.slice po s.opn.length co] 25) (b3:Blk w ga #[a] 2) (b4:Blk w gb #[b] 2):
  Cb 79 #[.pointer (some ⟨gk,0,none⟩),.pointer (some ⟨gs,0,none⟩),.pointer (some ⟨ga,0,none⟩),.pointer (some ⟨gb,0,none⟩)] w (.tuple #[.agg #[.int .i64 0,.int .i64 0,.int .i64 0,.int .i64 0,.int .i64 0,.int .i64 0,.int .i64 0,.int .i64 0,.int .i64 0],.int .i64 2]):=by
 have hkb:=Hd (show (decide (1<=k)&&decide (k<=5))=false by simp;omega)
 have y1:=b1.lt
 have y2:=b2.lt
 have y3:=b3.lt
 have y4:=b4.lt
 go_enter Tryz.func79,Tryz.ntmps79
 have k1:=b1.cell
 have f1:=b1.frozen
 have k2:=b2.cell
 have f2:=b2.frozen
 have k3:=b3.cell
 have f3:=b3.frozen
 have k4:=b4.cell
 have f4:=b4.frozen
 go_wp2_with fail
 refine(P8 _ _).mono ?_
 rintro e w1 ⟨rfl,hb1⟩
 have z2:=hb1.size
 try simp at z2
 clear k1 f1 k2 f2 k3 f3 k4 f4
 have b1:Blk w1 gk #[k] 3:=Ab
 have b2:Blk w1 gs #[.string s.name,s.eps,s.floor,s.last,s.scale,.slice ps s.segs.length cs,.slice po s.opn.length co] 25:=Ab
 have b3:Blk w1 ga #[a] 2:=Ab
 have b4:Blk w1 gb #[b] 2:=Ab
 have b5:Blk w1 w.heap.size #[.int .i64 0,.int .i64 0,.int .i64 0,.int .i64 0,.int .i64 0,.int .i64 0,.int .i64 0,.int .i64 0,.int .i64 0] 67:=Ab
 have hW:Below w.heap.size w w1:=Aa
 have z3:=b1.lt
 have z4:=b2.lt
 have z5:=b3.lt
 have z6:=b4.lt
 have z7:=b5.lt
 clear hb1
 have k1:=b1.cell
 have f1:=b1.frozen
 have k2:=b2.cell
 have f2:=b2.frozen
 have k3:=b3.cell
 have f3:=b3.frozen
 have k4:=b4.cell
 have f4:=b4.frozen
 have k5:=b5.cell
 have f5:=b5.frozen
 simp only[hkb.out]
 go_wp2
 have y_1:=b1.lt
 have y_2:=b2.lt
 have y_3:=b3.lt
 have y_4:=b4.lt
 have y_5:=b5.lt
 refine bodyPost_ret (v:= .tuple #[.agg #[.int .i64 0,.int .i64 0,.int .i64 0,.int .i64 0,.int .i64 0,.int .i64 0,.int .i64 0,.int .i64 0,.int .i64 0],.int .i64 2]) (by simp[results,Tryz.results79,go_sem,k1,f1,k2,f2,k3,f3,k4,f4,k5,f5,y_1,y_2,y_3,y_4,y_5]) rfl ⟨rfl,by exact Aa⟩
theorem one1_yes (s:Be) (ps po:Option Addr) (cs co:Nat) (k:Nat) (a b:Int) (gk gs ga gb:Nat) (w:World) (hk:1<=k/\k<=5) (hb: -9223372036854775808<=b) (hin:Av w s ps po) (b1:Blk w gk #[.int .i64 (k:Int)] 3) (b2:Blk w gs #[.string s.name,s.eps,s.floor,s.last,s.scale,.slice ps s.segs.length cs,.slice po s.opn.length co] 25) (b3:Blk w ga #[a] 2) (b4:Blk w gb #[b] 2):
  Cb 79 #[.pointer (some ⟨gk,0,none⟩),.pointer (some ⟨gs,0,none⟩),.pointer (some ⟨ga,0,none⟩),.pointer (some ⟨gb,0,none⟩)] w (.tuple #[.agg (Ru s k a b),.int .i64 0]):=by
 have hkb:=Hd (show (decide ((1:Int)<=(k:Int))&&decide ((k:Int)<=5))=true by simp;omega)
 have y1:=b1.lt
 have y2:=b2.lt
 have y3:=b3.lt
 have y4:=b4.lt
 go_enter Tryz.func79,Tryz.ntmps79
 have k1:=b1.cell
 have f1:=b1.frozen
 have k2:=b2.cell
 have f2:=b2.frozen
 have k3:=b3.cell
 have f3:=b3.frozen
 have k4:=b4.cell
 have f4:=b4.frozen
 go_wp2_with fail
 refine(P8 _ _).mono ?_
 rintro e w1 ⟨rfl,hb1⟩
 have z2:=hb1.size
 try simp at z2
 clear k1 f1 k2 f2 k3 f3 k4 f4
 have b1:Blk w1 gk #[.int .i64 (k:Int)] 3:=Ab
 have b2:Blk w1 gs #[.string s.name,s.eps,s.floor,s.last,s.scale,.slice ps s.segs.length cs,.slice po s.opn.length co] 25:=Ab
 have b3:Blk w1 ga #[a] 2:=Ab
 have b4:Blk w1 gb #[b] 2:=Ab
 have b5:Blk w1 w.heap.size #[.int .i64 0,.int .i64 0,.int .i64 0,.int .i64 0,.int .i64 0,.int .i64 0,.int .i64 0,.int .i64 0,.int .i64 0] 67:=Ab
 have hW:Below w.heap.size w w1:=Aa
 have z3:=b1.lt
 have z4:=b2.lt
 have z5:=b3.lt
 have z6:=b4.lt
 have z7:=b5.lt
 clear hb1
 have k1:=b1.cell
 have f1:=b1.frozen
 have k2:=b2.cell
 have f2:=b2.frozen
 have k3:=b3.cell
 have f3:=b3.frozen
 have k4:=b4.cell
 have f4:=b4.frozen
 have k5:=b5.cell
 have f5:=b5.frozen
 simp only[hkb.out]
 go_upto_region 3 with(fail)
 clear k1 f1 k2 f2 k3 f3 k4 f4 k5 f5
 refine A9 (fun W'=>Below w.heap.size w W'/\Blk W' gk #[.int .i64 (k:Int)] 3/\Blk W' gs #[.string s.name,s.eps,s.floor,s.last,s.scale,.slice ps s.segs.length cs,.slice po s.opn.length co] 25/\Blk W' ga #[a] 2/\Blk W' gb #[b] 2/\Blk W' w.heap.size #[.int .i64 0,.int .i64 0,.int .i64 0,.int .i64 0,.int .i64 0,.int .i64 0,.int .i64 0,.int .i64 0,.int .i64 0] 67/\Av W' s ps po) ⟨by exact Aa,by exact Ab,by exact Ab,by exact Ab,by exact Ab,by exact Ab,by exact hin.below Aa⟩ ?_
 clear b1 b2 b3 b4 b5 hW
 rintro W8 ⟨hW,b1,b2,b3,b4,b5,b6⟩
 have z9:=hW.size
 have z10:=b1.lt
 have z11:=b2.lt
 have z12:=b3.lt
 have z13:=b4.lt
 have z14:=b5.lt
 refine An 8 18 [] (fun W'=>Rex [] W8 W'/\Blk W' gk #[.int .i64 (k:Int)] 3/\Blk W' gs #[.string s.name,s.eps,s.floor,s.last,s.scale,.slice ps s.segs.length cs,.slice po s.opn.length co] 25/\Blk W' ga #[a] 2/\Blk W' gb #[b] 2/\Blk W' w.heap.size #[.int .i64 0,.int .i64 0,.int .i64 0,.int .i64 0,.int .i64 0,.int .i64 0,.int .i64 0,.int .i64 0,.int .i64 0] 67/\Av W' s ps po) Cd (by kernel_rfl) rfl ⟨(Rex.refl _ _).drew,b1,b2,b3,b4,b5,b6.drew⟩ (fun w w' ⟨h0,h1,h2,h3,h4,h5,h6⟩ hr=>⟨h0.trans hr,h1.rex hr (by simp<;>omega),h2.rex hr (by simp<;>omega),h3.rex hr (by simp<;>omega),h4.rex hr (by simp<;>omega),h5.rex hr (by simp<;>omega),h6.rex hr (by simp<;>omega)⟩) (fun c a d v w h=>by cases d<;>exact h) ?_
 apply A7 QsF (hg:=rfl) (hal:=rfl)
 ·exact QsF.closed
 ·intro a' W' hC hE
  refine⟨_,_,?_,(Pq W').mono ?_⟩
  ·simp[go_sem,Act.eval]
   try rfl
  ·rintro e w' ⟨v,rfl,hq,hB⟩
   exact⟨v,rfl,hB,hq⟩
 iterate 1
  apply Ag (hg:=rfl) (hal:=rfl)
  ·intro a W' hC hE
   obtain⟨_,k1,k2,k3,k4,k5,k6⟩:=hC
   have k1:=k1.cell
   have k2:=k2.cell
   have k3:=k3.cell
   have k4:=k4.cell
   first
    |(simp at hE;simp[go_sem,Act.eval,iw,hE,k1,k2,k3,k4,k5,k6];try rfl)
    |(clear hE;simp[go_sem,Act.eval,iw,k1,k2,k3,k4,k5,k6];try rfl)
 apply D5 (IdxF k) (hg:=rfl) (hal:=rfl)
 ·exact IdxF.closed _
 ·intro a' W' hC hE
  simp at hE
  obtain⟨f,h1,h2⟩:=Vj hE.1 k hk
  refine⟨.agg #[f],?_,f,rfl,h2⟩
  simp[execOp,Act.eval,hE.2,h1]
 apply D5 (O9 k) (hg:=rfl) (hal:=rfl)
 ·exact O9.closed _
 ·intro a' W' hC hE
  simp at hE
  obtain⟨f,h1,h2⟩:=hE
  refine⟨f,?_,h2⟩
  simp[go_sem,Act.eval,h1,Z6]
 iterate 3
  apply Ag (hg:=rfl) (hal:=rfl)
  ·intro a W' hC hE
   obtain⟨_,k1,k2,k3,k4,k5,k6⟩:=hC
   have k1:=k1.cell
   have k2:=k2.cell
   have k3:=k3.cell
   have k4:=k4.cell
   first
    |(simp at hE;simp[go_sem,Act.eval,iw,hE,k1,k2,k3,k4,k5,k6];try rfl)
    |(clear hE;simp[go_sem,Act.eval,iw,k1,k2,k3,k4,k5,k6];try rfl)
 apply K6 (.agg (Ru s k a b)) (hg:=rfl) (hal:=rfl)
 ·intro a' W' hC hE
  simp at hE
  obtain⟨f,cap,h1,h2,h3⟩:=Xd hE.1 s ps po cs co a b hC.2.2.2.2.2.2 hb
  unfold Cg at h3
  refine⟨f,_,?_,h3⟩
  simp[go_sem,Act.eval,hE,h1,h2]
 rintro W15 ⟨hR,d1,d2,d3,d4,d5,d6⟩
 simp only[Ar,Det,forall_eq]
 intros
 repeat (rename Ao _ _ _ _=>hgd;clear hgd)
 simp only[nS]
 replace hW:=hW.trans (hR.of_priv hW.size)
 clear hR
 try clear b1 b2 b3 b4 b5 b6
 have b1:=d1
 clear d1
 have b2:=d2
 clear d2
 have b3:=d3
 clear d3
 have b4:=d4
 clear d4
 have b5:=d5
 clear d5
 have b6:=d6
 clear d6
 have z16:=hW.size
 obtain⟨er,n,x,y,m0,m1,m2,m3,m4,he⟩:=ansW_is s k a b
 unfold Km at he
 rw[he]
 replace he:=Hd he
 have k1:=b1.cell
 have f1:=b1.frozen
 have k2:=b2.cell
 have f2:=b2.frozen
 have k3:=b3.cell
 have f3:=b3.frozen
 have k4:=b4.cell
 have f4:=b4.frozen
 have k5:=b5.cell
 have f5:=b5.frozen
 go_wp2
 have y_1:=b1.lt
 have y_2:=b2.lt
 have y_3:=b3.lt
 have y_4:=b4.lt
 have y_5:=b5.lt
 refine bodyPost_ret (v:= .tuple #[.agg #[er,n,x,y,m0,m1,m2,m3,m4],.int .i64 0]) (by simp[results,Tryz.results79,go_sem,k1,f1,k2,f2,k3,f3,k4,f4,k5,f5,y_1,y_2,y_3,y_4,y_5]) rfl ⟨by rw[he.out],by exact Aa⟩
end Go.Proofs.YtidfcoooccblaaaGreat
namespace Go.Proofs.YtidfcoooccblaaaGreat
open Go.RowKit
def Me (fl a b t:Int):Bool:=decide (fl<=t)&&(decide (a<=t)&&decide (t<=b))
def E8 (fl a b:Int) (l:List Int):Nat:=(l.filter (Me fl a b)).length
def My (fl a b:Int) (l:List Int):Nat:=if E8 fl a b l=0 then 0 else l.findIdx (Me fl a b)
theorem Ss (fl a b:Int) (l:List Int) (t:Int):E8 fl a b (l++ [t])=E8 fl a b l+(if Me fl a b t then 1 else 0):=by
 unfold E8
 rw[List.filter_append,List.length_append]
 cases h:Me fl a b t<;>simp[h]
theorem Wb (fl a b:Int) (l:List Int):l.findIdx (Me fl a b)<l.length↔0<E8 fl a b l:=by
 unfold E8
 rw[List.findIdx_lt_length,List.length_pos_iff_exists_mem]
 constructor
 ·rintro⟨x,hx,h⟩;exact⟨x,List.mem_filter.2 ⟨hx,h⟩⟩
 ·rintro⟨x,hx⟩;exact⟨x,(List.mem_filter.1 hx).1,(List.mem_filter.1 hx).2⟩
theorem fstS_snoc (fl a b:Int) (l:List Int) (t:Int):My fl a b (l++ [t])=if Me fl a b t=true/\E8 fl a b l=0 then l.length else My fl a b l:=by
 have hf:=Wb fl a b l
 unfold My
 rw[Ss,List.findIdx_append]
 by_cases h0:E8 fl a b l=0
 ·have hn:¬l.findIdx (Me fl a b)<l.length:=by omega
  rw[if_neg hn]
  cases h:Me fl a b t
  ·simp[h0,h]
  ·simp[h0,h]
 ·rw[if_pos (hf.2 (by omega)),if_neg (by omega),if_neg h0,if_neg (fun h=>h0 h.2)]
def akRel (w:World) (s:Be) (ps:Option Addr) (cs:Nat) (po:Option Addr) (co:Nat) (a b:Int) (gp:Nat) (pl:Option Addr) (cap:Nat) (l:List Int) (a':Act) (W:World):Prop:=
 Below w.heap.size w W/\Blk W gp #[.string s.name,s.eps,s.floor,s.last,s.scale,.slice ps s.segs.length cs,.slice po s.opn.length co,a,b] 157/\∃(i c d:Nat),(∃u:Nat->Value,a'= {tmps:= #[.pointer (some ⟨gp,0,none⟩),.slice pl l.length cap,u 2,u 3,.int .i64 0,.int .i64 0,.int .i64 (d:Int),.int .i64 (c:Int),u 8,u 9,.slice pl l.length cap,.int .i64 (l.length:Int),.int .i64 (i:Int),u 13,u 14,u 15,u 16,u 17,u 18,u 19,u 20,u 21,u 22,u 23,u 24,u 25,u 26,u 27,u 28,u 29,u 30,u 31,u 32,u 33,u 34,u 35,u 36,u 37,u 38,u 39,u 40,u 41,u 42,u 43,u 44,u 45,u 46,u 47],defers:= []})/\i<=l.length/\Hid (E8 s.floor a b (l.take i)=c)/\Hid (My s.floor a b (l.take i)=d)
theorem P9 (s:Be) (ps:Option Addr) (cs:Nat) (po:Option Addr) (co:Nat) (a b:Int) (gp:Nat) (pl:Option Addr) (cap:Nat) (l:List Int) (w:World) (b1:Blk w gp #[.string s.name,s.eps,s.floor,s.last,s.scale,.slice ps s.segs.length cs,.slice po s.opn.length co,a,b] 157) (hl:Au w pl l) (hn:l.length<=300000):
  Cb 143 #[.pointer (some ⟨gp,0,none⟩),.slice pl l.length cap] w (.tuple #[.int .i64 (E8 s.floor a b l:Int),.int .i64 (My s.floor a b l:Int)]):=by
 have y1:=b1.lt
 go_enter Tryz.func143,Tryz.ntmps143
 have k1:=b1.cell
 have f1:=b1.frozen
 go_wp2
 refine wp_loop (akRel w s ps cs po co a b gp pl cap l) (fun a' _=>l.length-(Ak (a'.tmps.getD 12 undef)).toNat) ?_ ?_
 ·unfold akRel
  exact⟨Below.refl _ _,b1,0,0,0,Ac rfl,by omega,Hd rfl,Hd rfl⟩
 rintro a' W ⟨hW0,b1,i,c,d,⟨u,rfl⟩,hi',hc,hd⟩
 have hz:=hW0.size
 have zb1:=b1.lt
 rcases Nat.lt_or_ge i l.length with hlt|hge
 ·obtain⟨t,ht⟩:∃t,l[i]? =some t:=⟨l[i]'(by omega),List.getElem?_eq_getElem (by omega)⟩
  obtain⟨bl,ol,rfl,q0⟩:=(hl.below hW0).at' i t ht
  have zq:=A8 q0
  try simp only at zq
  have e1:l.take (i+1)=l.take i++ [t]:=by rw[List.take_add_one,ht];rfl
  have hs1':=fstS_snoc s.floor a b (l.take i) t
  have hs2':=Ss s.floor a b (l.take i) t
  rw[<-e1,List.length_take,Nat.min_eq_left (by omega)] at hs1'
  rw[<-e1] at hs2'
  have hcb:E8 s.floor a b (l.take i)<=300000:=by unfold E8;have:=List.length_filter_le (Me s.floor a b) (l.take i);rw[List.length_take] at this;omega
  clear e1 ht
  rw[hc.out] at hs1' hs2' hcb
  rw[hd.out] at hs1'
  clear hc hd
  cases hsel:Me s.floor a b t with
  |false=>
   have hcond:=Hd (show (decide (t<s.floor)||decide (t<a)||decide (b<t))=true by
    unfold Me at hsel
    simp only[Bool.and_eq_false_iff,decide_eq_false_iff_not] at hsel
    simp only[Bool.or_eq_true,decide_eq_true_eq]
    omega)
   have hs1:=Hd (show My s.floor a b (l.take (i+1))=d by rw[hs1',hsel];simp)
   have hs2:=Hd (show E8 s.floor a b (l.take (i+1))=c by rw[hs2',hsel];simp)
   clear hs1' hs2' hsel
   have k1:=b1.cell
   have f1:=b1.frozen
   go_upto_region 5 with(fail)
   clear k1 f1
   refine Ad W (Bc gp #[.string s.name,s.eps,s.floor,s.last,s.scale,.slice ps s.segs.length cs,.slice po s.opn.length co,a,b] 157<|Bz) ?_
   clear b1
   rintro W21 hW z22 hL
   refine B3 23 48 hW hL ?_
   iterate 8 refine dA ?_
   iterate 6 refine gA ?_
   refine pO ?_
   refine dA ?_
   iterate 6 refine gA ?_
   refine pO ?_
   clear hW hL
   rintro W23 hW z24 hL
   simp only[ndR]
   intros
   repeat (rename Ao _ _ _ _=>hgd;clear hgd)
   simp only[ndS]
   refine wpList_nil ?_
   obtain⟨⟨b1,yb1,k1,f1⟩,-⟩:=hL
   rw[hcond.out]
   go_wp2
   rw[show (i:Int)+1=((i+1:Nat):Int) by omega]
   refine⟨?_,by simp[Ak];omega⟩
   exact⟨hW0.trans (hW.mono hz),b1,i+1,_,_,Ac rfl,by omega,hs2,hs1⟩
  |true=>
   have hcond:=Hd (show (decide (t<s.floor)||decide (t<a)||decide (b<t))=false by
    unfold Me at hsel
    simp only[Bool.and_eq_true,decide_eq_true_eq] at hsel
    simp only[Bool.or_eq_false_iff,decide_eq_false_iff_not]
    omega)
   have hs2:=Hd (show E8 s.floor a b (l.take (i+1))=c+1 by rw[hs2',hsel];simp)
   by_cases h0:c=0
   ·subst h0
    have hs1:=Hd (show My s.floor a b (l.take (i+1))=i by rw[hs1',hsel];simp)
    clear hs1' hs2' hsel
    have k1:=b1.cell
    have f1:=b1.frozen
    go_upto_region 5 with(fail)
    clear k1 f1
    refine Ad W (Bc gp #[.string s.name,s.eps,s.floor,s.last,s.scale,.slice ps s.segs.length cs,.slice po s.opn.length co,a,b] 157<|Bz) ?_
    clear b1
    rintro W21 hW z22 hL
    refine B3 23 48 hW hL ?_
    iterate 8 refine dA ?_
    iterate 6 refine gA ?_
    refine pO ?_
    refine dA ?_
    iterate 6 refine gA ?_
    refine pO ?_
    clear hW hL
    rintro W23 hW z24 hL
    simp only[ndR]
    intros
    repeat (rename Ao _ _ _ _=>hgd;clear hgd)
    simp only[ndS]
    refine wpList_nil ?_
    obtain⟨⟨b1,yb1,k1,f1⟩,-⟩:=hL
    rw[hcond.out]
    go_wp2
    rw[show (i:Int)+1=((i+1:Nat):Int) by omega]
    refine⟨?_,by simp[Ak];omega⟩
    exact⟨hW0.trans (hW.mono hz),b1,i+1,_,_,Ac rfl,by omega,hs2,hs1⟩
   ·have hs1:=Hd (show My s.floor a b (l.take (i+1))=d by rw[hs1',hsel];simp[h0])
    have h0':((c:Int)==0)=false:=by simpa using h0
    clear hs1' hs2' hsel
    have k1:=b1.cell
    have f1:=b1.frozen
    go_upto_region 5 with(fail)
    clear k1 f1
    refine Ad W (Bc gp #[.string s.name,s.eps,s.floor,s.last,s.scale,.slice ps s.segs.length cs,.slice po s.opn.length co,a,b] 157<|Bz) ?_
    clear b1
    rintro W21 hW z22 hL
    refine B3 23 48 hW hL ?_
    iterate 8 refine dA ?_
    iterate 6 refine gA ?_
    refine pO ?_
    refine dA ?_
    iterate 6 refine gA ?_
    refine pO ?_
    clear hW hL
    rintro W23 hW z24 hL
    simp only[ndR]
    intros
    repeat (rename Ao _ _ _ _=>hgd;clear hgd)
    simp only[ndS]
    refine wpList_nil ?_
    obtain⟨⟨b1,yb1,k1,f1⟩,-⟩:=hL
    rw[hcond.out]
    go_wp2
    rw[show (c:Int)+1=((c+1:Nat):Int) by omega]
    rw[show (i:Int)+1=((i+1:Nat):Int) by omega]
    refine⟨?_,by simp[Ak];omega⟩
    exact⟨hW0.trans (hW.mono hz),b1,i+1,_,_,Ac rfl,by omega,hs2,hs1⟩
 ·obtain rfl:i=l.length:=by omega
  rw[List.take_length] at hc hd
  go_wp2
  go_ret2
  exact⟨by rw[hc.out,hd.out];rfl,hW0⟩
theorem Zi (gp:Nat) (w:World):
  Calls Tryz.prog 84 #[.pointer (some ⟨gp,0,none⟩)] w fun e w'=>e= .returned (.func (.func 144) #[] #[.pointer (some ⟨w.heap.size,0,none⟩),.pointer (some ⟨w.heap.size+1,0,none⟩)])/\w'=(w.alloc (.cells #[.pointer (some ⟨gp,0,none⟩)] 155)).alloc (.cells #[.func (.func 143) #[.pointer (some ⟨gp,0,none⟩)] #[]] 228):=by
 have hmf:∀(fn:Fn) (first cap:Array Value) (w:World),(Instr.makeFunc fn first cap).run Tryz.prog w= .ok (.func fn first cap) w:=fun _ _ _ _=>rfl
 go_enter Tryz.func84,Tryz.ntmps84
 go_wp2
 go_ret
 exact⟨by simp,by simp⟩
end Go.Proofs.YtidfcoooccblaaaGreat
namespace Go.Proofs.YtidfcoooccblaaaGreat
open Go.RowKit Go.Shelf
attribute [local go_sem] Oper.semAt_some
def Kx (fl a b:Int) (i:Nat) (x:A4):List Ah:=if E8 fl a b (Af x.runs)=0 then [] else [⟨if E8 fl a b (Af x.runs)=(Af x.runs).length then 1 else 2,i,E8 fl a b (Af x.runs)⟩]
def Qn (s:Be) (a b:Int) (i:Nat):List Ah:=match s.segs[i]? with|some x=>Kx s.floor a b i x|none=> []
def Dz (s:Be) (a b:Int) (k:Nat):List Ah:=(List.range k).flatMap (Qn s a b)
def Nm (s:Be) (a b:Int):List Ah:=if E8 s.floor a b (s.opn.map (·.1))=0 then [] else [⟨3,My s.floor a b (s.opn.map (·.1)),E8 s.floor a b (s.opn.map (·.1))⟩]
def Eg (s:Be) (a b:Int):List Ah:=Dz s a b s.segs.length++Nm s a b
theorem Qm {s:Be} {a b:Int} {k:Nat} {x:A4} (h:s.segs[k]? =some x):Dz s a b (k+1)=Dz s a b k++Kx s.floor a b k x:=by
 unfold Dz
 rw[List.range_succ,List.flatMap_append,List.flatMap_cons,List.flatMap_nil,List.append_nil]
 unfold Qn
 rw[h]
theorem planK_pre (s:Be) (a b:Int) {k n:Nat} (h:k<=n):Dz s a b k<+:Dz s a b n:=by
 induction n with
 |zero=>
  obtain rfl:k=0:=by omega
  exact List.prefix_refl _
 |succ n ih=>
  by_cases hk:k=n+1
  ·subst hk;exact List.prefix_refl _
  ·refine(ih (by omega)).trans ?_
   unfold Dz
   rw[List.range_succ,List.flatMap_append]
   exact List.prefix_append _ _
theorem To (n:Nat) (hn:1<=n) (lr Bq Bf gp:Nat) (s:Be) (ps po:Option Addr) (cs co:Nat) (a b:Int) (w₁:World) (hin:Av w₁ s ps po) (hv:∀x,x∈s.segs->C1 x=true)
  (Kp:World->World->Prop) (hK:∀ {A B},Kp A B->Below w₁.heap.size A B/\∀T,T≠70->T≠75->Fp T A B)
  (J Jx:List Ah->World->Prop) (W:World) (hJ:AbidesFrom W.heap.size J)
  (hY:∀pre (x:Ah) W,J pre W->pre++ [x]<+:Eg s a b->YieldAt Fence.wide (n-1) Tryz.prog lr #[.agg #[.int .i64 x.f,.int .i64 x.s,.int .i64 x.c]] W fun e W'=>(e= .returned (.bool true)/\J (pre++ [x]) W'/\Kp W W')∨(e= .returned (.bool false)/\Jx (pre++ [x]) W'))
  (hW:Below w₁.heap.size w₁ W) (hBq:Blk W Bq #[.pointer (some ⟨gp,0,none⟩)] 155) (hBf:Blk W Bf #[.func (.func 143) #[.pointer (some ⟨gp,0,none⟩)] #[]] 228) (hgp:Blk W gp #[.string s.name,.int .i64 s.eps,.int .i64 s.floor,.int .i64 s.last,.int .i64 s.scale,.slice ps s.segs.length cs,.slice po s.opn.length co,.int .i64 a,.int .i64 b] 157) (h0:J [] W):
  CallsIn Fence.wide n Tryz.prog 144 #[.func (.yield lr) #[] #[],.pointer (some ⟨Bq,0,none⟩),.pointer (some ⟨Bf,0,none⟩)] W fun e W'=>(∃v,e= .returned v)/\((∃ys,ys=Eg s a b/\J ys W')∨(∃pre,pre<+:Eg s a b/\Jx pre W')):=by
 obtain⟨i0,hi,hz0,hz1,hz2⟩:=info_parts Tryz.infoInt
 have hfS:=hin.fewS
 have hfO:=hin.fewO
 have hWsz:=hW.size
 refine callsIn_of_wp Tryz.func144 rfl trivial ?_ rfl
 simp only[Tryz.ntmps144,List.size_toArray,List.length_cons,List.length_nil,Nat.reduceAdd,Nat.reduceSub,Array.replicate_succ,Array.replicate_zero,List.push_toArray,List.append_toArray,List.nil_append,List.cons_append]
 refine Mj (Ux ?_)
 have k1:=hBq.cell
 have k3:=hgp.cell
 gi_wp2
 clear k1 k3
 gi_loopw [22] (fun i wr=>∃k:Nat,k<=s.segs.length/\i= .int .i64 k/\J (Dz s a b k) wr/\Below w₁.heap.size w₁ wr/\Blk wr Bq #[.pointer (some ⟨gp,0,none⟩)] 155/\Blk wr Bf #[.func (.func 143) #[.pointer (some ⟨gp,0,none⟩)] #[]] 228/\Blk wr gp #[.string s.name,.int .i64 s.eps,.int .i64 s.floor,.int .i64 s.last,.int .i64 s.scale,.slice ps s.segs.length cs,.slice po s.opn.length co,.int .i64 a,.int .i64 b] 157) (fun i _=>s.segs.length-(intOf i).toNat)
 case atStart=>exact⟨0,Nat.zero_le _,rfl,h0,hW,hBq,hBf,hgp⟩
 case round=>
  obtain⟨k,hk,rfl,hJk,hbw,d1,d2,d3⟩:=hrel
  have y1:=d1.lt
  have y2:=d2.lt
  have y3:=d3.lt
  rcases Nat.lt_or_ge k s.segs.length with hlk|hge
  ·obtain⟨x,tr⟩:∃r,s.segs[k]? =some r:=⟨s.segs[k]'(by omega),List.getElem?_eq_getElem (by omega)⟩
   have hsx:=hv x (List.mem_of_getElem? tr)
   obtain⟨b0,o0,p',q',cp,vc,rfl,hs,hvc,q0,q1,q2,q3,q4,q5,q6,q7⟩:=(hin.below hbw).segs.one tr
   have hlen:(Af x.runs).length<=300000:=by have:=B7 (By hsx);have:=(D6 (By hsx)).2;omega
   have cT:=Hd (fun W' (hW':Below wr.heap.size wr W')=>(show Calls Tryz.prog 114 #[.slice p' x.runs.length cp] W' fun e w'=>∃v,e= .returned (.tuple #[v,.int .i64 0])/\w'.ownsRow W'.heap.size 2 1 v (Af x.runs).length ((Af x.runs).map (Value.int .i64))/\Below W'.heap.size W' w' from c_Times p' cp x.runs W' (By hsx) (hs.runs.below hW')))
   have zb:=A8 q0
   try simp only at zb
   have hst:=Qm (a:=a) (b:=b) tr
   have hpre:=(planK_pre s a b (show k+1<=s.segs.length by omega)).trans (List.prefix_append _ (Nm s a b))
   rw[hst] at hpre
   obtain⟨c,hc⟩:∃c,E8 s.floor a b (Af x.runs)=c:=⟨_,rfl⟩
   have hcl:c<=(Af x.runs).length:=by rw[<-hc];unfold E8;exact List.length_filter_le _ _
   clear hsx hs tr
   by_cases hc0:c=0
   ·subst hc0
    rw[show Kx s.floor a b k x= [] by unfold Kx;rw[if_pos hc],List.append_nil] at hst
    replace hst:=Hd hst
    clear hpre
    gi_wp2_with (refine⟨trivial,?_⟩;gi_at_call 114;refine(callsIn_wide.2 (cT.out _ (Aa))).mono ?_;rintro e w2 ⟨v2,rfl,hv2,hB⟩;have hAB:=((Below.refl wr.heap.size wr).alloc (Nat.le_refl _) (Obj.cells #[.int .i64 x.K,.slice p' x.runs.length cp,.int .i64 x.A,.int .i64 x.R,.int .i64 x.n,.int .i64 x.d,.slice q' x.raw.length vc,.int .i64 x.E] 98)).trans (hB.mono (by simp));obtain⟨pt,ct,rfl,-,-,-,-⟩:=(Bp.mk hv2).form;have hI:=Hd (Bp.mk hv2).ints;have e1:=d1.below hAB;have e2:=d2.below hAB;have e3:=d3.below hAB;have kf:=e2.cell;have zf:=e2.lt;have zs:=hAB.size;clear hv2 hB)
    have cA:=Hd (P9 s (some ⟨b0,o0,none⟩) cs po co a b gp pt ct (Af x.runs) w2 e3 hI.out (by omega))
    rw[hc] at cA
    gi_wp2_with (refine⟨trivial,?_⟩;gi_at_call 143;refine(callsIn_wide.2 cA.out).mono ?_;rintro e w3 ⟨rfl,hB3⟩;have hAC:=hAB.trans (hB3.mono hAB.size);replace e1:=e1.below hB3;replace e2:=e2.below hB3;replace e3:=e3.below hB3;clear kf zf;have zs3:=hAC.size;have hbw3:=hbw.trans (hAC.mono hbw.size);have hJ3':=Cx hJ hJk hAC;clear hAB hAC hB3)
    clear cA hI
    go_roundw
    case rel=>exact⟨k+1,by omega,by simp,by rw[hst.out];exact hJ3',hbw3,e1,e2,e3⟩
    case measure=>simp[intOf];omega
   ·have hn0:((c:Int)==0)=false:=by simpa using hc0
    by_cases hcn:c=(Af x.runs).length
    ·have hsg:Kx s.floor a b k x= [⟨1,k,c⟩]:=by unfold Kx;rw[hc,if_neg hc0,if_pos hcn]
     rw[hsg] at hst hpre
     have hroom:=Hd (show Dz s a b k++ [(⟨1,(k:Int),(c:Int)⟩:Ah)]<+:Eg s a b from hpre)
     have hnl:((c:Int)==((Af x.runs).length:Int))=true:=by rw[hcn];exact beq_self_eq_true _
     replace hst:=Hd hst
     clear hpre hsg hc0 hcn
     gi_wp2_with (refine⟨trivial,?_⟩;gi_at_call 114;refine(callsIn_wide.2 (cT.out _ (Aa))).mono ?_;rintro e w2 ⟨v2,rfl,hv2,hB⟩;have hAB:=((Below.refl wr.heap.size wr).alloc (Nat.le_refl _) (Obj.cells #[.int .i64 x.K,.slice p' x.runs.length cp,.int .i64 x.A,.int .i64 x.R,.int .i64 x.n,.int .i64 x.d,.slice q' x.raw.length vc,.int .i64 x.E] 98)).trans (hB.mono (by simp));obtain⟨pt,ct,rfl,-,-,-,-⟩:=(Bp.mk hv2).form;have hI:=Hd (Bp.mk hv2).ints;have e1:=d1.below hAB;have e2:=d2.below hAB;have e3:=d3.below hAB;have kf:=e2.cell;have zf:=e2.lt;have zs:=hAB.size;clear hv2 hB)
     have cA:=Hd (P9 s (some ⟨b0,o0,none⟩) cs po co a b gp pt ct (Af x.runs) w2 e3 hI.out (by omega))
     rw[hc] at cA
     gi_wp2_with (refine⟨trivial,?_⟩;gi_at_call 143;refine(callsIn_wide.2 cA.out).mono ?_;rintro e w3 ⟨rfl,hB3⟩;have hAC:=hAB.trans (hB3.mono hAB.size);replace e1:=e1.below hB3;replace e2:=e2.below hB3;replace e3:=e3.below hB3;clear kf zf;have zs3:=hAC.size;have hbw3:=hbw.trans (hAC.mono hbw.size);have hJ3':=Cx hJ hJk hAC;clear hAB hAC hB3;obtain⟨fn,tmps,assign,body,hy,hR⟩:=hY _ (⟨1,(k:Int),(c:Int)⟩:Ah) w3 hJ3' hroom.out;dsimp only at hy)
     clear cA hI
     refine hR.mono ?_
     rintro e W3 (⟨rfl,hJ3,hk3⟩|⟨rfl,hJx3⟩)
     ·obtain⟨g1,g2⟩:=hK hk3
      gi_wp2
      go_roundw
      case rel=>exact⟨k+1,by omega,by simp,by rw[hst.out];exact hJ3,hbw3.trans g1,g2 _ (by decide) (by decide) _ _ _ e1,g2 _ (by decide) (by decide) _ _ _ e2,g2 _ (by decide) (by decide) _ _ _ e3⟩
      case measure=>simp[intOf];omega
     ·gi_wp2
      simp only[Exit.noGoto]
      refine bodyPost_ret (v:= .tuple #[]) (results_none rfl _ _ _) rfl ?_
      exact⟨⟨_,rfl⟩,.inr ⟨_,hroom.out,hJx3⟩⟩
    ·have hsg:Kx s.floor a b k x= [⟨2,k,c⟩]:=by unfold Kx;rw[hc,if_neg hc0,if_neg hcn]
     rw[hsg] at hst hpre
     have hroom:=Hd (show Dz s a b k++ [(⟨2,(k:Int),(c:Int)⟩:Ah)]<+:Eg s a b from hpre)
     have hnl:((c:Int)==((Af x.runs).length:Int))=false:=by simp;omega
     replace hst:=Hd hst
     clear hpre hsg hc0 hcn
     gi_wp2_with (refine⟨trivial,?_⟩;gi_at_call 114;refine(callsIn_wide.2 (cT.out _ (Aa))).mono ?_;rintro e w2 ⟨v2,rfl,hv2,hB⟩;have hAB:=((Below.refl wr.heap.size wr).alloc (Nat.le_refl _) (Obj.cells #[.int .i64 x.K,.slice p' x.runs.length cp,.int .i64 x.A,.int .i64 x.R,.int .i64 x.n,.int .i64 x.d,.slice q' x.raw.length vc,.int .i64 x.E] 98)).trans (hB.mono (by simp));obtain⟨pt,ct,rfl,-,-,-,-⟩:=(Bp.mk hv2).form;have hI:=Hd (Bp.mk hv2).ints;have e1:=d1.below hAB;have e2:=d2.below hAB;have e3:=d3.below hAB;have kf:=e2.cell;have zf:=e2.lt;have zs:=hAB.size;clear hv2 hB)
     have cA:=Hd (P9 s (some ⟨b0,o0,none⟩) cs po co a b gp pt ct (Af x.runs) w2 e3 hI.out (by omega))
     rw[hc] at cA
     gi_wp2_with (refine⟨trivial,?_⟩;gi_at_call 143;refine(callsIn_wide.2 cA.out).mono ?_;rintro e w3 ⟨rfl,hB3⟩;have hAC:=hAB.trans (hB3.mono hAB.size);replace e1:=e1.below hB3;replace e2:=e2.below hB3;replace e3:=e3.below hB3;clear kf zf;have zs3:=hAC.size;have hbw3:=hbw.trans (hAC.mono hbw.size);have hJ3':=Cx hJ hJk hAC;clear hAB hAC hB3;obtain⟨fn,tmps,assign,body,hy,hR⟩:=hY _ (⟨2,(k:Int),(c:Int)⟩:Ah) w3 hJ3' hroom.out;dsimp only at hy)
     clear cA hI
     refine hR.mono ?_
     rintro e W3 (⟨rfl,hJ3,hk3⟩|⟨rfl,hJx3⟩)
     ·obtain⟨g1,g2⟩:=hK hk3
      gi_wp2
      go_roundw
      case rel=>exact⟨k+1,by omega,by simp,by rw[hst.out];exact hJ3,hbw3.trans g1,g2 _ (by decide) (by decide) _ _ _ e1,g2 _ (by decide) (by decide) _ _ _ e2,g2 _ (by decide) (by decide) _ _ _ e3⟩
      case measure=>simp[intOf];omega
     ·gi_wp2
      simp only[Exit.noGoto]
      refine bodyPost_ret (v:= .tuple #[]) (results_none rfl _ _ _) rfl ?_
      exact⟨⟨_,rfl⟩,.inr ⟨_,hroom.out,hJx3⟩⟩
  ·obtain rfl:k=s.segs.length:=by omega
   have k1:=d1.cell
   have k3:=d3.cell
   gi_wp2
   clear k1 k3
   obtain⟨w5,hw5⟩:∃w5,w5=wr:=⟨_,rfl⟩
   rw[<-hw5] at hJk hbw d1 d2 d3 y1 y2 y3⊢
   clear hw5
   gi_loopw [11,59] (fun v i wr=>∃m:Nat,m<=s.opn.length/\i= .int .i64 m/\Below w5.heap.size w5 wr/\Bp wr w5.heap.size 2 1 v m (((s.opn.take m).map (·.1)).map (Value.int .i64))) (fun _ i _=>s.opn.length-(intOf i).toNat)
   case atStart=>exact⟨0,Nat.zero_le _,rfl,Below.refl _ _,Bp.nil _ _ _ _⟩
   case round=>
    obtain⟨m,hm,rfl,hbw5,hrow⟩:=hrel
    have zz:=hbw5.size
    rcases Nat.lt_or_ge m s.opn.length with hlm|hgem
    ·obtain⟨⟨t,y⟩,tr⟩:∃t,s.opn[m]? =some t:=⟨s.opn[m]'hlm,List.getElem?_eq_getElem _⟩
     obtain⟨b0,o0,rfl,q0,q1⟩:=((hin.below hbw).below hbw5).opn.at' m _ tr
     simp only at q0 q1
     have zb:=A8 q0
     try simp only at zb
     have hst:=Hd (show ((s.opn.take (m+1)).map (·.1)).map (Value.int .i64)=((s.opn.take m).map (·.1)).map (Value.int .i64)++ [.int .i64 t] by rw[Lq tr];simp)
     clear tr
     gi_wp2_with (gi_at_builtin;refine wpListIn_append_own _ rfl (.tmp 63) (.tmp 66) 96 rfl w5.heap.size 2 i0 (.int .i64 0) 1 8 (by kernel_rfl) hi hz0 hz1 hz2 rfl (by decide) _ _ _ rfl ((hrow.own.alloc _).alloc _) ⟨wr.heap.size+1,0,none⟩ 1 1 [.int .i64 t] rfl rfl (fun j u hu=>Qq (g:=wr.heap.size+1) (Blk.new' (by simp)) hu) (by simp[Value.oneCell']) (by simp[maxLen];omega) (by omega) (by simp;omega) ?_;intro v' w1 hown' hgrow _;have hb9:=Hd (Fx ((hbw5.alloc zz _).alloc (by simp;omega) _) (by simp;omega) hgrow (fun g e=>(hrow.own.lt g e).1));have hr9:=Hd (Bp.mk (Fi hown' rfl hst.out.symm));clear hgrow hown')
     go_roundw
     case rel=>exact⟨m+1,by omega,by simp,hb9.out,hr9.out⟩
     case measure=>simp[intOf];omega
    ·obtain rfl:m=s.opn.length:=by omega
     rw[List.take_length] at hrow
     obtain⟨l9,hl9⟩:∃l9,s.opn.map (·.1)=l9:=⟨_,rfl⟩
     rw[hl9] at hrow
     have hn9:l9.length=s.opn.length:=by rw[<-hl9,List.length_map]
     have hpo:Nm s a b=if E8 s.floor a b l9=0 then [] else [⟨3,My s.floor a b l9,E8 s.floor a b l9⟩]:=by unfold Nm;rw[hl9]
     obtain⟨pt,ct,rfl,-,-,-,-⟩:=hrow.form
     have hI:=hrow.ints
     rw[<-hn9] at hrow
     have e1:=d1.below hbw5
     have e2:=d2.below hbw5
     have e3:=d3.below hbw5
     have hJ5:=Cx hJ hJk hbw5
     have cA:=P9 s ps cs po co a b gp pt ct l9 wr e3 hI (by omega)
     rw[hn9] at cA
     obtain⟨c,hc⟩:∃c,E8 s.floor a b l9=c:=⟨_,rfl⟩
     rw[hc] at cA hpo
     replace cA:=Hd cA
     clear hl9 hn9 hrow hI hc
     have kf:=e2.cell
     have zf:=e2.lt
     by_cases hc0:c=0
     ·subst hc0
      rw[if_pos rfl] at hpo
      have hpl:=Hd (show Dz s a b s.segs.length=Eg s a b by unfold Eg;rw[hpo,List.append_nil])
      clear hpo
      gi_wp2_with (refine⟨trivial,?_⟩;gi_at_call 143;refine(callsIn_wide.2 cA.out).mono ?_;rintro e w3 ⟨rfl,hB3⟩;have hJ3':=Cx hJ hJ5 hB3;clear hB3)
      simp only[Exit.noGoto]
      refine bodyPost_end (results_none rfl _ _ _) rfl ?_
      exact⟨⟨_,rfl⟩,.inl ⟨_,rfl,by rw[<-hpl.out];exact hJ3'⟩⟩
     ·rw[if_neg hc0] at hpo
      have hpl:=Hd (show Dz s a b s.segs.length++ [(⟨3,(My s.floor a b l9:Int),(c:Int)⟩:Ah)]=Eg s a b by unfold Eg;rw[hpo])
      have hn0:0<c:=by omega
      clear hpo hc0
      gi_wp2_with (refine⟨trivial,?_⟩;gi_at_call 143;refine(callsIn_wide.2 cA.out).mono ?_;rintro e w3 ⟨rfl,hB3⟩;have hJ3':=Cx hJ hJ5 hB3;clear hB3;obtain⟨fn,tmps,assign,body,hy,hR⟩:=hY _ (⟨3,(My s.floor a b l9:Int),(c:Int)⟩:Ah) w3 hJ3' (by rw[hpl.out];exact List.prefix_refl _);dsimp only at hy)
      refine hR.mono ?_
      rintro e W3 (⟨rfl,hJ3,hk3⟩|⟨rfl,hJx3⟩)
      ·gi_wp2
       simp only[Exit.noGoto]
       refine bodyPost_end (results_none rfl _ _ _) rfl ?_
       exact⟨⟨_,rfl⟩,.inl ⟨_,rfl,by rw[<-hpl.out];exact hJ3⟩⟩
      ·gi_wp2
       simp only[Exit.noGoto]
       refine bodyPost_end (results_none rfl _ _ _) rfl ?_
       exact⟨⟨_,rfl⟩,.inr ⟨_,List.prefix_refl _,by rw[<-hpl.out];exact hJx3⟩⟩
end Go.Proofs.YtidfcoooccblaaaGreat
namespace Go.Proofs.YtidfcoooccblaaaGreat
open Go.RowKit
theorem map_pts1 {s:A4} (hs:C1 s=true):(Dr s).map (·.1)=Af s.runs:=by
 have h1:=B7 (By hs)
 have h2:=Ht hs
 unfold Dr
 rw[List.map_fst_zip]
 omega
def selT (a b t:Int):Bool:=decide (a<=t)&&decide (t<=b)
def sumPc (l:List Ah):Int:=Ap (l.map (·.c))
def PlanOk (s:Be) (a b:Int) (P:List Ah) (tot:Int):Prop:=
 sumPc P=tot/\tot<=100000/\(∀i r,P[i]? =some r->1<=r.c/\
  ((r.f=3/\i+1=P.length/\∃(j e:Nat) (t y t' y':Int),r.s=(j:Int)/\r.c=(e:Int)+1-(j:Int)/\e<s.opn.length/\j<=e/\s.opn[j]? =some (t,y)/\a<=t/\s.opn[e]? =some (t',y')/\t'<=b)∨
   ∃(j:Nat) (x:A4),r.s=(j:Int)/\s.segs[j]? =some x/\((r.f=1/\r.c=cnt x.runs)∨(r.f=2/\r.c≠cnt x.runs))))/\
 ∀i r r',P[i]? =some r->P[i+1]? =some r'->r'.f≠3->r.s<r'.s
theorem tolda_bad (nm:ByteArray) (ep fl la sc:Int) (ps po:Option Addr) (ns cs no co:Nat) (gk gs ga gb:Nat) (w:World)
  (c1:∀W,Below w.heap.size w W->Cb 14 #[.agg #[.string nm,ep,fl,la,sc,.slice ps ns cs,.slice po no co]] W (.int .i64 340)):
  Cb 78 #[.agg #[.string nm,ep,fl,la,sc,.slice ps ns cs,.slice po no co],.func (.func 79) #[] #[.pointer (some ⟨gk,0,none⟩),.pointer (some ⟨gs,0,none⟩),.pointer (some ⟨ga,0,none⟩),.pointer (some ⟨gb,0,none⟩)]] w (.tuple #[.agg #[.int .i64 0,.int .i64 0,.int .i64 0,.int .i64 0,.int .i64 0,.int .i64 0,.int .i64 0,.int .i64 0,.int .i64 0],.int .i64 340]):=by
 have H_c1:=Hd c1
 clear c1
 go_enter Tryz.func78,Tryz.ntmps78
 go_wp2_with fail
 refine(H_c1.out _ Aa).mono ?_
 rintro e w1 ⟨rfl,hb1⟩
 have z2:=hb1.size
 try simp at z2
 refine Ae w w1 (Bc w.heap.size #[.string nm,ep,fl,la,sc,.slice ps ns cs,.slice po no co] 25<|Bc (w.heap.size+1) #[.int .i64 0,.int .i64 0,.int .i64 0,.int .i64 0,.int .i64 0,.int .i64 0,.int .i64 0,.int .i64 0,.int .i64 0] 67<|Bz) ?_
 rintro hW z3 ⟨⟨b1,yb1,k1,f1⟩,⟨b2,yb2,k2,f2⟩,-⟩
 clear hb1
 go_wp2
 refine bodyPost_ret (by simp[results,Tryz.results78,go_sem,k1,f1,k2,f2,yb1,yb2]) rfl ⟨rfl,by exact Aa⟩
theorem U0 (nm:ByteArray) (ep fl la sc:Int) (ps po:Option Addr) (ns cs no co:Nat) (gk gs ga gb:Nat) (xe n x y m0 m1 m2 m3 m4 er:Int) (w:World)
  (c1:∀W,Below w.heap.size w W->Cb 14 #[.agg #[.string nm,ep,fl,la,sc,.slice ps ns cs,.slice po no co]] W (.int .i64 0))
  (c2:∀W,Below w.heap.size w W->Cb 79 #[.pointer (some ⟨gk,0,none⟩),.pointer (some ⟨gs,0,none⟩),.pointer (some ⟨ga,0,none⟩),.pointer (some ⟨gb,0,none⟩)] W (.tuple #[.agg #[xe,n,x,y,m0,m1,m2,m3,m4],er])):
  Cb 78 #[.agg #[.string nm,ep,fl,la,sc,.slice ps ns cs,.slice po no co],.func (.func 79) #[] #[.pointer (some ⟨gk,0,none⟩),.pointer (some ⟨gs,0,none⟩),.pointer (some ⟨ga,0,none⟩),.pointer (some ⟨gb,0,none⟩)]] w (.tuple #[.agg #[xe,n,x,y,m0,m1,m2,m3,m4],er]):=by
 have H_c1:=Hd c1
 clear c1
 have H_c2:=Hd c2
 clear c2
 go_enter Tryz.func78,Tryz.ntmps78
 go_wp2_with fail
 refine(H_c1.out _ Aa).mono ?_
 rintro e w1 ⟨rfl,hb1⟩
 have z2:=hb1.size
 try simp at z2
 refine Ae w w1 (Bc w.heap.size #[.string nm,ep,fl,la,sc,.slice ps ns cs,.slice po no co] 25<|Bc (w.heap.size+1) #[.int .i64 0,.int .i64 0,.int .i64 0,.int .i64 0,.int .i64 0,.int .i64 0,.int .i64 0,.int .i64 0,.int .i64 0] 67<|Bz) ?_
 rintro hW z3 ⟨⟨b1,yb1,k1,f1⟩,⟨b2,yb2,k2,f2⟩,-⟩
 clear hb1
 go_wp2_with fail
 refine(H_c2.out _ Aa).mono ?_
 rintro e w4 ⟨rfl,hb4⟩
 have z5:=hb4.size
 try simp at z5
 clear k1 f1 k2 f2
 refine Ae w w4 (Bc w.heap.size #[.string nm,ep,fl,la,sc,.slice ps ns cs,.slice po no co] 25<|Bc (w.heap.size+1) #[.int .i64 0,.int .i64 0,.int .i64 0,.int .i64 0,.int .i64 0,.int .i64 0,.int .i64 0,.int .i64 0,.int .i64 0] 67<|Bz) ?_
 clear b1 b2 hW
 rintro hW z6 ⟨⟨b1,yb1,k1,f1⟩,⟨b2,yb2,k2,f2⟩,-⟩
 clear hb4
 go_wp2
 refine bodyPost_ret (by simp[results,Tryz.results78,go_sem,k1,f1,k2,f2,yb1,yb2]) rfl ⟨rfl,by exact Aa⟩
theorem one_e (nm:ByteArray) (ep fl la sc:Int) (ps po:Option Addr) (ns cs no co:Nat) (k a b:Int) (xe n x y m0 m1 m2 m3 m4 er:Int) (w:World) (her:er≠0)
  (c1:∀W,Below w.heap.size w W->Blk W w.heap.size #[.string nm,ep,fl,la,sc,.slice ps ns cs,.slice po no co] 25->Blk W (w.heap.size+1) #[k] 3->Blk W (w.heap.size+1+1) #[a] 2->Blk W (w.heap.size+1+1+1) #[b] 2->Cb 78 #[.agg #[.string nm,ep,fl,la,sc,.slice ps ns cs,.slice po no co],.func (.func 79) #[] #[.pointer (some ⟨w.heap.size+1,0,none⟩),.pointer (some ⟨w.heap.size,0,none⟩),.pointer (some ⟨w.heap.size+1+1,0,none⟩),.pointer (some ⟨w.heap.size+1+1+1,0,none⟩)]] W (.tuple #[.agg #[xe,n,x,y,m0,m1,m2,m3,m4],er])):
  Cb 33 #[.agg #[.string nm,ep,fl,la,sc,.slice ps ns cs,.slice po no co],k,a,b] w (.agg #[er,.int .i64 0,.int .i64 0,.int .i64 0,.int .i64 0,.int .i64 0,.int .i64 0,.int .i64 0,.int .i64 0]):=by
 have H_c1:=Hd c1
 clear c1
 go_enter Tryz.func33,Tryz.ntmps33
 have hmf:∀(fn:Fn) (first cap:Array Value) (w:World),(Instr.makeFunc fn first cap).run Tryz.prog w= .ok (.func fn first cap) w:=fun _ _ _ _=>rfl
 go_upto_region 1 with(fail)
 refine Ad w (Bc w.heap.size #[.string nm,ep,fl,la,sc,.slice ps ns cs,.slice po no co] 25<|Bc (w.heap.size+1) #[k] 3<|Bc (w.heap.size+1+1) #[a] 2<|Bc (w.heap.size+1+1+1) #[b] 2<|Bc (w.heap.size+1+1+1+1) #[.int .i64 0,.int .i64 0,.int .i64 0,.int .i64 0,.int .i64 0,.int .i64 0,.int .i64 0,.int .i64 0,.int .i64 0] 67<|Bz) ?_
 rintro W1 hW z2 ⟨⟨b1,yb1,k1,f1⟩,⟨b2,yb2,k2,f2⟩,⟨b3,yb3,k3,f3⟩,⟨b4,yb4,k4,f4⟩,⟨b5,yb5,k5,f5⟩,-⟩
 go_wp2_with fail
 refine(H_c1.out W1 hW b1 b2 b3 b4).mono ?_
 rintro e w3 ⟨rfl,hb3⟩
 have z4:=hb3.size
 try simp at z4
 clear k1 f1 k2 f2 k3 f3 k4 f4 k5 f5
 refine Ae w w3 (Bc w.heap.size #[.string nm,ep,fl,la,sc,.slice ps ns cs,.slice po no co] 25<|Bc (w.heap.size+1) #[k] 3<|Bc (w.heap.size+1+1) #[a] 2<|Bc (w.heap.size+1+1+1) #[b] 2<|Bc (w.heap.size+1+1+1+1) #[.int .i64 0,.int .i64 0,.int .i64 0,.int .i64 0,.int .i64 0,.int .i64 0,.int .i64 0,.int .i64 0,.int .i64 0] 67<|Bz) ?_
 clear b1 b2 b3 b4 b5 hW
 rintro hW z5 ⟨⟨b1,yb1,k1,f1⟩,⟨b2,yb2,k2,f2⟩,⟨b3,yb3,k3,f3⟩,⟨b4,yb4,k4,f4⟩,⟨b5,yb5,k5,f5⟩,-⟩
 clear hb3
 go_wp2
 refine bodyPost_ret (by simp[results,Tryz.results33,go_sem,k1,f1,k2,f2,k3,f3,k4,f4,k5,f5,yb1,yb2,yb3,yb4,yb5]) rfl ⟨rfl,by exact Aa⟩
theorem one_0 (nm:ByteArray) (ep fl la sc:Int) (ps po:Option Addr) (ns cs no co:Nat) (k a b:Int) (xe n x y m0 m1 m2 m3 m4:Int) (w:World)
  (c1:∀W,Below w.heap.size w W->Blk W w.heap.size #[.string nm,ep,fl,la,sc,.slice ps ns cs,.slice po no co] 25->Blk W (w.heap.size+1) #[k] 3->Blk W (w.heap.size+1+1) #[a] 2->Blk W (w.heap.size+1+1+1) #[b] 2->Cb 78 #[.agg #[.string nm,ep,fl,la,sc,.slice ps ns cs,.slice po no co],.func (.func 79) #[] #[.pointer (some ⟨w.heap.size+1,0,none⟩),.pointer (some ⟨w.heap.size,0,none⟩),.pointer (some ⟨w.heap.size+1+1,0,none⟩),.pointer (some ⟨w.heap.size+1+1+1,0,none⟩)]] W (.tuple #[.agg #[xe,n,x,y,m0,m1,m2,m3,m4],.int .i64 0])):
  Cb 33 #[.agg #[.string nm,ep,fl,la,sc,.slice ps ns cs,.slice po no co],k,a,b] w (.agg #[xe,n,x,y,m0,m1,m2,m3,m4]):=by
 have H_c1:=Hd c1
 clear c1
 go_enter Tryz.func33,Tryz.ntmps33
 have hmf:∀(fn:Fn) (first cap:Array Value) (w:World),(Instr.makeFunc fn first cap).run Tryz.prog w= .ok (.func fn first cap) w:=fun _ _ _ _=>rfl
 go_upto_region 1 with(fail)
 refine Ad w (Bc w.heap.size #[.string nm,ep,fl,la,sc,.slice ps ns cs,.slice po no co] 25<|Bc (w.heap.size+1) #[k] 3<|Bc (w.heap.size+1+1) #[a] 2<|Bc (w.heap.size+1+1+1) #[b] 2<|Bc (w.heap.size+1+1+1+1) #[.int .i64 0,.int .i64 0,.int .i64 0,.int .i64 0,.int .i64 0,.int .i64 0,.int .i64 0,.int .i64 0,.int .i64 0] 67<|Bz) ?_
 rintro W1 hW z2 ⟨⟨b1,yb1,k1,f1⟩,⟨b2,yb2,k2,f2⟩,⟨b3,yb3,k3,f3⟩,⟨b4,yb4,k4,f4⟩,⟨b5,yb5,k5,f5⟩,-⟩
 go_wp2_with fail
 refine(H_c1.out W1 hW b1 b2 b3 b4).mono ?_
 rintro e w3 ⟨rfl,hb3⟩
 have z4:=hb3.size
 try simp at z4
 clear k1 f1 k2 f2 k3 f3 k4 f4 k5 f5
 refine Ae w w3 (Bc w.heap.size #[.string nm,ep,fl,la,sc,.slice ps ns cs,.slice po no co] 25<|Bc (w.heap.size+1) #[k] 3<|Bc (w.heap.size+1+1) #[a] 2<|Bc (w.heap.size+1+1+1) #[b] 2<|Bc (w.heap.size+1+1+1+1) #[.int .i64 0,.int .i64 0,.int .i64 0,.int .i64 0,.int .i64 0,.int .i64 0,.int .i64 0,.int .i64 0,.int .i64 0] 67<|Bz) ?_
 clear b1 b2 b3 b4 b5 hW
 rintro hW z5 ⟨⟨b1,yb1,k1,f1⟩,⟨b2,yb2,k2,f2⟩,⟨b3,yb3,k3,f3⟩,⟨b4,yb4,k4,f4⟩,⟨b5,yb5,k5,f5⟩,-⟩
 clear hb3
 go_wp2
 refine bodyPost_ret (by simp[results,Tryz.results33,go_sem,k1,f1,k2,f2,k3,f3,k4,f4,k5,f5,yb1,yb2,yb3,yb4,yb5]) rfl ⟨rfl,by exact Aa⟩
def oneA (s:Be) (k a b:Int):Array Value:=if Bn s then (if 1<=k/\k<=5 then Ru s k.toNat a b else Km 2 0 0 0 0 0 0 0 0) else Km 340 0 0 0 0 0 0 0 0
theorem Uo (s:Be) (ps po:Option Addr) (cs co:Nat) (k a b:Int) (w:World) (hin:Av w s ps po) (hb: -9223372036854775808<=b):
  Cb 33 #[.agg (Cg s ps cs po co),k,a,b] w (.agg (oneA s k a b)):=by
 unfold Cg oneA
 have ck:=L9 s ps po cs co
 unfold Cg Ff at ck
 cases hc:Bn s with
 |false=>
  rw[hc] at ck
  simp only[Bool.false_eq_true,if_false]
  exact one_e _ _ _ _ _ ps po _ cs _ co k a b 0 0 0 0 0 0 0 0 0 340 w (by decide) fun W hW k1 k2 k3 k4=>
   tolda_bad s.name s.eps s.floor s.last s.scale ps po s.segs.length cs s.opn.length co _ _ _ _ W (fun W' hW'=>ck W' ((hin.below hW).below hW'))
 |true=>
  rw[hc] at ck
  simp only[if_true]
  by_cases hk:1<=k/\k<=5
  ·rw[if_pos hk]
   obtain⟨j,hj⟩:∃j:Nat,k=(j:Int):=⟨k.toNat,by omega⟩
   subst hj
   have hj5:1<=j/\j<=5:=by omega
   rw[show ((j:Int).toNat)=j from rfl]
   obtain⟨er,n,x,y,m0,m1,m2,m3,m4,he⟩:=ansW_is s j a b
   rw[he]
   refine one_0 _ _ _ _ _ ps po _ cs _ co (j:Int) a b er n x y m0 m1 m2 m3 m4 w fun W hW k1 k2 k3 k4=>
    U0 s.name s.eps s.floor s.last s.scale ps po s.segs.length cs s.opn.length co _ _ _ _ er n x y m0 m1 m2 m3 m4 0 W (fun W' hW'=>ck W' ((hin.below hW).below hW')) fun W' hW'=> ?_
   have t:=one1_yes s ps po cs co j a b _ _ _ _ W' hj5 hb ((hin.below hW).below hW') (k2.below hW') (k1.below hW') (k3.below hW') (k4.below hW')
   rw[he] at t
   exact t
  ·rw[if_neg hk]
   exact one_e _ _ _ _ _ ps po _ cs _ co k a b 0 0 0 0 0 0 0 0 0 2 w (by decide) fun W hW k1 k2 k3 k4=>
    U0 s.name s.eps s.floor s.last s.scale ps po s.segs.length cs s.opn.length co _ _ _ _ 0 0 0 0 0 0 0 0 0 2 W (fun W' hW'=>ck W' ((hin.below hW).below hW')) fun W' hW'=>
     one1_no s ps po cs co k a b _ _ _ _ W' hk (k2.below hW') (k1.below hW') (k3.below hW') (k4.below hW')
def PutPost (B gO:Nat) (L:List (Int×Int×Int)) (w:World) (e:Ending) (w':World):Prop:=
 e= .returned (.tuple #[])/\Below B w w'/\(∀g cs t,g≠gO->t≠63->Blk w g cs t->Blk w' g cs t)/\∃v,Blk w' gO #[v] 52/\Bp w' B 63 3 v L.length (As (L.map bkT))
def putL (fr b t y far:Int) (L:List (Int×Int×Int)):List (Int×Int×Int):=if Fz fr b (t,y) then L++ [(t,y,far)] else L
attribute [local simp] Oper.looksAt Op.operands Call.operands Aj Det Ao
structure Ea where
 er:Int
 n:Int
 x:Int
 y:Int
 m0:Int
 m1:Int
 m2:Int
 m3:Int
 m4:Int
instance : DecidableEq Ea := fun a b => decidable_of_iff (a.er = b.er /\ a.n = b.n /\ a.x = b.x /\ a.y = b.y /\ a.m0 = b.m0 /\ a.m1 = b.m1 /\ a.m2 = b.m2 /\ a.m3 = b.m3 /\ a.m4 = b.m4) (by cases a; cases b; simp)
def aT (t:Ea):Array Value:=Km t.er t.n t.x t.y t.m0 t.m1 t.m2 t.m3 t.m4
def Py (s:Be) (k:Nat) (a b:Int):Ea:=
 if k=1 then ⟨if Cz s a b=9 then 0 else Cz s a b,(Bd s a b).length,0,0,0,0,0,0,0⟩
 else if k=2 then ⟨Cz s a b,0,Bh (loL (Bd s a b)),Bh (hiL (Bd s a b)),0,0,0,0,0⟩
 else if k=3 then ⟨Cz s a b,0,Bi (loL (Bd s a b)),Bi (hiL (Bd s a b)),0,0,0,0,0⟩
 else if k=4 then ⟨Xv (Bd s a b) (Cz s a b),0,sl (Bd s a b),sh (Bd s a b),0,0,0,0,0⟩
 else ⟨Cz s a b,0,0,0,(Bd s a b).length,Ap (loL (Bd s a b))/(Bd s a b).length,Ap (loL (Bd s a b))%(Bd s a b).length,Ap (hiL (Bd s a b))/(Bd s a b).length,Ap (hiL (Bd s a b))%(Bd s a b).length⟩
theorem ansW_T (s:Be) (k:Nat) (a b:Int):Ru s k a b=aT (Py s k a b):=by
 unfold Ru Py aT
 split
 ·rfl
 ·split
  ·rfl
  ·split
   ·rfl
   ·split<;>rfl
def Ea.cells (t:Ea):List Value:=(aT t).toList
def Kb (l:List Ea):List Value:=l.flatMap Ea.cells
def E9 (s:Be) (k:Nat) (fr wd:Int) (n:Nat):List Ea:=(List.range n).map fun(i:Nat)=>Py s k (fr+(i:Int)*wd) (fr+(i:Int)*wd+wd-1)
theorem Uq (s:Be) (k:Nat) (fr wd:Int) (n:Nat):E9 s k fr wd (n+1)=E9 s k fr wd n++ [Py s k (fr+n*wd) (fr+n*wd+wd-1)]:=by
 unfold E9
 rw[List.range_succ,List.map_append]
 rfl
theorem Wa (l:List Ea) (r:Ea):Kb (l++ [r])=Kb l++(aT r).toList:=by
 unfold Kb
 rw[List.flatMap_append,List.flatMap_cons,List.flatMap_nil,List.append_nil]
 rfl
def AnsC (B:Nat) (r:Ea):Bo:=fun v w=>∃g,v= .slice (some ⟨g,0,none⟩) 1 1/\B<=g/\Blk w g (aT r) 67
theorem AnsC.closed (B:Nat) (r:Ea):Bj [] (AnsC B r):=fun _ _ _ hr ⟨g,e1,h1,h⟩=>⟨g,e1,h1,h.rex hr (by simp)⟩
theorem Tryz.infoAns :(Tryz.prog.info? 67).map (fun i=>(i.zero,i.size,i.bytes))=some (some (.agg #[.int .i64 0,.int .i64 0,.int .i64 0,.int .i64 0,.int .i64 0,.int .i64 0,.int .i64 0,.int .i64 0,.int .i64 0]),9,72):=by kernel_rfl
theorem ans_news {W:World} {g:Nat} {r:Ea} {t:TypeId} (h:Blk W g (aT r) t) {j:Nat} {u:Value} (hu: [Value.int .i64 r.er,r.n,r.x,r.y,r.m0,r.m1,r.m2,r.m3,r.m4][j]? =some u):W.cell? ((⟨g,0,none⟩:Addr).add j)=some u:=by
 have hadd:(⟨g,0,none⟩:Addr).add j=⟨g,j,none⟩:=by unfold Addr.add;split<;>simp_all
 rw[hadd,h.cell]
 unfold aT Km
 simpa using hu
def bkRel (w:World) (s:Be) (ps:Option Addr) (cs:Nat) (po:Option Addr) (co:Nat) (k:Nat) (fr wd:Int) (N gk gf gw gn gs:Nat) (a':Act) (W:World):Prop:=
 Below w.heap.size w W/\Blk W gk #[.int .i64 (k:Int)] 3/\Blk W gf #[fr] 2/\Blk W gw #[wd] 2/\Blk W gn #[.int .i64 (N:Int)] 3/\Blk W gs #[.string s.name,s.eps,s.floor,s.last,s.scale,.slice ps s.segs.length cs,.slice po s.opn.length co] 25/\
  ∃(i:Nat) (v:Value),(∃u:Nat->Value,a'= {tmps:= #[.pointer (some ⟨gk,0,none⟩),.pointer (some ⟨gf,0,none⟩),.pointer (some ⟨gw,0,none⟩),.pointer (some ⟨gn,0,none⟩),.pointer (some ⟨gs,0,none⟩),.slice none 0 0,.int .i64 0,v,u 8,u 9,u 10,u 11,u 12,u 13,u 14,u 15,u 16,u 17,u 18,u 19,u 20,u 21,u 22,u 23,u 24,u 25,u 26,u 27,u 28,u 29,u 30,u 31,u 32,u 33,u 34,u 35,u 36,.int .i64 (N:Int),.int .i64 (i:Int),u 39,u 40,u 41,u 42,u 43,u 44,u 45,u 46,u 47,u 48,u 49,u 50,u 51,u 52,u 53,u 54,u 55,u 56,u 57,u 58,u 59,u 60,u 61],defers:= []})/\Bp W w.heap.size 67 9 v i (Kb (E9 s k fr wd i))/\i<=N
theorem bk1_no (k fr wd nn:Int) (q:Bool) (gk gf gw gn gs:Nat) (s:Be) (ps:Option Addr) (cs:Nat) (po:Option Addr) (co:Nat) (w:World) (hq:Hid ((!q||decide (fr<0)||decide (281474976710656<fr)||decide (wd<1)||decide (281474976710656<wd)||decide (nn<1)||decide (64<nn))=true))
  (cK:∀W,Cb 80 #[k] W (.bool q))
  (b1:Blk w gk #[k] 3) (b2:Blk w gf #[fr] 2) (b3:Blk w gw #[wd] 2) (b4:Blk w gn #[nn] 3) (b5:Blk w gs #[.string s.name,s.eps,s.floor,s.last,s.scale,.slice ps s.segs.length cs,.slice po s.opn.length co] 25):
  Cb 88 #[.pointer (some ⟨gk,0,none⟩),.pointer (some ⟨gf,0,none⟩),.pointer (some ⟨gw,0,none⟩),.pointer (some ⟨gn,0,none⟩),.pointer (some ⟨gs,0,none⟩)] w (.tuple #[.slice none 0 0,.int .i64 2]):=by
 have y1:=b1.lt
 have y2:=b2.lt
 have y3:=b3.lt
 have y4:=b4.lt
 have y5:=b5.lt
 have H_cK:=Hd cK
 clear cK
 go_enter Tryz.func88,Tryz.ntmps88
 go_upto_region 1 with(fail)
 refine Ad w (Bc gk #[k] 3<|Bc gf #[fr] 2<|Bc gw #[wd] 2<|Bc gn #[nn] 3<|Bc gs #[.string s.name,s.eps,s.floor,s.last,s.scale,.slice ps s.segs.length cs,.slice po s.opn.length co] 25<|Bz) ?_
 clear b1 b2 b3 b4 b5
 rintro W1 hW z2 hL
 refine B3 27 62 hW hL ?_
 refine dA ?_
 refine cA (fun W' hC=>H_cK.out W') ?_
 iterate 2 refine dA ?_
 iterate 2 refine gA ?_
 refine pO ?_
 refine dA ?_
 iterate 2 refine gA ?_
 refine pO ?_
 refine dA ?_
 iterate 2 refine gA ?_
 refine pO ?_
 refine dA ?_
 iterate 2 refine gA ?_
 refine pO ?_
 refine dA ?_
 iterate 2 refine gA ?_
 refine pO ?_
 refine dA ?_
 iterate 2 refine gA ?_
 refine pO ?_
 clear hW hL
 rintro W3 hW z4 hL
 simp only[ndR]
 intros
 repeat (rename Ao _ _ _ _=>hgd;clear hgd)
 simp only[ndS]
 refine wpList_nil ?_
 obtain⟨⟨b1,yb1,k1,f1⟩,⟨b2,yb2,k2,f2⟩,⟨b3,yb3,k3,f3⟩,⟨b4,yb4,k4,f4⟩,⟨b5,yb5,k5,f5⟩,-⟩:=hL
 have z5:=hW.size
 rw[hq.out]
 go_wp2
 refine bodyPost_ret (by simp[results,Tryz.results88,go_sem,k1,f1,k2,f2,k3,f3,k4,f4,k5,f5,yb1,yb2,yb3,yb4,yb5]) rfl ⟨rfl,by exact Aa⟩
theorem bk1_yes (k N:Nat) (fr wd:Int) (q:Bool) (gk gf gw gn gs:Nat) (s:Be) (ps:Option Addr) (cs:Nat) (po:Option Addr) (co:Nat) (w:World) (hk:1<=k/\k<=5) (hN:N<=64) (hf0:0<=fr) (hf1:fr<=281474976710656) (hw0:1<=wd) (hw1:wd<=281474976710656) (hin:Av w s ps po) (hq:Hid ((!q||decide (fr<0)||decide (281474976710656<fr)||decide (wd<1)||decide (281474976710656<wd)||decide ((N:Int)<1)||decide (64<(N:Int)))=false))
  (cK:∀W,Cb 80 #[.int .i64 (k:Int)] W (.bool q))
  (b1:Blk w gk #[.int .i64 (k:Int)] 3) (b2:Blk w gf #[fr] 2) (b3:Blk w gw #[wd] 2) (b4:Blk w gn #[.int .i64 (N:Int)] 3) (b5:Blk w gs #[.string s.name,s.eps,s.floor,s.last,s.scale,.slice ps s.segs.length cs,.slice po s.opn.length co] 25):
  Calls Tryz.prog 88 #[.pointer (some ⟨gk,0,none⟩),.pointer (some ⟨gf,0,none⟩),.pointer (some ⟨gw,0,none⟩),.pointer (some ⟨gn,0,none⟩),.pointer (some ⟨gs,0,none⟩)] w fun e w'=>∃v,e= .returned (.tuple #[v,.int .i64 0])/\Bp w' w.heap.size 67 9 v N (Kb (E9 s k fr wd N))/\Below w.heap.size w w':=by
 obtain⟨i0,hi,hz0,hz1,hz2⟩:=info_parts Tryz.infoAns
 have y1:=b1.lt
 have y2:=b2.lt
 have y3:=b3.lt
 have y4:=b4.lt
 have y5:=b5.lt
 have H_cK:=Hd cK
 clear cK
 go_enter Tryz.func88,Tryz.ntmps88
 go_upto_region 1 with(fail)
 refine Ad w (Bc gk #[.int .i64 (k:Int)] 3<|Bc gf #[fr] 2<|Bc gw #[wd] 2<|Bc gn #[.int .i64 (N:Int)] 3<|Bc gs #[.string s.name,s.eps,s.floor,s.last,s.scale,.slice ps s.segs.length cs,.slice po s.opn.length co] 25<|Bz) ?_
 clear b1 b2 b3 b4 b5
 rintro W1 hW z2 hL
 refine B3 27 62 hW hL ?_
 refine dA ?_
 refine cA (fun W' hC=>H_cK.out W') ?_
 iterate 2 refine dA ?_
 iterate 2 refine gA ?_
 refine pO ?_
 refine dA ?_
 iterate 2 refine gA ?_
 refine pO ?_
 refine dA ?_
 iterate 2 refine gA ?_
 refine pO ?_
 refine dA ?_
 iterate 2 refine gA ?_
 refine pO ?_
 refine dA ?_
 iterate 2 refine gA ?_
 refine pO ?_
 refine dA ?_
 iterate 2 refine gA ?_
 refine pO ?_
 clear hW hL
 rintro W3 hW z4 hL
 simp only[ndR]
 intros
 repeat (rename Ao _ _ _ _=>hgd;clear hgd)
 simp only[ndS]
 refine wpList_nil ?_
 obtain⟨⟨b1,yb1,k1,f1⟩,⟨b2,yb2,k2,f2⟩,⟨b3,yb3,k3,f3⟩,⟨b4,yb4,k4,f4⟩,⟨b5,yb5,k5,f5⟩,-⟩:=hL
 have z5:=hW.size
 rw[hq.out]
 clear H_cK
 go_wp2
 refine wp_loop (bkRel w s ps cs po co k fr wd N gk gf gw gn gs) (fun a' _=>N-(Ak (a'.tmps.getD 38 undef)).toNat) ?_ ?_
 ·unfold bkRel
  exact⟨hW,b1,b2,b3,b4,b5,0,.slice none 0 0,Ac rfl,Bp.nil _ _ _ _,by omega⟩
 rintro a' W ⟨hW0,b1,b2,b3,b4,b5,i,v,⟨u,rfl⟩,hown,hi'⟩
 have hz:=hW0.size
 have zb1:=b1.lt
 have zb2:=b2.lt
 have zb3:=b3.lt
 have zb4:=b4.lt
 have zb5:=b5.lt
 rcases Nat.lt_or_ge i N with hlt|hge
 ·have hM0:0<=(i:Int)*wd:=Int.mul_nonneg (by omega) (by omega)
  have hM1:(i:Int)*wd<=64*281474976710656:=Int.mul_le_mul (by omega) hw1 (by omega) (by omega)
  have hsc:=Hd (Uq s k fr wd i)
  obtain⟨M,hM⟩:∃M,(i:Int)*wd=M:=⟨_,rfl⟩
  rw[hM] at hM0 hM1 hsc
  have E1:=Hd (show wrap64 ((i:Int)*wd)=M by rw[hM,Al];omega)
  clear hM
  obtain⟨F,hF⟩:∃F,fr+M=F:=⟨_,rfl⟩
  rw[hF] at hsc
  have E2:=Hd (show wrap64 (fr+M)=F by rw[<-hF,Al];omega)
  obtain⟨G,hG⟩:∃G,F+wd=G:=⟨_,rfl⟩
  have E3:=Hd (show wrap64 (F+wd)=G by rw[<-hG,Al];omega)
  obtain⟨Z,hZz⟩:∃Z,G-1=Z:=⟨_,rfl⟩
  have E4:=Hd (show wrap64 (G-1)=Z by rw[<-hZz,Al];omega)
  rw[hG,hZz] at hsc
  have hZ: -9223372036854775808<=Z:=by omega
  clear hF hG hZz hM0 hM1
  obtain⟨r,hr⟩:∃r,Py s k F Z=r:=⟨_,rfl⟩
  rw[hr] at hsc
  have hW9:=Hd (show Ru s k F Z=aT r by rw[<-hr];exact ansW_T s k F Z)
  have E1':=E1.out
  have E2':=E2.out
  have k1:=b1.cell
  have f1:=b1.frozen
  have k2:=b2.cell
  have f2:=b2.frozen
  have k3:=b3.cell
  have f3:=b3.frozen
  have k4:=b4.cell
  have f4:=b4.frozen
  have k5:=b5.cell
  have f5:=b5.frozen
  go_upto_region 8 with(fail)
  clear k1 f1 k2 f2 k3 f3 k4 f4 k5 f5
  refine Ad W (Bc gk #[.int .i64 (k:Int)] 3<|Bc gf #[fr] 2<|Bc gw #[wd] 2<|Bc gn #[.int .i64 (N:Int)] 3<|Bc gs #[.string s.name,s.eps,s.floor,s.last,s.scale,.slice ps s.segs.length cs,.slice po s.opn.length co] 25<|Rc (fun W'=>Av W' s ps po)<|Bz) ?_ (hI:=by exact Aa) (hR:=(Bc.mk (by exact Ab)<|Bc.mk (by exact Ab)<|Bc.mk (by exact Ab)<|Bc.mk (by exact Ab)<|Bc.mk (by exact Ab)<|Rc.mk (by exact(hin.below hW0).below Aa)<|trivial))
  clear b1 b2 b3 b4 b5
  rintro W21 hW z22 hL
  obtain⟨⟨b1,yb1,k1,f1⟩,⟨b2,yb2,k2,f2⟩,⟨b3,yb3,k3,f3⟩,⟨b4,yb4,k4,f4⟩,⟨b5,yb5,k5,f5⟩,b6,-⟩:=id hL
  clear k1 f1 k2 f2 k3 f3 k4 f4 k5 f5
  refine Br 13 62 hW hL ?_
  refine dE (fun W' hC=>aI E3.out E4.out) ?_
  apply A7 QsF (hg:=rfl) (hal:=rfl)
  ·exact QsF.closed
  ·intro a' W' hC hE
   refine⟨_,_,?_,(Pq W').mono ?_⟩
   ·simp[go_sem,Act.eval]
    try rfl
   ·rintro e w' ⟨v,rfl,hq,hB⟩
    exact⟨v,rfl,hB,hq⟩
  refine dE (fun W' hC=>aI E3.out E4.out) ?_
  apply D5 (IdxF k) (hg:=rfl) (hal:=rfl)
  ·exact IdxF.closed _
  ·intro a' W' hC hE
   simp at hE
   obtain⟨f,h1,h2⟩:=Vj hE.1 k hk
   refine⟨.agg #[f],?_,f,rfl,h2⟩
   simp[execOp,Act.eval,hE.2,h1]
  apply D5 (O9 k) (hg:=rfl) (hal:=rfl)
  ·exact O9.closed _
  ·intro a' W' hC hE
   simp at hE
   obtain⟨f,h1,h2⟩:=hE
   refine⟨f,?_,h2⟩
   simp[go_sem,Act.eval,h1,Z6]
  iterate 6 refine dE (fun W' hC=>aI E3.out E4.out) ?_
  apply K6 (.agg (Ru s k F Z)) (hg:=rfl) (hal:=rfl)
  ·intro a' W' hC hE
   simp[Oper.looksAt,Op.operands,Call.operands,Aj,Det,E2.out,E3.out,E4.out] at hE
   obtain⟨f,cap,h1,h2,h3⟩:=Xd hE.1 s ps po cs co F Z hC.2.2.2.2.2.2.1 hZ
   unfold Cg at h3
   refine⟨f,_,?_,h3⟩
   simp[go_sem,Act.eval,hE,h1,h2]
  apply Ox (AnsC W21.heap.size r) (hg:=rfl) (hal:=rfl)
  ·exact AnsC.closed _ _
  ·intro a' W' hC hE
   simp at hE
   refine⟨.slice (some ⟨W'.heap.size,0,none⟩) 1 1,W'.alloc (.cells (aT r) 67),?_,(Below.refl _ _).alloc (Nat.le_refl _) _,W'.heap.size,rfl,hC.1.size,Blk.new' rfl⟩
   rw[hW9.out] at hE
   unfold aT Km at hE⊢
   simp[go_sem,execOp,Act.eval,hE]
   try rfl
   done
  clear hW hL b1 b2 b3 b4 b5 b6
  rintro W23 hW z24 hL
  simp only[ndR]
  intros
  simp only[ndS]
  obtain⟨⟨b1,yb1,k1,f1⟩,⟨b2,yb2,k2,f2⟩,⟨b3,yb3,k3,f3⟩,⟨b4,yb4,k4,f4⟩,⟨b5,yb5,k5,f5⟩,b6,-⟩:=hL
  rename AnsC _ _ _ _=>ho
  obtain⟨g1,rfl,hg1,bg⟩:=ho
  have y9:=bg.lt
  have hV1:=hW0.trans (hW.mono hz)
  have hO:=hown.below hW
  clear hown hW
  have zz:=hV1.size
  have hlo:=fun g e=>hO.own.lt g e
  go_wp2_with (at_builtin;refine C4 rfl (.tmp 46) (.tmp 58) 80 rfl w.heap.size 67 i0 (.agg #[.int .i64 0,.int .i64 0,.int .i64 0,.int .i64 0,.int .i64 0,.int .i64 0,.int .i64 0,.int .i64 0,.int .i64 0]) 9 72 (by kernel_rfl) hi hz0 hz1 hz2 rfl (by decide) _ _ _ rfl hO.own ⟨g1,0,none⟩ 1 1 [r.er,r.n,r.x,r.y,r.m0,r.m1,r.m2,r.m3,r.m4] rfl rfl (fun j u hu=>ans_news bg hu) (by simp[Value.oneCell']) (by simp[maxLen];omega) (by omega) (by omega) ?_)
  intro v' w9 hown2 hgr hst
  have hB:=Hd (Fx hV1 (by omega) hgr (fun g e=>(hlo g e).1))
  have d1:=b1.grown0 hO.own (by decide) hgr
  have d2:=b2.grown0 hO.own (by decide) hgr
  have d3:=b3.grown0 hO.own (by decide) hgr
  have d4:=b4.grown0 hO.own (by decide) hgr
  have d5:=b5.grown0 hO.own (by decide) hgr
  replace hown2:=Hd hown2
  clear hgr hst hO hlo b1 b2 b3 b4 b5 bg
  go_wp2
  rw[show (i:Int)+1=((i+1:Nat):Int) by omega]
  refine⟨?_,by simp[Ak];omega⟩
  exact⟨hB.out,d1,d2,d3,d4,d5,i+1,v',Ac rfl,⟨Fi hown2.out rfl (by rw[hsc.out,Wa];rfl)⟩,by omega⟩
 ·obtain rfl:i=N:=by omega
  go_wp2
  refine bodyPost_ret (v:= .tuple #[v,.int .i64 0]) (by simp[results,Tryz.results88,go_sem]) rfl ⟨v,rfl,hown,hW0⟩
end Go.Proofs.YtidfcoooccblaaaGreat
namespace Go.Proofs.YtidfcoooccblaaaGreat
open Go.RowKit
def eqBackRel (w:World) (p:Option Addr) (cap:Nat) (p':Option Addr) (cap':Nat) (A B:List Ah) (a':Act) (W:World):Prop:=
 Below w.heap.size w W/\∃(i:Nat),(∃u:Nat->Value,a'= {tmps:= #[.slice p A.length cap,.slice p' A.length cap',u 2,u 3,.bool false,u 5,u 6,u 7,u 8,u 9,u 10,u 11,.int .i64 (A.length:Int),.int .i64 (i:Int),u 14,u 15,u 16,u 17,u 18,u 19,u 20,u 21,u 22,u 23,u 24,u 25],defers:= []})/\i<=A.length/\∀k,k<i->A[k]? =B[k]?
end Go.Proofs.YtidfcoooccblaaaGreat
