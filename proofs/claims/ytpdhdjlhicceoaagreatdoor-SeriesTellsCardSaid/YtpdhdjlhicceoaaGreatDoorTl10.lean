/- Parts of the proof that follows. No condition. -/
import Derived.Test.YtpdhdjlhicceoaaGreatDoorTl9
set_option maxRecDepth 100000
set_option maxHeartbeats 8000000
set_option linter.unusedSimpArgs false
set_option linter.unusedVariables false
namespace Go.Proofs.YtpdhdjlhicceoaaGreatDoor
open Go.RowKit
theorem value_no (sa:Bool) (pa:Option Addr) (la ca:Nat) (z:Int) (w:World) (F:Bool)
  (cF:∀W,Below w.heap.size w W->Cb 243 #[.agg #[.bool sa,.slice pa la ca],.int .i64 64] W (.bool F)) (e1:Hid (F=false)):
  Cb 196 #[.agg #[.bool sa,.slice pa la ca]] w (.tuple #[.int .i64 0,.bool false]):=by
 go_enter Tryz.func196,Tryz.ntmps196
 go_wp2_with fail
 refine(cF _ belowAny).mono ?_
 rintro e w1 ⟨rfl,hb1⟩
 have z2:=hb1.size
 try simp at z2
 refine haveB w w1 (Bc w.heap.size #[.bool sa,.slice pa la ca] 206<|Bz) ?_
 rintro hW z3 ⟨⟨b1,yb1,k1,f1⟩,-⟩
 clear hb1
 rw[e1.out]
 go_wp2
 refine bodyPost_ret (v:= .tuple #[.int .i64 0,.bool false]) (by simp[results,Tryz.results196,go_sem]) rfl ⟨rfl,by exact belowAny⟩
theorem value_pos (pa:Option Addr) (la ca m:Nat) (z:Int) (w:World) (F:Bool) (ha:Hid (Bits w (.slice pa la ca) m))
  (cF:∀W,Below w.heap.size w W->Cb 243 #[.agg #[.bool false,.slice pa la ca],.int .i64 64] W (.bool F)) (e1:Hid (F=true)) (hm63:m<9223372036854775808)
  (e2:Hid (m/2^0%2^64=m)):
  Cb 196 #[.agg #[.bool false,.slice pa la ca]] w (.tuple #[.int .i64 (m:Int),.bool true]):=by
 go_enter Tryz.func196,Tryz.ntmps196
 go_wp2_with fail
 refine(cF _ belowAny).mono ?_
 rintro e w1 ⟨rfl,hb1⟩
 have z2:=hb1.size
 try simp at z2
 refine haveB w w1 (Bc w.heap.size #[.bool false,.slice pa la ca] 206<|Bz) ?_
 rintro hW z3 ⟨⟨b1,yb1,k1,f1⟩,-⟩
 clear hb1
 rw[e1.out]
 have hq:=Hd (ha.out.below (show Below w.heap.size w w1 from belowAny))
 go_wp2_with fail
 refine(c_word _ _ 0 _ hq.out (by omega)).mono ?_
 rintro e w4 ⟨rfl,hb4⟩
 have z5:=hb4.size
 try simp at z5
 clear k1 f1
 refine haveB w w4 (Bc w.heap.size #[.bool false,.slice pa la ca] 206<|Bz) ?_
 clear b1 hW
 rintro hW z6 ⟨⟨b1,yb1,k1,f1⟩,-⟩
 clear hb4
 rw[e2.out]
 go_wp2
 refine bodyPost_ret (v:= .tuple #[.int .i64 (m:Int),.bool true]) (by simp[results,Tryz.results196,go_sem]) rfl ⟨rfl,by exact belowAny⟩
theorem value_neg (pa:Option Addr) (la ca m s:Nat) (w:World) (F:Bool) (ha:Hid (Bits w (.slice pa la ca) m))
  (cF:∀W,Below w.heap.size w W->Cb 243 #[.agg #[.bool true,.slice pa la ca],.int .i64 64] W (.bool F)) (e1:Hid (F=true)) (hm64:Hid (m<=2^64))
  (e2:Hid ((2^64-m)/2^0%2^64=s)) (e3:Hid (wrap64 (s:Int)= -(m:Int))):
  Cb 196 #[.agg #[.bool true,.slice pa la ca]] w (.tuple #[.int .i64 (-(m:Int)),.bool true]):=by
 go_enter Tryz.func196,Tryz.ntmps196
 go_wp2_with fail
 refine(cF _ belowAny).mono ?_
 rintro e w1 ⟨rfl,hb1⟩
 have z2:=hb1.size
 try simp at z2
 refine haveB w w1 (Bc w.heap.size #[.bool true,.slice pa la ca] 206<|Bz) ?_
 rintro hW z3 ⟨⟨b1,yb1,k1,f1⟩,-⟩
 clear hb1
 rw[e1.out]
 have hq:=Hd (ha.out.below (show Below w.heap.size w w1 from belowAny))
 go_wp2_with fail
 refine(c_power 64 _ (by omega)).mono ?_
 rintro e w4 ⟨v2,rfl,hq2,hb4⟩
 have z5:=hb4.size
 try simp at z5
 clear k1 f1
 refine haveB w w4 (Bc w.heap.size #[.bool true,.slice pa la ca] 206<|Bz) ?_
 clear b1 hW
 rintro hW z6 ⟨⟨b1,yb1,k1,f1⟩,-⟩
 replace hq2:=Hd hq2
 replace hq:=Hd (hq.out.below hb4)
 have cm:=Hd (c_minus _ _ (2^64) m w4 hq2.out hq.out (pow_lt2 64 900 (by omega)) hm64.out)
 go_wp2_with fail
 refine(cm.out).mono ?_
 rintro e w7 ⟨v3,rfl,hq3,hb7⟩
 have z8:=hb7.size
 try simp at z8
 clear k1 f1
 refine haveB w w7 (Bc w.heap.size #[.bool true,.slice pa la ca] 206<|Bz) ?_
 clear b1 hW
 rintro hW z9 ⟨⟨b1,yb1,k1,f1⟩,-⟩
 replace hq3:=Hd hq3
 go_wp2_with fail
 refine(c_word _ _ 0 _ hq3.out (by omega)).mono ?_
 rintro e w10 ⟨rfl,hb10⟩
 have z11:=hb10.size
 try simp at z11
 clear k1 f1
 refine haveB w w10 (Bc w.heap.size #[.bool true,.slice pa la ca] 206<|Bz) ?_
 clear b1 hW
 rintro hW z12 ⟨⟨b1,yb1,k1,f1⟩,-⟩
 clear hb10
 rw[e2.out]
 go_wp2
 refine bodyPost_ret (v:= .tuple #[.int .i64 (-(m:Int)),.bool true]) (by simp[results,Tryz.results196,go_sem,e3.out]) rfl ⟨rfl,by exact belowAny⟩
theorem fits64 {va:Value} {z:Int} {w:World} (h:NumIs w va z) (hz:z.natAbs<2^900):
  ∀W,Below w.heap.size w W->Calls Tryz.prog 243 #[va,.int .i64 64] W fun e w'=>e= .returned (.bool (decide (-9223372036854775808<=z/\z<9223372036854775808)))/\Below W.heap.size W w':=
 fun W hW=>c_refFits va z 63 W (h.below hW) hz (by omega)
theorem c_refValue_no (va:Value) (z:Int) (w:World) (h:NumIs w va z) (hz:z.natAbs<2^900) (ho:¬(-9223372036854775808<=z/\z<9223372036854775808)):
  Cb 196 #[va] w (.tuple #[.int .i64 0,.bool false]):=by
 obtain⟨pa,la,ca,rfl,h'⟩:=num_shape h
 exact value_no _ pa la ca z w _ (fits64 h hz) (Hd (decide_eq_false ho))
theorem c_refValue (va:Value) (z:Int) (w:World) (h:NumIs w va z) (h1: -9223372036854775808<=z) (h2:z<9223372036854775808):
  Cb 196 #[va] w (.tuple #[.int .i64 z,.bool true]):=by
 obtain⟨pa,la,ca,rfl,h'⟩:=num_shape h
 have hz:z.natAbs<2^900:=lt_pow2 64 900 (show z.natAbs<2^64 by omega) (by omega)
 have hF:=fits64 h hz
 by_cases hn:z<0
 ·obtain⟨m,rfl⟩:∃m:Nat,z= -(m:Int):=⟨z.natAbs,by omega⟩
  rw[decide_eq_true hn] at hF⊢
  rw[show (-(m:Int)).natAbs=m by omega] at h'
  refine value_neg pa la ca m (18446744073709551616-m) w _ (Hd h') hF (Hd (decide_eq_true ⟨h1,h2⟩)) (Hd (by omega)) (Hd (by omega)) (Hd (by unfold wrap64;omega))
 ·obtain⟨m,rfl⟩:∃m:Nat,z=(m:Int):=⟨z.toNat,by omega⟩
  rw[decide_eq_false hn] at hF⊢
  rw[show ((m:Int)).natAbs=m by omega] at h'
  exact value_pos pa la ca m 0 w _ (Hd h') hF (Hd (decide_eq_true ⟨h1,h2⟩)) (by omega) (Hd (by omega))

theorem div_plain (sa:Bool) (pa pb:Option Addr) (la ca lb cb m n Q R:Nat) (w:World) (ha:Bits w (.slice pa la ca) m) (hb:Bits w (.slice pb lb cb) n) (hm:m<2^800) (hQ:Hid (m/n=Q)) (hR:Hid (m%n=R)) (hn0:0<n) (hn:n<2^800) (hs:sa=false):
  Calls Tryz.prog 193 #[.agg #[.bool sa,.slice pa la ca],.agg #[.bool false,.slice pb lb cb]] w fun e w'=>∃s1 s2,e= .returned (.tuple #[.agg #[.bool (sa&&decide (0<Q)),s1],.agg #[.bool false,s2]])/\Bits w' s1 Q/\Bits w' s2 R/\Below w.heap.size w w':=by
 subst hs
 go_enter Tryz.func193,Tryz.ntmps193
 go_wp2_with fail
 refine(c_refparts (.slice pa la ca) (.slice pb lb cb) m n _ (ha.below belowAny) (hb.below belowAny) hm hn0 hn).mono ?_
 rintro e w1 ⟨v1,v2,rfl,hq1,hq2,hb1⟩
 have z2:=hb1.size
 try simp at z2
 refine haveB w w1 (Bc w.heap.size #[.bool false,.slice pa la ca] 206<|Bc (w.heap.size+1) #[.bool false,.slice pb lb cb] 206<|Bc (w.heap.size+2) #[.bool false,.slice none 0 0] 206<|Bc (w.heap.size+3) #[.bool false,.slice none 0 0] 206<|Bz) ?_
 rintro hW z3 ⟨⟨b1,yb1,k1,f1⟩,⟨b2,yb2,k2,f2⟩,⟨b3,yb3,k3,f3⟩,⟨b4,yb4,k4,f4⟩,-⟩
 rw[hQ.out] at hq1
 rw[hR.out] at hq2
 obtain⟨p1,l1,k1',rfl,_,hl1⟩:=bits_len hq1
 obtain⟨p2,l2,k2',rfl,hpos,hl2⟩:=bits_len hq2
 replace hq1:=Hd hq1
 replace hq2:=Hd hq2
 replace hpos:=Hd hpos
 go_wp2_with fail
 refine(c_refmade false _ Q _ hq1.out).mono ?_
 rintro e w4 ⟨rfl,hb4⟩
 have z5:=hb4.size
 try simp at z5
 clear k1 f1 k2 f2 k3 f3 k4 f4
 refine haveB w w4 (Bc w.heap.size #[.bool false,.slice pa la ca] 206<|Bc (w.heap.size+1) #[.bool false,.slice pb lb cb] 206<|Bc (w.heap.size+2) #[.bool false,.slice none 0 0] 206<|Bc (w.heap.size+3) #[.bool false,.slice none 0 0] 206<|Bz) ?_
 clear b1 b2 b3 b4 hW
 rintro hW z6 ⟨⟨b1,yb1,k1,f1⟩,⟨b2,yb2,k2,f2⟩,⟨b3,yb3,k3,f3⟩,⟨b4,yb4,k4,f4⟩,-⟩
 replace hq1:=Hd (hq1.out.below hb4)
 replace hq2:=Hd (hq2.out.below hb4)
 go_wp2_with fail
 refine(c_refmade false _ R _ hq2.out).mono ?_
 rintro e w7 ⟨rfl,hb7⟩
 have z8:=hb7.size
 try simp at z8
 clear k1 f1 k2 f2 k3 f3 k4 f4
 refine haveB w w7 (Bc w.heap.size #[.bool false,.slice pa la ca] 206<|Bc (w.heap.size+1) #[.bool false,.slice pb lb cb] 206<|Bc (w.heap.size+2) #[.bool false,.slice none 0 0] 206<|Bc (w.heap.size+3) #[.bool false,.slice none 0 0] 206<|Bz) ?_
 clear b1 b2 b3 b4 hW
 rintro hW z9 ⟨⟨b1,yb1,k1,f1⟩,⟨b2,yb2,k2,f2⟩,⟨b3,yb3,k3,f3⟩,⟨b4,yb4,k4,f4⟩,-⟩
 replace hq1:=Hd (hq1.out.below hb7)
 replace hq2:=Hd (hq2.out.below hb7)
 go_wp2
 have y_1:=b1.lt
 have y_2:=b2.lt
 have y_3:=b3.lt
 have y_4:=b4.lt
 refine bodyPost_ret (v:= .tuple #[.agg #[.bool false,.slice p1 l1.length k1'],.agg #[.bool false,.slice p2 l2.length k2']]) (by simp[results,Tryz.results193,go_sem,k1,f1,k2,f2,k3,f3,k4,f4,y_1,y_2,y_3,y_4]) rfl ⟨.slice p1 l1.length k1',.slice p2 l2.length k2',by simp,?_,?_,by exact belowAny⟩
 ·have hS:=(hq1.out.store b3 (.bool false) (.slice p1 l1.length k1')).store (show Blk _ (w.heap.size+3) #[.bool false,.slice none 0 0] 206 from (b4.setO (by omega) 0 _).setO (by omega) 1 _) (.bool false) (.slice p2 l2.length k2')
  simpa using hS
 ·have hS:=(hq2.out.store b3 (.bool false) (.slice p1 l1.length k1')).store (show Blk _ (w.heap.size+3) #[.bool false,.slice none 0 0] 206 from (b4.setO (by omega) 0 _).setO (by omega) 1 _) (.bool false) (.slice p2 l2.length k2')
  simpa using hS
theorem div_zero (pa pb:Option Addr) (la ca lb cb m n Q R:Nat) (w:World) (ha:Bits w (.slice pa la ca) m) (hb:Bits w (.slice pb lb cb) n) (hm:m<2^800) (hQ:Hid (m/n=Q)) (hR:Hid (m%n=R)) (hn0:0<n) (hn:n<2^800) (hr:R=0):
  Calls Tryz.prog 193 #[.agg #[.bool true,.slice pa la ca],.agg #[.bool false,.slice pb lb cb]] w fun e w'=>∃s1 s2,e= .returned (.tuple #[.agg #[.bool (true&&decide (0<Q)),s1],.agg #[.bool false,s2]])/\Bits w' s1 Q/\Bits w' s2 R/\Below w.heap.size w w':=by
 go_enter Tryz.func193,Tryz.ntmps193
 go_wp2_with fail
 refine(c_refparts (.slice pa la ca) (.slice pb lb cb) m n _ (ha.below belowAny) (hb.below belowAny) hm hn0 hn).mono ?_
 rintro e w1 ⟨v1,v2,rfl,hq1,hq2,hb1⟩
 have z2:=hb1.size
 try simp at z2
 refine haveB w w1 (Bc w.heap.size #[.bool true,.slice pa la ca] 206<|Bc (w.heap.size+1) #[.bool false,.slice pb lb cb] 206<|Bc (w.heap.size+2) #[.bool false,.slice none 0 0] 206<|Bc (w.heap.size+3) #[.bool false,.slice none 0 0] 206<|Bz) ?_
 rintro hW z3 ⟨⟨b1,yb1,k1,f1⟩,⟨b2,yb2,k2,f2⟩,⟨b3,yb3,k3,f3⟩,⟨b4,yb4,k4,f4⟩,-⟩
 rw[hQ.out] at hq1
 rw[hR.out] at hq2
 obtain⟨p1,l1,k1',rfl,_,hl1⟩:=bits_len hq1
 obtain⟨p2,l2,k2',rfl,hpos,hl2⟩:=bits_len hq2
 replace hq1:=Hd hq1
 replace hq2:=Hd hq2
 replace hpos:=Hd hpos
 obtain rfl:l2= []:=List.length_eq_zero_iff.1 (by have:=hpos.out;omega)
 clear hpos hr
 go_wp2_with fail
 refine(c_refmade true _ Q _ hq1.out).mono ?_
 rintro e w4 ⟨rfl,hb4⟩
 have z5:=hb4.size
 try simp at z5
 clear k1 f1 k2 f2 k3 f3 k4 f4
 refine haveB w w4 (Bc w.heap.size #[.bool true,.slice pa la ca] 206<|Bc (w.heap.size+1) #[.bool false,.slice pb lb cb] 206<|Bc (w.heap.size+2) #[.bool false,.slice none 0 0] 206<|Bc (w.heap.size+3) #[.bool false,.slice none 0 0] 206<|Bz) ?_
 clear b1 b2 b3 b4 hW
 rintro hW z6 ⟨⟨b1,yb1,k1,f1⟩,⟨b2,yb2,k2,f2⟩,⟨b3,yb3,k3,f3⟩,⟨b4,yb4,k4,f4⟩,-⟩
 replace hq1:=Hd (hq1.out.below hb4)
 replace hq2:=Hd (hq2.out.below hb4)
 go_wp2_with fail
 refine(c_refmade false _ R _ hq2.out).mono ?_
 rintro e w7 ⟨rfl,hb7⟩
 have z8:=hb7.size
 try simp at z8
 clear k1 f1 k2 f2 k3 f3 k4 f4
 refine haveB w w7 (Bc w.heap.size #[.bool true,.slice pa la ca] 206<|Bc (w.heap.size+1) #[.bool false,.slice pb lb cb] 206<|Bc (w.heap.size+2) #[.bool false,.slice none 0 0] 206<|Bc (w.heap.size+3) #[.bool false,.slice none 0 0] 206<|Bz) ?_
 clear b1 b2 b3 b4 hW
 rintro hW z9 ⟨⟨b1,yb1,k1,f1⟩,⟨b2,yb2,k2,f2⟩,⟨b3,yb3,k3,f3⟩,⟨b4,yb4,k4,f4⟩,-⟩
 replace hq1:=Hd (hq1.out.below hb7)
 replace hq2:=Hd (hq2.out.below hb7)
 obtain⟨B,hB⟩:∃B,B=(true&&decide (0<Q)):=⟨_,rfl⟩
 try rw[<-hB]
 try rw[Bool.true_and] at hB
 try rw[<-hB]
 replace hB:=Hd hB
 go_wp2
 have y_1:=b1.lt
 have y_2:=b2.lt
 have y_3:=b3.lt
 have y_4:=b4.lt
 refine bodyPost_ret (v:= .tuple #[.agg #[.bool B,.slice p1 l1.length k1'],.agg #[.bool false,.slice p2 0 k2']]) (by simp[results,Tryz.results193,go_sem,k1,f1,k2,f2,k3,f3,k4,f4,y_1,y_2,y_3,y_4]) rfl ⟨.slice p1 l1.length k1',.slice p2 0 k2',by rw[<-hB.out,Bool.true_and],?_,?_,by exact belowAny⟩
 ·have hS:=(hq1.out.store b3 (.bool B) (.slice p1 l1.length k1')).store (show Blk _ (w.heap.size+3) #[.bool false,.slice none 0 0] 206 from (b4.setO (by omega) 0 _).setO (by omega) 1 _) (.bool false) (.slice p2 0 k2')
  simpa using hS
 ·have hS:=(hq2.out.store b3 (.bool B) (.slice p1 l1.length k1')).store (show Blk _ (w.heap.size+3) #[.bool false,.slice none 0 0] 206 from (b4.setO (by omega) 0 _).setO (by omega) 1 _) (.bool false) (.slice p2 0 k2')
  simpa using hS
attribute [local simp] Oper.looksAt Op.operands Call.operands envOf Det GDet
theorem div_rest (pa pb:Option Addr) (la ca lb cb m n Q R:Nat) (w:World) (ha:Bits w (.slice pa la ca) m) (hb:Bits w (.slice pb lb cb) n) (hm:m<2^800) (hQ:Hid (m/n=Q)) (hR:Hid (m%n=R)) (hn0:0<n) (hn:n<2^800) (hr:0<R) (hQ9:Q<2^900) (hn9:n<2^900) (hRn:R<=n):
  Calls Tryz.prog 193 #[.agg #[.bool true,.slice pa la ca],.agg #[.bool false,.slice pb lb cb]] w fun e w'=>∃s1 s2,e= .returned (.tuple #[.agg #[.bool true,s1],.agg #[.bool false,s2]])/\Bits w' s1 (Q+1)/\Bits w' s2 (n-R)/\Below w.heap.size w w':=by
 go_enter Tryz.func193,Tryz.ntmps193
 go_wp2_with fail
 refine(c_refparts (.slice pa la ca) (.slice pb lb cb) m n _ (ha.below belowAny) (hb.below belowAny) hm hn0 hn).mono ?_
 rintro e w1 ⟨v1,v2,rfl,hq1,hq2,hb1⟩
 have z2:=hb1.size
 try simp at z2
 have b1:Blk w1 w.heap.size #[.bool true,.slice pa la ca] 206:=blkAny
 have b2:Blk w1 (w.heap.size+1) #[.bool false,.slice pb lb cb] 206:=blkAny
 have b3:Blk w1 (w.heap.size+2) #[.bool false,.slice none 0 0] 206:=blkAny
 have b4:Blk w1 (w.heap.size+3) #[.bool false,.slice none 0 0] 206:=blkAny
 have hW:Below w.heap.size w w1:=belowAny
 have z3:=b1.lt
 have z4:=b2.lt
 have z5:=b3.lt
 have z6:=b4.lt
 have k1:=b1.cell
 have f1:=b1.frozen
 have k2:=b2.cell
 have f2:=b2.frozen
 have k3:=b3.cell
 have f3:=b3.frozen
 have k4:=b4.cell
 have f4:=b4.frozen
 rw[hQ.out] at hq1
 rw[hR.out] at hq2
 obtain⟨p1,l1,k1',rfl,_,hl1⟩:=bits_len hq1
 obtain⟨p2,l2,k2',rfl,hpos,hl2⟩:=bits_len hq2
 obtain⟨j,hj⟩:∃j,l2.length=j+1:=⟨l2.length-1,by omega⟩
 rw[hj] at hq2
 rw[hj]
 clear hpos hl2 hl1 hj
 have hnn:=hb.below (show Below w.heap.size w w1 from by exact belowAny)
 replace hq1:=Hd hq1
 replace hq2:=Hd hq2
 replace hnn:=Hd hnn
 go_upto_region 3 with(fail)
 clear k1 f1 k2 f2 k3 f3 k4 f4
 refine wp_facts (fun W'=>Below w.heap.size w W'/\Blk W' w.heap.size #[.bool true,.slice pa la ca] 206/\Blk W' (w.heap.size+1) #[.bool false,.slice pb lb cb] 206/\Blk W' (w.heap.size+2) #[.bool false,.slice none 0 0] 206/\Blk W' (w.heap.size+3) #[.bool false,.slice none 0 0] 206/\Bits W' (.slice p1 l1.length k1') Q/\Bits W' (.slice p2 (j+1) k2') R/\Bits W' (.slice pb lb cb) n) ⟨by exact belowAny,by exact blkAny,by exact blkAny,by exact blkAny,by exact blkAny,by exact hq1.out.below belowAny,by exact hq2.out.below belowAny,by exact hnn.out.below belowAny⟩ ?_
 clear b1 b2 b3 b4 hW
 rintro W7 ⟨hW,b1,b2,b3,b4,b5,b6,b7⟩
 have z8:=hW.size
 have z9:=b1.lt
 have z10:=b2.lt
 have z11:=b3.lt
 have z12:=b4.lt
 clear hq1 hq2 hnn
 refine wp_region_nd 9 38 [] (fun W'=>Rex [] W7 W'/\Blk W' w.heap.size #[.bool true,.slice pa la ca] 206/\Blk W' (w.heap.size+1) #[.bool false,.slice pb lb cb] 206/\Blk W' (w.heap.size+2) #[.bool false,.slice none 0 0] 206/\Blk W' (w.heap.size+3) #[.bool false,.slice none 0 0] 206/\Bits W' (.slice p1 l1.length k1') Q/\Bits W' (.slice p2 (j+1) k2') R/\Bits W' (.slice pb lb cb) n) mixed (by kernel_rfl) rfl ⟨(Rex.refl _ _).drew,b1,b2,b3,b4,b5.drew,b6.drew,b7.drew⟩ (fun w w' ⟨h0,h1,h2,h3,h4,h5,h6,h7⟩ hr=>⟨h0.trans hr,h1.rex hr (by simp<;>omega),h2.rex hr (by simp<;>omega),h3.rex hr (by simp<;>omega),h4.rex hr (by simp<;>omega),h5.rex hr (by simp<;>omega),h6.rex hr (by simp<;>omega),h7.rex hr (by simp<;>omega)⟩) (fun c a d v w h=>by cases d<;>exact h) ?_
 iterate 1
  apply nd_det (hg:=rfl) (hal:=rfl)
  ·intro a W' hC hE
   obtain⟨_,k1,k2,k3,k4,k5,k6,k7⟩:=hC
   have k1:=k1.cell
   have k2:=k2.cell
   first
    |(simp at hE;simp[go_sem,Act.eval,iw,hE,k1,k2,k3,k4,k5,k6,k7];try rfl)
    |(clear hE;simp[go_sem,Act.eval,iw,k1,k2,k3,k4,k5,k6,k7];try rfl)
 apply nd_call (BS 1) (hg:=rfl) (hal:=rfl)
 ·exact BS.closed _
 ·intro a W' hC hE
  clear hE
  refine⟨_,_,?_,(c_Size 1 W' (by omega)).mono ?_⟩
  ·simp[go_sem,Act.eval]
   try rfl
  ·rintro e w' ⟨v,rfl,hB,hR⟩
   exact⟨_,rfl,hR,hB⟩
 apply nd_call (BS (Q+1)) (hg:=rfl) (hal:=rfl)
 ·exact BS.closed _
 ·intro a W' hC hE
  simp at hE
  refine⟨_,_,?_,(c_plus (.slice p1 l1.length k1') _ Q 1 W' hC.2.2.2.2.2.1 hE.2 hQ9 (by omega)).mono ?_⟩
  ·simp[go_sem,Act.eval,hE.1]
   try rfl
  ·rintro e w' ⟨v,rfl,hB,hR⟩
   exact⟨_,rfl,hR,hB⟩
 apply nd_call (NS true (Q+1)) (hg:=rfl) (hal:=rfl)
 ·exact NS.closed _ _
 ·intro a W' hC hE
  simp at hE
  refine⟨_,_,?_,(c_refmade true _ (Q+1) W' hE).mono ?_⟩
  ·simp[go_sem,Act.eval]
   try rfl
  ·rintro e w' ⟨rfl,hR⟩
   have hb:=BS.below hE hR
   exact⟨_,rfl,hR,_,rfl,hb⟩
 iterate 3
  apply nd_det (hg:=rfl) (hal:=rfl)
  ·intro a W' hC hE
   obtain⟨_,k1,k2,k3,k4,k5,k6,k7⟩:=hC
   have k1:=k1.cell
   have k2:=k2.cell
   first
    |(simp at hE;simp[go_sem,Act.eval,iw,hE,k1,k2,k3,k4,k5,k6,k7];try rfl)
    |(clear hE;simp[go_sem,Act.eval,iw,k1,k2,k3,k4,k5,k6,k7];try rfl)
 apply nd_call (BS (n-R)) (hg:=rfl) (hal:=rfl)
 ·exact BS.closed _
 ·intro a W' hC hE
  simp at hE
  refine⟨_,_,?_,(c_minus (.slice pb lb cb) (.slice p2 (j+1) k2') n R W' hC.2.2.2.2.2.2.2 hC.2.2.2.2.2.2.1 hn9 hRn).mono ?_⟩
  ·simp[go_sem,Act.eval,hE]
   try rfl
  ·rintro e w' ⟨v,rfl,hB,hR⟩
   exact⟨_,rfl,hR,hB⟩
 apply nd_call (NS false (n-R)) (hg:=rfl) (hal:=rfl)
 ·exact NS.closed _ _
 ·intro a W' hC hE
  simp at hE
  refine⟨_,_,?_,(c_refmade false _ (n-R) W' hE).mono ?_⟩
  ·simp[go_sem,Act.eval]
   try rfl
  ·rintro e w' ⟨rfl,hR⟩
   have hb:=BS.below hE hR
   exact⟨_,rfl,hR,_,rfl,hb⟩
 rintro W2 ⟨hR',d1,d2,d3,d4,d5,d6,d7⟩
 simp only[ndFinR,Det,forall_eq]
 intros
 repeat (rename GDet _ _ _ _=>hgd;clear hgd)
 simp only[nS]
 clear b1 b2 b3 b4 b5 b6 b7
 have b1:=d1
 have b2:=d2
 have b3:=d3
 have b4:=d4
 clear d1 d2 d3 d4 d5 d6 d7
 obtain⟨sz1,rfl,hy1⟩:= ‹NS true _ _ _›
 obtain⟨sz2,rfl,hy2⟩:= ‹NS false _ _ _›
 obtain⟨p3,l3,k3',rfl,_,hl3⟩:=bits_len hy1
 obtain⟨p4,l4,k4',rfl,_,hl4⟩:=bits_len hy2
 replace hy1:=Hd hy1
 replace hy2:=Hd hy2
 replace hW:=hW.trans (hR'.of_priv hW.size)
 clear hR' hl3 hl4
 have k1:=b1.cell
 have f1:=b1.frozen
 have k2:=b2.cell
 have f2:=b2.frozen
 have k3:=b3.cell
 have f3:=b3.frozen
 have k4:=b4.cell
 have f4:=b4.frozen
 have y_1:=b1.lt
 have y_2:=b2.lt
 have y_3:=b3.lt
 have y_4:=b4.lt
 obtain⟨B,hB⟩:∃B,B=(true&&decide (0<Q+1)):=⟨_,rfl⟩
 rw[<-hB]
 replace hB:=Hd hB
 obtain⟨C,hC⟩:∃C,C=(false&&decide (0<n-R)):=⟨_,rfl⟩
 rw[<-hC]
 replace hC:=Hd hC
 go_wp2
 refine bodyPost_ret (v:= .tuple #[.agg #[.bool B,.slice p3 l3.length k3'],.agg #[.bool C,.slice p4 l4.length k4']]) (by simp[results,Tryz.results193,go_sem,k1,f1,k2,f2,k3,f3,k4,f4,y_1,y_2,y_3,y_4]) rfl ⟨.slice p3 l3.length k3',.slice p4 l4.length k4',by rw[hB.out,hC.out];simp,?_,?_,by exact belowAny⟩
 ·have hS:=(hy1.out.store b3 (.bool B) (.slice p3 l3.length k3')).store (show Blk _ (w.heap.size+3) #[.bool false,.slice none 0 0] 206 from (b4.setO (by omega) 0 _).setO (by omega) 1 _) (.bool C) (.slice p4 l4.length k4')
  simpa using hS
 ·have hS:=(hy2.out.store b3 (.bool B) (.slice p3 l3.length k3')).store (show Blk _ (w.heap.size+3) #[.bool false,.slice none 0 0] 206 from (b4.setO (by omega) 0 _).setO (by omega) 1 _) (.bool C) (.slice p4 l4.length k4')
  simpa using hS
theorem c_rback (v:Int) (w:World):
  Cb 147 #[.int .i64 v] w (.bool (isBack v)):=by
 unfold isBack
 go_enter Tryz.func147,Tryz.ntmps147
 go_upto_region 1 with(fail)
 refine wp_region_sq 6 9 [] (fun W'=>Rex [] w W') (by kernel_rfl) rfl (Rex.refl _ _) (fun w w' h0 hr=>h0.trans hr) ?_
 iterate 3
  apply nd_det (hg:=rfl) (hal:=rfl)
  ·intro a W' hC hE
   obtain _:=hC
   first
    |(simp at hE;simp[go_sem,Act.eval,iw,hE];try rfl)
    |(clear hE;simp[go_sem,Act.eval,iw];try rfl)
 iterate 2
  apply nd_detg (p:=true) (hg:=rfl) (hd:=rfl) (hal:=rfl)
  ·intro v W' h
   simp[envOf,Det,GDet] at h
   simp
   exact h
  ·intro hp hx a W' hC hE
   obtain _:=hC
   simp[hx] at hE
   simp[go_sem,Act.eval,iw,hE]
   try rfl
 apply nd_pick_and (ho:=rfl) (hg:=rfl)
 ·intro v W' h
  simp at h
  exact h
 ·intro v W' h hx
  simp[hx] at h
  exact h
 rintro W2 hR
 simp only[ndFinR,Det,forall_eq]
 intros
 repeat (rename GDet _ _ _ _=>hgd;clear hgd)
 simp only[nS]
 go_wp2
 go_ret
 exact⟨rfl,hR.of_priv (Nat.le_refl _)⟩
theorem c_rslope (n d:Int) (w:World):
  Cb 148 #[.agg #[.int .i64 n,.int .i64 d]] w (.bool (isSlope n d)):=by
 unfold isSlope
 go_enter Tryz.func148,Tryz.ntmps148
 go_upto_region 1 with(fail)
 refine wp_facts (fun W=>Below w.heap.size w W/\Blk W w.heap.size #[.int .i64 n,.int .i64 d] 186) ⟨(Below.refl _ _).alloc (Nat.le_refl _) _,(by repeat (first|(refine Blk.new' ?_;simp;done)|refine Blk.alloc ?_ _))⟩ ?_
 rintro W ⟨hW,b1⟩
 refine wp_region_sq 18 21 [] (fun W'=>Rex [] W W'/\Blk W' w.heap.size #[.int .i64 n,.int .i64 d] 186) (by kernel_rfl) rfl ⟨(Rex.refl _ _),b1⟩ (fun w w' ⟨h0,h1⟩ hr=>⟨h0.trans hr,h1.rex hr (by simp<;>omega)⟩) ?_
 iterate 18
  first
  |(
   apply nd_det (hg:=rfl) (hal:=rfl)
   ·intro a W' hC hE
    obtain⟨_,k1⟩:=hC
    have k1:=k1.cell
    first
     |(simp at hE;simp[go_sem,Act.eval,iw,hE,k1];try rfl)
     |(clear hE;simp[go_sem,Act.eval,iw,k1];try rfl))
  |(
   apply nd_detg (p:=true) (hg:=rfl) (hd:=rfl) (hal:=rfl)
   ·intro v W' h
    simp[envOf,Det,GDet] at h
    simp
    exact h
   ·intro hp hx a W' hC hE
    obtain⟨_,k1⟩:=hC
    have k1:=k1.cell
    simp[hx] at hE
    simp[go_sem,Act.eval,iw,hE,k1]
    try rfl)
  |(
   apply nd_pick_and (ho:=rfl) (hg:=rfl)
   ·intro v W' h
    simp at h
    exact h
   ·intro v W' h hx
    simp[hx] at h
    exact h)
 rintro W2 ⟨hR,c1⟩
 simp only[ndFinR,Det,forall_eq]
 intros
 repeat (rename GDet _ _ _ _=>hgd;clear hgd)
 simp only[nS]
 go_wp2
 go_ret
 exact⟨rfl,hW.trans (hR.of_priv hW.size)⟩
structure Gcd2 (a b m n:Int):Prop where
 m0:0<=m
 m1:m<=9223372036854775807
 n0:0<=n
 n1:n<=9223372036854775807
 eq:Nat.gcd m.natAbs n.natAbs=Nat.gcd a.natAbs b.natAbs
theorem Gcd2.left {a b m n:Int} (h:Gcd2 a b m n) (hn:0<n):Gcd2 a b (m%n) n/\m%n<n:=by
 have l1:=Int.emod_nonneg m (show n≠0 by omega)
 have l2:=Int.emod_lt_of_pos m hn
 have:=h.n1
 refine⟨⟨l1,by omega,h.n0,h.n1,?_⟩,l2⟩
 rw[<-h.eq]
 obtain⟨m,rfl⟩:=Int.eq_ofNat_of_zero_le h.m0
 obtain⟨n,rfl⟩:=Int.eq_ofNat_of_zero_le h.n0
 show Nat.gcd (m%n) n=Nat.gcd m n
 rw[Nat.gcd_comm m n,<-Nat.gcd_rec]
theorem Gcd2.right {a b m n:Int} (h:Gcd2 a b m n) (hm:0<m):Gcd2 a b m (n%m)/\n%m<m:=by
 have l1:=Int.emod_nonneg n (show m≠0 by omega)
 have l2:=Int.emod_lt_of_pos n hm
 have:=h.m1
 refine⟨⟨h.m0,h.m1,l1,by omega,?_⟩,l2⟩
 rw[<-h.eq]
 obtain⟨m,rfl⟩:=Int.eq_ofNat_of_zero_le h.m0
 obtain⟨n,rfl⟩:=Int.eq_ofNat_of_zero_le h.n0
 show Nat.gcd m (n%m)=Nat.gcd m n
 rw[Nat.gcd_comm m (n%m),Nat.gcd_rec m n]
theorem Gcd2.done {a b m n:Int} (h:Gcd2 a b m n) (hz:m=0∨n=0):m+n=(Nat.gcd a.natAbs b.natAbs:Int):=by
 rw[<-h.eq]
 have:=h.m0;have:=h.n0
 rcases hz with rfl|rfl<;>simp<;>omega
def comRel (a b:Int) (w:World) (a':Act) (W:World):Prop:=W=w/\∃(m n:Int),(∃u:Nat->Value,a'= {tmps:= #[.int .i64 m,.int .i64 n,u 2,u 3,.int .i64 0,u 5,u 6,u 7,u 8,u 9,u 10,u 11,u 12,u 13,u 14,u 15,u 16,u 17,u 18,u 19,u 20,u 21,u 22,u 23,u 24,u 25,u 26],defers:= []})/\Gcd2 a b m n
theorem c_common (a b:Int) (w:World) (ha: -9223372036854775807<=a/\a<=9223372036854775807) (hb:0<=b/\b<=9223372036854775807):
  Calls Tryz.prog 192 #[.int .i64 a,.int .i64 b] w fun e w'=>e= .returned (.int .i64 (Nat.gcd a.natAbs b.natAbs))/\w'=w:=by
 go_enter Tryz.func192,Tryz.ntmps192
 have start:∀m,(m=a∨m= -a)->0<=m->Gcd2 a b m b:=by
  rintro m (rfl|rfl) h
  ·exact⟨h,ha.2,hb.1,hb.2,rfl⟩
  ·exact⟨h,by omega,hb.1,hb.2,by rw[Int.natAbs_neg]⟩
 by_cases h:a<0
 ·go_wp2
  refine wp_loop (comRel a b w) (fun x _=>(intAt (x.tmps.getD 0 undef)).toNat+(intAt (x.tmps.getD 1 undef)).toNat) ?_ ?_
  ·unfold comRel
   exact⟨rfl,-a,b,frame_ex rfl,start _ (.inr rfl) (by omega)⟩
  rintro a' W ⟨rfl,m,n,⟨u,rfl⟩,hs⟩
  have m0:=hs.m0;have m1:=hs.m1;have n0:=hs.n0;have n1:=hs.n1
  by_cases hm:0<m
  ·by_cases hn:0<n
   ·by_cases hmn:n<m
    ·have hq:=hs.left hn
     have hn0:¬n=0:=by omega
     go_wp2
     have hq2:=hq.2
     refine⟨?_,by simp[intAt];omega⟩
     unfold comRel
     exact⟨rfl,m%n,n,frame_ex rfl,hq.1⟩
    ·have hq:=hs.right hm
     have hm0:¬m=0:=by omega
     go_wp2
     have hq2:=hq.2
     refine⟨?_,by simp[intAt];omega⟩
     unfold comRel
     exact⟨rfl,m,n%m,frame_ex rfl,hq.1⟩
   ·have hd:=Hd (hs.done (.inr (by omega)))
    go_wp2
    go_ret
    exact⟨by rw[<-hd.out];rfl,rfl⟩
  ·have hd:=Hd (hs.done (.inl (by omega)))
   go_wp2
   go_ret
   exact⟨by rw[<-hd.out];rfl,rfl⟩
 ·go_wp2
  refine wp_loop (comRel a b w) (fun x _=>(intAt (x.tmps.getD 0 undef)).toNat+(intAt (x.tmps.getD 1 undef)).toNat) ?_ ?_
  ·unfold comRel
   exact⟨rfl,a,b,frame_ex rfl,start _ (.inl rfl) (by omega)⟩
  rintro a' W ⟨rfl,m,n,⟨u,rfl⟩,hs⟩
  have m0:=hs.m0;have m1:=hs.m1;have n0:=hs.n0;have n1:=hs.n1
  by_cases hm:0<m
  ·by_cases hn:0<n
   ·by_cases hmn:n<m
    ·have hq:=hs.left hn
     have hn0:¬n=0:=by omega
     go_wp2
     have hq2:=hq.2
     refine⟨?_,by simp[intAt];omega⟩
     unfold comRel
     exact⟨rfl,m%n,n,frame_ex rfl,hq.1⟩
    ·have hq:=hs.right hm
     have hm0:¬m=0:=by omega
     go_wp2
     have hq2:=hq.2
     refine⟨?_,by simp[intAt];omega⟩
     unfold comRel
     exact⟨rfl,m,n%m,frame_ex rfl,hq.1⟩
   ·have hd:=Hd (hs.done (.inr (by omega)))
    go_wp2
    go_ret
    exact⟨by rw[<-hd.out];rfl,rfl⟩
  ·have hd:=Hd (hs.done (.inl (by omega)))
   go_wp2
   go_ret
   exact⟨by rw[<-hd.out];rfl,rfl⟩
theorem rlowest_w (n d g x y:Int) (w:World) (hg:¬g=0) (e1:wrap64 (n.tdiv g)=x) (e2:wrap64 (d.tdiv g)=y)
  (c1:∀w,Calls Tryz.prog 192 #[.int .i64 n,.int .i64 d] w fun e w'=>e= .returned (.int .i64 g)/\w'=w):
  Cb 149 #[.agg #[.int .i64 n,.int .i64 d]] w (.agg #[.int .i64 x,.int .i64 y]):=by
 go_enter Tryz.func149,Tryz.ntmps149
 go_wp2_with fail
 refine(c1 _).mono ?_
 rintro e w1 ⟨rfl,rfl⟩
 clear c1
 go_upto_region 2 with(fail)
 refine wp_facts (fun W=>Below w.heap.size w W/\Blk W w.heap.size #[.int .i64 n,.int .i64 d] 186/\Blk W (w.heap.size+1) #[.int .i64 0,.int .i64 0] 186) ⟨?_,(by repeat (first|(refine Blk.new' ?_;simp;done)|refine Blk.alloc ?_ _)),(by repeat (first|(refine Blk.new' ?_;simp;done)|refine Blk.alloc ?_ _))⟩ ?_
 ·exact(have hUp:=(Below.refl w.heap.size w);belowAny)
 rintro W ⟨hW,b1,b2⟩
 refine wp_region_nd 9 18 [] (fun W'=>Rex [] W W'/\Blk W' w.heap.size #[.int .i64 n,.int .i64 d] 186/\Blk W' (w.heap.size+1) #[.int .i64 0,.int .i64 0] 186) mixed (by kernel_rfl) rfl ⟨(Rex.refl _ _).drew,b1,b2⟩ (fun w w' ⟨h0,h1,h2⟩ hr=>⟨h0.trans hr,h1.rex hr (by simp<;>omega),h2.rex hr (by simp<;>omega)⟩) (fun c a d v w h=>by cases d<;>exact h) ?_
 iterate 9
  apply nd_det (hg:=rfl) (hal:=rfl)
  ·intro a W' hC hE
   obtain⟨_,k1,k2⟩:=hC
   have k1:=k1.cell
   first
    |(simp at hE;simp[go_sem,Act.eval,iw,hE,k1,k2,hg,e1,e2];try rfl)
    |(clear hE;simp[go_sem,Act.eval,iw,k1,k2,hg,e1,e2];try rfl)
 rintro W2 ⟨hR,c1,c2⟩
 simp only[ndFinR,Det,forall_eq]
 intros
 repeat (rename GDet _ _ _ _=>hgd;clear hgd)
 simp only[nS]
 have k2:=c2.cell
 have k3:=c2.frozen
 go_wp2
 refine bodyPost_ret (v:= .agg #[.int .i64 x,.int .i64 y]) (by simp[results,Tryz.results149,go_sem,k2,k3]) rfl ⟨rfl,?_⟩
 exact(have hUp:=(hW.trans (hR.of_priv hW.size));belowAny)
theorem c_rlowest (n d:Int) (w:World) (hn: -9223372036854775807<=n/\n<=9223372036854775807) (hd:1<=d) (hd':d<=9223372036854775807):
  Cb 149 #[.agg #[.int .i64 n,.int .i64 d]] w (.agg #[.int .i64 (n.tdiv (gcdI n d)),.int .i64 (d.tdiv (gcdI n d))]):=by
 have hg:=gcdI_pos n hd
 exact rlowest_w n d (gcdI n d) _ _ w (by omega) (tdiv_small n _ ⟨by omega,hn.2⟩ hg) (tdiv_small d _ ⟨by omega,hd'⟩ hg) (fun w=>c_common n d w hn ⟨by omega,hd'⟩)
theorem c_rline (A R n d:Int) (w:World):
  Cb 115 #[.agg #[.int .i64 A,.int .i64 R,.int .i64 n,.int .i64 d]] w (.bool (isLine A R n d)):=by
 rw[isLine_eq]
 go_enter Tryz.func115,Tryz.ntmps115
 go_upto_region 2 with(fail)
 refine wp_facts (fun W=>Below w.heap.size w W/\Blk W w.heap.size #[.int .i64 A,.int .i64 R,.int .i64 n,.int .i64 d] 46/\Blk W (w.heap.size+1) #[.int .i64 n,.int .i64 d] 186) ⟨by exact belowAny,by exact blkAny2,by exact blkAny2⟩ ?_
 rintro W ⟨hW,b1,b2⟩
 refine wp_region_nd 25 34 [] (fun W'=>Rex [] W W'/\Blk W' w.heap.size #[.int .i64 A,.int .i64 R,.int .i64 n,.int .i64 d] 46/\Blk W' (w.heap.size+1) #[.int .i64 n,.int .i64 d] 186) mixed (by kernel_rfl) rfl ⟨(Rex.refl _ _).drew,b1,b2⟩ (fun w w' ⟨h0,h1,h2⟩ hr=>⟨h0.trans hr,h1.rex hr (by simp<;>omega),h2.rex hr (by simp<;>omega)⟩) (fun c a d v w h=>by cases d<;>exact h) ?_
 iterate 2
  apply nd_det (hg:=rfl) (hal:=rfl)
  ·intro a W' hC hE
   obtain⟨_,k1,k2⟩:=hC
   have k1:=k1.cell
   have k2:=k2.cell
   first
    |(simp at hE;simp[go_sem,Act.eval,iw,hE,k1,k2,ite_eq2];try rfl)
    |(clear hE;simp[go_sem,Act.eval,iw,k1,k2,ite_eq2];try rfl)
 refine nd_callv2 rfl rfl (fun W' hC=>c_rback A W') (fun a W' hC hE=> ?_) ?_
 ·obtain⟨_,k1,k2⟩:=hC
  have k1:=k1.cell
  have k2:=k2.cell
  first
   |(simp at hE;simp[go_sem,Act.eval,iw,hE,k1,k2,ite_eq2];try rfl)
   |(clear hE;simp[go_sem,Act.eval,iw,k1,k2,ite_eq2];try rfl)
 iterate 1
  apply nd_det (hg:=rfl) (hal:=rfl)
  ·intro a W' hC hE
   obtain⟨_,k1,k2⟩:=hC
   have k1:=k1.cell
   have k2:=k2.cell
   first
    |(simp at hE;simp[go_sem,Act.eval,iw,hE,k1,k2,ite_eq2];try rfl)
    |(clear hE;simp[go_sem,Act.eval,iw,k1,k2,ite_eq2];try rfl)
 iterate 1
  apply nd_detg (p:=true) (hg:=rfl) (hd:=rfl) (hal:=rfl)
  ·intro v W' h
   simp[envOf,Det,GDet] at h
   simp
   exact h
  ·intro hp hx a W' hC hE
   obtain⟨_,k1,k2⟩:=hC
   have k1:=k1.cell
   have k2:=k2.cell
   simp[hx] at hE
   simp[go_sem,Act.eval,iw,hE,k1,k2,ite_eq2]
   try rfl
 apply nd_callvg2 (p:=true) (hg:=rfl) (hd:=rfl) (hal:=rfl)
 ·intro v W' h
  simp at h
  simp
  exact h
 ·intro hp hx W' hC
  exact c_rslope n d W'
 ·intro hp hx a W' hC hE
  obtain⟨_,k1,k2⟩:=hC
  have k1:=k1.cell
  have k2:=k2.cell
  first
   |(simp[hx] at hE;simp[go_sem,Act.eval,iw,hE,k1,k2,ite_eq2];try rfl)
   |(clear hE;simp[go_sem,Act.eval,iw,k1,k2,ite_eq2];try rfl)
 apply nd_pick_and (ho:=rfl) (hg:=rfl)
 ·intro v W' h
  simp at h
  exact h
 ·intro v W' h hx
  simp[hx] at h
  exact h
 iterate 1
  apply nd_det (hg:=rfl) (hal:=rfl)
  ·intro a W' hC hE
   obtain⟨_,k1,k2⟩:=hC
   have k1:=k1.cell
   have k2:=k2.cell
   first
    |(simp at hE;simp[go_sem,Act.eval,iw,hE,k1,k2,ite_eq2];try rfl)
    |(clear hE;simp[go_sem,Act.eval,iw,k1,k2,ite_eq2];try rfl)
 iterate 1
  apply nd_detg (p:=true) (hg:=rfl) (hd:=rfl) (hal:=rfl)
  ·intro v W' h
   simp[envOf,Det,GDet] at h
   simp
   exact h
  ·intro hp hx a W' hC hE
   obtain⟨_,k1,k2⟩:=hC
   have k1:=k1.cell
   have k2:=k2.cell
   simp[hx] at hE
   simp[go_sem,Act.eval,iw,hE,k1,k2,ite_eq2]
   try rfl
 apply nd_callvg2 (p:=true) (hg:=rfl) (hd:=rfl) (hal:=rfl)
 ·intro v W' h
  simp at h
  simp
  exact h
 ·intro hp hx W' hC
  exact(let q:=isSlope_bd (show isSlope n d=true by simp at hx;exact hx.2);c_rlowest n d W' ⟨by have:=q.1;omega,by have:=q.1;omega⟩ q.2.1 (by have:=q.2.2;omega))
 ·intro hp hx a W' hC hE
  obtain⟨_,k1,k2⟩:=hC
  have k1:=k1.cell
  have k2:=k2.cell
  first
   |(simp[hx] at hE;simp[go_sem,Act.eval,iw,hE,k1,k2,ite_eq2];try rfl)
   |(clear hE;simp[go_sem,Act.eval,iw,k1,k2,ite_eq2];try rfl)
 iterate 15
  first
  |(
   apply nd_detg (p:=true) (hg:=rfl) (hd:=rfl) (hal:=rfl)
   ·intro v W' h
    simp[envOf,Det,GDet] at h
    simp
    exact h
   ·intro hp hx a W' hC hE
    obtain⟨_,k1,k2⟩:=hC
    have k1:=k1.cell
    have k2:=k2.cell
    simp[hx] at hE
    simp[go_sem,Act.eval,iw,hE,k1,k2,ite_eq2]
    try rfl)
  |(
   apply nd_pick_and (ho:=rfl) (hg:=rfl)
   ·intro v W' h
    simp at h
    exact h
   ·intro v W' h hx
    simp[hx] at h
    exact h)
  |(
   apply nd_det (hg:=rfl) (hal:=rfl)
   ·intro a W' hC hE
    obtain⟨_,k1,k2⟩:=hC
    have k1:=k1.cell
    have k2:=k2.cell
    first
     |(simp at hE;simp[go_sem,Act.eval,iw,hE,k1,k2,ite_eq2];try rfl)
     |(clear hE;simp[go_sem,Act.eval,iw,k1,k2,ite_eq2];try rfl))
 rintro W2 ⟨hR,c1,c2⟩
 simp only[ndFinR,Det,forall_eq]
 intros
 repeat (rename GDet _ _ _ _=>hgd;clear hgd)
 simp only[nS]
 go_wp2
 go_ret
 exact⟨rfl,hW.trans (hR.of_priv hW.size)⟩
def NI (z:Int):Spec:=fun v w=>NumIs w v z
theorem NI.closed (z:Int):Closed [] (NI z):=fun _ _ _ hr h=>NumIs.rex h hr rfl
theorem divN {m n Q R:Nat} (hn:0<n) (hQ:m/n=Q) (hR:m%n=R):(m:Int)/(n:Int)=Q/\(m:Int)%(n:Int)=R:=by
 subst hQ hR;exact⟨by simp,by simp⟩
theorem divN0 {m n Q:Nat} (hn:0<n) (hQ:m/n=Q) (hR:m%n=0):(-(m:Int))/(n:Int)= -(Q:Int)/\(-(m:Int))%(n:Int)=0:=by
 have h:=Nat.div_add_mod m n
 rw[hQ,hR] at h
 refine(Int.ediv_emod_unique (by omega)).2 ⟨?_,by omega,by omega⟩
 have:((n*Q:Nat):Int)=m:=by omega
 rw[Int.natCast_mul] at this
 rw[Int.mul_neg];omega
theorem divN1 {m n Q R:Nat} (hn:0<n) (hQ:m/n=Q) (hR:m%n=R) (h0:0<R):(-(m:Int))/(n:Int)= -((Q+1:Nat):Int)/\(-(m:Int))%(n:Int)=((n-R:Nat):Int):=by
 have h:=Nat.div_add_mod m n
 have hl:=Nat.mod_lt m hn
 rw[hQ,hR] at h
 rw[hR] at hl
 refine(Int.ediv_emod_unique (by omega)).2 ⟨?_,by omega,by omega⟩
 have:((n*Q:Nat):Int)+R=m:=by omega
 rw[Int.natCast_mul] at this
 rw[Int.mul_neg,show ((Q+1:Nat):Int)=(Q:Int)+1 by omega,Int.mul_add]
 omega
theorem c_refDiv (va vb:Value) (x y:Int) (w:World) (ha:NumIs w va x) (hb:NumIs w vb y) (hx:x.natAbs<2^800) (hy0:0<y) (hy:y.natAbs<2^800):
  Calls Tryz.prog 193 #[va,vb] w fun e w'=>∃v1 v2,e= .returned (.tuple #[v1,v2])/\NumIs w' v1 (x/y)/\NumIs w' v2 (x%y)/\Below w.heap.size w w':=by
 obtain⟨pa,la,ca,rfl,ha'⟩:=num_shape ha
 obtain⟨pb,lb,cb,rfl,hb'⟩:=num_shape hb
 rw[decide_eq_false (show¬y<0 by omega)]
 obtain⟨n,rfl⟩:∃n:Nat,y=(n:Int):=⟨y.toNat,by omega⟩
 have hn0:0<n:=by omega
 rw[Int.natAbs_natCast] at hb' hy
 obtain⟨Q,hQ⟩:∃Q,x.natAbs/n=Q:=⟨_,rfl⟩
 obtain⟨R,hR⟩:∃R,x.natAbs%n=R:=⟨_,rfl⟩
 by_cases hneg:x<0
 ·rw[decide_eq_true hneg]
  obtain⟨m,rfl⟩:∃m:Nat,x= -(m:Int):=⟨x.natAbs,by omega⟩
  rw[Int.natAbs_neg,Int.natAbs_natCast] at ha' hx hQ hR
  rcases Nat.eq_zero_or_pos R with h0|h0
  ·refine(div_zero pa pb la ca lb cb m n Q R w ha' hb' hx (Hd hQ) (Hd hR) hn0 hy h0).mono ?_
   rintro e w' ⟨s1,s2,rfl,h1,h2,hB⟩
   subst h0
   obtain⟨e1,e2⟩:=divN0 hn0 hQ hR
   rw[e1,e2]
   refine⟨_,_,rfl,num_made h1 (by omega) ?_,⟨s2,rfl,h2⟩,hB⟩
   rw[Bool.true_and];exact decide_eq_decide.2 ⟨fun h=>by omega,fun h=>by omega⟩
  ·have hl:=Nat.mod_lt m hn0
   rw[hR] at hl
   have hQm:Q<=m:=by rw[<-hQ];exact Nat.div_le_self _ _
   have big:=pow_lt2 800 900 (by omega)
   refine(div_rest pa pb la ca lb cb m n Q R w ha' hb' hx (Hd hQ) (Hd hR) hn0 hy h0 (by omega) (by omega) (by omega)).mono ?_
   rintro e w' ⟨s1,s2,rfl,h1,h2,hB⟩
   obtain⟨e1,e2⟩:=divN1 hn0 hQ hR h0
   rw[e1,e2]
   refine⟨_,_,rfl,⟨s1,by rw[decide_eq_true (show-((Q+1:Nat):Int)<0 by omega)],by rw[Int.natAbs_neg,Int.natAbs_natCast];exact h1⟩,⟨s2,by rw[decide_eq_false (show¬((n-R:Nat):Int)<0 by omega)],by rw[Int.natAbs_natCast];exact h2⟩,hB⟩
 ·rw[decide_eq_false hneg]
  obtain⟨m,rfl⟩:∃m:Nat,x=(m:Int):=⟨x.toNat,by omega⟩
  rw[Int.natAbs_natCast] at ha' hx hQ hR
  refine(div_plain false pa pb la ca lb cb m n Q R w ha' hb' hx (Hd hQ) (Hd hR) hn0 hy rfl).mono ?_
  rintro e w' ⟨s1,s2,rfl,h1,h2,hB⟩
  obtain⟨e1,e2⟩:=divN hn0 hQ hR
  rw[e1,e2]
  refine⟨_,_,rfl,⟨s1,by rw[decide_eq_false (show¬(Q:Int)<0 by omega)];rfl,by rw[Int.natAbs_natCast];exact h1⟩,⟨s2,by rw[decide_eq_false (show¬(R:Int)<0 by omega)],by rw[Int.natAbs_natCast];exact h2⟩,hB⟩
theorem rtimes_w (A R n d t:Int) (w:World) (hn: -9223372036854775808<=n/\n<=9223372036854775807) (ht: -9223372036854775808<=t/\t<=9223372036854775807) (hRR: -9223372036854775808<=R/\R<=9223372036854775807) (hA: -9223372036854775808<=A/\A<=9223372036854775807) (hd: -9223372036854775808<=d/\d<=9223372036854775807)
  (hn4:n.natAbs<2^400) (ht4:t.natAbs<2^400) (hA4:A.natAbs<2^400) (hd4:d.natAbs<2^400) (hnt9:(n*t).natAbs<2^900) (hR9:R.natAbs<2^900) (hs9:(n*t+R).natAbs<2^900) (hAd9:(A*d).natAbs<2^900):
  Calls Tryz.prog 194 #[.agg #[.int .i64 A,.int .i64 R,.int .i64 n,.int .i64 d],.int .i64 t] w fun e w'=>∃v,e= .returned v/\NumIs w' v (n*t+R+A*d)/\Below w.heap.size w w':=by
 go_enter Tryz.func194,Tryz.ntmps194
 go_upto_region 1 with(fail)
 refine wp_cutB w (Bc w.heap.size #[.int .i64 A,.int .i64 R,.int .i64 n,.int .i64 d] 46<|Bc (w.heap.size+1) #[.bool false,.slice none 0 0] 206<|Bz) ?_
 rintro W1 hW z2 ⟨⟨b1,yb1,k1,f1⟩,⟨b2,yb2,k2,f2⟩,-⟩
 refine wp_region_nd 11 25 [] (fun W'=>Rex [] W1 W'/\Blk W' w.heap.size #[.int .i64 A,.int .i64 R,.int .i64 n,.int .i64 d] 46/\Blk W' (w.heap.size+1) #[.bool false,.slice none 0 0] 206) mixed (by kernel_rfl) rfl ⟨(Rex.refl _ _).drew,b1,b2⟩ (fun w w' ⟨h0,h1,h2⟩ hr=>⟨h0.trans hr,h1.rex hr (by simp<;>omega),h2.rex hr (by simp<;>omega)⟩) (fun c a d v w h=>by cases d<;>exact h) ?_
 iterate 2
  apply nd_det (hg:=rfl) (hal:=rfl)
  ·intro a W' hC hE
   obtain⟨_,k1,k2⟩:=hC
   have k1:=k1.cell
   first
    |(simp at hE;simp[go_sem,Act.eval,iw,hE,k1,k2];try rfl)
    |(clear hE;simp[go_sem,Act.eval,iw,k1,k2];try rfl)
 apply nd_call (NI (n)) (hg:=rfl) (hal:=rfl)
 ·exact NI.closed _
 ·intro a W' hC hE
  simp at hE
  refine⟨_,_,?_,(c_refInt n W' hn.1 hn.2).mono ?_⟩
  ·simp[go_sem,Act.eval,hE]
   try rfl
  ·rintro e w' ⟨v,rfl,hB,hR⟩
   exact⟨_,rfl,hR,hB⟩
 iterate 1
  apply nd_det (hg:=rfl) (hal:=rfl)
  ·intro a W' hC hE
   obtain⟨_,k1,k2⟩:=hC
   have k1:=k1.cell
   first
    |(simp at hE;simp[go_sem,Act.eval,iw,hE,k1,k2];try rfl)
    |(clear hE;simp[go_sem,Act.eval,iw,k1,k2];try rfl)
 apply nd_call (NI (t)) (hg:=rfl) (hal:=rfl)
 ·exact NI.closed _
 ·intro a W' hC hE
  simp at hE
  refine⟨_,_,?_,(c_refInt t W' ht.1 ht.2).mono ?_⟩
  ·simp[go_sem,Act.eval,hE]
   try rfl
  ·rintro e w' ⟨v,rfl,hB,hR⟩
   exact⟨_,rfl,hR,hB⟩
 apply nd_call (NI (n*t)) (hg:=rfl) (hal:=rfl)
 ·exact NI.closed _
 ·intro a W' hC hE
  simp at hE
  refine⟨_,_,?_,(c_refMul _ _ n t W' hE.1 hE.2 hn4 ht4).mono ?_⟩
  ·simp[go_sem,Act.eval]
   try rfl
  ·rintro e w' ⟨v,rfl,hB,hR⟩
   exact⟨_,rfl,hR,hB⟩
 iterate 2
  apply nd_det (hg:=rfl) (hal:=rfl)
  ·intro a W' hC hE
   obtain⟨_,k1,k2⟩:=hC
   have k1:=k1.cell
   first
    |(simp at hE;simp[go_sem,Act.eval,iw,hE,k1,k2];try rfl)
    |(clear hE;simp[go_sem,Act.eval,iw,k1,k2];try rfl)
 apply nd_call (NI (R)) (hg:=rfl) (hal:=rfl)
 ·exact NI.closed _
 ·intro a W' hC hE
  simp at hE
  refine⟨_,_,?_,(c_refInt R W' hRR.1 hRR.2).mono ?_⟩
  ·simp[go_sem,Act.eval,hE]
   try rfl
  ·rintro e w' ⟨v,rfl,hB,hR⟩
   exact⟨_,rfl,hR,hB⟩
 apply nd_call (NI (n*t+R)) (hg:=rfl) (hal:=rfl)
 ·exact NI.closed _
 ·intro a W' hC hE
  simp at hE
  refine⟨_,_,?_,(c_refAdd _ _ (n*t) R W' hE.1 hE.2 hnt9 hR9).mono ?_⟩
  ·simp[go_sem,Act.eval]
   try rfl
  ·rintro e w' ⟨v,rfl,hB,hR⟩
   exact⟨_,rfl,hR,hB⟩
 apply nd_alloc W1.heap.size #[.bool false,.slice none 0 0] 206 rfl rfl
 ·exact fun W' hC=>hC.1.size
 ·simp[others]<;>omega
 ·intro w;kernel_rfl
 rintro W2 ⟨hR,d1,d2⟩
 simp only[ndFinR,Det,forall_eq]
 intros
 repeat (rename GDet _ _ _ _=>hgd;clear hgd)
 simp only[nS]
 clear b1 b2
 have b1:=d1
 have b2:=d2
 clear d1 d2
 replace hW:=hW.trans (hR.of_priv hW.size)
 clear hR
 obtain⟨o3,rfl,hg3,b3⟩:= ‹NewVar _ _ _ _ _›
 rename NI (n*t+R) _ _=>hq
 obtain⟨p1,l1,k1',rfl,hq1⟩:=num_shape hq
 replace hq1:=Hd hq1
 clear hq
 have z9:=hW.size
 have z10:=b1.lt
 have z11:=b2.lt
 have z12:=b3.lt
 clear k1 f1 k2 f2
 have k1:=b1.cell
 have f1:=b1.frozen
 have k2:=b2.cell
 have f2:=b2.frozen
 have k3:=b3.cell
 have f3:=b3.frozen
 have hq2:=Hd (hq1.out.store b3 (.bool (decide (n*t+R<0))) (.slice p1 l1 k1'))
 go_upto_region 2 with(fail)
 clear k1 f1 k2 f2 k3 f3
 refine wp_cutB w (Bc w.heap.size #[.int .i64 A,.int .i64 R,.int .i64 n,.int .i64 d] 46<|Bc (w.heap.size+1) #[.bool false,.slice none 0 0] 206<|Bc o3 #[.bool (decide (n*t+R<0)),.slice p1 l1 k1'] 206<|Rc (fun W'=>Bits W' (.slice p1 l1 k1') (n*t+R).natAbs)<|Bz) ?_ (hI:=by exact belowAny) (hR:=(Bc.mk (by exact blkAny2)<|Bc.mk (by exact blkAny2)<|Bc.mk (by exact blkAny2)<|Rc.mk (by exact hq2.out)<|trivial))
 clear b1 b2 b3 hW
 rintro W3 hW z4 ⟨⟨b1,yb1,k1,f1⟩,⟨b2,yb2,k2,f2⟩,⟨b3,yb3,k3,f3⟩,b4,-⟩
 refine wp_region_nd 9 25 [] (fun W'=>Rex [] W3 W'/\Blk W' w.heap.size #[.int .i64 A,.int .i64 R,.int .i64 n,.int .i64 d] 46/\Blk W' (w.heap.size+1) #[.bool false,.slice none 0 0] 206/\Blk W' o3 #[.bool (decide (n*t+R<0)),.slice p1 l1 k1'] 206/\Bits W' (.slice p1 l1 k1') (n*t+R).natAbs) mixed (by kernel_rfl) rfl ⟨(Rex.refl _ _).drew,b1,b2,b3,b4.drew⟩ (fun w w' ⟨h0,h1,h2,h3,h4⟩ hr=>⟨h0.trans hr,h1.rex hr (by simp<;>omega),h2.rex hr (by simp<;>omega),h3.rex hr (by simp<;>omega),h4.rex hr (by simp<;>omega)⟩) (fun c a d v w h=>by cases d<;>exact h) ?_
 iterate 3
  apply nd_det (hg:=rfl) (hal:=rfl)
  ·intro a W' hC hE
   obtain⟨_,k1,k2,k3,k4⟩:=hC
   have k1:=k1.cell
   have k3:=k3.cell
   first
    |(simp at hE;simp[go_sem,Act.eval,iw,hE,k1,k2,k3,k4];try rfl)
    |(clear hE;simp[go_sem,Act.eval,iw,k1,k2,k3,k4];try rfl)
 apply nd_call (NI (A)) (hg:=rfl) (hal:=rfl)
 ·exact NI.closed _
 ·intro a W' hC hE
  simp at hE
  refine⟨_,_,?_,(c_refInt A W' hA.1 hA.2).mono ?_⟩
  ·simp[go_sem,Act.eval,hE]
   try rfl
  ·rintro e w' ⟨v,rfl,hB,hR⟩
   exact⟨_,rfl,hR,hB⟩
 iterate 2
  apply nd_det (hg:=rfl) (hal:=rfl)
  ·intro a W' hC hE
   obtain⟨_,k1,k2,k3,k4⟩:=hC
   have k1:=k1.cell
   have k3:=k3.cell
   first
    |(simp at hE;simp[go_sem,Act.eval,iw,hE,k1,k2,k3,k4];try rfl)
    |(clear hE;simp[go_sem,Act.eval,iw,k1,k2,k3,k4];try rfl)
 apply nd_call (NI (d)) (hg:=rfl) (hal:=rfl)
 ·exact NI.closed _
 ·intro a W' hC hE
  simp at hE
  refine⟨_,_,?_,(c_refInt d W' hd.1 hd.2).mono ?_⟩
  ·simp[go_sem,Act.eval,hE]
   try rfl
  ·rintro e w' ⟨v,rfl,hB,hR⟩
   exact⟨_,rfl,hR,hB⟩
 apply nd_call (NI (A*d)) (hg:=rfl) (hal:=rfl)
 ·exact NI.closed _
 ·intro a W' hC hE
  simp at hE
  refine⟨_,_,?_,(c_refMul _ _ A d W' hE.1 hE.2 hA4 hd4).mono ?_⟩
  ·simp[go_sem,Act.eval]
   try rfl
  ·rintro e w' ⟨v,rfl,hB,hR⟩
   exact⟨_,rfl,hR,hB⟩
 apply nd_call (NI (n*t+R+A*d)) (hg:=rfl) (hal:=rfl)
 ·exact NI.closed _
 ·intro a W' hC hE
  simp at hE
  refine⟨_,_,?_,(c_refAdd (.agg #[.bool (decide (n*t+R<0)),.slice p1 l1 k1']) _ (n*t+R) (A*d) W' ⟨_,rfl,hC.2.2.2.2⟩ hE.2 hs9 hAd9).mono ?_⟩
  ·simp[go_sem,Act.eval,hE.1]
   try rfl
  ·rintro e w' ⟨v,rfl,hB,hR⟩
   exact⟨_,rfl,hR,hB⟩
 rintro W4 ⟨hR,d1,d2,d3,d4⟩
 simp only[ndFinR,Det,forall_eq]
 intros
 repeat (rename GDet _ _ _ _=>hgd;clear hgd)
 simp only[nS]
 clear b1 b2 b3 b4
 have b1:=d1
 have b2:=d2
 have b3:=d3
 clear d1 d2 d3 d4
 replace hW:=hW.trans (hR.of_priv hW.size)
 clear hR
 rename NI (n*t+R+A*d) _ _=>hq
 obtain⟨p2,l2,k2',rfl,hq3⟩:=num_shape hq
 replace hq3:=Hd hq3
 clear hq
 clear k1 f1 k2 f2 k3 f3
 have k1:=b1.cell
 have f1:=b1.frozen
 have k2:=b2.cell
 have f2:=b2.frozen
 have k3:=b3.cell
 have f3:=b3.frozen
 have y_1:=b1.lt
 have y_2:=b2.lt
 have y_3:=b3.lt
 obtain⟨B,hB⟩:∃B,B=(decide (n*t+R+A*d<0)):=⟨_,rfl⟩
 rw[<-hB]
 replace hB:=Hd hB
 go_wp2
 refine bodyPost_ret (v:= .agg #[.bool B,.slice p2 l2 k2']) (by simp[results,Tryz.results194,go_sem,k1,f1,k2,f2,k3,f3,y_1,y_2,y_3]) rfl ⟨_,rfl,⟨_,by rw[hB.out],?_⟩,by exact belowAny⟩
 have hS:=hq3.out.store b2 (.bool B) (.slice p2 l2 k2')
 simpa using hS
def DV (x y:Int):Spec:=fun v w=>∃v1 v2,v= .tuple #[v1,v2]/\NumIs w v1 (x/y)/\NumIs w v2 (x%y)
theorem DV.closed (x y:Int):Closed [] (DV x y):=fun _ _ _ hr ⟨v1,v2,e,h1,h2⟩=>⟨v1,v2,e,h1.rex hr rfl,h2.rex hr rfl⟩
theorem rat_yes (A R n d t X:Int) (w:World) (hd: -9223372036854775808<=d/\d<=9223372036854775807) (hX:X.natAbs<2^800) (hd0:0<d) (hd8:d.natAbs<2^800)
  (c1:∀W,Calls Tryz.prog 194 #[.agg #[.int .i64 A,.int .i64 R,.int .i64 n,.int .i64 d],.int .i64 t] W fun e w'=>∃v,e= .returned v/\NumIs w' v X/\Below W.heap.size W w')
  (c2:∀W va,NumIs W va (X/d)->Cb 196 #[va] W (.tuple #[.int .i64 (X/d),.bool true])) (hb:isBack (X/d)=true):
  Cb 150 #[.agg #[.int .i64 A,.int .i64 R,.int .i64 n,.int .i64 d],.int .i64 t] w (.tuple #[.int .i64 (X/d),.bool true]):=by
 have H_c1:=Hd c1
 clear c1
 have H_c2:=Hd c2
 clear c2
 go_enter Tryz.func150,Tryz.ntmps150
 go_upto_region 1 with(fail)
 refine wp_cutB w (Bc w.heap.size #[.int .i64 A,.int .i64 R,.int .i64 n,.int .i64 d] 46<|Bz) ?_
 rintro W1 hW z2 ⟨⟨b1,yb1,k1,f1⟩,-⟩
 have c1:=H_c1.out
 refine wp_region_ndA 12 33 [] (fun W'=>Rex [] W1 W'/\Blk W' w.heap.size #[.int .i64 A,.int .i64 R,.int .i64 n,.int .i64 d] 46) mixed (by kernel_rfl) rfl ⟨(Rex.refl _ _).drew,b1⟩ (fun w w' ⟨h0,h1⟩ hr=>⟨h0.trans hr,h1.rex hr (by simp<;>omega)⟩) (fun c a d v w h=>by cases d<;>exact h) ?_
 iterate 2
  apply nd_det (hg:=rfl) (hal:=rfl)
  ·intro a W' hC hE
   obtain⟨_,k1⟩:=hC
   have k1:=k1.cell
   first
    |(simp at hE;simp[go_sem,Act.eval,iw,hE,k1];try rfl)
    |(clear hE;simp[go_sem,Act.eval,iw,k1];try rfl)
 apply nd_call (NI X) (hg:=rfl) (hal:=rfl)
 ·exact NI.closed _
 ·intro a W' hC hE
  obtain⟨_,k1⟩:=hC
  have k1:=k1.cell
  simp at hE
  refine⟨_,_,?_,(c1 W').mono ?_⟩
  ·simp[go_sem,Act.eval,hE]
   try rfl
  ·rintro e w' ⟨v,rfl,hB,hR⟩
   exact⟨_,rfl,hR,hB⟩
 iterate 2
  apply nd_det (hg:=rfl) (hal:=rfl)
  ·intro a W' hC hE
   obtain⟨_,k1⟩:=hC
   have k1:=k1.cell
   first
    |(simp at hE;simp[go_sem,Act.eval,iw,hE,k1];try rfl)
    |(clear hE;simp[go_sem,Act.eval,iw,k1];try rfl)
 apply nd_call (NI d) (hg:=rfl) (hal:=rfl)
 ·exact NI.closed _
 ·intro a W' hC hE
  simp at hE
  refine⟨_,_,?_,(c_refInt d W' hd.1 hd.2).mono ?_⟩
  ·simp[go_sem,Act.eval,hE]
   try rfl
  ·rintro e w' ⟨v,rfl,hB,hR⟩
   exact⟨_,rfl,hR,hB⟩
 apply nd_call (DV X d) (hg:=rfl) (hal:=rfl)
 ·exact DV.closed _ _
 ·intro a W' hC hE
  simp at hE
  refine⟨_,_,?_,(c_refDiv _ _ X d W' hE.1 hE.2 hX hd0 hd8).mono ?_⟩
  ·simp[go_sem,Act.eval]
   try rfl
  ·rintro e w' ⟨v1,v2,rfl,h1,h2,hR⟩
   exact⟨_,rfl,hR,v1,v2,rfl,h1,h2⟩
 apply nd_spec (DV X d) (hg:=rfl) (hal:=rfl)
 ·exact DV.closed _ _
 ·intro a W' hC hE
  simp at hE
  refine⟨_,?_,hE⟩
  simp[go_sem,Act.eval]
 apply nd_spec (NI (X/d)) (hg:=rfl) (hal:=rfl)
 ·exact NI.closed _
 ·intro a W' hC hE
  simp at hE
  obtain⟨v1,v2,h0,h1,h2⟩:=hE
  refine⟨v1,?_,h1⟩
  simp[go_sem,Act.eval,h0]
 apply nd_spec (NI (X%d)) (hg:=rfl) (hal:=rfl)
 ·exact NI.closed _
 ·intro a W' hC hE
  simp at hE
  obtain⟨v1,v2,h0,h1,h2⟩:=hE
  refine⟨v2,?_,h2⟩
  simp[go_sem,Act.eval,h0]
 apply nd_alloc W1.heap.size #[.bool false,.slice none 0 0] 206 rfl rfl
 ·exact fun W' hC=>hC.1.size
 ·simp[others]<;>omega
 ·intro w;kernel_rfl
 apply nd_alloc W1.heap.size #[.bool false,.slice none 0 0] 206 rfl rfl
 ·exact fun W' hC=>hC.1.size
 ·simp[others]<;>omega
 ·intro w;kernel_rfl
 rintro W2 ⟨hR,d1⟩
 simp only[ndFinR,Det,forall_eq]
 intros
 repeat (rename GDet _ _ _ _=>hgd;clear hgd)
 simp only[nS]
 clear b1
 have b1:=d1
 clear d1
 replace hW:=hW.trans (hR.of_priv hW.size)
 clear hR
 clear H_c1
 try clear c1
 rename AllocApart _ _=>hap
 rename NewVar _ _ _ _ _=>hn7
 obtain⟨o7,rfl,hg7,b3⟩:=hn7
 rename NewVar _ _ _ _ _=>hn6
 obtain⟨o6,rfl,hg6,b2⟩:=hn6
 have hne:o6≠o7:=fun e=>hap 6 7 (by simp[allocDsts,isAlloc]) (by simp[allocDsts,isAlloc]) (by decide) ⟨o6,0,none⟩ (by simp[Act.put]) (by simp[Act.put,e])
 clear hap
 rename NI (X/d) _ _=>hi1
 rename NI (X%d) _ _=>hi2
 obtain⟨p1,l1,k1',rfl,hq1⟩:=num_shape hi1
 obtain⟨p2,l2,k2',rfl,hq2⟩:=num_shape hi2
 clear hi1 hi2 hq2
 have hS:=Hd ((hq1.store b2 (.bool (decide (X/d<0))) (.slice p1 l1 k1')).store (show Blk _ o7 #[.bool false,.slice none 0 0] 206 from (b3.setO (by omega) 0 _).setO (by omega) 1 _) (.bool (decide (X%d<0))) (.slice p2 l2 k2'))
 clear hq1
 have z9:=hW.size
 have z10:=b1.lt
 have z11:=b2.lt
 have z12:=b3.lt
 clear k1 f1
 have k1:=b1.cell
 have f1:=b1.frozen
 have k2:=b2.cell
 have f2:=b2.frozen
 have k3:=b3.cell
 have f3:=b3.frozen
 go_upto_region 2 with(fail)
 clear k1 f1 k2 f2 k3 f3
 refine wp_cutB w (Bc o6 #[.bool (decide (X/d<0)),.slice p1 l1 k1'] 206<|Rc (fun W'=>Bits W' (.slice p1 l1 k1') (X/d).natAbs)<|Bz) ?_ (hI:=by exact belowAny) (hR:=(Bc.mk (by exact blkAny2)<|Rc.mk (by exact hS.out)<|trivial))
 clear b1 b2 b3 hW
 rintro W3 hW z4 ⟨⟨b1,yb1,k1,f1⟩,b2,-⟩
 have hq:=Hd b2
 clear b2 hS
 go_wp2_with fail
 refine(H_c2.out _ _ ⟨_,rfl,hq.out⟩).mono ?_
 rintro e w5 ⟨rfl,hb5⟩
 have z6:=hb5.size
 try simp at z6
 clear k1 f1
 refine haveB w w5 (Bc o6 #[.bool (decide (X/d<0)),.slice p1 l1 k1'] 206<|Bz) ?_
 clear b1 hW
 rintro hW z7 ⟨⟨b1,yb1,k1,f1⟩,-⟩
 clear hb5
 go_upto_region 3 with(fail)
 clear k1 f1
 refine wp_cutB w (Bc o6 #[.bool (decide (X/d<0)),.slice p1 l1 k1'] 206<|Bz) ?_
 clear b1 hW
 rintro W8 hW z9 hL
 refine wp_regS 7 33 hW hL ?_
 iterate 3 refine dE (fun W' hC=>hb) ?_
 refine gE (fun W' hC=>hb) ?_
 apply nd_callvg2 (p:=true) (hg:=rfl) (hd:=rfl) (hal:=rfl)
 ·intro v W' h
  simp at h
  simp
  exact h
 ·intro hp hx W' hC
  exact c_rback (X/d) W'
 ·intro hp hx a W' hC hE
  obtain⟨_,⟨-,-,k1,-⟩,-⟩:=hC
  first
   |(simp[hx] at hE;simp[go_sem,Act.eval,iw,hE,k1,hb];try rfl)
   |(clear hE;simp[go_sem,Act.eval,iw,k1,hb];try rfl)
 refine gE (fun W' hC=>hb) ?_
 refine pO ?_
 clear hW hL
 rintro W10 hW z11 hL
 simp only[ndR]
 intros
 repeat (rename GDet _ _ _ _=>hgd;clear hgd)
 simp only[ndS]
 refine wpList_nil ?_
 obtain⟨⟨b1,yb1,k1,f1⟩,-⟩:=hL
 go_wp2
 refine bodyPost_ret (v:= .tuple #[.int .i64 (X/d),.bool true]) (by simp[results,Tryz.results150,go_sem,k1,f1,yb1]) rfl ⟨rfl,hW⟩
theorem rat_back (A R n d t X:Int) (w:World) (hd: -9223372036854775808<=d/\d<=9223372036854775807) (hX:X.natAbs<2^800) (hd0:0<d) (hd8:d.natAbs<2^800)
  (c1:∀W,Calls Tryz.prog 194 #[.agg #[.int .i64 A,.int .i64 R,.int .i64 n,.int .i64 d],.int .i64 t] W fun e w'=>∃v,e= .returned v/\NumIs w' v X/\Below W.heap.size W w')
  (c2:∀W va,NumIs W va (X/d)->Cb 196 #[va] W (.tuple #[.int .i64 (X/d),.bool true])) (hb:isBack (X/d)=false):
  Cb 150 #[.agg #[.int .i64 A,.int .i64 R,.int .i64 n,.int .i64 d],.int .i64 t] w (.tuple #[.int .i64 0,.bool false]):=by
 have H_c1:=Hd c1
 clear c1
 have H_c2:=Hd c2
 clear c2
 go_enter Tryz.func150,Tryz.ntmps150
 go_upto_region 1 with(fail)
 refine wp_cutB w (Bc w.heap.size #[.int .i64 A,.int .i64 R,.int .i64 n,.int .i64 d] 46<|Bz) ?_
 rintro W1 hW z2 ⟨⟨b1,yb1,k1,f1⟩,-⟩
 have c1:=H_c1.out
 refine wp_region_ndA 12 33 [] (fun W'=>Rex [] W1 W'/\Blk W' w.heap.size #[.int .i64 A,.int .i64 R,.int .i64 n,.int .i64 d] 46) mixed (by kernel_rfl) rfl ⟨(Rex.refl _ _).drew,b1⟩ (fun w w' ⟨h0,h1⟩ hr=>⟨h0.trans hr,h1.rex hr (by simp<;>omega)⟩) (fun c a d v w h=>by cases d<;>exact h) ?_
 iterate 2
  apply nd_det (hg:=rfl) (hal:=rfl)
  ·intro a W' hC hE
   obtain⟨_,k1⟩:=hC
   have k1:=k1.cell
   first
    |(simp at hE;simp[go_sem,Act.eval,iw,hE,k1];try rfl)
    |(clear hE;simp[go_sem,Act.eval,iw,k1];try rfl)
 apply nd_call (NI X) (hg:=rfl) (hal:=rfl)
 ·exact NI.closed _
 ·intro a W' hC hE
  obtain⟨_,k1⟩:=hC
  have k1:=k1.cell
  simp at hE
  refine⟨_,_,?_,(c1 W').mono ?_⟩
  ·simp[go_sem,Act.eval,hE]
   try rfl
  ·rintro e w' ⟨v,rfl,hB,hR⟩
   exact⟨_,rfl,hR,hB⟩
 iterate 2
  apply nd_det (hg:=rfl) (hal:=rfl)
  ·intro a W' hC hE
   obtain⟨_,k1⟩:=hC
   have k1:=k1.cell
   first
    |(simp at hE;simp[go_sem,Act.eval,iw,hE,k1];try rfl)
    |(clear hE;simp[go_sem,Act.eval,iw,k1];try rfl)
 apply nd_call (NI d) (hg:=rfl) (hal:=rfl)
 ·exact NI.closed _
 ·intro a W' hC hE
  simp at hE
  refine⟨_,_,?_,(c_refInt d W' hd.1 hd.2).mono ?_⟩
  ·simp[go_sem,Act.eval,hE]
   try rfl
  ·rintro e w' ⟨v,rfl,hB,hR⟩
   exact⟨_,rfl,hR,hB⟩
 apply nd_call (DV X d) (hg:=rfl) (hal:=rfl)
 ·exact DV.closed _ _
 ·intro a W' hC hE
  simp at hE
  refine⟨_,_,?_,(c_refDiv _ _ X d W' hE.1 hE.2 hX hd0 hd8).mono ?_⟩
  ·simp[go_sem,Act.eval]
   try rfl
  ·rintro e w' ⟨v1,v2,rfl,h1,h2,hR⟩
   exact⟨_,rfl,hR,v1,v2,rfl,h1,h2⟩
 apply nd_spec (DV X d) (hg:=rfl) (hal:=rfl)
 ·exact DV.closed _ _
 ·intro a W' hC hE
  simp at hE
  refine⟨_,?_,hE⟩
  simp[go_sem,Act.eval]
 apply nd_spec (NI (X/d)) (hg:=rfl) (hal:=rfl)
 ·exact NI.closed _
 ·intro a W' hC hE
  simp at hE
  obtain⟨v1,v2,h0,h1,h2⟩:=hE
  refine⟨v1,?_,h1⟩
  simp[go_sem,Act.eval,h0]
 apply nd_spec (NI (X%d)) (hg:=rfl) (hal:=rfl)
 ·exact NI.closed _
 ·intro a W' hC hE
  simp at hE
  obtain⟨v1,v2,h0,h1,h2⟩:=hE
  refine⟨v2,?_,h2⟩
  simp[go_sem,Act.eval,h0]
 apply nd_alloc W1.heap.size #[.bool false,.slice none 0 0] 206 rfl rfl
 ·exact fun W' hC=>hC.1.size
 ·simp[others]<;>omega
 ·intro w;kernel_rfl
 apply nd_alloc W1.heap.size #[.bool false,.slice none 0 0] 206 rfl rfl
 ·exact fun W' hC=>hC.1.size
 ·simp[others]<;>omega
 ·intro w;kernel_rfl
 rintro W2 ⟨hR,d1⟩
 simp only[ndFinR,Det,forall_eq]
 intros
 repeat (rename GDet _ _ _ _=>hgd;clear hgd)
 simp only[nS]
 clear b1
 have b1:=d1
 clear d1
 replace hW:=hW.trans (hR.of_priv hW.size)
 clear hR
 clear H_c1
 try clear c1
 rename AllocApart _ _=>hap
 rename NewVar _ _ _ _ _=>hn7
 obtain⟨o7,rfl,hg7,b3⟩:=hn7
 rename NewVar _ _ _ _ _=>hn6
 obtain⟨o6,rfl,hg6,b2⟩:=hn6
 have hne:o6≠o7:=fun e=>hap 6 7 (by simp[allocDsts,isAlloc]) (by simp[allocDsts,isAlloc]) (by decide) ⟨o6,0,none⟩ (by simp[Act.put]) (by simp[Act.put,e])
 clear hap
 rename NI (X/d) _ _=>hi1
 rename NI (X%d) _ _=>hi2
 obtain⟨p1,l1,k1',rfl,hq1⟩:=num_shape hi1
 obtain⟨p2,l2,k2',rfl,hq2⟩:=num_shape hi2
 clear hi1 hi2 hq2
 have hS:=Hd ((hq1.store b2 (.bool (decide (X/d<0))) (.slice p1 l1 k1')).store (show Blk _ o7 #[.bool false,.slice none 0 0] 206 from (b3.setO (by omega) 0 _).setO (by omega) 1 _) (.bool (decide (X%d<0))) (.slice p2 l2 k2'))
 clear hq1
 have z9:=hW.size
 have z10:=b1.lt
 have z11:=b2.lt
 have z12:=b3.lt
 clear k1 f1
 have k1:=b1.cell
 have f1:=b1.frozen
 have k2:=b2.cell
 have f2:=b2.frozen
 have k3:=b3.cell
 have f3:=b3.frozen
 go_upto_region 2 with(fail)
 clear k1 f1 k2 f2 k3 f3
 refine wp_cutB w (Bc o6 #[.bool (decide (X/d<0)),.slice p1 l1 k1'] 206<|Rc (fun W'=>Bits W' (.slice p1 l1 k1') (X/d).natAbs)<|Bz) ?_ (hI:=by exact belowAny) (hR:=(Bc.mk (by exact blkAny2)<|Rc.mk (by exact hS.out)<|trivial))
 clear b1 b2 b3 hW
 rintro W3 hW z4 ⟨⟨b1,yb1,k1,f1⟩,b2,-⟩
 have hq:=Hd b2
 clear b2 hS
 go_wp2_with fail
 refine(H_c2.out _ _ ⟨_,rfl,hq.out⟩).mono ?_
 rintro e w5 ⟨rfl,hb5⟩
 have z6:=hb5.size
 try simp at z6
 clear k1 f1
 refine haveB w w5 (Bc o6 #[.bool (decide (X/d<0)),.slice p1 l1 k1'] 206<|Bz) ?_
 clear b1 hW
 rintro hW z7 ⟨⟨b1,yb1,k1,f1⟩,-⟩
 clear hb5
 go_upto_region 3 with(fail)
 clear k1 f1
 refine wp_cutB w (Bc o6 #[.bool (decide (X/d<0)),.slice p1 l1 k1'] 206<|Bz) ?_
 clear b1 hW
 rintro W8 hW z9 hL
 refine wp_regS 7 33 hW hL ?_
 iterate 3 refine dE (fun W' hC=>hb) ?_
 refine gE (fun W' hC=>hb) ?_
 apply nd_callvg2 (p:=true) (hg:=rfl) (hd:=rfl) (hal:=rfl)
 ·intro v W' h
  simp at h
  simp
  exact h
 ·intro hp hx W' hC
  exact c_rback (X/d) W'
 ·intro hp hx a W' hC hE
  obtain⟨_,⟨-,-,k1,-⟩,-⟩:=hC
  first
   |(simp[hx] at hE;simp[go_sem,Act.eval,iw,hE,k1,hb];try rfl)
   |(clear hE;simp[go_sem,Act.eval,iw,k1,hb];try rfl)
 refine gE (fun W' hC=>hb) ?_
 refine pO ?_
 clear hW hL
 rintro W10 hW z11 hL
 simp only[ndR]
 intros
 repeat (rename GDet _ _ _ _=>hgd;clear hgd)
 simp only[ndS]
 refine wpList_nil ?_
 obtain⟨⟨b1,yb1,k1,f1⟩,-⟩:=hL
 go_wp2
 refine bodyPost_ret (v:= .tuple #[.int .i64 0,.bool false]) (by simp[results,Tryz.results150,go_sem,k1,f1,yb1]) rfl ⟨rfl,hW⟩
theorem rat_over (A R n d t X:Int) (w:World) (hd: -9223372036854775808<=d/\d<=9223372036854775807) (hX:X.natAbs<2^800) (hd0:0<d) (hd8:d.natAbs<2^800)
  (c1:∀W,Calls Tryz.prog 194 #[.agg #[.int .i64 A,.int .i64 R,.int .i64 n,.int .i64 d],.int .i64 t] W fun e w'=>∃v,e= .returned v/\NumIs w' v X/\Below W.heap.size W w')
  (c2:∀W va,NumIs W va (X/d)->Cb 196 #[va] W (.tuple #[.int .i64 0,.bool false])):
  Cb 150 #[.agg #[.int .i64 A,.int .i64 R,.int .i64 n,.int .i64 d],.int .i64 t] w (.tuple #[.int .i64 0,.bool false]):=by
 have H_c1:=Hd c1
 clear c1
 have H_c2:=Hd c2
 clear c2
 go_enter Tryz.func150,Tryz.ntmps150
 go_upto_region 1 with(fail)
 refine wp_cutB w (Bc w.heap.size #[.int .i64 A,.int .i64 R,.int .i64 n,.int .i64 d] 46<|Bz) ?_
 rintro W1 hW z2 ⟨⟨b1,yb1,k1,f1⟩,-⟩
 have c1:=H_c1.out
 refine wp_region_ndA 12 33 [] (fun W'=>Rex [] W1 W'/\Blk W' w.heap.size #[.int .i64 A,.int .i64 R,.int .i64 n,.int .i64 d] 46) mixed (by kernel_rfl) rfl ⟨(Rex.refl _ _).drew,b1⟩ (fun w w' ⟨h0,h1⟩ hr=>⟨h0.trans hr,h1.rex hr (by simp<;>omega)⟩) (fun c a d v w h=>by cases d<;>exact h) ?_
 iterate 2
  apply nd_det (hg:=rfl) (hal:=rfl)
  ·intro a W' hC hE
   obtain⟨_,k1⟩:=hC
   have k1:=k1.cell
   first
    |(simp at hE;simp[go_sem,Act.eval,iw,hE,k1];try rfl)
    |(clear hE;simp[go_sem,Act.eval,iw,k1];try rfl)
 apply nd_call (NI X) (hg:=rfl) (hal:=rfl)
 ·exact NI.closed _
 ·intro a W' hC hE
  obtain⟨_,k1⟩:=hC
  have k1:=k1.cell
  simp at hE
  refine⟨_,_,?_,(c1 W').mono ?_⟩
  ·simp[go_sem,Act.eval,hE]
   try rfl
  ·rintro e w' ⟨v,rfl,hB,hR⟩
   exact⟨_,rfl,hR,hB⟩
 iterate 2
  apply nd_det (hg:=rfl) (hal:=rfl)
  ·intro a W' hC hE
   obtain⟨_,k1⟩:=hC
   have k1:=k1.cell
   first
    |(simp at hE;simp[go_sem,Act.eval,iw,hE,k1];try rfl)
    |(clear hE;simp[go_sem,Act.eval,iw,k1];try rfl)
 apply nd_call (NI d) (hg:=rfl) (hal:=rfl)
 ·exact NI.closed _
 ·intro a W' hC hE
  simp at hE
  refine⟨_,_,?_,(c_refInt d W' hd.1 hd.2).mono ?_⟩
  ·simp[go_sem,Act.eval,hE]
   try rfl
  ·rintro e w' ⟨v,rfl,hB,hR⟩
   exact⟨_,rfl,hR,hB⟩
 apply nd_call (DV X d) (hg:=rfl) (hal:=rfl)
 ·exact DV.closed _ _
 ·intro a W' hC hE
  simp at hE
  refine⟨_,_,?_,(c_refDiv _ _ X d W' hE.1 hE.2 hX hd0 hd8).mono ?_⟩
  ·simp[go_sem,Act.eval]
   try rfl
  ·rintro e w' ⟨v1,v2,rfl,h1,h2,hR⟩
   exact⟨_,rfl,hR,v1,v2,rfl,h1,h2⟩
 apply nd_spec (DV X d) (hg:=rfl) (hal:=rfl)
 ·exact DV.closed _ _
 ·intro a W' hC hE
  simp at hE
  refine⟨_,?_,hE⟩
  simp[go_sem,Act.eval]
 apply nd_spec (NI (X/d)) (hg:=rfl) (hal:=rfl)
 ·exact NI.closed _
 ·intro a W' hC hE
  simp at hE
  obtain⟨v1,v2,h0,h1,h2⟩:=hE
  refine⟨v1,?_,h1⟩
  simp[go_sem,Act.eval,h0]
 apply nd_spec (NI (X%d)) (hg:=rfl) (hal:=rfl)
 ·exact NI.closed _
 ·intro a W' hC hE
  simp at hE
  obtain⟨v1,v2,h0,h1,h2⟩:=hE
  refine⟨v2,?_,h2⟩
  simp[go_sem,Act.eval,h0]
 apply nd_alloc W1.heap.size #[.bool false,.slice none 0 0] 206 rfl rfl
 ·exact fun W' hC=>hC.1.size
 ·simp[others]<;>omega
 ·intro w;kernel_rfl
 apply nd_alloc W1.heap.size #[.bool false,.slice none 0 0] 206 rfl rfl
 ·exact fun W' hC=>hC.1.size
 ·simp[others]<;>omega
 ·intro w;kernel_rfl
 rintro W2 ⟨hR,d1⟩
 simp only[ndFinR,Det,forall_eq]
 intros
 repeat (rename GDet _ _ _ _=>hgd;clear hgd)
 simp only[nS]
 clear b1
 have b1:=d1
 clear d1
 replace hW:=hW.trans (hR.of_priv hW.size)
 clear hR
 clear H_c1
 try clear c1
 rename AllocApart _ _=>hap
 rename NewVar _ _ _ _ _=>hn7
 obtain⟨o7,rfl,hg7,b3⟩:=hn7
 rename NewVar _ _ _ _ _=>hn6
 obtain⟨o6,rfl,hg6,b2⟩:=hn6
 have hne:o6≠o7:=fun e=>hap 6 7 (by simp[allocDsts,isAlloc]) (by simp[allocDsts,isAlloc]) (by decide) ⟨o6,0,none⟩ (by simp[Act.put]) (by simp[Act.put,e])
 clear hap
 rename NI (X/d) _ _=>hi1
 rename NI (X%d) _ _=>hi2
 obtain⟨p1,l1,k1',rfl,hq1⟩:=num_shape hi1
 obtain⟨p2,l2,k2',rfl,hq2⟩:=num_shape hi2
 clear hi1 hi2 hq2
 have hS:=Hd ((hq1.store b2 (.bool (decide (X/d<0))) (.slice p1 l1 k1')).store (show Blk _ o7 #[.bool false,.slice none 0 0] 206 from (b3.setO (by omega) 0 _).setO (by omega) 1 _) (.bool (decide (X%d<0))) (.slice p2 l2 k2'))
 clear hq1
 have z9:=hW.size
 have z10:=b1.lt
 have z11:=b2.lt
 have z12:=b3.lt
 clear k1 f1
 have k1:=b1.cell
 have f1:=b1.frozen
 have k2:=b2.cell
 have f2:=b2.frozen
 have k3:=b3.cell
 have f3:=b3.frozen
 go_upto_region 2 with(fail)
 clear k1 f1 k2 f2 k3 f3
 refine wp_cutB w (Bc o6 #[.bool (decide (X/d<0)),.slice p1 l1 k1'] 206<|Rc (fun W'=>Bits W' (.slice p1 l1 k1') (X/d).natAbs)<|Bz) ?_ (hI:=by exact belowAny) (hR:=(Bc.mk (by exact blkAny2)<|Rc.mk (by exact hS.out)<|trivial))
 clear b1 b2 b3 hW
 rintro W3 hW z4 ⟨⟨b1,yb1,k1,f1⟩,b2,-⟩
 have hq:=Hd b2
 clear b2 hS
 go_wp2_with fail
 refine(H_c2.out _ _ ⟨_,rfl,hq.out⟩).mono ?_
 rintro e w5 ⟨rfl,hb5⟩
 have z6:=hb5.size
 try simp at z6
 clear k1 f1
 refine haveB w w5 (Bc o6 #[.bool (decide (X/d<0)),.slice p1 l1 k1'] 206<|Bz) ?_
 clear b1 hW
 rintro hW z7 ⟨⟨b1,yb1,k1,f1⟩,-⟩
 clear hb5
 go_wp2
 refine bodyPost_ret (v:= .tuple #[.int .i64 0,.bool false]) (by simp[results,Tryz.results150,go_sem,k1,f1,yb1]) rfl ⟨rfl,hW⟩
end Go.Proofs.YtpdhdjlhicceoaaGreatDoor
namespace Go.Proofs.YtpdhdjlhicceoaaGreatDoor
open Go.RowKit
theorem at_bounds {A R n d t:Int} (h:isLine A R n d=true) (h0:0<=t) (h1:t<=281474976710656):
  (-9223372036854775808<=n/\n<=9223372036854775807)/\(-9223372036854775808<=t/\t<=9223372036854775807)/\(-9223372036854775808<=R/\R<=9223372036854775807)/\(-9223372036854775808<=A/\A<=9223372036854775807)/\(1<=d/\d<=281474976710656)/\
   n.natAbs<2^64/\t.natAbs<2^64/\A.natAbs<2^64/\d.natAbs<2^64/\(n*t).natAbs<2^128/\R.natAbs<2^64/\(A*d).natAbs<2^128/\(n*t+R).natAbs<2^129/\(n*t+R+A*d).natAbs<2^130:=by
 unfold isLine at h
 simp only[Bool.and_eq_true,decide_eq_true_eq] at h
 obtain⟨⟨⟨⟨ha,hs⟩,_⟩,hR0⟩,hR1⟩:=h
 have ha:=isBack_iff.1 ha
 have hs:=isSlope_bd hs
 have e1:(n*t).natAbs<2^128:=by
  rw[Int.natAbs_mul,show (2:Nat)^128=2^64*2^64 by rw[<-Nat.pow_add]]
  exact Nat.mul_lt_mul'' (by omega) (by omega)
 have e2:(A*d).natAbs<2^128:=by
  rw[Int.natAbs_mul,show (2:Nat)^128=2^64*2^64 by rw[<-Nat.pow_add]]
  exact Nat.mul_lt_mul'' (by omega) (by omega)
 exact⟨by omega,by omega,by omega,by omega,by omega,by omega,by omega,by omega,by omega,e1,by omega,e2,by omega,by omega⟩
theorem at_div {A R n d t:Int} (hd:1<=d):(n*t+R+A*d)/d=lineVal A R n d t:=by
 unfold lineVal
 exact Int.add_mul_ediv_right _ _ (by omega)
theorem c_rat_times {A R n d t:Int} (h:isLine A R n d=true) (h0:0<=t) (h1:t<=281474976710656) (w:World):
  Calls Tryz.prog 194 #[.agg #[.int .i64 A,.int .i64 R,.int .i64 n,.int .i64 d],.int .i64 t] w fun e w'=>∃v,e= .returned v/\NumIs w' v (n*t+R+A*d)/\Below w.heap.size w w':=by
 obtain⟨a1,a2,a3,a4,a5,a6,a7,a8,a9,a10,a11,a12,a13,a14⟩:=at_bounds h h0 h1
 exact rtimes_w A R n d t w a1 a2 a3 a4 (by omega) (lt_pow2 64 400 a6 (by omega)) (lt_pow2 64 400 a7 (by omega)) (lt_pow2 64 400 a8 (by omega)) (lt_pow2 64 400 a9 (by omega)) (lt_pow2 128 900 a10 (by omega)) (lt_pow2 64 900 a11 (by omega)) (lt_pow2 129 900 a13 (by omega)) (lt_pow2 128 900 a12 (by omega))
theorem c_rat_yes {A R n d t:Int} (h:isLine A R n d=true) (h0:0<=t) (h1:t<=281474976710656) (hb:isBack (lineVal A R n d t)=true) (w:World):
  Cb 150 #[.agg #[.int .i64 A,.int .i64 R,.int .i64 n,.int .i64 d],.int .i64 t] w (.tuple #[.int .i64 (lineVal A R n d t),.bool true]):=by
 obtain⟨a1,a2,a3,a4,a5,a6,a7,a8,a9,a10,a11,a12,a13,a14⟩:=at_bounds h h0 h1
 rw[<-at_div a5.1] at hb⊢
 have hb':=isBack_iff.1 hb
 exact rat_yes A R n d t _ w (by omega) (lt_pow2 130 800 a14 (by omega)) (by omega) (lt_pow2 64 800 a9 (by omega)) (fun W=>c_rat_times h h0 h1 W) (fun W va hv=>c_refValue va _ W hv (by omega) (by omega)) hb
theorem c_rat_no {A R n d t:Int} (h:isLine A R n d=true) (h0:0<=t) (h1:t<=281474976710656) (hb:isBack (lineVal A R n d t)=false) (w:World):
  Cb 150 #[.agg #[.int .i64 A,.int .i64 R,.int .i64 n,.int .i64 d],.int .i64 t] w (.tuple #[.int .i64 0,.bool false]):=by
 obtain⟨a1,a2,a3,a4,a5,a6,a7,a8,a9,a10,a11,a12,a13,a14⟩:=at_bounds h h0 h1
 rw[<-at_div a5.1] at hb
 by_cases hf: -9223372036854775808<=(n*t+R+A*d)/d/\(n*t+R+A*d)/d<9223372036854775808
 ·exact rat_back A R n d t _ w (by omega) (lt_pow2 130 800 a14 (by omega)) (by omega) (lt_pow2 64 800 a9 (by omega)) (fun W=>c_rat_times h h0 h1 W) (fun W va hv=>c_refValue va _ W hv hf.1 hf.2) hb
 ·refine rat_over A R n d t _ w (by omega) (lt_pow2 130 800 a14 (by omega)) (by omega) (lt_pow2 64 800 a9 (by omega)) (fun W=>c_rat_times h h0 h1 W) (fun W va hv=>c_refValue_no va _ W hv ?_ hf)
  have:((n*t+R+A*d)/d).natAbs<=(n*t+R+A*d).natAbs:=by
   have:=Int.natAbs_ediv_le_natAbs (n*t+R+A*d) d
   omega
  exact Nat.lt_of_le_of_lt this (lt_pow2 130 900 a14 (by omega))
structure OwnR (W:World) (B:Nat) (e:TypeId) (s:Nat) (v:Value) (n:Nat) (xs:List Value):Prop where
 own:W.ownsRow B e s v n xs
theorem OwnR.below {w w':World} {B:Nat} {e:TypeId} {s:Nat} {v:Value} {n:Nat} {xs:List Value} (h:OwnR w B e s v n xs) (hb:Below w.heap.size w w'):OwnR w' B e s v n xs:=by
 obtain⟨h1,h2⟩:=h.own
 refine⟨h1,?_⟩
 rcases h2 with h2|⟨g,cap,cur,hv,hg,hh,rest⟩
 ·exact .inl h2
 ·exact .inr ⟨g,cap,cur,hv,hg,(hb.block g (Array.getElem?_eq_some_iff.1 hh).1).trans hh,rest⟩
theorem OwnR.rex {L:List Nat} {w w':World} {B:Nat} {e:TypeId} {s:Nat} {v:Value} {n:Nat} {xs:List Value} (h:OwnR w B e s v n xs) (hr:Rex L w w') (hL:L= []):OwnR w' B e s v n xs:=by subst hL;exact h.below hr.below
theorem OwnR.drew {w:World} {B:Nat} {e:TypeId} {s:Nat} {v:Value} {n:Nat} {xs:List Value} (h:OwnR w B e s v n xs):OwnR w.drew B e s v n xs:=⟨h.own⟩
theorem OwnR.mono {w:World} {B B':Nat} {e:TypeId} {s:Nat} {v:Value} {n:Nat} {xs:List Value} (h:OwnR w B e s v n xs) (hB:B'<=B):OwnR w B' e s v n xs:=by
 obtain⟨h1,h2⟩:=h.own
 refine⟨h1,?_⟩
 rcases h2 with h2|⟨g,cap,cur,hv,hg,rest⟩
 ·exact .inl h2
 ·exact .inr ⟨g,cap,cur,hv,Nat.le_trans hB hg,rest⟩
theorem OwnR.nil (W:World) (B:Nat) (e:TypeId) (s:Nat):OwnR W B e s (.slice none 0 0) 0 []:=⟨World.ownsRow_nil _ _ _ _⟩
theorem Blk.grown {W w1:World} {B g:Nat} {cs:Array Value} {t e:TypeId} {s n:Nat} {v:Value} {xs:List Value} {o:Obj} (h:Blk W g cs t) (hown:W.ownsRow B e s v n xs) (ht:t≠e) (hgr:(W.alloc o).grownBy w1 v.ownBlock):Blk w1 g cs t:=by
 have hlt:=h.lt
 have h':(W.alloc o).heap[g]? =some (.cells cs t (0,0)):=(h.alloc o:Blk (W.alloc o) g cs t)
 refine(hgr.block g (by simp;omega) fun e1=> ?_).trans h'
 rcases hown.2 with⟨rfl,_⟩|⟨g',cap,cur,rfl,_,hb,_⟩
 ·simp[Value.ownBlock] at e1
 ·have:g=g':=by simpa [Value.ownBlock] using e1
  subst this
  unfold Blk at h
  rw[h] at hb
  injection hb with hb
  injection hb with _ h2 _
  exact ht h2
theorem OwnR.form {W:World} {B n:Nat} {e:TypeId} {s:Nat} {v:Value} {xs:List Value} (h:OwnR W B e s v n xs):∃p cap,v= .slice p n cap/\n<=cap/\cap<=9223372036854775807/\(p=none->n=0/\cap=0)/\(∀a,p=some a->a=⟨a.block,0,none⟩/\B<=a.block):=by
 rcases h.own.2 with⟨rfl,h0⟩|⟨g,cap,cur,rfl,hg,hb,hn,hmx,_⟩
 ·subst h0;exact⟨none,0,rfl,Nat.le_refl _,by omega,fun _=>⟨rfl,rfl⟩,fun a e=>by cases e⟩
 ·exact⟨some ⟨g,0,none⟩,cap,rfl,hn,by unfold maxLen at hmx;omega,(fun e=>by cases e),fun a e=>by cases e;exact⟨rfl,hg⟩⟩
theorem OwnR.ints {W:World} {B n:Nat} {e:TypeId} {p:Option Addr} {cap:Nat} {l:List Int} (h:OwnR W B e 1 (.slice p n cap) n (l.map (Value.int .i64))):IntsIn W p l:=by
 rcases h.own.2 with⟨h1,h0⟩|⟨g,cap',cur,h1,hg,hb,hn,hmx,_,ht⟩
 ·have:=h.own.1
  simp at this
  subst h0
  have:l= []:=List.length_eq_zero_iff.1 this
  subst this
  exact⟨fun i x hx=>by simp at hx⟩
 ·injection h1 with h2 _ _
  subst h2
  exact cloneInt_in hb (by simpa using ht)
theorem OwnR.runs {W:World} {B n:Nat} {e:TypeId} {p:Option Addr} {cap:Nat} {l:List RunT} (h:OwnR W B e 3 (.slice p n cap) n (flatCells l)):RunsIn W p l:=by
 rcases h.own.2 with⟨h1,h0⟩|⟨g,cap',cur,h1,hg,hb,hn,hmx,_,ht⟩
 ·have:=h.own.1
  rw[length_flatCells] at this
  subst h0
  have:l= []:=List.length_eq_zero_iff.1 (by omega)
  subst this
  exact⟨fun i x hx=>by simp at hx⟩
 ·injection h1 with h2 _ _
  subst h2
  exact cloneRun_in hb ht
structure IntsP (w:World) (b o:Nat) (l:List Int):Prop where
 ints:IntsIn w (some ⟨b,o,none⟩) l
theorem IntsP.below {w w':World} {b o:Nat} {l:List Int} (h:IntsP w b o l) (hb:Below w.heap.size w w'):IntsP w' b o l:=⟨h.ints.below hb⟩
theorem IntsP.rex {L:List Nat} {w w':World} {b o:Nat} {l:List Int} (h:IntsP w b o l) (hr:Rex L w w') (hL:L= []):IntsP w' b o l:=by subst hL;exact h.below hr.below
theorem IntsP.drew {w:World} {b o:Nat} {l:List Int} (h:IntsP w b o l):IntsP w.drew b o l:=⟨⟨h.ints.at'⟩⟩
theorem IntsP.cellAt {w:World} {b o:Nat} {l:List Int} (h:IntsP w b o l) {i:Nat} {x:Int} (hx:l[i]? =some x):w.cell? ⟨b,o+i,none⟩=some (.int .i64 x):=by
 obtain⟨b',o',e,h1⟩:=h.ints.at' i x hx
 cases e
 exact h1
instance : DecidableEq RunT := fun a b =>
 if h:a.f=b.f/\a.s=b.s/\a.c=b.c then isTrue (by obtain⟨a1,a2,a3⟩:=a;obtain⟨b1,b2,b3⟩:=b;obtain⟨h1,h2,h3⟩:=h;simp at h1 h2 h3;subst h1;subst h2;subst h3;rfl)
 else isFalse (fun e=>h (by subst e;exact⟨rfl,rfl,rfl⟩))
def extn (s p:Int):List Int->Nat
 | []=>0
 |t::l=>if t-p=s then extn s t l+1 else 0
theorem extn_le (s:Int):∀(l:List Int) (p:Int),extn s p l<=l.length
 | [],_=>Nat.le_refl _
 |t::l,p=>by
  simp only[extn,List.length_cons]
  split
  ·have:=extn_le s l t;omega
  ·omega
theorem step_succ (s p:Int) (k:Nat):p+s+s*((k:Int)+1)=p+s*(((k+1:Nat):Int)+1):=by
 have:s*(((k+1:Nat):Int)+1)=s+s*((k:Int)+1):=by
  rw[show (((k+1:Nat):Int)+1)=1+((k:Int)+1) by omega,Int.mul_add,Int.mul_one]
 omega
theorem extn_take (s:Int):∀(l:List Int) (p:Int),l.take (extn s p l)=(List.range (extn s p l)).map fun(k:Nat)=>p+s*((k:Int)+1)
 | [],_=>rfl
 |t::l,p=>by
  simp only[extn]
  split
  ·next h=>
   rw[List.take_succ_cons,extn_take s l t,List.range_succ_eq_map,List.map_cons,List.map_map]
   congr 1
   ·simp;omega
   ·apply List.map_congr_left
    intro k _
    show t+s*((k:Int)+1)=p+s*(((k+1:Nat):Int)+1)
    rw[<-step_succ,show t=p+s by omega]
  ·simp
theorem extn_stop (s:Int):∀(l:List Int) (p t:Int) (m:List Int),l.drop (extn s p l)=t::m->t-(p+s*(extn s p l:Int))≠s
 | [],p,t,m,h=>by simp at h
 |x::l,p,t,m,h=>by
  simp only[extn] at h⊢
  split at h
  ·next hx=>
   rw[if_pos hx]
   rw[List.drop_succ_cons] at h
   have ih:=extn_stop s l x t m h
   have e:p+s*((extn s x l+1:Nat):Int)=x+s*(extn s x l:Int):=by
    rw[show x=p+s by omega,show ((extn s (p+s) l+1:Nat):Int)=1+(extn s (p+s) l:Int) by omega,Int.mul_add,Int.mul_one]
    omega
   rw[e];exact ih
  ·next hx=>
   rw[if_neg hx]
   simp at h
   simp
   rw[<-h.1];exact hx
def ofL:List Int->List RunT
 | []=> []
 | [t]=> [⟨t,0,1⟩]
 |a::b::l=>⟨a,b-a,((extn (b-a) b l+2:Nat):Int)⟩::ofL (l.drop (extn (b-a) b l))
termination_by l=>l.length
decreasing_by simp;omega
theorem ofL_nil :ofL []= []:=by rw[ofL]
theorem ofL_one (t:Int):ofL [t]= [⟨t,0,1⟩]:=by rw[ofL]
theorem ofL_more (a b:Int) (l:List Int):ofL (a::b::l)=⟨a,b-a,((extn (b-a) b l+2:Nat):Int)⟩::ofL (l.drop (extn (b-a) b l)):=by rw[ofL]
theorem timesR_more (a b:Int) (l:List Int):timesR ⟨a,b-a,((extn (b-a) b l+2:Nat):Int)⟩=a::b::l.take (extn (b-a) b l):=by
 unfold timesR
 simp only[]
 rw[Int.toNat_natCast,List.range_succ_eq_map,List.map_cons,List.map_map,List.range_succ_eq_map,List.map_cons,List.map_map,extn_take]
 congr 1
 ·simp
 ·congr 1
  ·simp[Function.comp];omega
  ·apply List.map_congr_left
   intro k _
   show a+(b-a)*((k+1+1:Nat):Int)=b+(b-a)*((k:Int)+1)
   rw[show ((k+1+1:Nat):Int)=1+((k:Int)+1) by omega,Int.mul_add,Int.mul_one]
   omega
theorem times_of :∀(n:Nat) (t:List Int),t.length<=n->timesL (ofL t)=t
 |_,[],_=>by rw[ofL_nil];rfl
 |_,[t],_=>by rw[ofL_one];simp[timesL,timesR]
 |0,a::b::l,h=>by simp at h
 |n+1,a::b::l,h=>by
  rw[ofL_more]
  show timesR _++timesL _=_
  rw[timesR_more,times_of n _ (by simp at h⊢;omega)]
  simp
structure Rising (t:List Int):Prop where
 up:t.Pairwise (·<·)
 lo:∀x,x∈t->0<=x/\x<=281474976710656
theorem Rising.tail {a:Int} {t:List Int} (h:Rising (a::t)):Rising t:=⟨(List.pairwise_cons.1 h.up).2,fun x hx=>h.lo x (by simp[hx])⟩
theorem Rising.drop {t:List Int} (h:Rising t) (k:Nat):Rising (t.drop k):=⟨h.up.sublist (List.drop_sublist k t),fun x hx=>h.lo x (List.mem_of_mem_drop hx)⟩
theorem of_first {t:List Int} {q:RunT} (h:(ofL t).head? =some q):t.head? =some q.f:=by
 match t,h with
 | [],h=>simp[ofL_nil] at h
 | [x],h=>simp[ofL_one] at h;subst h;rfl
 |a::b::l,h=>rw[ofL_more] at h;simp at h;subst h;rfl
theorem last_more (a b:Int) (l:List Int):lastI ⟨a,b-a,((extn (b-a) b l+2:Nat):Int)⟩=b+(b-a)*(extn (b-a) b l:Int):=by
 unfold lastI
 simp only[]
 rw[show ((extn (b-a) b l+2:Nat):Int)-1=1+(extn (b-a) b l:Int) by omega,Int.mul_add,Int.mul_one]
 omega
theorem last_mem (a b:Int) (l:List Int):b+(b-a)*(extn (b-a) b l:Int)∈b::l.take (extn (b-a) b l):=by
 rw[extn_take]
 rcases Nat.eq_zero_or_pos (extn (b-a) b l) with h|h
 ·rw[h];simp
 ·refine List.mem_cons_of_mem _ (List.mem_map.2 ⟨extn (b-a) b l-1,List.mem_range.2 (by omega),?_⟩)
  rw[show ((extn (b-a) b l-1:Nat):Int)+1=(extn (b-a) b l:Int) by omega]
theorem of_each :∀(n:Nat) (t:List Int),t.length<=n->t.length<=256->Rising t->(∀r,r∈ofL t->RunOk r)/\Chain (ofL t)
 |_,[],_,_,_=>by rw[ofL_nil];exact⟨by simp,trivial⟩
 |_,[t],_,_,h=>by
  rw[ofL_one]
  have:=h.lo t (by simp)
  refine⟨?_,?_⟩
  ·intro r hr
   simp at hr
   subst hr
   exact⟨by simp;omega,by simp;omega,by simp,by simp,by simp,by simp,by simp,by simp[lastI];omega⟩
  ·exact⟨by simp,trivial⟩
 |0,a::b::l,h,_,_=>by simp at h
 |n+1,a::b::l,hn,h256,h=>by
  have hk:=extn_le (b-a) l b
  have ih:=of_each n (l.drop (extn (b-a) b l)) (by simp at hn⊢;omega) (by simp at h256⊢;omega) (h.tail.tail.drop _)
  have ha:=h.lo a (by simp)
  have hb:=h.lo b (by simp)
  have hab:a<b:=(List.pairwise_cons.1 h.up).1 b (by simp)
  have hlm:b+(b-a)*(extn (b-a) b l:Int)∈b::l:=by
   have:=last_mem a b l
   rcases List.mem_cons.1 this with e|e
   ·rw[e];simp
   ·exact List.mem_cons_of_mem _ (List.mem_of_mem_take e)
  have hlast:=h.lo _ (List.mem_cons_of_mem a hlm)
  rw[ofL_more]
  refine⟨?_,?_⟩
  ·intro r hr
   rcases List.mem_cons.1 hr with e|e
   ·subst e
    refine⟨ha.1,ha.2,by simp;omega,by simp;omega,by simp;omega,by simp at h256;simp;omega,by simp;omega,?_⟩
    rw[last_more];exact hlast.2
   ·exact ih.1 r e
  ·refine⟨?_,ih.2⟩
   intro q hq
   have h1:=of_first hq
   cases hd:l.drop (extn (b-a) b l) with
   |nil=>rw[hd] at h1;simp at h1
   |cons x m=>
    rw[hd] at h1
    simp at h1
    have hs:=extn_stop _ l b x m hd
    refine⟨⟨?_,?_⟩,by simp;omega⟩
    ·rw[last_more,<-h1]
     have hu:(b::l).Pairwise (·<·):=(List.pairwise_cons.1 h.up).2
     have e:b::l=(b::l.take (extn (b-a) b l))++(x::m):=by rw[<-hd,List.cons_append,List.take_append_drop]
     rw[e,List.pairwise_append] at hu
     exact hu.2.2 _ (last_mem a b l) x (by simp)
    ·rw[last_more,<-h1];exact hs
theorem length_of_cnt {l:List RunT} (h:∀r,r∈l->RunOk r):((timesL l).length:Int)=cnt l:=length_timesL l fun r hr=>by have:=(h r hr).c0;omega
theorem cnt_ge :∀(l:List RunT),(∀r,r∈l->1<=r.c)->(l.length:Int)<=cnt l
 | [],_=>by simp[cnt]
 |r::l,h=>by
  have:=cnt_ge l fun r hr=>h r (by simp[hr])
  have:=h r (by simp)
  simp[cnt];omega
theorem of_runs {t:List Int} (h:Rising t) (h0:0<t.length) (h1:t.length<=256):RunsOk (ofL t):=by
 obtain⟨he,hc⟩:=of_each t.length t (Nat.le_refl _) h1 h
 have ht:=times_of t.length t (Nat.le_refl _)
 have hn:=length_of_cnt he
 rw[ht] at hn
 have hg:=cnt_ge _ fun r hr=>(he r hr).c0
 refine⟨?_,by omega,he,by omega,hc⟩
 cases hl:ofL t with
 |nil=>rw[hl] at ht;simp[timesL] at ht;subst ht;simp at h0
 |cons r l=>simp
theorem extn_run (s:Int):∀(k:Nat) (p:Int) (m:List Int),(∀x,m.head? =some x->x-(p+s*(k:Int))≠s)->extn s p ((List.range k).map (fun(i:Nat)=>p+s*((i:Int)+1))++m)=k
 |0,p,[],_=>rfl
 |0,p,x::m,h=>by
  have:=h x rfl
  simp at this
  simp[extn,this]
 |k+1,p,m,h=>by
  rw[List.range_succ_eq_map,List.map_cons,List.map_map,List.cons_append]
  simp only[extn]
  rw[if_pos (by simp;omega)]
  congr 1
  have e:(fun(i:Nat)=>p+s*((i:Int)+1))∘Nat.succ=fun(i:Nat)=>(p+s)+s*((i:Int)+1):=by
   funext i
   exact(step_succ s p i).symm
  rw[e]
  have:=extn_run s k (p+s) m fun x hx=>by
   have h1:=h x hx
   rw[show ((k+1:Nat):Int)=1+(k:Int) by omega,Int.mul_add,Int.mul_one] at h1
   intro h2;apply h1;omega
  simpa using this
theorem of_times :∀(l:List RunT),(∀r,r∈l->RunOk r)->Chain l->ofL (timesL l)=l
 | [],_,_=>by simp[timesL,ofL_nil]
 |r::l,he,hc=>by
  have hr:=he r (by simp)
  have ih:=of_times l (fun q hq=>he q (by simp[hq])) hc.tail
  have c0:=hr.c0
  by_cases h1:r.c=1
  ·have hl:l= []:=by
    cases l with
    |nil=>rfl
    |cons q l=>have:=(hc.1 q rfl).2;omega
   subst hl
   obtain⟨f,s,c⟩:=r
   simp at h1
   subst h1
   have hs:s=0:=hr.one.1 rfl
   subst hs
   simp[timesL,timesR,ofL_one]
  ·obtain⟨k,hk⟩:∃k:Nat,r.c=((k+2:Nat):Int):=⟨(r.c-2).toNat,by omega⟩
   obtain⟨f,s,c⟩:=r
   simp at hk
   subst hk
   have e:timesR ⟨f,s,(k:Int)+2⟩=f::(f+s)::(List.range k).map fun(i:Nat)=>(f+s)+s*((i:Int)+1):=by
    unfold timesR
    simp only[]
    rw[show ((k:Int)+2).toNat=k+1+1 by omega,List.range_succ_eq_map,List.map_cons,List.map_map,List.range_succ_eq_map,List.map_cons,List.map_map]
    congr 1
    ·simp
    ·congr 1
     ·simp[Function.comp]
     ·apply List.map_congr_left
      intro i _
      show f+s*((i+1+1:Nat):Int)=_
      rw[show ((i+1+1:Nat):Int)=1+((i:Int)+1) by omega,Int.mul_add,Int.mul_one]
      omega
   have hx:extn s (f+s) ((List.range k).map (fun(i:Nat)=>(f+s)+s*((i:Int)+1))++timesL l)=k:=extn_run s k (f+s) _ fun x hx=>by
    cases l with
    |nil=>simp[timesL] at hx
    |cons q l=>
     obtain⟨⟨h2,h3⟩,-⟩:=hc.1 q rfl
     have hq:=he q (by simp)
     have:(timesL (q::l)).head? =some q.f:=by
      obtain⟨j,hj⟩:∃j:Nat,q.c.toNat=j+1:=⟨q.c.toNat-1,by have:=hq.c0;omega⟩
      show (timesR q++timesL l).head? =_
      unfold timesR
      rw[hj,List.range_succ_eq_map]
      simp
     rw[this] at hx
     cases hx
     unfold lastI at h3
     simp only[] at h3
     rw[show (k:Int)+2-1=1+(k:Int) by omega,Int.mul_add,Int.mul_one] at h3
     intro h4;apply h3;omega
   show ofL (timesR _++timesL l)=_
   rw[e,List.cons_append,List.cons_append,ofL_more,show f+s-f=s by omega,hx,List.drop_left' (by simp),ih]
   simp
def fitR (r:RunT):Bool:=decide (1<=r.c)&&decide (r.c<=256)&&decide (0<=r.s)&&decide (r.s<=281474976710656)&&decide (0<=r.f)&&decide (r.f<=281474976710656)
def fitL (l:List RunT):Bool:=l.all fitR&&decide (cnt l<=256)
def timesG (l:List RunT):List Int:=if fitL l then timesL l else []
def risingB (t:List Int):Bool:=decide (1<=t.length)&&decide (t.length<=256)&&decide (t.Pairwise (·<·))&&t.all fun x=>decide (0<=x)&&decide (x<=281474976710656)
theorem risingB_iff (t:List Int):risingB t=true↔1<=t.length/\t.length<=256/\Rising t:=by
 unfold risingB
 simp only[Bool.and_eq_true,decide_eq_true_eq,List.all_eq_true]
 constructor
 ·rintro⟨⟨⟨a,b⟩,c⟩,d⟩;exact⟨a,b,c,d⟩
 ·rintro⟨a,b,c,d⟩;exact⟨⟨⟨a,b⟩,c⟩,d⟩
def rightR (l:List RunT):Bool:=risingB (timesG l)&&decide (ofL (timesG l)=l)
theorem fit_ok {l:List RunT} (h:RunsOk l):fitL l=true:=by
 unfold fitL
 simp only[Bool.and_eq_true,decide_eq_true_eq,List.all_eq_true]
 refine⟨fun r hr=> ?_,h.count⟩
 have:=h.each r hr
 have a:=this.f0;have b:=this.f1;have c:=this.s0;have d:=this.s1;have e:=this.c0;have f:=this.c1
 unfold fitR
 simp[a,b,c,d,e,f]
theorem times_ok {l:List RunT} (h:RunsOk l):timesG l=timesL l:=by unfold timesG;rw[if_pos (fit_ok h)]
theorem rising_ok {l:List RunT} (h:RunsOk l):Rising (timesL l):=⟨times_pairwise l h.each h.chain,times_in l h⟩
theorem cnt_one {l:List RunT} (h:RunsOk l):1<=cnt l:=by
 have:=cnt_ge l fun r hr=>(h.each r hr).c0
 have:=h.some'
 omega
theorem rightR_is (l:List RunT):rightR l=risesB l:=by
 rw[Bool.eq_iff_iff,risesB_iff]
 unfold rightR
 rw[Bool.and_eq_true,risingB_iff,decide_eq_true_eq]
 constructor
 ·rintro⟨⟨h1,h2,h3⟩,h4⟩
  rw[<-h4]
  exact of_runs h3 (by omega) h2
 ·intro h
  have hn:=length_of_cnt h.each
  have:=cnt_one h
  have:=h.count
  rw[times_ok h]
  exact⟨⟨by omega,by omega,rising_ok h⟩,of_times l h.each h.chain⟩
end Go.Proofs.YtpdhdjlhicceoaaGreatDoor
