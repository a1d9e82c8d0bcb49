/- Parts of the proof that follows. No condition. -/
import Derived.Test.YtidfcoooccblaaaGreatBon9
set_option maxRecDepth 100000
set_option maxHeartbeats 8000000
set_option linter.unusedSimpArgs false
set_option linter.unusedVariables false
namespace Go.Proofs.YtidfcoooccblaaaGreat
open Go.RowKit
theorem value_no (sa:Bool) (pa:Option Addr) (la ca:Nat) (z:Int) (w:World) (F:Bool)
  (cF:∀W,Below w.heap.size w W->Cb 124 #[.agg #[.bool sa,.slice pa la ca],.int .i64 64] W (.bool F)) (e1:Hid (F=false)):
  Cb 68 #[.agg #[.bool sa,.slice pa la ca]] w (.tuple #[.int .i64 0,.bool false]):=by
 go_enter Tryz.func68,Tryz.ntmps68
 go_wp2_with fail
 refine(cF _ Aa).mono ?_
 rintro e w1 ⟨rfl,hb1⟩
 have z2:=hb1.size
 try simp at z2
 refine Ae w w1 (Bc w.heap.size #[.bool sa,.slice pa la ca] 132<|Bz) ?_
 rintro hW z3 ⟨⟨b1,yb1,k1,f1⟩,-⟩
 clear hb1
 rw[e1.out]
 go_wp2
 refine bodyPost_ret (v:= .tuple #[.int .i64 0,.bool false]) (by simp[results,Tryz.results68,go_sem]) rfl ⟨rfl,by exact Aa⟩
theorem value_pos (pa:Option Addr) (la ca m:Nat) (z:Int) (w:World) (F:Bool) (ha:Hid (Ay w (.slice pa la ca) m))
  (cF:∀W,Below w.heap.size w W->Cb 124 #[.agg #[.bool false,.slice pa la ca],.int .i64 64] W (.bool F)) (e1:Hid (F=true)) (hm63:m<9223372036854775808)
  (e2:Hid (m/2^0%2^64=m)):
  Cb 68 #[.agg #[.bool false,.slice pa la ca]] w (.tuple #[.int .i64 (m:Int),.bool true]):=by
 go_enter Tryz.func68,Tryz.ntmps68
 go_wp2_with fail
 refine(cF _ Aa).mono ?_
 rintro e w1 ⟨rfl,hb1⟩
 have z2:=hb1.size
 try simp at z2
 refine Ae w w1 (Bc w.heap.size #[.bool false,.slice pa la ca] 132<|Bz) ?_
 rintro hW z3 ⟨⟨b1,yb1,k1,f1⟩,-⟩
 clear hb1
 rw[e1.out]
 have hq:=Hd (ha.out.below (show Below w.heap.size w w1 from Aa))
 go_wp2_with fail
 refine(O4 _ _ 0 _ hq.out (by omega)).mono ?_
 rintro e w4 ⟨rfl,hb4⟩
 have z5:=hb4.size
 try simp at z5
 clear k1 f1
 refine Ae w w4 (Bc w.heap.size #[.bool false,.slice pa la ca] 132<|Bz) ?_
 clear b1 hW
 rintro hW z6 ⟨⟨b1,yb1,k1,f1⟩,-⟩
 clear hb4
 rw[e2.out]
 go_wp2
 refine bodyPost_ret (v:= .tuple #[.int .i64 (m:Int),.bool true]) (by simp[results,Tryz.results68,go_sem]) rfl ⟨rfl,by exact Aa⟩
theorem value_neg (pa:Option Addr) (la ca m s:Nat) (w:World) (F:Bool) (ha:Hid (Ay w (.slice pa la ca) m))
  (cF:∀W,Below w.heap.size w W->Cb 124 #[.agg #[.bool true,.slice pa la ca],.int .i64 64] W (.bool F)) (e1:Hid (F=true)) (hm64:Hid (m<=2^64))
  (e2:Hid ((2^64-m)/2^0%2^64=s)) (e3:Hid (wrap64 (s:Int)= -(m:Int))):
  Cb 68 #[.agg #[.bool true,.slice pa la ca]] w (.tuple #[.int .i64 (-(m:Int)),.bool true]):=by
 go_enter Tryz.func68,Tryz.ntmps68
 go_wp2_with fail
 refine(cF _ Aa).mono ?_
 rintro e w1 ⟨rfl,hb1⟩
 have z2:=hb1.size
 try simp at z2
 refine Ae w w1 (Bc w.heap.size #[.bool true,.slice pa la ca] 132<|Bz) ?_
 rintro hW z3 ⟨⟨b1,yb1,k1,f1⟩,-⟩
 clear hb1
 rw[e1.out]
 have hq:=Hd (ha.out.below (show Below w.heap.size w w1 from Aa))
 go_wp2_with fail
 refine(Ob 64 _ (by omega)).mono ?_
 rintro e w4 ⟨v2,rfl,hq2,hb4⟩
 have z5:=hb4.size
 try simp at z5
 clear k1 f1
 refine Ae w w4 (Bc w.heap.size #[.bool true,.slice pa la ca] 132<|Bz) ?_
 clear b1 hW
 rintro hW z6 ⟨⟨b1,yb1,k1,f1⟩,-⟩
 replace hq2:=Hd hq2
 replace hq:=Hd (hq.out.below hb4)
 have cm:=Hd (Hz _ _ (2^64) m w4 hq2.out hq.out (Hq 64 900 (by omega)) hm64.out)
 go_wp2_with fail
 refine(cm.out).mono ?_
 rintro e w7 ⟨v3,rfl,hq3,hb7⟩
 have z8:=hb7.size
 try simp at z8
 clear k1 f1
 refine Ae w w7 (Bc w.heap.size #[.bool true,.slice pa la ca] 132<|Bz) ?_
 clear b1 hW
 rintro hW z9 ⟨⟨b1,yb1,k1,f1⟩,-⟩
 replace hq3:=Hd hq3
 go_wp2_with fail
 refine(O4 _ _ 0 _ hq3.out (by omega)).mono ?_
 rintro e w10 ⟨rfl,hb10⟩
 have z11:=hb10.size
 try simp at z11
 clear k1 f1
 refine Ae w w10 (Bc w.heap.size #[.bool true,.slice pa la ca] 132<|Bz) ?_
 clear b1 hW
 rintro hW z12 ⟨⟨b1,yb1,k1,f1⟩,-⟩
 clear hb10
 rw[e2.out]
 go_wp2
 refine bodyPost_ret (v:= .tuple #[.int .i64 (-(m:Int)),.bool true]) (by simp[results,Tryz.results68,go_sem,e3.out]) rfl ⟨rfl,by exact Aa⟩
theorem fits64 {va:Value} {z:Int} {w:World} (h:Bu w va z) (hz:z.natAbs<2^900):
  ∀W,Below w.heap.size w W->Calls Tryz.prog 124 #[va,.int .i64 64] W fun e w'=>e= .returned (.bool (decide (-9223372036854775808<=z/\z<9223372036854775808)))/\Below W.heap.size W w':=
 fun W hW=>Sw va z 63 W (h.below hW) hz (by omega)
theorem Ji (va:Value) (z:Int) (w:World) (h:Bu w va z) (hz:z.natAbs<2^900) (ho:¬(-9223372036854775808<=z/\z<9223372036854775808)):
  Cb 68 #[va] w (.tuple #[.int .i64 0,.bool false]):=by
 obtain⟨pa,la,ca,rfl,h'⟩:=Ca h
 exact value_no _ pa la ca z w _ (fits64 h hz) (Hd (decide_eq_false ho))
theorem Gf (va:Value) (z:Int) (w:World) (h:Bu w va z) (h1: -9223372036854775808<=z) (h2:z<9223372036854775808):
  Cb 68 #[va] w (.tuple #[z,.bool true]):=by
 obtain⟨pa,la,ca,rfl,h'⟩:=Ca h
 have hz:z.natAbs<2^900:=Cp 64 900 (show z.natAbs<2^64 by omega) (by omega)
 have hF:=fits64 h hz
 by_cases hn:z<0
 ·obtain⟨m,rfl⟩:∃m:Nat,z= -(m:Int):=⟨z.natAbs,by omega⟩
  rw[decide_eq_true hn] at hF⊢
  rw[show (-(m:Int)).natAbs=m by omega] at h'
  refine value_neg pa la ca m (18446744073709551616-m) w _ (Hd h') hF (Hd (decide_eq_true ⟨h1,h2⟩)) (Hd (by omega)) (Hd (by omega)) (Hd (by unfold wrap64;omega))
 ·obtain⟨m,rfl⟩:∃m:Nat,z=(m:Int):=⟨z.toNat,by omega⟩
  rw[decide_eq_false hn] at hF⊢
  rw[show ((m:Int)).natAbs=m by omega] at h'
  exact value_pos pa la ca m 0 w _ (Hd h') hF (Hd (decide_eq_true ⟨h1,h2⟩)) (by omega) (Hd (by omega))
theorem wide_posR (m H L:Nat) (hi:Int) (pa:Option Addr) (la ca:Nat) (w:World) (F:Bool) (ha:Hid (Ay w (.slice pa la ca) m)) (e2:Hid (m/2^64%2^64=H)) (e4:Hid (m/2^0%2^64=L)) (e3:Hid (wrap64 (H:Int)=hi))
  (cF:∀W,Below w.heap.size w W->Cb 124 #[.agg #[.bool false,.slice pa la ca],.int .i64 128] W (.bool F)) (e1:Hid (F=true)):
  Cb 65 #[.agg #[.bool false,.slice pa la ca]] w (.tuple #[.agg #[hi,.int .u64 (L:Int)],.bool true]):=by
 go_enter Tryz.func65,Tryz.ntmps65
 go_wp2_with fail
 refine(cF _ Aa).mono ?_
 rintro e w1 ⟨rfl,hb1⟩
 have z2:=hb1.size
 try simp at z2
 refine Ae w w1 (Bc w.heap.size #[.bool false,.slice pa la ca] 132<|Bc (w.heap.size+1) #[.int .i64 0,.int .u64 0] 36<|Bz) ?_
 rintro hW z3 ⟨⟨b1,yb1,k1,f1⟩,⟨b2,yb2,k2,f2⟩,-⟩
 clear hb1
 rw[e1.out]
 have hq:=Hd (ha.out.below (show Below w.heap.size w w1 from Aa))
 go_wp2_with fail
 refine(O4 _ _ 64 _ hq.out (by omega)).mono ?_
 rintro e w4 ⟨rfl,hb4⟩
 have z5:=hb4.size
 try simp at z5
 clear k1 f1 k2 f2
 refine Ae w w4 (Bc w.heap.size #[.bool false,.slice pa la ca] 132<|Bc (w.heap.size+1) #[.int .i64 0,.int .u64 0] 36<|Bz) ?_
 clear b1 b2 hW
 rintro hW z6 ⟨⟨b1,yb1,k1,f1⟩,⟨b2,yb2,k2,f2⟩,-⟩
 rw[e2.out]
 replace hq:=Hd (hq.out.below hb4)
 go_wp2_with fail
 refine(O4 _ _ 0 _ hq.out (by omega)).mono ?_
 rintro e w7 ⟨rfl,hb7⟩
 have z8:=hb7.size
 try simp at z8
 clear k1 f1 k2 f2
 refine Ae w w7 (Bc w.heap.size #[.bool false,.slice pa la ca] 132<|Bc (w.heap.size+1) #[.int .i64 0,.int .u64 0] 36<|Bz) ?_
 clear b1 b2 hW
 rintro hW z9 ⟨⟨b1,yb1,k1,f1⟩,⟨b2,yb2,k2,f2⟩,-⟩
 rw[e4.out]
 go_wp2
 have y_1:=b1.lt
 have y_2:=b2.lt
 refine bodyPost_ret (v:= .tuple #[.agg #[hi,.int .u64 (L:Int)],.bool true]) (by simp[results,Tryz.results65,go_sem,e3.out,k1,f1,k2,f2,y_1,y_2]) rfl ⟨rfl,by exact Aa⟩
theorem wide_negR (m H L:Nat) (hi:Int) (pa:Option Addr) (la ca:Nat) (w:World) (F:Bool) (ha:Hid (Ay w (.slice pa la ca) m)) (e2:Hid ((2^128-m)/2^64%2^64=H)) (e4:Hid ((2^128-m)/2^0%2^64=L)) (e3:Hid (wrap64 (H:Int)=hi)) (hm64:Hid (m<=2^128))
  (cF:∀W,Below w.heap.size w W->Cb 124 #[.agg #[.bool true,.slice pa la ca],.int .i64 128] W (.bool F)) (e1:Hid (F=true)):
  Cb 65 #[.agg #[.bool true,.slice pa la ca]] w (.tuple #[.agg #[hi,.int .u64 (L:Int)],.bool true]):=by
 go_enter Tryz.func65,Tryz.ntmps65
 go_wp2_with fail
 refine(cF _ Aa).mono ?_
 rintro e w1 ⟨rfl,hb1⟩
 have z2:=hb1.size
 try simp at z2
 refine Ae w w1 (Bc w.heap.size #[.bool true,.slice pa la ca] 132<|Bc (w.heap.size+1) #[.int .i64 0,.int .u64 0] 36<|Bz) ?_
 rintro hW z3 ⟨⟨b1,yb1,k1,f1⟩,⟨b2,yb2,k2,f2⟩,-⟩
 clear hb1
 rw[e1.out]
 have hq:=Hd (ha.out.below (show Below w.heap.size w w1 from Aa))
 go_wp2_with fail
 refine(Ob 128 _ (by omega)).mono ?_
 rintro e w4 ⟨v2,rfl,hq2,hb4⟩
 have z5:=hb4.size
 try simp at z5
 clear k1 f1 k2 f2
 refine Ae w w4 (Bc w.heap.size #[.bool true,.slice pa la ca] 132<|Bc (w.heap.size+1) #[.int .i64 0,.int .u64 0] 36<|Bz) ?_
 clear b1 b2 hW
 rintro hW z6 ⟨⟨b1,yb1,k1,f1⟩,⟨b2,yb2,k2,f2⟩,-⟩
 replace hq2:=Hd hq2
 replace hq:=Hd (hq.out.below hb4)
 have cm:=Hd (Hz _ _ (2^128) m w4 hq2.out hq.out (Hq 128 900 (by omega)) hm64.out)
 go_wp2_with fail
 refine(cm.out).mono ?_
 rintro e w7 ⟨v3,rfl,hq3,hb7⟩
 have z8:=hb7.size
 try simp at z8
 clear k1 f1 k2 f2
 refine Ae w w7 (Bc w.heap.size #[.bool true,.slice pa la ca] 132<|Bc (w.heap.size+1) #[.int .i64 0,.int .u64 0] 36<|Bz) ?_
 clear b1 b2 hW
 rintro hW z9 ⟨⟨b1,yb1,k1,f1⟩,⟨b2,yb2,k2,f2⟩,-⟩
 replace hq3:=Hd hq3
 go_wp2_with fail
 refine(O4 _ _ 64 _ hq3.out (by omega)).mono ?_
 rintro e w10 ⟨rfl,hb10⟩
 have z11:=hb10.size
 try simp at z11
 clear k1 f1 k2 f2
 refine Ae w w10 (Bc w.heap.size #[.bool true,.slice pa la ca] 132<|Bc (w.heap.size+1) #[.int .i64 0,.int .u64 0] 36<|Bz) ?_
 clear b1 b2 hW
 rintro hW z12 ⟨⟨b1,yb1,k1,f1⟩,⟨b2,yb2,k2,f2⟩,-⟩
 rw[e2.out]
 replace hq3:=Hd (hq3.out.below hb10)
 go_wp2_with fail
 refine(O4 _ _ 0 _ hq3.out (by omega)).mono ?_
 rintro e w13 ⟨rfl,hb13⟩
 have z14:=hb13.size
 try simp at z14
 clear k1 f1 k2 f2
 refine Ae w w13 (Bc w.heap.size #[.bool true,.slice pa la ca] 132<|Bc (w.heap.size+1) #[.int .i64 0,.int .u64 0] 36<|Bz) ?_
 clear b1 b2 hW
 rintro hW z15 ⟨⟨b1,yb1,k1,f1⟩,⟨b2,yb2,k2,f2⟩,-⟩
 rw[e4.out]
 go_wp2
 have y_1:=b1.lt
 have y_2:=b2.lt
 refine bodyPost_ret (v:= .tuple #[.agg #[hi,.int .u64 (L:Int)],.bool true]) (by simp[results,Tryz.results65,go_sem,e3.out,k1,f1,k2,f2,y_1,y_2]) rfl ⟨rfl,by exact Aa⟩
theorem fits128 {va:Value} {z:Int} {w:World} (h:Bu w va z) (hz:z.natAbs<2^900):
  ∀W,Below w.heap.size w W->Calls Tryz.prog 124 #[va,.int .i64 128] W fun e w'=>e= .returned (.bool (decide (-((2^127:Nat):Int)<=z/\z<((2^127:Nat):Int))))/\Below W.heap.size W w':=
 fun W hW=>Sw va z 127 W (h.below hW) hz (by omega)
theorem Sv (va:Value) (z:Int) (w:World) (h:Bu w va z) (h1: -((2^127:Nat):Int)<=z) (h2:z<((2^127:Nat):Int)):
  Cb 65 #[va] w (.tuple #[.agg #[.int .i64 (z/18446744073709551616),.int .u64 (z%18446744073709551616)],.bool true]):=by
 obtain⟨pa,la,ca,rfl,h'⟩:=Ca h
 have hz:z.natAbs<2^900:=Cp 128 900 (show z.natAbs<2^128 by omega) (by omega)
 have hF:=fits128 h hz
 obtain⟨L,hL⟩:∃L:Nat,z%18446744073709551616=(L:Int):=⟨(z%18446744073709551616).toNat,by omega⟩
 rw[hL]
 by_cases hn:z<0
 ·obtain⟨m,rfl⟩:∃m:Nat,z= -(m:Int):=⟨z.natAbs,by omega⟩
  rw[decide_eq_true hn] at hF⊢
  rw[show (-(m:Int)).natAbs=m by omega] at h'
  refine wide_negR m ((2^128-m)/2^64%2^64) L _ pa la ca w _ (Hd h') (Hd rfl) (Hd (by omega)) (Hd (by unfold wrap64;omega)) (Hd (by omega)) hF (Hd (decide_eq_true ⟨h1,h2⟩))
 ·obtain⟨m,rfl⟩:∃m:Nat,z=(m:Int):=⟨z.toNat,by omega⟩
  rw[decide_eq_false hn] at hF⊢
  rw[show ((m:Int)).natAbs=m by omega] at h'
  exact wide_posR m (m/2^64%2^64) L _ pa la ca w _ (Hd h') (Hd rfl) (Hd (by omega)) (Hd (by unfold wrap64;omega)) hF (Hd (decide_eq_true ⟨h1,h2⟩))
theorem div_plain (sa:Bool) (pa pb:Option Addr) (la ca lb cb m n Q R:Nat) (w:World) (ha:Ay w (.slice pa la ca) m) (hb:Ay w (.slice pb lb cb) n) (hm:m<2^800) (hQ:Hid (m/n=Q)) (hR:Hid (m%n=R)) (hn0:0<n) (hn:n<2^800) (hs:sa=false):
  Calls Tryz.prog 130 #[.agg #[.bool sa,.slice pa la ca],.agg #[.bool false,.slice pb lb cb]] w fun e w'=>∃s1 s2,e= .returned (.tuple #[.agg #[.bool (sa&&decide (0<Q)),s1],.agg #[.bool false,s2]])/\Ay w' s1 Q/\Ay w' s2 R/\Below w.heap.size w w':=by
 subst hs
 go_enter Tryz.func130,Tryz.ntmps130
 go_wp2_with fail
 refine(M1 (.slice pa la ca) (.slice pb lb cb) m n _ (ha.below Aa) (hb.below Aa) hm hn0 hn).mono ?_
 rintro e w1 ⟨v1,v2,rfl,hq1,hq2,hb1⟩
 have z2:=hb1.size
 try simp at z2
 refine Ae w w1 (Bc w.heap.size #[.bool false,.slice pa la ca] 132<|Bc (w.heap.size+1) #[.bool false,.slice pb lb cb] 132<|Bc (w.heap.size+2) #[.bool false,.slice none 0 0] 132<|Bc (w.heap.size+3) #[.bool false,.slice none 0 0] 132<|Bz) ?_
 rintro hW z3 ⟨⟨b1,yb1,k1,f1⟩,⟨b2,yb2,k2,f2⟩,⟨b3,yb3,k3,f3⟩,⟨b4,yb4,k4,f4⟩,-⟩
 rw[hQ.out] at hq1
 rw[hR.out] at hq2
 obtain⟨p1,l1,k1',rfl,_,hl1⟩:=De hq1
 obtain⟨p2,l2,k2',rfl,hpos,hl2⟩:=De hq2
 replace hq1:=Hd hq1
 replace hq2:=Hd hq2
 replace hpos:=Hd hpos
 go_wp2_with fail
 refine(Du false _ Q _ hq1.out).mono ?_
 rintro e w4 ⟨rfl,hb4⟩
 have z5:=hb4.size
 try simp at z5
 clear k1 f1 k2 f2 k3 f3 k4 f4
 refine Ae w w4 (Bc w.heap.size #[.bool false,.slice pa la ca] 132<|Bc (w.heap.size+1) #[.bool false,.slice pb lb cb] 132<|Bc (w.heap.size+2) #[.bool false,.slice none 0 0] 132<|Bc (w.heap.size+3) #[.bool false,.slice none 0 0] 132<|Bz) ?_
 clear b1 b2 b3 b4 hW
 rintro hW z6 ⟨⟨b1,yb1,k1,f1⟩,⟨b2,yb2,k2,f2⟩,⟨b3,yb3,k3,f3⟩,⟨b4,yb4,k4,f4⟩,-⟩
 replace hq1:=Hd (hq1.out.below hb4)
 replace hq2:=Hd (hq2.out.below hb4)
 go_wp2_with fail
 refine(Du false _ R _ hq2.out).mono ?_
 rintro e w7 ⟨rfl,hb7⟩
 have z8:=hb7.size
 try simp at z8
 clear k1 f1 k2 f2 k3 f3 k4 f4
 refine Ae w w7 (Bc w.heap.size #[.bool false,.slice pa la ca] 132<|Bc (w.heap.size+1) #[.bool false,.slice pb lb cb] 132<|Bc (w.heap.size+2) #[.bool false,.slice none 0 0] 132<|Bc (w.heap.size+3) #[.bool false,.slice none 0 0] 132<|Bz) ?_
 clear b1 b2 b3 b4 hW
 rintro hW z9 ⟨⟨b1,yb1,k1,f1⟩,⟨b2,yb2,k2,f2⟩,⟨b3,yb3,k3,f3⟩,⟨b4,yb4,k4,f4⟩,-⟩
 replace hq1:=Hd (hq1.out.below hb7)
 replace hq2:=Hd (hq2.out.below hb7)
 go_wp2
 have y_1:=b1.lt
 have y_2:=b2.lt
 have y_3:=b3.lt
 have y_4:=b4.lt
 refine bodyPost_ret (v:= .tuple #[.agg #[.bool false,.slice p1 l1.length k1'],.agg #[.bool false,.slice p2 l2.length k2']]) (by simp[results,Tryz.results130,go_sem,k1,f1,k2,f2,k3,f3,k4,f4,y_1,y_2,y_3,y_4]) rfl ⟨.slice p1 l1.length k1',.slice p2 l2.length k2',by simp,?_,?_,by exact Aa⟩
 ·have hS:=(hq1.out.store b3 (.bool false) (.slice p1 l1.length k1')).store (show Blk _ (w.heap.size+3) #[.bool false,.slice none 0 0] 132 from (b4.setO (by omega) 0 _).setO (by omega) 1 _) (.bool false) (.slice p2 l2.length k2')
  simpa using hS
 ·have hS:=(hq2.out.store b3 (.bool false) (.slice p1 l1.length k1')).store (show Blk _ (w.heap.size+3) #[.bool false,.slice none 0 0] 132 from (b4.setO (by omega) 0 _).setO (by omega) 1 _) (.bool false) (.slice p2 l2.length k2')
  simpa using hS
theorem div_zero (pa pb:Option Addr) (la ca lb cb m n Q R:Nat) (w:World) (ha:Ay w (.slice pa la ca) m) (hb:Ay w (.slice pb lb cb) n) (hm:m<2^800) (hQ:Hid (m/n=Q)) (hR:Hid (m%n=R)) (hn0:0<n) (hn:n<2^800) (hr:R=0):
  Calls Tryz.prog 130 #[.agg #[.bool true,.slice pa la ca],.agg #[.bool false,.slice pb lb cb]] w fun e w'=>∃s1 s2,e= .returned (.tuple #[.agg #[.bool (true&&decide (0<Q)),s1],.agg #[.bool false,s2]])/\Ay w' s1 Q/\Ay w' s2 R/\Below w.heap.size w w':=by
 go_enter Tryz.func130,Tryz.ntmps130
 go_wp2_with fail
 refine(M1 (.slice pa la ca) (.slice pb lb cb) m n _ (ha.below Aa) (hb.below Aa) hm hn0 hn).mono ?_
 rintro e w1 ⟨v1,v2,rfl,hq1,hq2,hb1⟩
 have z2:=hb1.size
 try simp at z2
 refine Ae w w1 (Bc w.heap.size #[.bool true,.slice pa la ca] 132<|Bc (w.heap.size+1) #[.bool false,.slice pb lb cb] 132<|Bc (w.heap.size+2) #[.bool false,.slice none 0 0] 132<|Bc (w.heap.size+3) #[.bool false,.slice none 0 0] 132<|Bz) ?_
 rintro hW z3 ⟨⟨b1,yb1,k1,f1⟩,⟨b2,yb2,k2,f2⟩,⟨b3,yb3,k3,f3⟩,⟨b4,yb4,k4,f4⟩,-⟩
 rw[hQ.out] at hq1
 rw[hR.out] at hq2
 obtain⟨p1,l1,k1',rfl,_,hl1⟩:=De hq1
 obtain⟨p2,l2,k2',rfl,hpos,hl2⟩:=De hq2
 replace hq1:=Hd hq1
 replace hq2:=Hd hq2
 replace hpos:=Hd hpos
 obtain rfl:l2= []:=List.length_eq_zero_iff.1 (by have:=hpos.out;omega)
 clear hpos hr
 go_wp2_with fail
 refine(Du true _ Q _ hq1.out).mono ?_
 rintro e w4 ⟨rfl,hb4⟩
 have z5:=hb4.size
 try simp at z5
 clear k1 f1 k2 f2 k3 f3 k4 f4
 refine Ae w w4 (Bc w.heap.size #[.bool true,.slice pa la ca] 132<|Bc (w.heap.size+1) #[.bool false,.slice pb lb cb] 132<|Bc (w.heap.size+2) #[.bool false,.slice none 0 0] 132<|Bc (w.heap.size+3) #[.bool false,.slice none 0 0] 132<|Bz) ?_
 clear b1 b2 b3 b4 hW
 rintro hW z6 ⟨⟨b1,yb1,k1,f1⟩,⟨b2,yb2,k2,f2⟩,⟨b3,yb3,k3,f3⟩,⟨b4,yb4,k4,f4⟩,-⟩
 replace hq1:=Hd (hq1.out.below hb4)
 replace hq2:=Hd (hq2.out.below hb4)
 go_wp2_with fail
 refine(Du false _ R _ hq2.out).mono ?_
 rintro e w7 ⟨rfl,hb7⟩
 have z8:=hb7.size
 try simp at z8
 clear k1 f1 k2 f2 k3 f3 k4 f4
 refine Ae w w7 (Bc w.heap.size #[.bool true,.slice pa la ca] 132<|Bc (w.heap.size+1) #[.bool false,.slice pb lb cb] 132<|Bc (w.heap.size+2) #[.bool false,.slice none 0 0] 132<|Bc (w.heap.size+3) #[.bool false,.slice none 0 0] 132<|Bz) ?_
 clear b1 b2 b3 b4 hW
 rintro hW z9 ⟨⟨b1,yb1,k1,f1⟩,⟨b2,yb2,k2,f2⟩,⟨b3,yb3,k3,f3⟩,⟨b4,yb4,k4,f4⟩,-⟩
 replace hq1:=Hd (hq1.out.below hb7)
 replace hq2:=Hd (hq2.out.below hb7)
 obtain⟨B,hB⟩:∃B,B=(true&&decide (0<Q)):=⟨_,rfl⟩
 try rw[<-hB]
 try rw[Bool.true_and] at hB
 try rw[<-hB]
 replace hB:=Hd hB
 go_wp2
 have y_1:=b1.lt
 have y_2:=b2.lt
 have y_3:=b3.lt
 have y_4:=b4.lt
 refine bodyPost_ret (v:= .tuple #[.agg #[.bool B,.slice p1 l1.length k1'],.agg #[.bool false,.slice p2 0 k2']]) (by simp[results,Tryz.results130,go_sem,k1,f1,k2,f2,k3,f3,k4,f4,y_1,y_2,y_3,y_4]) rfl ⟨.slice p1 l1.length k1',.slice p2 0 k2',by rw[<-hB.out,Bool.true_and],?_,?_,by exact Aa⟩
 ·have hS:=(hq1.out.store b3 (.bool B) (.slice p1 l1.length k1')).store (show Blk _ (w.heap.size+3) #[.bool false,.slice none 0 0] 132 from (b4.setO (by omega) 0 _).setO (by omega) 1 _) (.bool false) (.slice p2 0 k2')
  simpa using hS
 ·have hS:=(hq2.out.store b3 (.bool B) (.slice p1 l1.length k1')).store (show Blk _ (w.heap.size+3) #[.bool false,.slice none 0 0] 132 from (b4.setO (by omega) 0 _).setO (by omega) 1 _) (.bool false) (.slice p2 0 k2')
  simpa using hS
attribute [local simp] Oper.looksAt Op.operands Call.operands Aj Det Ao
theorem div_rest (pa pb:Option Addr) (la ca lb cb m n Q R:Nat) (w:World) (ha:Ay w (.slice pa la ca) m) (hb:Ay w (.slice pb lb cb) n) (hm:m<2^800) (hQ:Hid (m/n=Q)) (hR:Hid (m%n=R)) (hn0:0<n) (hn:n<2^800) (hr:0<R) (hQ9:Q<2^900) (hn9:n<2^900) (hRn:R<=n):
  Calls Tryz.prog 130 #[.agg #[.bool true,.slice pa la ca],.agg #[.bool false,.slice pb lb cb]] w fun e w'=>∃s1 s2,e= .returned (.tuple #[.agg #[.bool true,s1],.agg #[.bool false,s2]])/\Ay w' s1 (Q+1)/\Ay w' s2 (n-R)/\Below w.heap.size w w':=by
 go_enter Tryz.func130,Tryz.ntmps130
 go_wp2_with fail
 refine(M1 (.slice pa la ca) (.slice pb lb cb) m n _ (ha.below Aa) (hb.below Aa) hm hn0 hn).mono ?_
 rintro e w1 ⟨v1,v2,rfl,hq1,hq2,hb1⟩
 have z2:=hb1.size
 try simp at z2
 have b1:Blk w1 w.heap.size #[.bool true,.slice pa la ca] 132:=A3
 have b2:Blk w1 (w.heap.size+1) #[.bool false,.slice pb lb cb] 132:=A3
 have b3:Blk w1 (w.heap.size+2) #[.bool false,.slice none 0 0] 132:=A3
 have b4:Blk w1 (w.heap.size+3) #[.bool false,.slice none 0 0] 132:=A3
 have hW:Below w.heap.size w w1:=Aa
 have z3:=b1.lt
 have z4:=b2.lt
 have z5:=b3.lt
 have z6:=b4.lt
 have k1:=b1.cell
 have f1:=b1.frozen
 have k2:=b2.cell
 have f2:=b2.frozen
 have k3:=b3.cell
 have f3:=b3.frozen
 have k4:=b4.cell
 have f4:=b4.frozen
 rw[hQ.out] at hq1
 rw[hR.out] at hq2
 obtain⟨p1,l1,k1',rfl,_,hl1⟩:=De hq1
 obtain⟨p2,l2,k2',rfl,hpos,hl2⟩:=De hq2
 obtain⟨j,hj⟩:∃j,l2.length=j+1:=⟨l2.length-1,by omega⟩
 rw[hj] at hq2
 rw[hj]
 clear hpos hl2 hl1 hj
 have hnn:=hb.below (show Below w.heap.size w w1 from by exact Aa)
 replace hq1:=Hd hq1
 replace hq2:=Hd hq2
 replace hnn:=Hd hnn
 go_upto_region 3 with(fail)
 clear k1 f1 k2 f2 k3 f3 k4 f4
 refine A9 (fun W'=>Below w.heap.size w W'/\Blk W' w.heap.size #[.bool true,.slice pa la ca] 132/\Blk W' (w.heap.size+1) #[.bool false,.slice pb lb cb] 132/\Blk W' (w.heap.size+2) #[.bool false,.slice none 0 0] 132/\Blk W' (w.heap.size+3) #[.bool false,.slice none 0 0] 132/\Ay W' (.slice p1 l1.length k1') Q/\Ay W' (.slice p2 (j+1) k2') R/\Ay W' (.slice pb lb cb) n) ⟨by exact Aa,by exact A3,by exact A3,by exact A3,by exact A3,by exact hq1.out.below Aa,by exact hq2.out.below Aa,by exact hnn.out.below Aa⟩ ?_
 clear b1 b2 b3 b4 hW
 rintro W7 ⟨hW,b1,b2,b3,b4,b5,b6,b7⟩
 have z8:=hW.size
 have z9:=b1.lt
 have z10:=b2.lt
 have z11:=b3.lt
 have z12:=b4.lt
 clear hq1 hq2 hnn
 refine An 9 38 [] (fun W'=>Rex [] W7 W'/\Blk W' w.heap.size #[.bool true,.slice pa la ca] 132/\Blk W' (w.heap.size+1) #[.bool false,.slice pb lb cb] 132/\Blk W' (w.heap.size+2) #[.bool false,.slice none 0 0] 132/\Blk W' (w.heap.size+3) #[.bool false,.slice none 0 0] 132/\Ay W' (.slice p1 l1.length k1') Q/\Ay W' (.slice p2 (j+1) k2') R/\Ay W' (.slice pb lb cb) n) Cd (by kernel_rfl) rfl ⟨(Rex.refl _ _).drew,b1,b2,b3,b4,b5.drew,b6.drew,b7.drew⟩ (fun w w' ⟨h0,h1,h2,h3,h4,h5,h6,h7⟩ hr=>⟨h0.trans hr,h1.rex hr (by simp<;>omega),h2.rex hr (by simp<;>omega),h3.rex hr (by simp<;>omega),h4.rex hr (by simp<;>omega),h5.rex hr (by simp<;>omega),h6.rex hr (by simp<;>omega),h7.rex hr (by simp<;>omega)⟩) (fun c a d v w h=>by cases d<;>exact h) ?_
 iterate 1
  apply Ag (hg:=rfl) (hal:=rfl)
  ·intro a W' hC hE
   obtain⟨_,k1,k2,k3,k4,k5,k6,k7⟩:=hC
   have k1:=k1.cell
   have k2:=k2.cell
   first
    |(simp at hE;simp[go_sem,Act.eval,iw,hE,k1,k2,k3,k4,k5,k6,k7];try rfl)
    |(clear hE;simp[go_sem,Act.eval,iw,k1,k2,k3,k4,k5,k6,k7];try rfl)
 apply A7 (BS 1) (hg:=rfl) (hal:=rfl)
 ·exact BS.closed _
 ·intro a W' hC hE
  clear hE
  refine⟨_,_,?_,(Zn 1 W' (by omega)).mono ?_⟩
  ·simp[go_sem,Act.eval]
   try rfl
  ·rintro e w' ⟨v,rfl,hB,hR⟩
   exact⟨_,rfl,hR,hB⟩
 apply A7 (BS (Q+1)) (hg:=rfl) (hal:=rfl)
 ·exact BS.closed _
 ·intro a W' hC hE
  simp at hE
  refine⟨_,_,?_,(Ul (.slice p1 l1.length k1') _ Q 1 W' hC.2.2.2.2.2.1 hE.2 hQ9 (by omega)).mono ?_⟩
  ·simp[go_sem,Act.eval,hE.1]
   try rfl
  ·rintro e w' ⟨v,rfl,hB,hR⟩
   exact⟨_,rfl,hR,hB⟩
 apply A7 (NS true (Q+1)) (hg:=rfl) (hal:=rfl)
 ·exact NS.closed _ _
 ·intro a W' hC hE
  simp at hE
  refine⟨_,_,?_,(Du true _ (Q+1) W' hE).mono ?_⟩
  ·simp[go_sem,Act.eval]
   try rfl
  ·rintro e w' ⟨rfl,hR⟩
   have hb:=BS.below hE hR
   exact⟨_,rfl,hR,_,rfl,hb⟩
 iterate 3
  apply Ag (hg:=rfl) (hal:=rfl)
  ·intro a W' hC hE
   obtain⟨_,k1,k2,k3,k4,k5,k6,k7⟩:=hC
   have k1:=k1.cell
   have k2:=k2.cell
   first
    |(simp at hE;simp[go_sem,Act.eval,iw,hE,k1,k2,k3,k4,k5,k6,k7];try rfl)
    |(clear hE;simp[go_sem,Act.eval,iw,k1,k2,k3,k4,k5,k6,k7];try rfl)
 apply A7 (BS (n-R)) (hg:=rfl) (hal:=rfl)
 ·exact BS.closed _
 ·intro a W' hC hE
  simp at hE
  refine⟨_,_,?_,(Hz (.slice pb lb cb) (.slice p2 (j+1) k2') n R W' hC.2.2.2.2.2.2.2 hC.2.2.2.2.2.2.1 hn9 hRn).mono ?_⟩
  ·simp[go_sem,Act.eval,hE]
   try rfl
  ·rintro e w' ⟨v,rfl,hB,hR⟩
   exact⟨_,rfl,hR,hB⟩
 apply A7 (NS false (n-R)) (hg:=rfl) (hal:=rfl)
 ·exact NS.closed _ _
 ·intro a W' hC hE
  simp at hE
  refine⟨_,_,?_,(Du false _ (n-R) W' hE).mono ?_⟩
  ·simp[go_sem,Act.eval]
   try rfl
  ·rintro e w' ⟨rfl,hR⟩
   have hb:=BS.below hE hR
   exact⟨_,rfl,hR,_,rfl,hb⟩
 rintro W2 ⟨hR',d1,d2,d3,d4,d5,d6,d7⟩
 simp only[Ar,Det,forall_eq]
 intros
 repeat (rename Ao _ _ _ _=>hgd;clear hgd)
 simp only[nS]
 clear b1 b2 b3 b4 b5 b6 b7
 have b1:=d1
 have b2:=d2
 have b3:=d3
 have b4:=d4
 clear d1 d2 d3 d4 d5 d6 d7
 obtain⟨sz1,rfl,hy1⟩:= ‹NS true _ _ _›
 obtain⟨sz2,rfl,hy2⟩:= ‹NS false _ _ _›
 obtain⟨p3,l3,k3',rfl,_,hl3⟩:=De hy1
 obtain⟨p4,l4,k4',rfl,_,hl4⟩:=De hy2
 replace hy1:=Hd hy1
 replace hy2:=Hd hy2
 replace hW:=hW.trans (hR'.of_priv hW.size)
 clear hR' hl3 hl4
 have k1:=b1.cell
 have f1:=b1.frozen
 have k2:=b2.cell
 have f2:=b2.frozen
 have k3:=b3.cell
 have f3:=b3.frozen
 have k4:=b4.cell
 have f4:=b4.frozen
 have y_1:=b1.lt
 have y_2:=b2.lt
 have y_3:=b3.lt
 have y_4:=b4.lt
 obtain⟨B,hB⟩:∃B,B=(true&&decide (0<Q+1)):=⟨_,rfl⟩
 rw[<-hB]
 replace hB:=Hd hB
 obtain⟨C,hC⟩:∃C,C=(false&&decide (0<n-R)):=⟨_,rfl⟩
 rw[<-hC]
 replace hC:=Hd hC
 go_wp2
 refine bodyPost_ret (v:= .tuple #[.agg #[.bool B,.slice p3 l3.length k3'],.agg #[.bool C,.slice p4 l4.length k4']]) (by simp[results,Tryz.results130,go_sem,k1,f1,k2,f2,k3,f3,k4,f4,y_1,y_2,y_3,y_4]) rfl ⟨.slice p3 l3.length k3',.slice p4 l4.length k4',by rw[hB.out,hC.out];simp,?_,?_,by exact Aa⟩
 ·have hS:=(hy1.out.store b3 (.bool B) (.slice p3 l3.length k3')).store (show Blk _ (w.heap.size+3) #[.bool false,.slice none 0 0] 132 from (b4.setO (by omega) 0 _).setO (by omega) 1 _) (.bool C) (.slice p4 l4.length k4')
  simpa using hS
 ·have hS:=(hy2.out.store b3 (.bool B) (.slice p3 l3.length k3')).store (show Blk _ (w.heap.size+3) #[.bool false,.slice none 0 0] 132 from (b4.setO (by omega) 0 _).setO (by omega) 1 _) (.bool C) (.slice p4 l4.length k4')
  simpa using hS
theorem Oa (v:Int) (w:World):
  Cb 122 #[v] w (.bool (A6 v)):=by
 unfold A6
 go_enter Tryz.func122,Tryz.ntmps122
 go_upto_region 1 with(fail)
 refine Dk 6 9 [] (fun W'=>Rex [] w W') (by kernel_rfl) rfl (Rex.refl _ _) (fun w w' h0 hr=>h0.trans hr) ?_
 iterate 3
  apply Ag (hg:=rfl) (hal:=rfl)
  ·intro a W' hC hE
   obtain _:=hC
   first
    |(simp at hE;simp[go_sem,Act.eval,iw,hE];try rfl)
    |(clear hE;simp[go_sem,Act.eval,iw];try rfl)
 iterate 2
  apply Am (p:=true) (hg:=rfl) (hd:=rfl) (hal:=rfl)
  ·intro v W' h
   simp[Aj,Det,Ao] at h
   simp
   exact h
  ·intro hp hx a W' hC hE
   obtain _:=hC
   simp[hx] at hE
   simp[go_sem,Act.eval,iw,hE]
   try rfl
 apply Ch (ho:=rfl) (hg:=rfl)
 ·intro v W' h
  simp at h
  exact h
 ·intro v W' h hx
  simp[hx] at h
  exact h
 rintro W2 hR
 simp only[Ar,Det,forall_eq]
 intros
 repeat (rename Ao _ _ _ _=>hgd;clear hgd)
 simp only[nS]
 go_wp2
 go_ret
 exact⟨rfl,hR.of_priv (Nat.le_refl _)⟩
theorem c_rslope (n d:Int) (w:World):
  Cb 213 #[.agg #[n,d]] w (.bool (Fl n d)):=by
 unfold Fl
 go_enter Tryz.func213,Tryz.ntmps213
 go_upto_region 1 with(fail)
 refine A9 (fun W=>Below w.heap.size w W/\Blk W w.heap.size #[n,d] 289) ⟨(Below.refl _ _).alloc (Nat.le_refl _) _,(by repeat (first|(refine Blk.new' ?_;simp;done)|refine Blk.alloc ?_ _))⟩ ?_
 rintro W ⟨hW,b1⟩
 refine Dk 18 21 [] (fun W'=>Rex [] W W'/\Blk W' w.heap.size #[n,d] 289) (by kernel_rfl) rfl ⟨(Rex.refl _ _),b1⟩ (fun w w' ⟨h0,h1⟩ hr=>⟨h0.trans hr,h1.rex hr (by simp<;>omega)⟩) ?_
 iterate 18
  first
  |(
   apply Ag (hg:=rfl) (hal:=rfl)
   ·intro a W' hC hE
    obtain⟨_,k1⟩:=hC
    have k1:=k1.cell
    first
     |(simp at hE;simp[go_sem,Act.eval,iw,hE,k1];try rfl)
     |(clear hE;simp[go_sem,Act.eval,iw,k1];try rfl))
  |(
   apply Am (p:=true) (hg:=rfl) (hd:=rfl) (hal:=rfl)
   ·intro v W' h
    simp[Aj,Det,Ao] at h
    simp
    exact h
   ·intro hp hx a W' hC hE
    obtain⟨_,k1⟩:=hC
    have k1:=k1.cell
    simp[hx] at hE
    simp[go_sem,Act.eval,iw,hE,k1]
    try rfl)
  |(
   apply Ch (ho:=rfl) (hg:=rfl)
   ·intro v W' h
    simp at h
    exact h
   ·intro v W' h hx
    simp[hx] at h
    exact h)
 rintro W2 ⟨hR,c1⟩
 simp only[Ar,Det,forall_eq]
 intros
 repeat (rename Ao _ _ _ _=>hgd;clear hgd)
 simp only[nS]
 go_wp2
 go_ret
 exact⟨rfl,hW.trans (hR.of_priv hW.size)⟩
structure Rv (a b m n:Int):Prop where
 m0:0<=m
 m1:m<=9223372036854775807
 n0:0<=n
 n1:n<=9223372036854775807
 eq:Nat.gcd m.natAbs n.natAbs=Nat.gcd a.natAbs b.natAbs
theorem Rv.left {a b m n:Int} (h:Rv a b m n) (hn:0<n):Rv a b (m%n) n/\m%n<n:=by
 have l1:=Int.emod_nonneg m (show n≠0 by omega)
 have l2:=Int.emod_lt_of_pos m hn
 have:=h.n1
 refine⟨⟨l1,by omega,h.n0,h.n1,?_⟩,l2⟩
 rw[<-h.eq]
 obtain⟨m,rfl⟩:=Int.eq_ofNat_of_zero_le h.m0
 obtain⟨n,rfl⟩:=Int.eq_ofNat_of_zero_le h.n0
 show Nat.gcd (m%n) n=Nat.gcd m n
 rw[Nat.gcd_comm m n,<-Nat.gcd_rec]
theorem Rv.right {a b m n:Int} (h:Rv a b m n) (hm:0<m):Rv a b m (n%m)/\n%m<m:=by
 have l1:=Int.emod_nonneg n (show m≠0 by omega)
 have l2:=Int.emod_lt_of_pos n hm
 have:=h.m1
 refine⟨⟨h.m0,h.m1,l1,by omega,?_⟩,l2⟩
 rw[<-h.eq]
 obtain⟨m,rfl⟩:=Int.eq_ofNat_of_zero_le h.m0
 obtain⟨n,rfl⟩:=Int.eq_ofNat_of_zero_le h.n0
 show Nat.gcd m (n%m)=Nat.gcd m n
 rw[Nat.gcd_comm m (n%m),Nat.gcd_rec m n]
theorem Rv.done {a b m n:Int} (h:Rv a b m n) (hz:m=0∨n=0):m+n=(Nat.gcd a.natAbs b.natAbs:Int):=by
 rw[<-h.eq]
 have:=h.m0;have:=h.n0
 rcases hz with rfl|rfl<;>simp<;>omega
def Lb (a b:Int) (w:World) (a':Act) (W:World):Prop:=W=w/\∃(m n:Int),(∃u:Nat->Value,a'= {tmps:= #[m,n,u 2,u 3,.int .i64 0,u 5,u 6,u 7,u 8,u 9,u 10,u 11,u 12,u 13,u 14,u 15,u 16,u 17,u 18,u 19,u 20,u 21,u 22,u 23,u 24,u 25,u 26],defers:= []})/\Rv a b m n
theorem c_common (a b:Int) (w:World) (ha: -9223372036854775807<=a/\a<=9223372036854775807) (hb:0<=b/\b<=9223372036854775807):
  Calls Tryz.prog 228 #[a,b] w fun e w'=>e= .returned (.int .i64 (Nat.gcd a.natAbs b.natAbs))/\w'=w:=by
 go_enter Tryz.func228,Tryz.ntmps228
 have start:∀m,(m=a∨m= -a)->0<=m->Rv a b m b:=by
  rintro m (rfl|rfl) h
  ·exact⟨h,ha.2,hb.1,hb.2,rfl⟩
  ·exact⟨h,by omega,hb.1,hb.2,by rw[Int.natAbs_neg]⟩
 by_cases h:a<0
 ·go_wp2
  refine wp_loop (Lb a b w) (fun x _=>(Ak (x.tmps.getD 0 undef)).toNat+(Ak (x.tmps.getD 1 undef)).toNat) ?_ ?_
  ·unfold Lb
   exact⟨rfl,-a,b,Ac rfl,start _ (.inr rfl) (by omega)⟩
  rintro a' W ⟨rfl,m,n,⟨u,rfl⟩,hs⟩
  have m0:=hs.m0;have m1:=hs.m1;have n0:=hs.n0;have n1:=hs.n1
  by_cases hm:0<m
  ·by_cases hn:0<n
   ·by_cases hmn:n<m
    ·have hq:=hs.left hn
     have hn0:¬n=0:=by omega
     go_wp2
     have hq2:=hq.2
     refine⟨?_,by simp[Ak];omega⟩
     unfold Lb
     exact⟨rfl,m%n,n,Ac rfl,hq.1⟩
    ·have hq:=hs.right hm
     have hm0:¬m=0:=by omega
     go_wp2
     have hq2:=hq.2
     refine⟨?_,by simp[Ak];omega⟩
     unfold Lb
     exact⟨rfl,m,n%m,Ac rfl,hq.1⟩
   ·have hd:=Hd (hs.done (.inr (by omega)))
    go_wp2
    go_ret
    exact⟨by rw[<-hd.out];rfl,rfl⟩
  ·have hd:=Hd (hs.done (.inl (by omega)))
   go_wp2
   go_ret
   exact⟨by rw[<-hd.out];rfl,rfl⟩
 ·go_wp2
  refine wp_loop (Lb a b w) (fun x _=>(Ak (x.tmps.getD 0 undef)).toNat+(Ak (x.tmps.getD 1 undef)).toNat) ?_ ?_
  ·unfold Lb
   exact⟨rfl,a,b,Ac rfl,start _ (.inl rfl) (by omega)⟩
  rintro a' W ⟨rfl,m,n,⟨u,rfl⟩,hs⟩
  have m0:=hs.m0;have m1:=hs.m1;have n0:=hs.n0;have n1:=hs.n1
  by_cases hm:0<m
  ·by_cases hn:0<n
   ·by_cases hmn:n<m
    ·have hq:=hs.left hn
     have hn0:¬n=0:=by omega
     go_wp2
     have hq2:=hq.2
     refine⟨?_,by simp[Ak];omega⟩
     unfold Lb
     exact⟨rfl,m%n,n,Ac rfl,hq.1⟩
    ·have hq:=hs.right hm
     have hm0:¬m=0:=by omega
     go_wp2
     have hq2:=hq.2
     refine⟨?_,by simp[Ak];omega⟩
     unfold Lb
     exact⟨rfl,m,n%m,Ac rfl,hq.1⟩
   ·have hd:=Hd (hs.done (.inr (by omega)))
    go_wp2
    go_ret
    exact⟨by rw[<-hd.out];rfl,rfl⟩
  ·have hd:=Hd (hs.done (.inl (by omega)))
   go_wp2
   go_ret
   exact⟨by rw[<-hd.out];rfl,rfl⟩
theorem rlowest_w (n d g x y:Int) (w:World) (hg:¬g=0) (e1:wrap64 (n.tdiv g)=x) (e2:wrap64 (d.tdiv g)=y)
  (c1:∀w,Calls Tryz.prog 228 #[n,d] w fun e w'=>e= .returned (g)/\w'=w):
  Cb 214 #[.agg #[n,d]] w (.agg #[x,y]):=by
 go_enter Tryz.func214,Tryz.ntmps214
 go_wp2_with fail
 refine(c1 _).mono ?_
 rintro e w1 ⟨rfl,rfl⟩
 clear c1
 go_upto_region 2 with(fail)
 refine A9 (fun W=>Below w.heap.size w W/\Blk W w.heap.size #[n,d] 289/\Blk W (w.heap.size+1) #[.int .i64 0,.int .i64 0] 289) ⟨?_,(by repeat (first|(refine Blk.new' ?_;simp;done)|refine Blk.alloc ?_ _)),(by repeat (first|(refine Blk.new' ?_;simp;done)|refine Blk.alloc ?_ _))⟩ ?_
 ·exact(have hUp:=(Below.refl w.heap.size w);Aa)
 rintro W ⟨hW,b1,b2⟩
 refine An 9 18 [] (fun W'=>Rex [] W W'/\Blk W' w.heap.size #[n,d] 289/\Blk W' (w.heap.size+1) #[.int .i64 0,.int .i64 0] 289) Cd (by kernel_rfl) rfl ⟨(Rex.refl _ _).drew,b1,b2⟩ (fun w w' ⟨h0,h1,h2⟩ hr=>⟨h0.trans hr,h1.rex hr (by simp<;>omega),h2.rex hr (by simp<;>omega)⟩) (fun c a d v w h=>by cases d<;>exact h) ?_
 iterate 9
  apply Ag (hg:=rfl) (hal:=rfl)
  ·intro a W' hC hE
   obtain⟨_,k1,k2⟩:=hC
   have k1:=k1.cell
   first
    |(simp at hE;simp[go_sem,Act.eval,iw,hE,k1,k2,hg,e1,e2];try rfl)
    |(clear hE;simp[go_sem,Act.eval,iw,k1,k2,hg,e1,e2];try rfl)
 rintro W2 ⟨hR,c1,c2⟩
 simp only[Ar,Det,forall_eq]
 intros
 repeat (rename Ao _ _ _ _=>hgd;clear hgd)
 simp only[nS]
 have k2:=c2.cell
 have k3:=c2.frozen
 go_wp2
 refine bodyPost_ret (v:= .agg #[x,y]) (by simp[results,Tryz.results214,go_sem,k2,k3]) rfl ⟨rfl,?_⟩
 exact(have hUp:=(hW.trans (hR.of_priv hW.size));Aa)
theorem c_rlowest (n d:Int) (w:World) (hn: -9223372036854775807<=n/\n<=9223372036854775807) (hd:1<=d) (hd':d<=9223372036854775807):
  Cb 214 #[.agg #[n,d]] w (.agg #[.int .i64 (n.tdiv (Jh n d)),.int .i64 (d.tdiv (Jh n d))]):=by
 have hg:=Q1 n hd
 exact rlowest_w n d (Jh n d) _ _ w (by omega) (J0 n _ ⟨by omega,hn.2⟩ hg) (J0 d _ ⟨by omega,hd'⟩ hg) (fun w=>c_common n d w hn ⟨by omega,hd'⟩)
theorem c_rline (A R n d:Int) (w:World):
  Cb 195 #[.agg #[A,R,n,d]] w (.bool (Cw A R n d)):=by
 rw[Sl]
 go_enter Tryz.func195,Tryz.ntmps195
 go_upto_region 2 with(fail)
 refine A9 (fun W=>Below w.heap.size w W/\Blk W w.heap.size #[A,R,n,d] 95/\Blk W (w.heap.size+1) #[n,d] 289) ⟨by exact Aa,by exact Ab,by exact Ab⟩ ?_
 rintro W ⟨hW,b1,b2⟩
 refine An 25 34 [] (fun W'=>Rex [] W W'/\Blk W' w.heap.size #[A,R,n,d] 95/\Blk W' (w.heap.size+1) #[n,d] 289) Cd (by kernel_rfl) rfl ⟨(Rex.refl _ _).drew,b1,b2⟩ (fun w w' ⟨h0,h1,h2⟩ hr=>⟨h0.trans hr,h1.rex hr (by simp<;>omega),h2.rex hr (by simp<;>omega)⟩) (fun c a d v w h=>by cases d<;>exact h) ?_
 iterate 2
  apply Ag (hg:=rfl) (hal:=rfl)
  ·intro a W' hC hE
   obtain⟨_,k1,k2⟩:=hC
   have k1:=k1.cell
   have k2:=k2.cell
   first
    |(simp at hE;simp[go_sem,Act.eval,iw,hE,k1,k2,Cc];try rfl)
    |(clear hE;simp[go_sem,Act.eval,iw,k1,k2,Cc];try rfl)
 refine Bg rfl rfl (fun W' hC=>Oa A W') (fun a W' hC hE=> ?_) ?_
 ·obtain⟨_,k1,k2⟩:=hC
  have k1:=k1.cell
  have k2:=k2.cell
  first
   |(simp at hE;simp[go_sem,Act.eval,iw,hE,k1,k2,Cc];try rfl)
   |(clear hE;simp[go_sem,Act.eval,iw,k1,k2,Cc];try rfl)
 iterate 1
  apply Ag (hg:=rfl) (hal:=rfl)
  ·intro a W' hC hE
   obtain⟨_,k1,k2⟩:=hC
   have k1:=k1.cell
   have k2:=k2.cell
   first
    |(simp at hE;simp[go_sem,Act.eval,iw,hE,k1,k2,Cc];try rfl)
    |(clear hE;simp[go_sem,Act.eval,iw,k1,k2,Cc];try rfl)
 iterate 1
  apply Am (p:=true) (hg:=rfl) (hd:=rfl) (hal:=rfl)
  ·intro v W' h
   simp[Aj,Det,Ao] at h
   simp
   exact h
  ·intro hp hx a W' hC hE
   obtain⟨_,k1,k2⟩:=hC
   have k1:=k1.cell
   have k2:=k2.cell
   simp[hx] at hE
   simp[go_sem,Act.eval,iw,hE,k1,k2,Cc]
   try rfl
 apply Cj (p:=true) (hg:=rfl) (hd:=rfl) (hal:=rfl)
 ·intro v W' h
  simp at h
  simp
  exact h
 ·intro hp hx W' hC
  exact c_rslope n d W'
 ·intro hp hx a W' hC hE
  obtain⟨_,k1,k2⟩:=hC
  have k1:=k1.cell
  have k2:=k2.cell
  first
   |(simp[hx] at hE;simp[go_sem,Act.eval,iw,hE,k1,k2,Cc];try rfl)
   |(clear hE;simp[go_sem,Act.eval,iw,k1,k2,Cc];try rfl)
 apply Ch (ho:=rfl) (hg:=rfl)
 ·intro v W' h
  simp at h
  exact h
 ·intro v W' h hx
  simp[hx] at h
  exact h
 iterate 1
  apply Ag (hg:=rfl) (hal:=rfl)
  ·intro a W' hC hE
   obtain⟨_,k1,k2⟩:=hC
   have k1:=k1.cell
   have k2:=k2.cell
   first
    |(simp at hE;simp[go_sem,Act.eval,iw,hE,k1,k2,Cc];try rfl)
    |(clear hE;simp[go_sem,Act.eval,iw,k1,k2,Cc];try rfl)
 iterate 1
  apply Am (p:=true) (hg:=rfl) (hd:=rfl) (hal:=rfl)
  ·intro v W' h
   simp[Aj,Det,Ao] at h
   simp
   exact h
  ·intro hp hx a W' hC hE
   obtain⟨_,k1,k2⟩:=hC
   have k1:=k1.cell
   have k2:=k2.cell
   simp[hx] at hE
   simp[go_sem,Act.eval,iw,hE,k1,k2,Cc]
   try rfl
 apply Cj (p:=true) (hg:=rfl) (hd:=rfl) (hal:=rfl)
 ·intro v W' h
  simp at h
  simp
  exact h
 ·intro hp hx W' hC
  exact(let q:=Hh (show Fl n d=true by simp at hx;exact hx.2);c_rlowest n d W' ⟨by have:=q.1;omega,by have:=q.1;omega⟩ q.2.1 (by have:=q.2.2;omega))
 ·intro hp hx a W' hC hE
  obtain⟨_,k1,k2⟩:=hC
  have k1:=k1.cell
  have k2:=k2.cell
  first
   |(simp[hx] at hE;simp[go_sem,Act.eval,iw,hE,k1,k2,Cc];try rfl)
   |(clear hE;simp[go_sem,Act.eval,iw,k1,k2,Cc];try rfl)
 iterate 15
  first
  |(
   apply Am (p:=true) (hg:=rfl) (hd:=rfl) (hal:=rfl)
   ·intro v W' h
    simp[Aj,Det,Ao] at h
    simp
    exact h
   ·intro hp hx a W' hC hE
    obtain⟨_,k1,k2⟩:=hC
    have k1:=k1.cell
    have k2:=k2.cell
    simp[hx] at hE
    simp[go_sem,Act.eval,iw,hE,k1,k2,Cc]
    try rfl)
  |(
   apply Ch (ho:=rfl) (hg:=rfl)
   ·intro v W' h
    simp at h
    exact h
   ·intro v W' h hx
    simp[hx] at h
    exact h)
  |(
   apply Ag (hg:=rfl) (hal:=rfl)
   ·intro a W' hC hE
    obtain⟨_,k1,k2⟩:=hC
    have k1:=k1.cell
    have k2:=k2.cell
    first
     |(simp at hE;simp[go_sem,Act.eval,iw,hE,k1,k2,Cc];try rfl)
     |(clear hE;simp[go_sem,Act.eval,iw,k1,k2,Cc];try rfl))
 rintro W2 ⟨hR,c1,c2⟩
 simp only[Ar,Det,forall_eq]
 intros
 repeat (rename Ao _ _ _ _=>hgd;clear hgd)
 simp only[nS]
 go_wp2
 go_ret
 exact⟨rfl,hW.trans (hR.of_priv hW.size)⟩
def NI (z:Int):Bo:=fun v w=>Bu w v z
theorem NI.closed (z:Int):Bj [] (NI z):=fun _ _ _ hr h=>Bu.rex h hr rfl
theorem divN {m n Q R:Nat} (hn:0<n) (hQ:m/n=Q) (hR:m%n=R):(m:Int)/(n:Int)=Q/\(m:Int)%(n:Int)=R:=by
 subst hQ hR;exact⟨by simp,by simp⟩
theorem divN0 {m n Q:Nat} (hn:0<n) (hQ:m/n=Q) (hR:m%n=0):(-(m:Int))/(n:Int)= -(Q:Int)/\(-(m:Int))%(n:Int)=0:=by
 have h:=Nat.div_add_mod m n
 rw[hQ,hR] at h
 refine(Int.ediv_emod_unique (by omega)).2 ⟨?_,by omega,by omega⟩
 have:((n*Q:Nat):Int)=m:=by omega
 rw[Int.natCast_mul] at this
 rw[Int.mul_neg];omega
theorem divN1 {m n Q R:Nat} (hn:0<n) (hQ:m/n=Q) (hR:m%n=R) (h0:0<R):(-(m:Int))/(n:Int)= -((Q+1:Nat):Int)/\(-(m:Int))%(n:Int)=((n-R:Nat):Int):=by
 have h:=Nat.div_add_mod m n
 have hl:=Nat.mod_lt m hn
 rw[hQ,hR] at h
 rw[hR] at hl
 refine(Int.ediv_emod_unique (by omega)).2 ⟨?_,by omega,by omega⟩
 have:((n*Q:Nat):Int)+R=m:=by omega
 rw[Int.natCast_mul] at this
 rw[Int.mul_neg,show ((Q+1:Nat):Int)=(Q:Int)+1 by omega,Int.mul_add]
 omega
theorem N9 (va vb:Value) (x y:Int) (w:World) (ha:Bu w va x) (hb:Bu w vb y) (hx:x.natAbs<2^800) (hy0:0<y) (hy:y.natAbs<2^800):
  Calls Tryz.prog 130 #[va,vb] w fun e w'=>∃v1 v2,e= .returned (.tuple #[v1,v2])/\Bu w' v1 (x/y)/\Bu w' v2 (x%y)/\Below w.heap.size w w':=by
 obtain⟨pa,la,ca,rfl,ha'⟩:=Ca ha
 obtain⟨pb,lb,cb,rfl,hb'⟩:=Ca hb
 rw[decide_eq_false (show¬y<0 by omega)]
 obtain⟨n,rfl⟩:∃n:Nat,y=(n:Int):=⟨y.toNat,by omega⟩
 have hn0:0<n:=by omega
 rw[Int.natAbs_natCast] at hb' hy
 obtain⟨Q,hQ⟩:∃Q,x.natAbs/n=Q:=⟨_,rfl⟩
 obtain⟨R,hR⟩:∃R,x.natAbs%n=R:=⟨_,rfl⟩
 by_cases hneg:x<0
 ·rw[decide_eq_true hneg]
  obtain⟨m,rfl⟩:∃m:Nat,x= -(m:Int):=⟨x.natAbs,by omega⟩
  rw[Int.natAbs_neg,Int.natAbs_natCast] at ha' hx hQ hR
  rcases Nat.eq_zero_or_pos R with h0|h0
  ·refine(div_zero pa pb la ca lb cb m n Q R w ha' hb' hx (Hd hQ) (Hd hR) hn0 hy h0).mono ?_
   rintro e w' ⟨s1,s2,rfl,h1,h2,hB⟩
   subst h0
   obtain⟨e1,e2⟩:=divN0 hn0 hQ hR
   rw[e1,e2]
   refine⟨_,_,rfl,Nr h1 (by omega) ?_,⟨s2,rfl,h2⟩,hB⟩
   rw[Bool.true_and];exact decide_eq_decide.2 ⟨fun h=>by omega,fun h=>by omega⟩
  ·have hl:=Nat.mod_lt m hn0
   rw[hR] at hl
   have hQm:Q<=m:=by rw[<-hQ];exact Nat.div_le_self _ _
   have big:=Hq 800 900 (by omega)
   refine(div_rest pa pb la ca lb cb m n Q R w ha' hb' hx (Hd hQ) (Hd hR) hn0 hy h0 (by omega) (by omega) (by omega)).mono ?_
   rintro e w' ⟨s1,s2,rfl,h1,h2,hB⟩
   obtain⟨e1,e2⟩:=divN1 hn0 hQ hR h0
   rw[e1,e2]
   refine⟨_,_,rfl,⟨s1,by rw[decide_eq_true (show-((Q+1:Nat):Int)<0 by omega)],by rw[Int.natAbs_neg,Int.natAbs_natCast];exact h1⟩,⟨s2,by rw[decide_eq_false (show¬((n-R:Nat):Int)<0 by omega)],by rw[Int.natAbs_natCast];exact h2⟩,hB⟩
 ·rw[decide_eq_false hneg]
  obtain⟨m,rfl⟩:∃m:Nat,x=(m:Int):=⟨x.toNat,by omega⟩
  rw[Int.natAbs_natCast] at ha' hx hQ hR
  refine(div_plain false pa pb la ca lb cb m n Q R w ha' hb' hx (Hd hQ) (Hd hR) hn0 hy rfl).mono ?_
  rintro e w' ⟨s1,s2,rfl,h1,h2,hB⟩
  obtain⟨e1,e2⟩:=divN hn0 hQ hR
  rw[e1,e2]
  refine⟨_,_,rfl,⟨s1,by rw[decide_eq_false (show¬(Q:Int)<0 by omega)];rfl,by rw[Int.natAbs_natCast];exact h1⟩,⟨s2,by rw[decide_eq_false (show¬(R:Int)<0 by omega)],by rw[Int.natAbs_natCast];exact h2⟩,hB⟩
theorem rtimes_w (A R n d t:Int) (w:World) (hn: -9223372036854775808<=n/\n<=9223372036854775807) (ht: -9223372036854775808<=t/\t<=9223372036854775807) (hRR: -9223372036854775808<=R/\R<=9223372036854775807) (hA: -9223372036854775808<=A/\A<=9223372036854775807) (hd: -9223372036854775808<=d/\d<=9223372036854775807)
  (hn4:n.natAbs<2^400) (ht4:t.natAbs<2^400) (hA4:A.natAbs<2^400) (hd4:d.natAbs<2^400) (hnt9:(n*t).natAbs<2^900) (hR9:R.natAbs<2^900) (hs9:(n*t+R).natAbs<2^900) (hAd9:(A*d).natAbs<2^900):
  Calls Tryz.prog 166 #[.agg #[A,R,n,d],t] w fun e w'=>∃v,e= .returned v/\Bu w' v (n*t+R+A*d)/\Below w.heap.size w w':=by
 go_enter Tryz.func166,Tryz.ntmps166
 go_upto_region 1 with(fail)
 refine Ad w (Bc w.heap.size #[A,R,n,d] 95<|Bc (w.heap.size+1) #[.bool false,.slice none 0 0] 132<|Bz) ?_
 rintro W1 hW z2 ⟨⟨b1,yb1,k1,f1⟩,⟨b2,yb2,k2,f2⟩,-⟩
 refine An 11 25 [] (fun W'=>Rex [] W1 W'/\Blk W' w.heap.size #[A,R,n,d] 95/\Blk W' (w.heap.size+1) #[.bool false,.slice none 0 0] 132) Cd (by kernel_rfl) rfl ⟨(Rex.refl _ _).drew,b1,b2⟩ (fun w w' ⟨h0,h1,h2⟩ hr=>⟨h0.trans hr,h1.rex hr (by simp<;>omega),h2.rex hr (by simp<;>omega)⟩) (fun c a d v w h=>by cases d<;>exact h) ?_
 iterate 2
  apply Ag (hg:=rfl) (hal:=rfl)
  ·intro a W' hC hE
   obtain⟨_,k1,k2⟩:=hC
   have k1:=k1.cell
   first
    |(simp at hE;simp[go_sem,Act.eval,iw,hE,k1,k2];try rfl)
    |(clear hE;simp[go_sem,Act.eval,iw,k1,k2];try rfl)
 apply A7 (NI (n)) (hg:=rfl) (hal:=rfl)
 ·exact NI.closed _
 ·intro a W' hC hE
  simp at hE
  refine⟨_,_,?_,(Ew n W' hn.1 hn.2).mono ?_⟩
  ·simp[go_sem,Act.eval,hE]
   try rfl
  ·rintro e w' ⟨v,rfl,hB,hR⟩
   exact⟨_,rfl,hR,hB⟩
 iterate 1
  apply Ag (hg:=rfl) (hal:=rfl)
  ·intro a W' hC hE
   obtain⟨_,k1,k2⟩:=hC
   have k1:=k1.cell
   first
    |(simp at hE;simp[go_sem,Act.eval,iw,hE,k1,k2];try rfl)
    |(clear hE;simp[go_sem,Act.eval,iw,k1,k2];try rfl)
 apply A7 (NI (t)) (hg:=rfl) (hal:=rfl)
 ·exact NI.closed _
 ·intro a W' hC hE
  simp at hE
  refine⟨_,_,?_,(Ew t W' ht.1 ht.2).mono ?_⟩
  ·simp[go_sem,Act.eval,hE]
   try rfl
  ·rintro e w' ⟨v,rfl,hB,hR⟩
   exact⟨_,rfl,hR,hB⟩
 apply A7 (NI (n*t)) (hg:=rfl) (hal:=rfl)
 ·exact NI.closed _
 ·intro a W' hC hE
  simp at hE
  refine⟨_,_,?_,(Wk _ _ n t W' hE.1 hE.2 hn4 ht4).mono ?_⟩
  ·simp[go_sem,Act.eval]
   try rfl
  ·rintro e w' ⟨v,rfl,hB,hR⟩
   exact⟨_,rfl,hR,hB⟩
 iterate 2
  apply Ag (hg:=rfl) (hal:=rfl)
  ·intro a W' hC hE
   obtain⟨_,k1,k2⟩:=hC
   have k1:=k1.cell
   first
    |(simp at hE;simp[go_sem,Act.eval,iw,hE,k1,k2];try rfl)
    |(clear hE;simp[go_sem,Act.eval,iw,k1,k2];try rfl)
 apply A7 (NI (R)) (hg:=rfl) (hal:=rfl)
 ·exact NI.closed _
 ·intro a W' hC hE
  simp at hE
  refine⟨_,_,?_,(Ew R W' hRR.1 hRR.2).mono ?_⟩
  ·simp[go_sem,Act.eval,hE]
   try rfl
  ·rintro e w' ⟨v,rfl,hB,hR⟩
   exact⟨_,rfl,hR,hB⟩
 apply A7 (NI (n*t+R)) (hg:=rfl) (hal:=rfl)
 ·exact NI.closed _
 ·intro a W' hC hE
  simp at hE
  refine⟨_,_,?_,(Ra _ _ (n*t) R W' hE.1 hE.2 hnt9 hR9).mono ?_⟩
  ·simp[go_sem,Act.eval]
   try rfl
  ·rintro e w' ⟨v,rfl,hB,hR⟩
   exact⟨_,rfl,hR,hB⟩
 apply Db W1.heap.size #[.bool false,.slice none 0 0] 132 rfl rfl
 ·exact fun W' hC=>hC.1.size
 ·simp[Bl]<;>omega
 ·intro w;kernel_rfl
 rintro W2 ⟨hR,d1,d2⟩
 simp only[Ar,Det,forall_eq]
 intros
 repeat (rename Ao _ _ _ _=>hgd;clear hgd)
 simp only[nS]
 clear b1 b2
 have b1:=d1
 have b2:=d2
 clear d1 d2
 replace hW:=hW.trans (hR.of_priv hW.size)
 clear hR
 obtain⟨o3,rfl,hg3,b3⟩:= ‹D9 _ _ _ _ _›
 rename NI (n*t+R) _ _=>hq
 obtain⟨p1,l1,k1',rfl,hq1⟩:=Ca hq
 replace hq1:=Hd hq1
 clear hq
 have z9:=hW.size
 have z10:=b1.lt
 have z11:=b2.lt
 have z12:=b3.lt
 clear k1 f1 k2 f2
 have k1:=b1.cell
 have f1:=b1.frozen
 have k2:=b2.cell
 have f2:=b2.frozen
 have k3:=b3.cell
 have f3:=b3.frozen
 have hq2:=Hd (hq1.out.store b3 (.bool (decide (n*t+R<0))) (.slice p1 l1 k1'))
 go_upto_region 2 with(fail)
 clear k1 f1 k2 f2 k3 f3
 refine Ad w (Bc w.heap.size #[A,R,n,d] 95<|Bc (w.heap.size+1) #[.bool false,.slice none 0 0] 132<|Bc o3 #[.bool (decide (n*t+R<0)),.slice p1 l1 k1'] 132<|Rc (fun W'=>Ay W' (.slice p1 l1 k1') (n*t+R).natAbs)<|Bz) ?_ (hI:=by exact Aa) (hR:=(Bc.mk (by exact Ab)<|Bc.mk (by exact Ab)<|Bc.mk (by exact Ab)<|Rc.mk (by exact hq2.out)<|trivial))
 clear b1 b2 b3 hW
 rintro W3 hW z4 ⟨⟨b1,yb1,k1,f1⟩,⟨b2,yb2,k2,f2⟩,⟨b3,yb3,k3,f3⟩,b4,-⟩
 refine An 9 25 [] (fun W'=>Rex [] W3 W'/\Blk W' w.heap.size #[A,R,n,d] 95/\Blk W' (w.heap.size+1) #[.bool false,.slice none 0 0] 132/\Blk W' o3 #[.bool (decide (n*t+R<0)),.slice p1 l1 k1'] 132/\Ay W' (.slice p1 l1 k1') (n*t+R).natAbs) Cd (by kernel_rfl) rfl ⟨(Rex.refl _ _).drew,b1,b2,b3,b4.drew⟩ (fun w w' ⟨h0,h1,h2,h3,h4⟩ hr=>⟨h0.trans hr,h1.rex hr (by simp<;>omega),h2.rex hr (by simp<;>omega),h3.rex hr (by simp<;>omega),h4.rex hr (by simp<;>omega)⟩) (fun c a d v w h=>by cases d<;>exact h) ?_
 iterate 3
  apply Ag (hg:=rfl) (hal:=rfl)
  ·intro a W' hC hE
   obtain⟨_,k1,k2,k3,k4⟩:=hC
   have k1:=k1.cell
   have k3:=k3.cell
   first
    |(simp at hE;simp[go_sem,Act.eval,iw,hE,k1,k2,k3,k4];try rfl)
    |(clear hE;simp[go_sem,Act.eval,iw,k1,k2,k3,k4];try rfl)
 apply A7 (NI (A)) (hg:=rfl) (hal:=rfl)
 ·exact NI.closed _
 ·intro a W' hC hE
  simp at hE
  refine⟨_,_,?_,(Ew A W' hA.1 hA.2).mono ?_⟩
  ·simp[go_sem,Act.eval,hE]
   try rfl
  ·rintro e w' ⟨v,rfl,hB,hR⟩
   exact⟨_,rfl,hR,hB⟩
 iterate 2
  apply Ag (hg:=rfl) (hal:=rfl)
  ·intro a W' hC hE
   obtain⟨_,k1,k2,k3,k4⟩:=hC
   have k1:=k1.cell
   have k3:=k3.cell
   first
    |(simp at hE;simp[go_sem,Act.eval,iw,hE,k1,k2,k3,k4];try rfl)
    |(clear hE;simp[go_sem,Act.eval,iw,k1,k2,k3,k4];try rfl)
 apply A7 (NI (d)) (hg:=rfl) (hal:=rfl)
 ·exact NI.closed _
 ·intro a W' hC hE
  simp at hE
  refine⟨_,_,?_,(Ew d W' hd.1 hd.2).mono ?_⟩
  ·simp[go_sem,Act.eval,hE]
   try rfl
  ·rintro e w' ⟨v,rfl,hB,hR⟩
   exact⟨_,rfl,hR,hB⟩
 apply A7 (NI (A*d)) (hg:=rfl) (hal:=rfl)
 ·exact NI.closed _
 ·intro a W' hC hE
  simp at hE
  refine⟨_,_,?_,(Wk _ _ A d W' hE.1 hE.2 hA4 hd4).mono ?_⟩
  ·simp[go_sem,Act.eval]
   try rfl
  ·rintro e w' ⟨v,rfl,hB,hR⟩
   exact⟨_,rfl,hR,hB⟩
 apply A7 (NI (n*t+R+A*d)) (hg:=rfl) (hal:=rfl)
 ·exact NI.closed _
 ·intro a W' hC hE
  simp at hE
  refine⟨_,_,?_,(Ra (.agg #[.bool (decide (n*t+R<0)),.slice p1 l1 k1']) _ (n*t+R) (A*d) W' ⟨_,rfl,hC.2.2.2.2⟩ hE.2 hs9 hAd9).mono ?_⟩
  ·simp[go_sem,Act.eval,hE.1]
   try rfl
  ·rintro e w' ⟨v,rfl,hB,hR⟩
   exact⟨_,rfl,hR,hB⟩
 rintro W4 ⟨hR,d1,d2,d3,d4⟩
 simp only[Ar,Det,forall_eq]
 intros
 repeat (rename Ao _ _ _ _=>hgd;clear hgd)
 simp only[nS]
 clear b1 b2 b3 b4
 have b1:=d1
 have b2:=d2
 have b3:=d3
 clear d1 d2 d3 d4
 replace hW:=hW.trans (hR.of_priv hW.size)
 clear hR
 rename NI (n*t+R+A*d) _ _=>hq
 obtain⟨p2,l2,k2',rfl,hq3⟩:=Ca hq
 replace hq3:=Hd hq3
 clear hq
 clear k1 f1 k2 f2 k3 f3
 have k1:=b1.cell
 have f1:=b1.frozen
 have k2:=b2.cell
 have f2:=b2.frozen
 have k3:=b3.cell
 have f3:=b3.frozen
 have y_1:=b1.lt
 have y_2:=b2.lt
 have y_3:=b3.lt
 obtain⟨B,hB⟩:∃B,B=(decide (n*t+R+A*d<0)):=⟨_,rfl⟩
 rw[<-hB]
 replace hB:=Hd hB
 go_wp2
 refine bodyPost_ret (v:= .agg #[.bool B,.slice p2 l2 k2']) (by simp[results,Tryz.results166,go_sem,k1,f1,k2,f2,k3,f3,y_1,y_2,y_3]) rfl ⟨_,rfl,⟨_,by rw[hB.out],?_⟩,by exact Aa⟩
 have hS:=hq3.out.store b2 (.bool B) (.slice p2 l2 k2')
 simpa using hS
def DV (x y:Int):Bo:=fun v w=>∃v1 v2,v= .tuple #[v1,v2]/\Bu w v1 (x/y)/\Bu w v2 (x%y)
theorem DV.closed (x y:Int):Bj [] (DV x y):=fun _ _ _ hr ⟨v1,v2,e,h1,h2⟩=>⟨v1,v2,e,h1.rex hr rfl,h2.rex hr rfl⟩
theorem rat_yes (A R n d t X:Int) (w:World) (hd: -9223372036854775808<=d/\d<=9223372036854775807) (hX:X.natAbs<2^800) (hd0:0<d) (hd8:d.natAbs<2^800)
  (c1:∀W,Calls Tryz.prog 166 #[.agg #[A,R,n,d],t] W fun e w'=>∃v,e= .returned v/\Bu w' v X/\Below W.heap.size W w')
  (c2:∀W va,Bu W va (X/d)->Cb 68 #[va] W (.tuple #[.int .i64 (X/d),.bool true])) (hb:A6 (X/d)=true):
  Cb 123 #[.agg #[A,R,n,d],t] w (.tuple #[.int .i64 (X/d),.bool true]):=by
 have H_c1:=Hd c1
 clear c1
 have H_c2:=Hd c2
 clear c2
 go_enter Tryz.func123,Tryz.ntmps123
 go_upto_region 1 with(fail)
 refine Ad w (Bc w.heap.size #[A,R,n,d] 95<|Bz) ?_
 rintro W1 hW z2 ⟨⟨b1,yb1,k1,f1⟩,-⟩
 have c1:=H_c1.out
 refine D0 12 33 [] (fun W'=>Rex [] W1 W'/\Blk W' w.heap.size #[A,R,n,d] 95) Cd (by kernel_rfl) rfl ⟨(Rex.refl _ _).drew,b1⟩ (fun w w' ⟨h0,h1⟩ hr=>⟨h0.trans hr,h1.rex hr (by simp<;>omega)⟩) (fun c a d v w h=>by cases d<;>exact h) ?_
 iterate 2
  apply Ag (hg:=rfl) (hal:=rfl)
  ·intro a W' hC hE
   obtain⟨_,k1⟩:=hC
   have k1:=k1.cell
   first
    |(simp at hE;simp[go_sem,Act.eval,iw,hE,k1];try rfl)
    |(clear hE;simp[go_sem,Act.eval,iw,k1];try rfl)
 apply A7 (NI X) (hg:=rfl) (hal:=rfl)
 ·exact NI.closed _
 ·intro a W' hC hE
  obtain⟨_,k1⟩:=hC
  have k1:=k1.cell
  simp at hE
  refine⟨_,_,?_,(c1 W').mono ?_⟩
  ·simp[go_sem,Act.eval,hE]
   try rfl
  ·rintro e w' ⟨v,rfl,hB,hR⟩
   exact⟨_,rfl,hR,hB⟩
 iterate 2
  apply Ag (hg:=rfl) (hal:=rfl)
  ·intro a W' hC hE
   obtain⟨_,k1⟩:=hC
   have k1:=k1.cell
   first
    |(simp at hE;simp[go_sem,Act.eval,iw,hE,k1];try rfl)
    |(clear hE;simp[go_sem,Act.eval,iw,k1];try rfl)
 apply A7 (NI d) (hg:=rfl) (hal:=rfl)
 ·exact NI.closed _
 ·intro a W' hC hE
  simp at hE
  refine⟨_,_,?_,(Ew d W' hd.1 hd.2).mono ?_⟩
  ·simp[go_sem,Act.eval,hE]
   try rfl
  ·rintro e w' ⟨v,rfl,hB,hR⟩
   exact⟨_,rfl,hR,hB⟩
 apply A7 (DV X d) (hg:=rfl) (hal:=rfl)
 ·exact DV.closed _ _
 ·intro a W' hC hE
  simp at hE
  refine⟨_,_,?_,(N9 _ _ X d W' hE.1 hE.2 hX hd0 hd8).mono ?_⟩
  ·simp[go_sem,Act.eval]
   try rfl
  ·rintro e w' ⟨v1,v2,rfl,h1,h2,hR⟩
   exact⟨_,rfl,hR,v1,v2,rfl,h1,h2⟩
 apply D5 (DV X d) (hg:=rfl) (hal:=rfl)
 ·exact DV.closed _ _
 ·intro a W' hC hE
  simp at hE
  refine⟨_,?_,hE⟩
  simp[go_sem,Act.eval]
 apply D5 (NI (X/d)) (hg:=rfl) (hal:=rfl)
 ·exact NI.closed _
 ·intro a W' hC hE
  simp at hE
  obtain⟨v1,v2,h0,h1,h2⟩:=hE
  refine⟨v1,?_,h1⟩
  simp[go_sem,Act.eval,h0]
 apply D5 (NI (X%d)) (hg:=rfl) (hal:=rfl)
 ·exact NI.closed _
 ·intro a W' hC hE
  simp at hE
  obtain⟨v1,v2,h0,h1,h2⟩:=hE
  refine⟨v2,?_,h2⟩
  simp[go_sem,Act.eval,h0]
 apply Db W1.heap.size #[.bool false,.slice none 0 0] 132 rfl rfl
 ·exact fun W' hC=>hC.1.size
 ·simp[Bl]<;>omega
 ·intro w;kernel_rfl
 apply Db W1.heap.size #[.bool false,.slice none 0 0] 132 rfl rfl
 ·exact fun W' hC=>hC.1.size
 ·simp[Bl]<;>omega
 ·intro w;kernel_rfl
 rintro W2 ⟨hR,d1⟩
 simp only[Ar,Det,forall_eq]
 intros
 repeat (rename Ao _ _ _ _=>hgd;clear hgd)
 simp only[nS]
 clear b1
 have b1:=d1
 clear d1
 replace hW:=hW.trans (hR.of_priv hW.size)
 clear hR
 clear H_c1
 try clear c1
 rename Ex _ _=>hap
 rename D9 _ _ _ _ _=>hn7
 obtain⟨o7,rfl,hg7,b3⟩:=hn7
 rename D9 _ _ _ _ _=>hn6
 obtain⟨o6,rfl,hg6,b2⟩:=hn6
 have hne:o6≠o7:=fun e=>hap 6 7 (by simp[C6,Az]) (by simp[C6,Az]) (by decide) ⟨o6,0,none⟩ (by simp[Act.put]) (by simp[Act.put,e])
 clear hap
 rename NI (X/d) _ _=>hi1
 rename NI (X%d) _ _=>hi2
 obtain⟨p1,l1,k1',rfl,hq1⟩:=Ca hi1
 obtain⟨p2,l2,k2',rfl,hq2⟩:=Ca hi2
 clear hi1 hi2 hq2
 have hS:=Hd ((hq1.store b2 (.bool (decide (X/d<0))) (.slice p1 l1 k1')).store (show Blk _ o7 #[.bool false,.slice none 0 0] 132 from (b3.setO (by omega) 0 _).setO (by omega) 1 _) (.bool (decide (X%d<0))) (.slice p2 l2 k2'))
 clear hq1
 have z9:=hW.size
 have z10:=b1.lt
 have z11:=b2.lt
 have z12:=b3.lt
 clear k1 f1
 have k1:=b1.cell
 have f1:=b1.frozen
 have k2:=b2.cell
 have f2:=b2.frozen
 have k3:=b3.cell
 have f3:=b3.frozen
 go_upto_region 2 with(fail)
 clear k1 f1 k2 f2 k3 f3
 refine Ad w (Bc o6 #[.bool (decide (X/d<0)),.slice p1 l1 k1'] 132<|Rc (fun W'=>Ay W' (.slice p1 l1 k1') (X/d).natAbs)<|Bz) ?_ (hI:=by exact Aa) (hR:=(Bc.mk (by exact Ab)<|Rc.mk (by exact hS.out)<|trivial))
 clear b1 b2 b3 hW
 rintro W3 hW z4 ⟨⟨b1,yb1,k1,f1⟩,b2,-⟩
 have hq:=Hd b2
 clear b2 hS
 go_wp2_with fail
 refine(H_c2.out _ _ ⟨_,rfl,hq.out⟩).mono ?_
 rintro e w5 ⟨rfl,hb5⟩
 have z6:=hb5.size
 try simp at z6
 clear k1 f1
 refine Ae w w5 (Bc o6 #[.bool (decide (X/d<0)),.slice p1 l1 k1'] 132<|Bz) ?_
 clear b1 hW
 rintro hW z7 ⟨⟨b1,yb1,k1,f1⟩,-⟩
 clear hb5
 go_upto_region 3 with(fail)
 clear k1 f1
 refine Ad w (Bc o6 #[.bool (decide (X/d<0)),.slice p1 l1 k1'] 132<|Bz) ?_
 clear b1 hW
 rintro W8 hW z9 hL
 refine B3 7 33 hW hL ?_
 iterate 3 refine dE (fun W' hC=>hb) ?_
 refine gE (fun W' hC=>hb) ?_
 apply Cj (p:=true) (hg:=rfl) (hd:=rfl) (hal:=rfl)
 ·intro v W' h
  simp at h
  simp
  exact h
 ·intro hp hx W' hC
  exact Oa (X/d) W'
 ·intro hp hx a W' hC hE
  obtain⟨_,⟨-,-,k1,-⟩,-⟩:=hC
  first
   |(simp[hx] at hE;simp[go_sem,Act.eval,iw,hE,k1,hb];try rfl)
   |(clear hE;simp[go_sem,Act.eval,iw,k1,hb];try rfl)
 refine gE (fun W' hC=>hb) ?_
 refine pO ?_
 clear hW hL
 rintro W10 hW z11 hL
 simp only[ndR]
 intros
 repeat (rename Ao _ _ _ _=>hgd;clear hgd)
 simp only[ndS]
 refine wpList_nil ?_
 obtain⟨⟨b1,yb1,k1,f1⟩,-⟩:=hL
 go_wp2
 refine bodyPost_ret (v:= .tuple #[.int .i64 (X/d),.bool true]) (by simp[results,Tryz.results123,go_sem,k1,f1,yb1]) rfl ⟨rfl,hW⟩
theorem rat_back (A R n d t X:Int) (w:World) (hd: -9223372036854775808<=d/\d<=9223372036854775807) (hX:X.natAbs<2^800) (hd0:0<d) (hd8:d.natAbs<2^800)
  (c1:∀W,Calls Tryz.prog 166 #[.agg #[A,R,n,d],t] W fun e w'=>∃v,e= .returned v/\Bu w' v X/\Below W.heap.size W w')
  (c2:∀W va,Bu W va (X/d)->Cb 68 #[va] W (.tuple #[.int .i64 (X/d),.bool true])) (hb:A6 (X/d)=false):
  Cb 123 #[.agg #[A,R,n,d],t] w (.tuple #[.int .i64 0,.bool false]):=by
 have H_c1:=Hd c1
 clear c1
 have H_c2:=Hd c2
 clear c2
 go_enter Tryz.func123,Tryz.ntmps123
 go_upto_region 1 with(fail)
 refine Ad w (Bc w.heap.size #[A,R,n,d] 95<|Bz) ?_
 rintro W1 hW z2 ⟨⟨b1,yb1,k1,f1⟩,-⟩
 have c1:=H_c1.out
 refine D0 12 33 [] (fun W'=>Rex [] W1 W'/\Blk W' w.heap.size #[A,R,n,d] 95) Cd (by kernel_rfl) rfl ⟨(Rex.refl _ _).drew,b1⟩ (fun w w' ⟨h0,h1⟩ hr=>⟨h0.trans hr,h1.rex hr (by simp<;>omega)⟩) (fun c a d v w h=>by cases d<;>exact h) ?_
 iterate 2
  apply Ag (hg:=rfl) (hal:=rfl)
  ·intro a W' hC hE
   obtain⟨_,k1⟩:=hC
   have k1:=k1.cell
   first
    |(simp at hE;simp[go_sem,Act.eval,iw,hE,k1];try rfl)
    |(clear hE;simp[go_sem,Act.eval,iw,k1];try rfl)
 apply A7 (NI X) (hg:=rfl) (hal:=rfl)
 ·exact NI.closed _
 ·intro a W' hC hE
  obtain⟨_,k1⟩:=hC
  have k1:=k1.cell
  simp at hE
  refine⟨_,_,?_,(c1 W').mono ?_⟩
  ·simp[go_sem,Act.eval,hE]
   try rfl
  ·rintro e w' ⟨v,rfl,hB,hR⟩
   exact⟨_,rfl,hR,hB⟩
 iterate 2
  apply Ag (hg:=rfl) (hal:=rfl)
  ·intro a W' hC hE
   obtain⟨_,k1⟩:=hC
   have k1:=k1.cell
   first
    |(simp at hE;simp[go_sem,Act.eval,iw,hE,k1];try rfl)
    |(clear hE;simp[go_sem,Act.eval,iw,k1];try rfl)
 apply A7 (NI d) (hg:=rfl) (hal:=rfl)
 ·exact NI.closed _
 ·intro a W' hC hE
  simp at hE
  refine⟨_,_,?_,(Ew d W' hd.1 hd.2).mono ?_⟩
  ·simp[go_sem,Act.eval,hE]
   try rfl
  ·rintro e w' ⟨v,rfl,hB,hR⟩
   exact⟨_,rfl,hR,hB⟩
 apply A7 (DV X d) (hg:=rfl) (hal:=rfl)
 ·exact DV.closed _ _
 ·intro a W' hC hE
  simp at hE
  refine⟨_,_,?_,(N9 _ _ X d W' hE.1 hE.2 hX hd0 hd8).mono ?_⟩
  ·simp[go_sem,Act.eval]
   try rfl
  ·rintro e w' ⟨v1,v2,rfl,h1,h2,hR⟩
   exact⟨_,rfl,hR,v1,v2,rfl,h1,h2⟩
 apply D5 (DV X d) (hg:=rfl) (hal:=rfl)
 ·exact DV.closed _ _
 ·intro a W' hC hE
  simp at hE
  refine⟨_,?_,hE⟩
  simp[go_sem,Act.eval]
 apply D5 (NI (X/d)) (hg:=rfl) (hal:=rfl)
 ·exact NI.closed _
 ·intro a W' hC hE
  simp at hE
  obtain⟨v1,v2,h0,h1,h2⟩:=hE
  refine⟨v1,?_,h1⟩
  simp[go_sem,Act.eval,h0]
 apply D5 (NI (X%d)) (hg:=rfl) (hal:=rfl)
 ·exact NI.closed _
 ·intro a W' hC hE
  simp at hE
  obtain⟨v1,v2,h0,h1,h2⟩:=hE
  refine⟨v2,?_,h2⟩
  simp[go_sem,Act.eval,h0]
 apply Db W1.heap.size #[.bool false,.slice none 0 0] 132 rfl rfl
 ·exact fun W' hC=>hC.1.size
 ·simp[Bl]<;>omega
 ·intro w;kernel_rfl
 apply Db W1.heap.size #[.bool false,.slice none 0 0] 132 rfl rfl
 ·exact fun W' hC=>hC.1.size
 ·simp[Bl]<;>omega
 ·intro w;kernel_rfl
 rintro W2 ⟨hR,d1⟩
 simp only[Ar,Det,forall_eq]
 intros
 repeat (rename Ao _ _ _ _=>hgd;clear hgd)
 simp only[nS]
 clear b1
 have b1:=d1
 clear d1
 replace hW:=hW.trans (hR.of_priv hW.size)
 clear hR
 clear H_c1
 try clear c1
 rename Ex _ _=>hap
 rename D9 _ _ _ _ _=>hn7
 obtain⟨o7,rfl,hg7,b3⟩:=hn7
 rename D9 _ _ _ _ _=>hn6
 obtain⟨o6,rfl,hg6,b2⟩:=hn6
 have hne:o6≠o7:=fun e=>hap 6 7 (by simp[C6,Az]) (by simp[C6,Az]) (by decide) ⟨o6,0,none⟩ (by simp[Act.put]) (by simp[Act.put,e])
 clear hap
 rename NI (X/d) _ _=>hi1
 rename NI (X%d) _ _=>hi2
 obtain⟨p1,l1,k1',rfl,hq1⟩:=Ca hi1
 obtain⟨p2,l2,k2',rfl,hq2⟩:=Ca hi2
 clear hi1 hi2 hq2
 have hS:=Hd ((hq1.store b2 (.bool (decide (X/d<0))) (.slice p1 l1 k1')).store (show Blk _ o7 #[.bool false,.slice none 0 0] 132 from (b3.setO (by omega) 0 _).setO (by omega) 1 _) (.bool (decide (X%d<0))) (.slice p2 l2 k2'))
 clear hq1
 have z9:=hW.size
 have z10:=b1.lt
 have z11:=b2.lt
 have z12:=b3.lt
 clear k1 f1
 have k1:=b1.cell
 have f1:=b1.frozen
 have k2:=b2.cell
 have f2:=b2.frozen
 have k3:=b3.cell
 have f3:=b3.frozen
 go_upto_region 2 with(fail)
 clear k1 f1 k2 f2 k3 f3
 refine Ad w (Bc o6 #[.bool (decide (X/d<0)),.slice p1 l1 k1'] 132<|Rc (fun W'=>Ay W' (.slice p1 l1 k1') (X/d).natAbs)<|Bz) ?_ (hI:=by exact Aa) (hR:=(Bc.mk (by exact Ab)<|Rc.mk (by exact hS.out)<|trivial))
 clear b1 b2 b3 hW
 rintro W3 hW z4 ⟨⟨b1,yb1,k1,f1⟩,b2,-⟩
 have hq:=Hd b2
 clear b2 hS
 go_wp2_with fail
 refine(H_c2.out _ _ ⟨_,rfl,hq.out⟩).mono ?_
 rintro e w5 ⟨rfl,hb5⟩
 have z6:=hb5.size
 try simp at z6
 clear k1 f1
 refine Ae w w5 (Bc o6 #[.bool (decide (X/d<0)),.slice p1 l1 k1'] 132<|Bz) ?_
 clear b1 hW
 rintro hW z7 ⟨⟨b1,yb1,k1,f1⟩,-⟩
 clear hb5
 go_upto_region 3 with(fail)
 clear k1 f1
 refine Ad w (Bc o6 #[.bool (decide (X/d<0)),.slice p1 l1 k1'] 132<|Bz) ?_
 clear b1 hW
 rintro W8 hW z9 hL
 refine B3 7 33 hW hL ?_
 iterate 3 refine dE (fun W' hC=>hb) ?_
 refine gE (fun W' hC=>hb) ?_
 apply Cj (p:=true) (hg:=rfl) (hd:=rfl) (hal:=rfl)
 ·intro v W' h
  simp at h
  simp
  exact h
 ·intro hp hx W' hC
  exact Oa (X/d) W'
 ·intro hp hx a W' hC hE
  obtain⟨_,⟨-,-,k1,-⟩,-⟩:=hC
  first
   |(simp[hx] at hE;simp[go_sem,Act.eval,iw,hE,k1,hb];try rfl)
   |(clear hE;simp[go_sem,Act.eval,iw,k1,hb];try rfl)
 refine gE (fun W' hC=>hb) ?_
 refine pO ?_
 clear hW hL
 rintro W10 hW z11 hL
 simp only[ndR]
 intros
 repeat (rename Ao _ _ _ _=>hgd;clear hgd)
 simp only[ndS]
 refine wpList_nil ?_
 obtain⟨⟨b1,yb1,k1,f1⟩,-⟩:=hL
 go_wp2
 refine bodyPost_ret (v:= .tuple #[.int .i64 0,.bool false]) (by simp[results,Tryz.results123,go_sem,k1,f1,yb1]) rfl ⟨rfl,hW⟩
theorem rat_over (A R n d t X:Int) (w:World) (hd: -9223372036854775808<=d/\d<=9223372036854775807) (hX:X.natAbs<2^800) (hd0:0<d) (hd8:d.natAbs<2^800)
  (c1:∀W,Calls Tryz.prog 166 #[.agg #[A,R,n,d],t] W fun e w'=>∃v,e= .returned v/\Bu w' v X/\Below W.heap.size W w')
  (c2:∀W va,Bu W va (X/d)->Cb 68 #[va] W (.tuple #[.int .i64 0,.bool false])):
  Cb 123 #[.agg #[A,R,n,d],t] w (.tuple #[.int .i64 0,.bool false]):=by
 have H_c1:=Hd c1
 clear c1
 have H_c2:=Hd c2
 clear c2
 go_enter Tryz.func123,Tryz.ntmps123
 go_upto_region 1 with(fail)
 refine Ad w (Bc w.heap.size #[A,R,n,d] 95<|Bz) ?_
 rintro W1 hW z2 ⟨⟨b1,yb1,k1,f1⟩,-⟩
 have c1:=H_c1.out
 refine D0 12 33 [] (fun W'=>Rex [] W1 W'/\Blk W' w.heap.size #[A,R,n,d] 95) Cd (by kernel_rfl) rfl ⟨(Rex.refl _ _).drew,b1⟩ (fun w w' ⟨h0,h1⟩ hr=>⟨h0.trans hr,h1.rex hr (by simp<;>omega)⟩) (fun c a d v w h=>by cases d<;>exact h) ?_
 iterate 2
  apply Ag (hg:=rfl) (hal:=rfl)
  ·intro a W' hC hE
   obtain⟨_,k1⟩:=hC
   have k1:=k1.cell
   first
    |(simp at hE;simp[go_sem,Act.eval,iw,hE,k1];try rfl)
    |(clear hE;simp[go_sem,Act.eval,iw,k1];try rfl)
 apply A7 (NI X) (hg:=rfl) (hal:=rfl)
 ·exact NI.closed _
 ·intro a W' hC hE
  obtain⟨_,k1⟩:=hC
  have k1:=k1.cell
  simp at hE
  refine⟨_,_,?_,(c1 W').mono ?_⟩
  ·simp[go_sem,Act.eval,hE]
   try rfl
  ·rintro e w' ⟨v,rfl,hB,hR⟩
   exact⟨_,rfl,hR,hB⟩
 iterate 2
  apply Ag (hg:=rfl) (hal:=rfl)
  ·intro a W' hC hE
   obtain⟨_,k1⟩:=hC
   have k1:=k1.cell
   first
    |(simp at hE;simp[go_sem,Act.eval,iw,hE,k1];try rfl)
    |(clear hE;simp[go_sem,Act.eval,iw,k1];try rfl)
 apply A7 (NI d) (hg:=rfl) (hal:=rfl)
 ·exact NI.closed _
 ·intro a W' hC hE
  simp at hE
  refine⟨_,_,?_,(Ew d W' hd.1 hd.2).mono ?_⟩
  ·simp[go_sem,Act.eval,hE]
   try rfl
  ·rintro e w' ⟨v,rfl,hB,hR⟩
   exact⟨_,rfl,hR,hB⟩
 apply A7 (DV X d) (hg:=rfl) (hal:=rfl)
 ·exact DV.closed _ _
 ·intro a W' hC hE
  simp at hE
  refine⟨_,_,?_,(N9 _ _ X d W' hE.1 hE.2 hX hd0 hd8).mono ?_⟩
  ·simp[go_sem,Act.eval]
   try rfl
  ·rintro e w' ⟨v1,v2,rfl,h1,h2,hR⟩
   exact⟨_,rfl,hR,v1,v2,rfl,h1,h2⟩
 apply D5 (DV X d) (hg:=rfl) (hal:=rfl)
 ·exact DV.closed _ _
 ·intro a W' hC hE
  simp at hE
  refine⟨_,?_,hE⟩
  simp[go_sem,Act.eval]
 apply D5 (NI (X/d)) (hg:=rfl) (hal:=rfl)
 ·exact NI.closed _
 ·intro a W' hC hE
  simp at hE
  obtain⟨v1,v2,h0,h1,h2⟩:=hE
  refine⟨v1,?_,h1⟩
  simp[go_sem,Act.eval,h0]
 apply D5 (NI (X%d)) (hg:=rfl) (hal:=rfl)
 ·exact NI.closed _
 ·intro a W' hC hE
  simp at hE
  obtain⟨v1,v2,h0,h1,h2⟩:=hE
  refine⟨v2,?_,h2⟩
  simp[go_sem,Act.eval,h0]
 apply Db W1.heap.size #[.bool false,.slice none 0 0] 132 rfl rfl
 ·exact fun W' hC=>hC.1.size
 ·simp[Bl]<;>omega
 ·intro w;kernel_rfl
 apply Db W1.heap.size #[.bool false,.slice none 0 0] 132 rfl rfl
 ·exact fun W' hC=>hC.1.size
 ·simp[Bl]<;>omega
 ·intro w;kernel_rfl
 rintro W2 ⟨hR,d1⟩
 simp only[Ar,Det,forall_eq]
 intros
 repeat (rename Ao _ _ _ _=>hgd;clear hgd)
 simp only[nS]
 clear b1
 have b1:=d1
 clear d1
 replace hW:=hW.trans (hR.of_priv hW.size)
 clear hR
 clear H_c1
 try clear c1
 rename Ex _ _=>hap
 rename D9 _ _ _ _ _=>hn7
 obtain⟨o7,rfl,hg7,b3⟩:=hn7
 rename D9 _ _ _ _ _=>hn6
 obtain⟨o6,rfl,hg6,b2⟩:=hn6
 have hne:o6≠o7:=fun e=>hap 6 7 (by simp[C6,Az]) (by simp[C6,Az]) (by decide) ⟨o6,0,none⟩ (by simp[Act.put]) (by simp[Act.put,e])
 clear hap
 rename NI (X/d) _ _=>hi1
 rename NI (X%d) _ _=>hi2
 obtain⟨p1,l1,k1',rfl,hq1⟩:=Ca hi1
 obtain⟨p2,l2,k2',rfl,hq2⟩:=Ca hi2
 clear hi1 hi2 hq2
 have hS:=Hd ((hq1.store b2 (.bool (decide (X/d<0))) (.slice p1 l1 k1')).store (show Blk _ o7 #[.bool false,.slice none 0 0] 132 from (b3.setO (by omega) 0 _).setO (by omega) 1 _) (.bool (decide (X%d<0))) (.slice p2 l2 k2'))
 clear hq1
 have z9:=hW.size
 have z10:=b1.lt
 have z11:=b2.lt
 have z12:=b3.lt
 clear k1 f1
 have k1:=b1.cell
 have f1:=b1.frozen
 have k2:=b2.cell
 have f2:=b2.frozen
 have k3:=b3.cell
 have f3:=b3.frozen
 go_upto_region 2 with(fail)
 clear k1 f1 k2 f2 k3 f3
 refine Ad w (Bc o6 #[.bool (decide (X/d<0)),.slice p1 l1 k1'] 132<|Rc (fun W'=>Ay W' (.slice p1 l1 k1') (X/d).natAbs)<|Bz) ?_ (hI:=by exact Aa) (hR:=(Bc.mk (by exact Ab)<|Rc.mk (by exact hS.out)<|trivial))
 clear b1 b2 b3 hW
 rintro W3 hW z4 ⟨⟨b1,yb1,k1,f1⟩,b2,-⟩
 have hq:=Hd b2
 clear b2 hS
 go_wp2_with fail
 refine(H_c2.out _ _ ⟨_,rfl,hq.out⟩).mono ?_
 rintro e w5 ⟨rfl,hb5⟩
 have z6:=hb5.size
 try simp at z6
 clear k1 f1
 refine Ae w w5 (Bc o6 #[.bool (decide (X/d<0)),.slice p1 l1 k1'] 132<|Bz) ?_
 clear b1 hW
 rintro hW z7 ⟨⟨b1,yb1,k1,f1⟩,-⟩
 clear hb5
 go_wp2
 refine bodyPost_ret (v:= .tuple #[.int .i64 0,.bool false]) (by simp[results,Tryz.results123,go_sem,k1,f1,yb1]) rfl ⟨rfl,hW⟩
end Go.Proofs.YtidfcoooccblaaaGreat
namespace Go.Proofs.YtidfcoooccblaaaGreat
open Go.RowKit
theorem O7 {A R n d t:Int} (h:Cw A R n d=true) (h0:0<=t) (h1:t<=281474976710656):
  (-9223372036854775808<=n/\n<=9223372036854775807)/\(-9223372036854775808<=t/\t<=9223372036854775807)/\(-9223372036854775808<=R/\R<=9223372036854775807)/\(-9223372036854775808<=A/\A<=9223372036854775807)/\(1<=d/\d<=281474976710656)/\
   n.natAbs<2^64/\t.natAbs<2^64/\A.natAbs<2^64/\d.natAbs<2^64/\(n*t).natAbs<2^128/\R.natAbs<2^64/\(A*d).natAbs<2^128/\(n*t+R).natAbs<2^129/\(n*t+R+A*d).natAbs<2^130:=by
 unfold Cw at h
 simp only[Bool.and_eq_true,decide_eq_true_eq] at h
 obtain⟨⟨⟨⟨ha,hs⟩,_⟩,hR0⟩,hR1⟩:=h
 have ha:=Fo.1 ha
 have hs:=Hh hs
 have e1:(n*t).natAbs<2^128:=by
  rw[Int.natAbs_mul,show (2:Nat)^128=2^64*2^64 by rw[<-Nat.pow_add]]
  exact Nat.mul_lt_mul'' (by omega) (by omega)
 have e2:(A*d).natAbs<2^128:=by
  rw[Int.natAbs_mul,show (2:Nat)^128=2^64*2^64 by rw[<-Nat.pow_add]]
  exact Nat.mul_lt_mul'' (by omega) (by omega)
 exact⟨by omega,by omega,by omega,by omega,by omega,by omega,by omega,by omega,by omega,e1,by omega,e2,by omega,by omega⟩
theorem at_div {A R n d t:Int} (hd:1<=d):(n*t+R+A*d)/d=Bk A R n d t:=by
 unfold Bk
 exact Int.add_mul_ediv_right _ _ (by omega)
theorem Lh {A R n d t:Int} (h:Cw A R n d=true) (h0:0<=t) (h1:t<=281474976710656) (w:World):
  Calls Tryz.prog 166 #[.agg #[A,R,n,d],t] w fun e w'=>∃v,e= .returned v/\Bu w' v (n*t+R+A*d)/\Below w.heap.size w w':=by
 obtain⟨a1,a2,a3,a4,a5,a6,a7,a8,a9,a10,a11,a12,a13,a14⟩:=O7 h h0 h1
 exact rtimes_w A R n d t w a1 a2 a3 a4 (by omega) (Cp 64 400 a6 (by omega)) (Cp 64 400 a7 (by omega)) (Cp 64 400 a8 (by omega)) (Cp 64 400 a9 (by omega)) (Cp 128 900 a10 (by omega)) (Cp 64 900 a11 (by omega)) (Cp 129 900 a13 (by omega)) (Cp 128 900 a12 (by omega))
theorem c_rat_yes {A R n d t:Int} (h:Cw A R n d=true) (h0:0<=t) (h1:t<=281474976710656) (hb:A6 (Bk A R n d t)=true) (w:World):
  Cb 123 #[.agg #[A,R,n,d],t] w (.tuple #[.int .i64 (Bk A R n d t),.bool true]):=by
 obtain⟨a1,a2,a3,a4,a5,a6,a7,a8,a9,a10,a11,a12,a13,a14⟩:=O7 h h0 h1
 rw[<-at_div a5.1] at hb⊢
 have hb':=Fo.1 hb
 exact rat_yes A R n d t _ w (by omega) (Cp 130 800 a14 (by omega)) (by omega) (Cp 64 800 a9 (by omega)) (fun W=>Lh h h0 h1 W) (fun W va hv=>Gf va _ W hv (by omega) (by omega)) hb
theorem c_rat_no {A R n d t:Int} (h:Cw A R n d=true) (h0:0<=t) (h1:t<=281474976710656) (hb:A6 (Bk A R n d t)=false) (w:World):
  Cb 123 #[.agg #[A,R,n,d],t] w (.tuple #[.int .i64 0,.bool false]):=by
 obtain⟨a1,a2,a3,a4,a5,a6,a7,a8,a9,a10,a11,a12,a13,a14⟩:=O7 h h0 h1
 rw[<-at_div a5.1] at hb
 by_cases hf: -9223372036854775808<=(n*t+R+A*d)/d/\(n*t+R+A*d)/d<9223372036854775808
 ·exact rat_back A R n d t _ w (by omega) (Cp 130 800 a14 (by omega)) (by omega) (Cp 64 800 a9 (by omega)) (fun W=>Lh h h0 h1 W) (fun W va hv=>Gf va _ W hv hf.1 hf.2) hb
 ·refine rat_over A R n d t _ w (by omega) (Cp 130 800 a14 (by omega)) (by omega) (Cp 64 800 a9 (by omega)) (fun W=>Lh h h0 h1 W) (fun W va hv=>Ji va _ W hv ?_ hf)
  have:((n*t+R+A*d)/d).natAbs<=(n*t+R+A*d).natAbs:=by
   have:=Int.natAbs_ediv_le_natAbs (n*t+R+A*d) d
   omega
  exact Nat.lt_of_le_of_lt this (Cp 130 900 a14 (by omega))
structure Bp (W:World) (B:Nat) (e:TypeId) (s:Nat) (v:Value) (n:Nat) (xs:List Value):Prop where
 own:W.ownsRow B e s v n xs
theorem Bp.below {w w':World} {B:Nat} {e:TypeId} {s:Nat} {v:Value} {n:Nat} {xs:List Value} (h:Bp w B e s v n xs) (hb:Below w.heap.size w w'):Bp w' B e s v n xs:=by
 obtain⟨h1,h2⟩:=h.own
 refine⟨h1,?_⟩
 rcases h2 with h2|⟨g,cap,cur,hv,hg,hh,rest⟩
 ·exact .inl h2
 ·exact .inr ⟨g,cap,cur,hv,hg,(hb.block g (Array.getElem?_eq_some_iff.1 hh).1).trans hh,rest⟩
theorem Bp.rex {L:List Nat} {w w':World} {B:Nat} {e:TypeId} {s:Nat} {v:Value} {n:Nat} {xs:List Value} (h:Bp w B e s v n xs) (hr:Rex L w w') (hL:L= []):Bp w' B e s v n xs:=by subst hL;exact h.below hr.below
theorem Bp.drew {w:World} {B:Nat} {e:TypeId} {s:Nat} {v:Value} {n:Nat} {xs:List Value} (h:Bp w B e s v n xs):Bp w.drew B e s v n xs:=⟨h.own⟩
theorem Bp.mono {w:World} {B B':Nat} {e:TypeId} {s:Nat} {v:Value} {n:Nat} {xs:List Value} (h:Bp w B e s v n xs) (hB:B'<=B):Bp w B' e s v n xs:=by
 obtain⟨h1,h2⟩:=h.own
 refine⟨h1,?_⟩
 rcases h2 with h2|⟨g,cap,cur,hv,hg,rest⟩
 ·exact .inl h2
 ·exact .inr ⟨g,cap,cur,hv,Nat.le_trans hB hg,rest⟩
theorem Bp.nil (W:World) (B:Nat) (e:TypeId) (s:Nat):Bp W B e s (.slice none 0 0) 0 []:=⟨World.ownsRow_nil _ _ _ _⟩
theorem Blk.grown {W w1:World} {B g:Nat} {cs:Array Value} {t e:TypeId} {s n:Nat} {v:Value} {xs:List Value} {o:Obj} (h:Blk W g cs t) (hown:W.ownsRow B e s v n xs) (ht:t≠e) (hgr:(W.alloc o).grownBy w1 v.ownBlock):Blk w1 g cs t:=by
 have hlt:=h.lt
 have h':(W.alloc o).heap[g]? =some (.cells cs t (0,0)):=(h.alloc o:Blk (W.alloc o) g cs t)
 refine(hgr.block g (by simp;omega) fun e1=> ?_).trans h'
 rcases hown.2 with⟨rfl,_⟩|⟨g',cap,cur,rfl,_,hb,_⟩
 ·simp[Value.ownBlock] at e1
 ·have:g=g':=by simpa [Value.ownBlock] using e1
  subst this
  unfold Blk at h
  rw[h] at hb
  injection hb with hb
  injection hb with _ h2 _
  exact ht h2
theorem Bp.form {W:World} {B n:Nat} {e:TypeId} {s:Nat} {v:Value} {xs:List Value} (h:Bp W B e s v n xs):∃p cap,v= .slice p n cap/\n<=cap/\cap<=9223372036854775807/\(p=none->n=0/\cap=0)/\(∀a,p=some a->a=⟨a.block,0,none⟩/\B<=a.block):=by
 rcases h.own.2 with⟨rfl,h0⟩|⟨g,cap,cur,rfl,hg,hb,hn,hmx,_⟩
 ·subst h0;exact⟨none,0,rfl,Nat.le_refl _,by omega,fun _=>⟨rfl,rfl⟩,fun a e=>by cases e⟩
 ·exact⟨some ⟨g,0,none⟩,cap,rfl,hn,by unfold maxLen at hmx;omega,(fun e=>by cases e),fun a e=>by cases e;exact⟨rfl,hg⟩⟩
theorem Bp.ints {W:World} {B n:Nat} {e:TypeId} {p:Option Addr} {cap:Nat} {l:List Int} (h:Bp W B e 1 (.slice p n cap) n (l.map (Value.int .i64))):Au W p l:=by
 rcases h.own.2 with⟨h1,h0⟩|⟨g,cap',cur,h1,hg,hb,hn,hmx,_,ht⟩
 ·have:=h.own.1
  simp at this
  subst h0
  have:l= []:=List.length_eq_zero_iff.1 this
  subst this
  exact⟨fun i x hx=>by simp at hx⟩
 ·injection h1 with h2 _ _
  subst h2
  exact Lc hb (by simpa using ht)
theorem Bp.runs {W:World} {B n:Nat} {e:TypeId} {p:Option Addr} {cap:Nat} {l:List Ah} (h:Bp W B e 3 (.slice p n cap) n (As l)):Ai W p l:=by
 rcases h.own.2 with⟨h1,h0⟩|⟨g,cap',cur,h1,hg,hb,hn,hmx,_,ht⟩
 ·have:=h.own.1
  rw[Ds] at this
  subst h0
  have:l= []:=List.length_eq_zero_iff.1 (by omega)
  subst this
  exact⟨fun i x hx=>by simp at hx⟩
 ·injection h1 with h2 _ _
  subst h2
  exact Pn hb ht
structure C8 (w:World) (b o:Nat) (l:List Int):Prop where
 ints:Au w (some ⟨b,o,none⟩) l
theorem C8.below {w w':World} {b o:Nat} {l:List Int} (h:C8 w b o l) (hb:Below w.heap.size w w'):C8 w' b o l:=⟨h.ints.below hb⟩
theorem C8.rex {L:List Nat} {w w':World} {b o:Nat} {l:List Int} (h:C8 w b o l) (hr:Rex L w w') (hL:L= []):C8 w' b o l:=by subst hL;exact h.below hr.below
theorem C8.drew {w:World} {b o:Nat} {l:List Int} (h:C8 w b o l):C8 w.drew b o l:=⟨⟨h.ints.at'⟩⟩
theorem C8.cellAt {w:World} {b o:Nat} {l:List Int} (h:C8 w b o l) {i:Nat} {x:Int} (hx:l[i]? =some x):w.cell? ⟨b,o+i,none⟩=some (x):=by
 obtain⟨b',o',e,h1⟩:=h.ints.at' i x hx
 cases e
 exact h1
end Go.Proofs.YtidfcoooccblaaaGreat
