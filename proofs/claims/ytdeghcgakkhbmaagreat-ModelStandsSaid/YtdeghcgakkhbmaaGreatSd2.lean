/- Parts of the proof that follows. No condition. -/
import Derived.Deep.DeepCutAuto
import Derived.WalkMore
import Derived.ScopeJumps
import Derived.Laws.EntriesVeiled
import Derived.Test.YtdeghcgakkhbmaaGreatSd1
set_option maxRecDepth 100000
set_option maxHeartbeats 8000000
set_option linter.unusedSimpArgs false
set_option linter.unusedVariables false
namespace Go.Proofs.YtdeghcgakkhbmaaGreat
open Go.RowKit
attribute [local simp] Oper.looksAt Op.operands Call.operands Af Det Am
def Ec (a:Int):Int:=(if 0<=a then a else-a)/18446744073709551616
def G4 (a:Int):Int:=(if 0<=a then a else-a)%18446744073709551616
theorem sz_pos (a:Int) (ha:Ch a) (h:0<=a):IntKind.u64.wrap (hiW a)=Ec a/\loW a=G4 a:=by
 unfold Ec G4;rw[if_pos h,C4];unfold hiW loW;obtain⟨_,_⟩:=ha;omega
theorem sz_neg (a:Int) (ha:Ch a) (h:a<0):F5 0 (loW a) 0=G4 a/\F5 0 (IntKind.u64.wrap (hiW a)) (Ll 0 (loW a) 0)=Ec a:=by
 unfold Ec G4;rw[if_neg (by omega),C4];unfold F5 Ll hiW loW;obtain⟨_,_⟩:=ha
 refine⟨by omega,?_⟩
 split<;>omega
theorem sz_bd (a:Int) (ha:Ch a):(0<=Ec a/\Ec a<18446744073709551616)/\(0<=G4 a/\G4 a<18446744073709551616):=by
 unfold Ec G4;obtain⟨_,_⟩:=ha;split<;>omega
theorem size_pos (ah al:Int) (w:World) (h:0<=ah):
  Cb 230 #[.agg #[ah,.int .u64 al]] w (.tuple #[.int .u64 (IntKind.u64.wrap ah),.int .u64 al]):=by
 go_enter Tryz.func230,Tryz.ntmps230
 go_wp2
 refine Bd (fun W=>Below w.heap.size w W/\Blk W w.heap.size #[ah,.int .u64 al] 89) ⟨(Below.refl _ _).alloc (Nat.le_refl _) _,(by repeat (first|(refine Blk.new' ?_;simp;done)|refine Blk.alloc ?_ _))⟩ ?_
 rintro W ⟨hW,b1⟩
 refine Az 7 32 [] (fun W'=>Rex [] W W'/\Blk W' w.heap.size #[ah,.int .u64 al] 89) Cu (by kernel_rfl) rfl ⟨(Rex.refl _ _).drew,b1⟩ (fun w w' ⟨h0,h1⟩ hr=>⟨h0.trans hr,h1.rex hr (by simp<;>omega)⟩) (fun c a d v w h=>by cases d<;>exact h) ?_
 iterate 7
  apply An (hg:=rfl) (hal:=rfl)
  ·intro a W' hC hE
   obtain⟨_,k1⟩:=hC
   have k1:=k1.cell
   first
    |(simp at hE;simp[go_sem,Act.eval,iw,hE,k1];try rfl)
    |(clear hE;simp[go_sem,Act.eval,iw,k1];try rfl)
 rintro W2 ⟨hR,c1⟩
 simp only[A6,Det,forall_eq]
 intros
 repeat (rename Am _ _ _ _=>hgd;clear hgd)
 simp only[nS]
 refine wpList_nil ?_
 go_wp2
 go_ret2
 exact⟨rfl,hW.trans (hR.of_priv hW.size)⟩
theorem size_neg (ah al:Int) (w:World) (h:ah<0) (h1:0<=al) (h2:al<18446744073709551616):
  Cb 230 #[.agg #[ah,.int .u64 al]] w (.tuple #[.int .u64 (F5 0 (IntKind.u64.wrap ah) (Ll 0 al 0)),.int .u64 (F5 0 al 0)]):=by
 have hc:=difC_bd 0 al 0
 have a1:=sub64 0 al 0 (by decide) (by decide) h1 h2 (by decide) (by decide)
 have U1:=Ge ah
 have a2:=sub64 0 (IntKind.u64.wrap ah) (Ll 0 al 0) (by decide) (by decide) U1.1 U1.2 hc.1 hc.2
 clear hc h1 h2 U1
 go_enter Tryz.func230,Tryz.ntmps230
 go_wp2
 go_ret2
 exact⟨rfl,(Below.refl _ _).alloc (Nat.le_refl _) _⟩
theorem c_size (a:Int) (w:World) (ha:Ch a):
  Cb 230 #[B7 a] w (.tuple #[.int .u64 (Ec a),.int .u64 (G4 a)]):=by
 rcases Int.lt_or_le a 0 with h|h
 ·obtain⟨e1,e2⟩:=sz_neg a ha h
  rw[<-e1,<-e2]
  exact size_neg (hiW a) (loW a) w (by unfold hiW;omega) (Lg a).1 (Lg a).2
 ·obtain⟨e1,e2⟩:=sz_pos a ha h
  rw[<-e1,<-e2]
  exact size_pos (hiW a) (loW a) w (by unfold hiW;omega)
def ptQ (hi lo m:Int):Int:=(hi%m*18446744073709551616+lo)/m
def ptR (hi lo m:Int):Int:=(hi%m*18446744073709551616+lo)%m
theorem c_parts (hi lo m:Int) (w:World) (h0:0<=hi) (h1:hi<18446744073709551616) (l0:0<=lo) (l1:lo<18446744073709551616) (m0:1<=m) (m1:m<18446744073709551616):
  Cb 231 #[.int .u64 hi,.int .u64 lo,.int .u64 m] w (.tuple #[.int .u64 (hi/m),.int .u64 (ptQ hi lo m),.int .u64 (ptR hi lo m)]):=by
 have hn:=Int.emod_nonneg hi (show m≠0 by omega)
 have hl:=Int.emod_lt_of_pos hi (show 0<m by omega)
 have hc:=fun w=>c_Div64 (hi%m) lo m w hn hl m1 l0 l1
 go_enter Tryz.func231,Tryz.ntmps231
 go_wp2_with fail
 refine(hc _).mono ?_
 rintro e w1 ⟨rfl,hb1⟩
 clear hc
 go_wp2
 go_ret3
 exact⟨rfl,hb1⟩
def sgn (b:Bool) (n:Int):Int:=if b=true then-n else n
theorem signed_f (hi lo:Int) (w:World):
  Cb 232 #[.bool false,.int .u64 hi,.int .u64 lo] w (.tuple #[.agg #[.int .i64 (wrap64 hi),.int .u64 lo],.bool (decide (hi<9223372036854775808))]):=by
 go_enter Tryz.func232,Tryz.ntmps232
 go_wp2
 refine bodyPost_ret (v:= .tuple #[.agg #[.int .i64 (wrap64 hi),.int .u64 lo],.bool (decide (hi<9223372036854775808))]) (by simp[results,Tryz.results232,go_sem]) rfl ⟨rfl,?_⟩
 exact(Below.refl _ _).alloc (Nat.le_refl _) _
theorem signed_t (hi lo rh rl:Int) (f:Bool) (w:World) (hc:∀w,Cb 141 #[.agg #[.int .i64 0,.int .u64 0],.agg #[.int .i64 (wrap64 hi),.int .u64 lo]] w (.tuple #[.agg #[rh,.int .u64 rl],.bool f])):
  Cb 232 #[.bool true,.int .u64 hi,.int .u64 lo] w (.tuple #[.agg #[rh,.int .u64 rl],.bool (decide (hi<9223372036854775808)||(hi==9223372036854775808&&lo==0))]):=by
 go_enter Tryz.func232,Tryz.ntmps232
 go_wp2_with fail
 refine(hc _).mono ?_
 rintro e w1 ⟨rfl,hb1⟩
 obtain⟨hc1,hf1⟩:=Dc hb1
 have hz1:=hb1.size
 simp at hz1
 clear hc
 go_upto_region 4 with(fail)
 have hbk:Blk w1 w.heap.size #[.int .i64 0,.int .u64 0] 89:=(hb1.block _ (by simp)).trans (heap_alloc_new w _)
 refine Bd (fun W=>Below w.heap.size w W/\Blk W w.heap.size #[.int .i64 0,.int .u64 0] 89/\Blk W w1.heap.size #[rh,.int .u64 rl] 89) ?_ ?_
 ·have h0:Below w.heap.size w w1:=((Below.refl _ _).alloc (Nat.le_refl _) _).trans (hb1.mono (by simp))
  exact⟨h0.alloc (by omega) _,hbk.alloc _,Blk.new' rfl⟩
 clear hc1 hf1 hbk hb1
 rintro W ⟨hW,b1,b2⟩
 have hne:w1.heap.size≠w.heap.size:=by omega
 refine Dm 13 38 [(11,w.heap.size)] (fun W'=>Rex [w.heap.size] W W'/\Blk W' w1.heap.size #[rh,.int .u64 rl] 89) (by kernel_rfl) rfl ⟨(Rex.refl _ _),b2⟩ (fun w w' ⟨h0,h1⟩ hr=>⟨h0.trans hr,h1.rex hr (by simp<;>omega)⟩) ?_
 iterate 4
  apply An (hg:=rfl) (hal:=rfl)
  ·intro a W' hC hE
   obtain⟨_,k1⟩:=hC
   have k1:=k1.cell
   first
    |(simp at hE;simp[go_sem,Act.eval,iw,hE,k1];try rfl)
    |(clear hE;simp[go_sem,Act.eval,iw,k1];try rfl)
 iterate 3
  apply Ai (p:=true) (hg:=rfl) (hd:=rfl) (hal:=rfl)
  ·intro v W' h
   simp[Af,Det,Am] at h
   simp
   exact h
  ·intro hp hx a W' hC hE
   obtain⟨_,k1⟩:=hC
   have k1:=k1.cell
   simp[hx] at hE
   simp[go_sem,Act.eval,iw,hE,k1]
   try rfl
 iterate 2
  apply Ai (p:=_) (hg:=rfl) (hd:=rfl) (hal:=rfl)
  ·intro v W' h
   exact h
  ·intro hp hx a W' hC hE
   obtain⟨_,k1⟩:=hC
   have k1:=k1.cell
   try simp at hp
   try simp at hx
   simp[hp,hx] at hE
   simp[go_sem,Act.eval,iw,hE,k1]
   try rfl
 apply Dp (p:=true) (ho:=rfl) (hg:=rfl) (hd:=rfl)
 ·intro v W' h
  simp[Af,Det,Am] at h
  simp
  exact h
 ·intro _ hx v W' h
  simp[hx] at h
  exact h
 ·intro _ hx v W' h hy
  simp[hx,hy] at h
  exact h
 apply Ek (ho:=rfl) (hg:=rfl)
 ·intro v W' h
  simp at h
  exact h
 ·intro v W' h hx
  simp[hx] at h
  exact h
 apply Pf (w.heap.size) #[.int .i64 0,.int .u64 0] #[rh,.int .u64 rl] 89 89 _ _ rfl rfl rfl (by simp[Bn]) rfl (by kernel_rfl) (by simp[Value.oneCell'])
 ·exact fun W' hC=>b1.shape hC.1 (by simp)
 ·intro a W' hE
  simp[Oper.looksAt,Op.operands,Af,Det] at hE
  simp[Act.eval,hE]
 iterate 1
  apply An (hg:=rfl) (hal:=rfl)
  ·intro a W' hC hE
   obtain⟨_,k1⟩:=hC
   have k1:=k1.cell
   first
    |(simp at hE;simp[go_sem,Act.eval,iw,hE,k1];try rfl)
    |(clear hE;simp[go_sem,Act.eval,iw,k1];try rfl)
 rintro W2 ⟨hR,c1⟩
 simp only[A6,Det,forall_eq]
 intros
 repeat (rename Am _ _ _ _=>hgd;clear hgd)
 simp only[nS]
 refine wpList_nil ?_
 go_wp2
 exact bodyPost_ret (M0 (d:=(Tryz.prog.underlying 89).getD default) rfl rfl (by assumption) (by kernel_rfl) (by kernel_rfl) (by kernel_rfl)) rfl ⟨rfl,hW.trans (hR.of_priv hW.size)⟩
theorem sg_f (hi lo:Int) (h0:0<=hi) (h1:hi<18446744073709551616) (l0:0<=lo) (l1:lo<18446744073709551616):
  wrap64 hi=hiW (Bl (hi*18446744073709551616+lo))/\lo=loW (Bl (hi*18446744073709551616+lo))/\decide (hi<9223372036854775808)=inW (hi*18446744073709551616+lo):=by
 rw[Ak]
 refine⟨by unfold hiW Bl;omega,by unfold loW Bl;omega,?_⟩
 unfold inW
 rw[decide_eq_decide]
 unfold Ch
 omega
theorem sg_t (hi lo:Int) (h0:0<=hi) (h1:hi<18446744073709551616) (l0:0<=lo) (l1:lo<18446744073709551616):
  Bl (0-Bl (hi*18446744073709551616+lo))=Bl (-(hi*18446744073709551616+lo))/\(decide (hi<9223372036854775808)||(hi==9223372036854775808&&lo==0))=inW (-(hi*18446744073709551616+lo)):=by
 refine⟨by unfold Bl;omega,?_⟩
 unfold inW
 by_cases h:Ch (-(hi*18446744073709551616+lo))
 ·rw[decide_eq_true h]
  unfold Ch at h
  by_cases h2:hi<9223372036854775808
  ·simp[h2]
  ·have a:hi=9223372036854775808:=by omega
   have b:lo=0:=by omega
   simp[a,b]
 ·rw[decide_eq_false h]
  unfold Ch at h
  have a:¬hi<9223372036854775808:=by omega
  have b:¬(hi=9223372036854775808/\lo=0):=by omega
  simp only[decide_eq_false a,Bool.false_or]
  rw[Bool.eq_false_iff]
  intro h3
  simp only[Bool.and_eq_true,beq_iff_eq] at h3
  exact b h3
theorem c_signed (b:Bool) (hi lo:Int) (w:World) (h0:0<=hi) (h1:hi<18446744073709551616) (l0:0<=lo) (l1:lo<18446744073709551616):
  Calls Tryz.prog 232 #[.bool b,.int .u64 hi,.int .u64 lo] w fun e w'=>
   e= .returned (.tuple #[B7 (Bl (sgn b (hi*18446744073709551616+lo))),.bool (inW (sgn b (hi*18446744073709551616+lo)))])/\Below w.heap.size w w':=by
 obtain⟨e1,e2,e3⟩:=sg_f hi lo h0 h1 l0 l1
 cases b with
 |false=>
  have:=signed_f hi lo w
  show Calls _ _ _ _ fun e w'=>e= .returned (.tuple #[B7 (Bl (hi*18446744073709551616+lo)),.bool (inW (hi*18446744073709551616+lo))])/\Below w.heap.size w w'
  unfold B7
  rw[<-e1,<-e2,<-e3]
  exact this
 |true=>
  obtain⟨f1,f2⟩:=sg_t hi lo h0 h1 l0 l1
  show Calls _ _ _ _ fun e w'=>e= .returned (.tuple #[B7 (Bl (-(hi*18446744073709551616+lo))),.bool (inW (-(hi*18446744073709551616+lo)))])/\Below w.heap.size w w'
  rw[<-f2]
  unfold B7
  refine signed_t hi lo _ _ (inW (0-Bl (hi*18446744073709551616+lo))) w fun w=> ?_
  have:=Hi 0 (Bl (hi*18446744073709551616+lo)) w (by decide) (Vj _)
  rw[f1] at this
  rw[wide0] at this
  unfold B7 at this
  rw[<-e1,<-e2] at this
  exact this
structure Nj (a m q1 q0 rest:Int):Prop where
 q1b:0<=q1/\q1<18446744073709551616
 q0b:0<=q0/\q0<18446744073709551616
 rb:0<=rest/\rest<m
 eq:(q1*18446744073709551616+q0)*m+rest=(if 0<=a then a else-a)
theorem div_out (a m:Int) (ha:Ch a) (hm:1<=m) (hm':m<=9223372036854775807):Nj a m (Ec a/m) (ptQ (Ec a) (G4 a) m) (ptR (Ec a) (G4 a) m):=by
 obtain⟨⟨h1,h2⟩,h3,h4⟩:=sz_bd a ha
 have e:Ec a*18446744073709551616+G4 a=(if 0<=a then a else-a):=by unfold Ec G4;omega
 unfold ptQ ptR
 generalize Ec a=H at*
 generalize G4 a=L at*
 have a1:=Int.emod_add_mul_ediv H m
 have a2:=Int.emod_nonneg H (show m≠0 by omega)
 have a3:=Int.emod_lt_of_pos H (show 0<m by omega)
 have b1:=Int.emod_add_mul_ediv (H%m*18446744073709551616+L) m
 have b2:=Int.emod_nonneg (H%m*18446744073709551616+L) (show m≠0 by omega)
 have b3:=Int.emod_lt_of_pos (H%m*18446744073709551616+L) (show 0<m by omega)
 have c1:0<=H/m:=Int.ediv_nonneg h1 (by omega)
 have c2:H/m<=H:=Int.ediv_le_self _ h1
 refine⟨⟨c1,by omega⟩,⟨Int.ediv_nonneg (by omega) (by omega),Int.ediv_lt_of_lt_mul (by omega) (by omega)⟩,⟨b2,b3⟩,?_⟩
 rw[<-e,Int.add_mul,Int.mul_right_comm,Int.mul_comm (H/m) m,Int.mul_comm _ m]
 omega
theorem Pm {a m q r:Int} (hm:1<=m) (h:m*q+r=a) (h0:0<=r) (h1:r<m):q=a/m/\r=a%m:=by
 subst h
 refine⟨?_,?_⟩
 ·rw[Int.add_comm,Int.add_mul_ediv_left _ _ (by omega),Int.ediv_eq_zero_of_lt h0 h1];omega
 ·rw[Int.add_comm,Int.add_mul_emod_self_left,Int.emod_eq_of_lt h0 h1]
theorem Nj.pos {a m q1 q0 rest:Int} (D:Nj a m q1 q0 rest) (ha:Ch a) (hm:1<=m) (h:0<=a):Bl (sgn false (q1*18446744073709551616+q0))=a/m/\rest=a%m:=by
 have e:=D.eq
 rw[if_pos h,Int.mul_comm] at e
 obtain⟨f1,f2⟩:=Pm hm e D.rb.1 D.rb.2
 refine⟨?_,f2⟩
 show Bl (q1*18446744073709551616+q0)=a/m
 have g1:a/m<=a:=Int.ediv_le_self _ h
 have g2:0<=a/m:=Int.ediv_nonneg h (by omega)
 rw[f1]
 exact Ez ⟨by omega,by have:=ha.2;omega⟩
theorem Nj.neg0 {a m q1 q0 rest:Int} (D:Nj a m q1 q0 rest) (ha:Ch a) (hm:1<=m) (h:a<0) (hr:rest=0):Bl (sgn true (q1*18446744073709551616+q0))=a/m/\rest=a%m:=by
 have e:=D.eq
 rw[if_neg (by omega),Int.mul_comm] at e
 have e':m*(-(q1*18446744073709551616+q0))+0=a:=by rw[Int.mul_neg];omega
 obtain⟨f1,f2⟩:=Pm hm e' (Int.le_refl 0) (by omega)
 refine⟨?_,by omega⟩
 show Bl (-(q1*18446744073709551616+q0))=a/m
 have g1:q1*18446744073709551616+q0<=m*(q1*18446744073709551616+q0):=by
  have:=Int.mul_le_mul_of_nonneg_right hm (show 0<=q1*18446744073709551616+q0 by have:=D.q1b;have:=D.q0b;omega)
  omega
 rw[<-f1]
 exact Ez ⟨by have:=ha.1;omega,by have:=D.q1b;have:=D.q0b;omega⟩
theorem Nj.neg1 {a m q1 q0 rest:Int} (D:Nj a m q1 q0 rest) (ha:Ch a) (hm:1<=m) (h:a<0) (hr:0<rest):Bl (Bl (sgn true (q1*18446744073709551616+q0))-1)=a/m/\m-rest=a%m:=by
 have e:=D.eq
 rw[if_neg (by omega),Int.mul_comm] at e
 have e':m*(-(q1*18446744073709551616+q0)-1)+(m-rest)=a:=by rw[Int.mul_sub,Int.mul_neg];omega
 obtain⟨f1,f2⟩:=Pm hm e' (by have:=D.rb;omega) (by omega)
 refine⟨?_,f2⟩
 show Bl (Bl (-(q1*18446744073709551616+q0))-1)=a/m
 have g1:q1*18446744073709551616+q0<=m*(q1*18446744073709551616+q0):=by
  have:=Int.mul_le_mul_of_nonneg_right hm (show 0<=q1*18446744073709551616+q0 by have:=D.q1b;have:=D.q0b;omega)
  omega
 have g2:m*(q1*18446744073709551616+q0)< -a:=by omega
 have w1:Bl (-(q1*18446744073709551616+q0))= -(q1*18446744073709551616+q0):=Ez ⟨by have:=ha.1;omega,by have:=D.q1b;have:=D.q0b;omega⟩
 rw[<-f1,w1]
 exact Ez ⟨by have:=ha.1;omega,by have:=D.q1b;have:=D.q0b;omega⟩
theorem div_pos (ah al m sH sL q1 q0 rest qh ql:Int) (f:Bool) (w:World) (m1:1<=m) (m2:m<=9223372036854775807) (h:0<=ah) (r1:0<=rest) (r2:rest<m)
  (c1:∀w,Cb 230 #[.agg #[ah,.int .u64 al]] w (.tuple #[.int .u64 sH,.int .u64 sL]))
  (c2:∀w,Cb 231 #[.int .u64 sH,.int .u64 sL,.int .u64 m] w (.tuple #[.int .u64 q1,.int .u64 q0,.int .u64 rest]))
  (c3:∀w,Cb 232 #[.bool false,.int .u64 q1,.int .u64 q0] w (.tuple #[.agg #[qh,.int .u64 ql],.bool f])):
  Cb 226 #[.agg #[ah,.int .u64 al],m] w (.tuple #[.agg #[qh,.int .u64 ql],rest,.int .i64 0]):=by
 have hd:decide (ah<0)=false:=by simp;omega
 go_enter Tryz.func226,Tryz.ntmps226
 go_wp2_with fail
 refine(c1 _).mono ?_
 rintro e w1 ⟨rfl,hb1⟩
 obtain⟨hc1,hf1⟩:=Dc hb1
 have hz1:=hb1.size
 simp at hz1
 go_wp2_with fail
 refine(c2 _).mono ?_
 rintro e w2 ⟨rfl,hb2⟩
 obtain⟨hc2,hf2⟩:=Dc hb2
 have hz2:=hb2.size
 have y1:w.heap.size<w1.heap.size:=by omega
 have y2:w.heap.size+1<w1.heap.size:=by omega
 go_wp2_with fail
 refine(c3 _).mono ?_
 rintro e w3 ⟨rfl,hb3⟩
 obtain⟨hc3,hf3⟩:=Dc hb3
 have hz3:=hb3.size
 have x1:w.heap.size<w2.heap.size:=by omega
 have x2:w.heap.size+1<w2.heap.size:=by omega
 have u1:w.heap.size<w3.heap.size:=by omega
 have u2:w.heap.size+1<w3.heap.size:=by omega
 have h0:Below w.heap.size w w3:=(((((Below.refl _ _).alloc (Nat.le_refl _) _).alloc (by simp) _).trans (hb1.mono (by simp;omega))).trans (hb2.mono (by omega))).trans (hb3.mono (by omega))
 have H0:=Hd h0
 clear c1 c2 c3 h0
 go_wp2
 refine bodyPost_ret (v:= .tuple #[.agg #[qh,.int .u64 ql],rest,.int .i64 0]) (by simp[results,Tryz.results226,go_sem,hc1,hc2,hc3,u1,u2,x1,x2,y1,y2]) rfl ⟨rfl,?_⟩
 exact(have hUp:=H0.out;Aa)
theorem div_neg0 (ah al m sH sL q1 q0 rest qh ql:Int) (f:Bool) (w:World) (m1:1<=m) (m2:m<=9223372036854775807) (h:ah<0) (hr:rest<=0) (r1:0<=rest) (r2:rest<m)
  (c1:∀w,Cb 230 #[.agg #[ah,.int .u64 al]] w (.tuple #[.int .u64 sH,.int .u64 sL]))
  (c2:∀w,Cb 231 #[.int .u64 sH,.int .u64 sL,.int .u64 m] w (.tuple #[.int .u64 q1,.int .u64 q0,.int .u64 rest]))
  (c3:∀w,Cb 232 #[.bool true,.int .u64 q1,.int .u64 q0] w (.tuple #[.agg #[qh,.int .u64 ql],.bool f])):
  Cb 226 #[.agg #[ah,.int .u64 al],m] w (.tuple #[.agg #[qh,.int .u64 ql],rest,.int .i64 0]):=by
 have hd:decide (ah<0)=true:=by simp;omega
 go_enter Tryz.func226,Tryz.ntmps226
 go_wp2_with fail
 refine(c1 _).mono ?_
 rintro e w1 ⟨rfl,hb1⟩
 obtain⟨hc1,hf1⟩:=Dc hb1
 have hz1:=hb1.size
 simp at hz1
 go_wp2_with fail
 refine(c2 _).mono ?_
 rintro e w2 ⟨rfl,hb2⟩
 obtain⟨hc2,hf2⟩:=Dc hb2
 have hz2:=hb2.size
 have y1:w.heap.size<w1.heap.size:=by omega
 have y2:w.heap.size+1<w1.heap.size:=by omega
 go_wp2_with fail
 refine(c3 _).mono ?_
 rintro e w3 ⟨rfl,hb3⟩
 obtain⟨hc3,hf3⟩:=Dc hb3
 have hz3:=hb3.size
 have x1:w.heap.size<w2.heap.size:=by omega
 have x2:w.heap.size+1<w2.heap.size:=by omega
 have u1:w.heap.size<w3.heap.size:=by omega
 have u2:w.heap.size+1<w3.heap.size:=by omega
 have h0:Below w.heap.size w w3:=(((((Below.refl _ _).alloc (Nat.le_refl _) _).alloc (by simp) _).trans (hb1.mono (by simp;omega))).trans (hb2.mono (by omega))).trans (hb3.mono (by omega))
 have H0:=Hd h0
 clear c1 c2 c3 h0
 go_wp2
 refine bodyPost_ret (v:= .tuple #[.agg #[qh,.int .u64 ql],rest,.int .i64 0]) (by simp[results,Tryz.results226,go_sem,hc1,hc2,hc3,u1,u2,x1,x2,y1,y2]) rfl ⟨rfl,?_⟩
 exact(have hUp:=H0.out;Aa)
theorem div_neg1 (ah al m sH sL q1 q0 rest qh ql zh zl:Int) (f:Bool) (w:World) (m1:1<=m) (m2:m<=9223372036854775807) (h:ah<0) (hr:0<rest) (r1:0<=rest) (r2:rest<m)
  (c1:∀w,Cb 230 #[.agg #[ah,.int .u64 al]] w (.tuple #[.int .u64 sH,.int .u64 sL]))
  (c2:∀w,Cb 231 #[.int .u64 sH,.int .u64 sL,.int .u64 m] w (.tuple #[.int .u64 q1,.int .u64 q0,.int .u64 rest]))
  (c3:∀w,Cb 232 #[.bool true,.int .u64 q1,.int .u64 q0] w (.tuple #[.agg #[qh,.int .u64 ql],.bool f]))
  (c4:∀w,Cb 141 #[.agg #[qh,.int .u64 ql],.agg #[.int .i64 0,.int .u64 1]] w (.tuple #[.agg #[zh,.int .u64 zl],.bool true])):
  Cb 226 #[.agg #[ah,.int .u64 al],m] w (.tuple #[.agg #[zh,.int .u64 zl],.int .i64 (m-rest),.int .i64 0]):=by
 have hd:decide (ah<0)=true:=by simp;omega
 go_enter Tryz.func226,Tryz.ntmps226
 go_wp2_with fail
 refine(c1 _).mono ?_
 rintro e w1 ⟨rfl,hb1⟩
 obtain⟨hc1,hf1⟩:=Dc hb1
 have hz1:=hb1.size
 simp at hz1
 go_wp2_with fail
 refine(c2 _).mono ?_
 rintro e w2 ⟨rfl,hb2⟩
 obtain⟨hc2,hf2⟩:=Dc hb2
 have hz2:=hb2.size
 have y1:w.heap.size<w1.heap.size:=by omega
 have y2:w.heap.size+1<w1.heap.size:=by omega
 go_wp2_with fail
 refine(c3 _).mono ?_
 rintro e w3 ⟨rfl,hb3⟩
 obtain⟨hc3,hf3⟩:=Dc hb3
 have hz3:=hb3.size
 have x1:w.heap.size<w2.heap.size:=by omega
 have x2:w.heap.size+1<w2.heap.size:=by omega
 have u1:w.heap.size<w3.heap.size:=by omega
 have u2:w.heap.size+1<w3.heap.size:=by omega
 have h0:Below w.heap.size w w3:=(((((Below.refl _ _).alloc (Nat.le_refl _) _).alloc (by simp) _).trans (hb1.mono (by simp;omega))).trans (hb2.mono (by omega))).trans (hb3.mono (by omega))
 have H0:=Hd h0
 clear c1 c2 c3 h0
 go_upto_region 7 with(fail)
 have hbk:Blk w3 (w.heap.size+1) #[.int .i64 0,.int .u64 0] 89:=(hb3.block _ (by omega)).trans ((hb2.block _ (by omega)).trans ((hb1.block (w.heap.size+1) (by simp)).trans (Blk.new' (by simp))))
 refine Bd (fun W=>Below w.heap.size w W/\Blk W (w.heap.size+1) #[.int .i64 0,.int .u64 0] 89/\Blk W w3.heap.size #[qh,.int .u64 ql] 89) ?_ ?_
 ·exact⟨H0.out.alloc (by omega) _,hbk.alloc _,Blk.new' rfl⟩
 clear hc1 hf1 hbk hb1 hc2 hf2 hb2 hc3 hf3 hb3
 rintro W ⟨hW,b1,b2⟩
 refine Az 6 58 [] (fun W'=>Rex [] W W'/\Blk W' (w.heap.size+1) #[.int .i64 0,.int .u64 0] 89/\Blk W' w3.heap.size #[qh,.int .u64 ql] 89) Cu (by kernel_rfl) rfl ⟨(Rex.refl _ _).drew,b1,b2⟩ (fun w w' ⟨h0,h1,h2⟩ hr=>⟨h0.trans hr,h1.rex hr (by simp<;>omega),h2.rex hr (by simp<;>omega)⟩) (fun c a d v w h=>by cases d<;>exact h) ?_
 iterate 1
  apply An (hg:=rfl) (hal:=rfl)
  ·intro a W' hC hE
   obtain⟨_,k1,k2⟩:=hC
   have k1:=k1.cell
   have k2:=k2.cell
   first
    |(simp at hE;simp[go_sem,Act.eval,iw,hE,k1,k2];try rfl)
    |(clear hE;simp[go_sem,Act.eval,iw,k1,k2];try rfl)
 refine Cx rfl rfl (fun W' hC=>c_Of 1 W' (by decide)) (fun a W' hC hE=> ?_) ?_
 ·obtain⟨_,k1,k2⟩:=hC
  have k1:=k1.cell
  have k2:=k2.cell
  first
   |(simp at hE;simp[go_sem,Act.eval,iw,hE,k1,k2];try rfl)
   |(clear hE;simp[go_sem,Act.eval,iw,k1,k2];try rfl)
 rw[show B7 1= .agg #[.int .i64 0,.int .u64 1] from rfl]
 refine Cx rfl rfl (fun W' hC=>c4 W') (fun a W' hC hE=> ?_) ?_
 ·obtain⟨_,k1,k2⟩:=hC
  have k1:=k1.cell
  have k2:=k2.cell
  first
   |(simp at hE;simp[go_sem,Act.eval,iw,hE,k1,k2];try rfl)
   |(clear hE;simp[go_sem,Act.eval,iw,k1,k2];try rfl)
 iterate 3
  apply An (hg:=rfl) (hal:=rfl)
  ·intro a W' hC hE
   obtain⟨_,k1,k2⟩:=hC
   have k1:=k1.cell
   have k2:=k2.cell
   first
    |(simp at hE;simp[go_sem,Act.eval,iw,hE,k1,k2];try rfl)
    |(clear hE;simp[go_sem,Act.eval,iw,k1,k2];try rfl)
 rintro W2 ⟨hR,c1,c2⟩
 simp only[A6,Det,forall_eq]
 intros
 repeat (rename Am _ _ _ _=>hgd;clear hgd)
 simp only[nS]
 clear c4
 have k1:=c1.cell
 have k2:=c2.cell
 have k3:=c2.frozen
 have k4:=c1.frozen
 go_wp2
 refine bodyPost_ret (v:= .tuple #[.agg #[zh,.int .u64 zl],.int .i64 (m-rest),.int .i64 0]) (by simp[results,Tryz.results226,go_sem,k1,k2,k3,k4]) rfl ⟨rfl,?_⟩
 have hR':=hW.trans (hR.of_priv hW.size)
 exact(have hUp:=hR';Aa)
end Go.Proofs.YtdeghcgakkhbmaaGreat
namespace Go.Proofs.YtdeghcgakkhbmaaGreat
open Go.RowKit
theorem I64.w {n:Int} (h:I64 n):Ch n:=W128_small h
theorem c_Div (a m:Int) (w:World) (ha:Ch a) (hm:1<=m) (hm':m<=9223372036854775807):
  Cb 226 #[B7 a,m] w (.tuple #[B7 (a/m),.int .i64 (a%m),.int .i64 0]):=by
 have D:=div_out a m ha hm hm'
 obtain⟨⟨s1,s2⟩,s3,s4⟩:=sz_bd a ha
 have c1:=fun w=>c_size a w ha
 have c2:=fun w=>c_parts (Ec a) (G4 a) m w s1 s2 s3 s4 hm (by omega)
 have c3:=fun b w=>c_signed b (Ec a/m) (ptQ (Ec a) (G4 a) m) w D.q1b.1 D.q1b.2 D.q0b.1 D.q0b.2
 have hs:(hiW a<0)↔a<0:=by obtain⟨_,_⟩:=ha;unfold hiW;omega
 rcases Int.lt_or_le a 0 with h|h
 ·rcases Int.lt_or_le 0 (ptR (Ec a) (G4 a) m) with hr|hr
  ·obtain⟨e1,e2⟩:=D.neg1 ha hm h hr
   rw[<-e1,<-e2]
   have c4:=fun w=>Hi (Bl (sgn true (Ec a/m*18446744073709551616+ptQ (Ec a) (G4 a) m))) 1 w (Vj _) (by decide)
   rw[R5 (n:=Bl (sgn true (Ec a/m*18446744073709551616+ptQ (Ec a) (G4 a) m))-1) (by
    have:=ha.1;have:=Ez (n:=Bl (sgn true (Ec a/m*18446744073709551616+ptQ (Ec a) (G4 a) m))-1)
    have e3:=D.eq
    have:=D.q1b;have:=D.q0b;have:=D.rb
    have g1:Ec a/m*18446744073709551616+ptQ (Ec a) (G4 a) m<=(Ec a/m*18446744073709551616+ptQ (Ec a) (G4 a) m)*m:=by
     have:=Int.mul_le_mul_of_nonneg_left hm (show 0<=Ec a/m*18446744073709551616+ptQ (Ec a) (G4 a) m by omega)
     omega
    rw[if_neg (by omega)] at e3
    have e4:Bl (sgn true (Ec a/m*18446744073709551616+ptQ (Ec a) (G4 a) m))= -(Ec a/m*18446744073709551616+ptQ (Ec a) (G4 a) m):=Ez (show Ch (-(Ec a/m*18446744073709551616+ptQ (Ec a) (G4 a) m)) from ⟨by omega,by omega⟩)
    rw[e4]
    exact⟨by omega,by omega⟩)] at c4
   exact div_neg1 _ _ m _ _ _ _ _ _ _ _ _ (inW _) w hm hm' (hs.2 h) hr D.rb.1 D.rb.2 c1 c2 (c3 true) c4
  ·obtain⟨e1,e2⟩:=D.neg0 ha hm h (by have:=D.rb.1;omega)
   rw[<-e1,<-e2]
   exact div_neg0 _ _ m _ _ _ _ _ _ _ (inW _) w hm hm' (hs.2 h) hr D.rb.1 D.rb.2 c1 c2 (c3 true)
 ·obtain⟨e1,e2⟩:=D.pos ha hm h
  rw[<-e1,<-e2]
  exact div_pos _ _ m _ _ _ _ _ _ _ (inW _) w hm hm' (by omega) D.rb.1 D.rb.2 c1 c2 (c3 false)
attribute [local simp] Oper.looksAt Op.operands Call.operands Af Det Am
def Ay (v:Int):Bool:=decide (-2305844108725321728<=v)&&decide (v<=2305844108725321728)
def Ff (n d:Int):Bool:=decide (1<=d)&&decide (d<=281474976710656)&&decide (-4611688217450643456<=n)&&decide (n<=4611688217450643456)
theorem c_back (v:Int) (w:World):
  Cb 211 #[v] w (.bool (Ay v)):=by
 unfold Ay
 go_enter Tryz.func211,Tryz.ntmps211
 go_upto_region 1 with(fail)
 refine Dm 7 9 [] (fun W'=>Rex [] w W') (by kernel_rfl) rfl (Rex.refl _ _) (fun w w' h0 hr=>h0.trans hr) ?_
 iterate 3
  apply An (hg:=rfl) (hal:=rfl)
  ·intro a W' hC hE
   obtain _:=hC
   first
    |(simp at hE;simp[go_sem,Act.eval,iw,hE];try rfl)
    |(clear hE;simp[go_sem,Act.eval,iw];try rfl)
 iterate 2
  apply Ai (p:=true) (hg:=rfl) (hd:=rfl) (hal:=rfl)
  ·intro v W' h
   simp[Af,Det,Am] at h
   simp
   exact h
  ·intro hp hx a W' hC hE
   obtain _:=hC
   simp[hx] at hE
   simp[go_sem,Act.eval,iw,hE]
   try rfl
 apply Cm (ho:=rfl) (hg:=rfl)
 ·intro v W' h
  simp at h
  exact h
 ·intro v W' h hx
  simp[hx] at h
  exact h
 iterate 1
  apply An (hg:=rfl) (hal:=rfl)
  ·intro a W' hC hE
   obtain _:=hC
   first
    |(simp at hE;simp[go_sem,Act.eval,iw,hE];try rfl)
    |(clear hE;simp[go_sem,Act.eval,iw];try rfl)
 rintro W2 hR
 simp only[A6,Det,forall_eq]
 intros
 repeat (rename Am _ _ _ _=>hgd;clear hgd)
 simp only[nS]
 refine wpList_nil ?_
 go_wp2
 go_ret
 exact⟨rfl,hR.of_priv (Nat.le_refl _)⟩
theorem c_slopeIs (n d:Int) (w:World):
  Cb 212 #[.agg #[n,d]] w (.bool (Ff n d)):=by
 unfold Ff
 go_enter Tryz.func212,Tryz.ntmps212
 go_upto_region 1 with(fail)
 refine Bd (fun W=>Below w.heap.size w W/\Blk W w.heap.size #[n,d] 254) ⟨(Below.refl _ _).alloc (Nat.le_refl _) _,(by repeat (first|(refine Blk.new' ?_;simp;done)|refine Blk.alloc ?_ _))⟩ ?_
 rintro W ⟨hW,b1⟩
 refine Dm 19 21 [] (fun W'=>Rex [] W W'/\Blk W' w.heap.size #[n,d] 254) (by kernel_rfl) rfl ⟨(Rex.refl _ _),b1⟩ (fun w w' ⟨h0,h1⟩ hr=>⟨h0.trans hr,h1.rex hr (by simp<;>omega)⟩) ?_
 iterate 19
  first
  |(
   apply An (hg:=rfl) (hal:=rfl)
   ·intro a W' hC hE
    obtain⟨_,k1⟩:=hC
    have k1:=k1.cell
    first
     |(simp at hE;simp[go_sem,Act.eval,iw,hE,k1];try rfl)
     |(clear hE;simp[go_sem,Act.eval,iw,k1];try rfl))
  |(
   apply Ai (p:=true) (hg:=rfl) (hd:=rfl) (hal:=rfl)
   ·intro v W' h
    simp[Af,Det,Am] at h
    simp
    exact h
   ·intro hp hx a W' hC hE
    obtain⟨_,k1⟩:=hC
    have k1:=k1.cell
    simp[hx] at hE
    simp[go_sem,Act.eval,iw,hE,k1]
    try rfl)
  |(
   apply Cm (ho:=rfl) (hg:=rfl)
   ·intro v W' h
    simp at h
    exact h
   ·intro v W' h hx
    simp[hx] at h
    exact h)
 rintro W2 ⟨hR,c1⟩
 simp only[A6,Det,forall_eq]
 intros
 repeat (rename Am _ _ _ _=>hgd;clear hgd)
 simp only[nS]
 refine wpList_nil ?_
 go_wp2
 go_ret
 exact⟨rfl,hW.trans (hR.of_priv hW.size)⟩
def Ag:Value->Int| .int _ q=>q|_=>0
structure H8 (a b m n:Int):Prop where
 m0:0<=m
 m1:m<=9223372036854775807
 n0:0<=n
 n1:n<=9223372036854775807
 eq:Nat.gcd m.natAbs n.natAbs=Nat.gcd a.natAbs b.natAbs
theorem H8.pos {a b:Int} (ha: -9223372036854775807<=a/\a<=9223372036854775807) (hb:0<=b/\b<=9223372036854775807) (h:0<=a):H8 a b a b:=⟨h,ha.2,hb.1,hb.2,rfl⟩
theorem H8.neg {a b:Int} (ha: -9223372036854775807<=a/\a<=9223372036854775807) (hb:0<=b/\b<=9223372036854775807) (h:a<=0):H8 a b (-a) b:=⟨by omega,by omega,hb.1,hb.2,by rw[Int.natAbs_neg]⟩
theorem H8.done {a b n:Int} (h:H8 a b 0 n):n=(Nat.gcd a.natAbs b.natAbs:Int):=by
 rw[<-h.eq];have:=h.n0;simp;omega
theorem H8.step {a b m n:Int} (h:H8 a b m n) (hm:¬m=0):H8 a b (n.tmod m) m/\(n.tmod m).toNat<m.toNat:=by
 have h0:=h.m0;have h1:=h.n0
 have e:n.tmod m=n%m:=Int.tmod_eq_emod_of_nonneg h1
 have l1:=Int.emod_nonneg n hm
 have l2:=Int.emod_lt_of_pos n (show 0<m by omega)
 have:=h.m1
 rw[e]
 refine⟨⟨l1,by omega,h0,h.m1,?_⟩,by omega⟩
 rw[<-h.eq]
 obtain⟨m,rfl⟩:=Int.eq_ofNat_of_zero_le h0
 obtain⟨n,rfl⟩:=Int.eq_ofNat_of_zero_le h1
 exact(Nat.gcd_rec m n).symm
theorem H8.stepE {a b m n:Int} (h:H8 a b m n) (hm:¬m=0):H8 a b (n%m) m/\(n%m).toNat<m.toNat:=by
 have:=h.step hm
 rwa [Int.tmod_eq_emod_of_nonneg h.n0] at this
theorem c_divisor (a b:Int) (w:World) (ha: -9223372036854775807<=a/\a<=9223372036854775807) (hb:0<=b/\b<=9223372036854775807):
  Calls Tryz.prog 225 #[a,b] w fun e w'=>e= .returned (.int .i64 (Nat.gcd a.natAbs b.natAbs))/\w'=w:=by
 go_enter Tryz.func225,Tryz.ntmps225
 go_wp2
 refine wp_scope_jumps 0 (fun a' w'=>w'=w/\∃(m n:Int) (u2 u3 u5 u6 u7 u8 u9 u10 u11 u12 u13 u14 u15:Value),a'= {tmps:= #[m,n,u2,u3,.int .i64 0,u5,u6,u7,u8,u9,u10,u11,u12,u13,u14,u15],defers:= []}/\H8 a b m n) (fun a' _=>(Ag (a'.tmps.getD 0 undef)).toNat) rfl ?_ ?_
 ·rcases Int.lt_trichotomy a 0 with h|h|h
  ·have h1:¬(-a=0):=by omega
   have h2:¬a=0:=by omega
   go_wp2
   go_step3
   go_wp2
   go_step3
   exact⟨rfl,rfl,_,_,_,_,_,_,_,_,_,_,_,_,_,_,_,rfl,by have:=(H8.stepE (.neg ha hb (by omega)) (show¬-a=0 by omega)).1;rwa [Int.emod_neg] at this⟩
  ·subst h
   go_wp2
   go_step3
   go_wp2
   simp only[Exit.jump]
   go_ret
   exact⟨congrArg _ (by simp;omega),rfl⟩
  ·have h2:¬a=0:=by omega
   go_wp2
   go_step3
   go_wp2
   go_step3
   exact⟨rfl,rfl,_,_,_,_,_,_,_,_,_,_,_,_,_,_,_,rfl,(H8.stepE (.pos ha hb (by omega)) (by omega)).1⟩
 ·rintro a' w' ⟨rfl,m,n,u2,u3,u5,u6,u7,u8,u9,u10,u11,u12,u13,u14,u15,rfl,hs⟩
  by_cases h:m=0
  ·subst h
   go_wp2
   simp only[Exit.jump]
   go_ret
   exact⟨by have:=hs.done;simp[this],rfl⟩
  ·go_wp2
   go_step3
   exact⟨rfl,⟨rfl,_,_,_,_,_,_,_,_,_,_,_,_,_,_,_,rfl,(hs.step h).1⟩,by simpa [Ag] using (hs.step h).2⟩
theorem c_slope (A R n d:Int) (w:World):
  Cb 210 #[.agg #[A,R,n,d]] w (.agg #[n,d]):=by
 go_enter Tryz.func210,Tryz.ntmps210
 go_wp2
 refine bodyPost_ret (v:= .agg #[n,d]) (by simp[results,Tryz.results210,go_sem]) rfl ⟨rfl,?_⟩
 exact(have hUp:=(Below.refl w.heap.size w);Aa)
theorem lowest_w (n d g x y:Int) (w:World) (hg:¬g=0) (e1:wrap64 (n.tdiv g)=x) (e2:wrap64 (d.tdiv g)=y)
  (c1:∀w,Calls Tryz.prog 225 #[n,d] w fun e w'=>e= .returned (g)/\w'=w):
  Cb 213 #[.agg #[n,d]] w (.agg #[x,y]):=by
 go_enter Tryz.func213,Tryz.ntmps213
 go_wp2_with fail
 refine(c1 _).mono ?_
 rintro e w1 ⟨rfl,rfl⟩
 clear c1
 go_upto_region 2 with(fail)
 refine Bd (fun W=>Below w.heap.size w W/\Blk W w.heap.size #[n,d] 254/\Blk W (w.heap.size+1) #[.int .i64 0,.int .i64 0] 254) ⟨?_,(by repeat (first|(refine Blk.new' ?_;simp;done)|refine Blk.alloc ?_ _)),(by repeat (first|(refine Blk.new' ?_;simp;done)|refine Blk.alloc ?_ _))⟩ ?_
 ·exact(have hUp:=(Below.refl w.heap.size w);Aa)
 rintro W ⟨hW,b1,b2⟩
 refine Az 9 18 [] (fun W'=>Rex [] W W'/\Blk W' w.heap.size #[n,d] 254/\Blk W' (w.heap.size+1) #[.int .i64 0,.int .i64 0] 254) Cu (by kernel_rfl) rfl ⟨(Rex.refl _ _).drew,b1,b2⟩ (fun w w' ⟨h0,h1,h2⟩ hr=>⟨h0.trans hr,h1.rex hr (by simp<;>omega),h2.rex hr (by simp<;>omega)⟩) (fun c a d v w h=>by cases d<;>exact h) ?_
 iterate 9
  apply An (hg:=rfl) (hal:=rfl)
  ·intro a W' hC hE
   obtain⟨_,k1,k2⟩:=hC
   have k1:=k1.cell
   first
    |(simp at hE;simp[go_sem,Act.eval,iw,hE,k1,k2,hg,e1,e2];try rfl)
    |(clear hE;simp[go_sem,Act.eval,iw,k1,k2,hg,e1,e2];try rfl)
 rintro W2 ⟨hR,c1,c2⟩
 simp only[A6,Det,forall_eq]
 intros
 repeat (rename Am _ _ _ _=>hgd;clear hgd)
 simp only[nS]
 have k2:=c2.cell
 have k3:=c2.frozen
 go_wp2
 refine bodyPost_ret (v:= .agg #[x,y]) (by simp[results,Tryz.results213,go_sem,k2,k3]) rfl ⟨rfl,?_⟩
 exact(have hUp:=(hW.trans (hR.of_priv hW.size));Aa)
def Jn (n d:Int):Int:=(Nat.gcd n.natAbs d.natAbs:Int)
theorem R7 (n:Int) {d:Int} (hd:1<=d):1<=Jn n d:=by
 unfold Jn
 have:0<Nat.gcd n.natAbs d.natAbs:=Nat.gcd_pos_of_pos_right _ (by omega)
 omega
theorem J4 (n g:Int) (hn:I64 n) (hg:1<=g):wrap64 (n.tdiv g)=n.tdiv g:=by
 have h:(n.tdiv g).natAbs<=n.natAbs:=by rw[Int.natAbs_tdiv];exact Nat.div_le_self _ _
 obtain⟨h1,h2⟩:=hn
 rcases Int.lt_or_le n 0 with h0|h0
 ·have:n.tdiv g<=0:=by
   have:=Int.tdiv_nonneg (a:= -n) (b:=g) (by omega) (by omega)
   rw[Int.neg_tdiv] at this;omega
  rw[Ak];omega
 ·have:0<=n.tdiv g:=Int.tdiv_nonneg h0 (by omega)
  rw[Ak];omega
theorem c_lowest (n d:Int) (w:World) (hn: -9223372036854775807<=n/\n<=9223372036854775807) (hd:1<=d) (hd':d<=9223372036854775807):
  Cb 213 #[.agg #[n,d]] w (.agg #[.int .i64 (n.tdiv (Jn n d)),.int .i64 (d.tdiv (Jn n d))]):=by
 have hg:=R7 n hd
 exact lowest_w n d (Jn n d) _ _ w (by omega) (J4 n _ ⟨by omega,hn.2⟩ hg) (J4 d _ ⟨by omega,hd'⟩ hg) (fun w=>c_divisor n d w hn ⟨by omega,hd'⟩)
theorem Y3 (n d:Int) (hd:1<=d):(n.tdiv (Jn n d)=n/\d.tdiv (Jn n d)=d)↔Jn n d=1:=by
 constructor
 ·rintro⟨_,h⟩
  have hg:=R7 n hd
  rw[Int.tdiv_eq_ediv_of_nonneg (by omega)] at h
  rcases Int.lt_or_le 1 (Jn n d) with k|k
  ·have:=Int.ediv_lt_self_of_pos_of_ne_one (x:=d) (y:=Jn n d) (by omega) (by omega)
   omega
  ·omega
 ·intro h;rw[h];simp
def Cy (A R n d:Int):Bool:=Ay A&&Ff n d&&decide (Jn n d=1)&&decide (0<=R)&&decide (R<d)
theorem Hv {n d:Int} (h:Ff n d=true):(-4611688217450643456<=n/\n<=4611688217450643456)/\1<=d/\d<=281474976710656:=by
 unfold Ff at h;simp at h;omega
theorem Bt {x n y d:Int} {w:World}:(if x=n then (if y=d then (Result.ok (Next.value (Value.bool true)) w:Result Next) else Result.ok (Next.value (Value.bool false)) w) else Result.ok (Next.value (Value.bool false)) w)=Result.ok (Next.value (Value.bool (decide (x=n)&&decide (y=d)))) w:=by
 by_cases h1:x=n<;>by_cases h2:y=d<;>simp[h1,h2]
theorem U0 (A R n d:Int):Cy A R n d=(Ay A&&Ff n d&&(decide (n.tdiv (Jn n d)=n)&&decide (d.tdiv (Jn n d)=d))&&decide (0<=R)&&decide (R<d)):=by
 unfold Cy
 cases h:Ff n d with
 |false=>simp
 |true=>
  have:=Hv h
  have e:(decide (n.tdiv (Jn n d)=n)&&decide (d.tdiv (Jn n d)=d))=decide (Jn n d=1):=by
   rw[<-Bool.decide_and,decide_eq_decide];exact Y3 n d this.2.1
  rw[e]
theorem c_is (A R n d:Int) (w:World):
  Cb 194 #[.agg #[A,R,n,d]] w (.bool (Cy A R n d)):=by
 rw[U0]
 go_enter Tryz.func194,Tryz.ntmps194
 go_wp2_with fail
 refine(c_slope A R n d _).mono ?_
 rintro e w1 ⟨rfl,hb1⟩
 obtain⟨hc1,hf1⟩:=Dc hb1
 have hz1:=hb1.size
 simp at hz1
 go_upto_region 2 with(fail)
 refine Bd (fun W=>Below w.heap.size w W/\Blk W w.heap.size #[A,R,n,d] 248/\Blk W w1.heap.size #[n,d] 254) ⟨?_,?_,(by repeat (first|(refine Blk.new' ?_;simp;done)|refine Blk.alloc ?_ _))⟩ ?_
 ·exact(have hUp:=((((Below.refl w.heap.size w).alloc (Nat.le_refl _) _)).trans (hb1.mono (by simp)));Aa)
 ·exact Blk.alloc ((hb1.block w.heap.size (by simp)).trans (Blk.new' rfl)) _
 clear hc1 hf1 hb1
 rintro W ⟨hW,b1,b2⟩
 refine Az 30 35 [] (fun W'=>Rex [] W W'/\Blk W' w.heap.size #[A,R,n,d] 248/\Blk W' w1.heap.size #[n,d] 254) Cu (by kernel_rfl) rfl ⟨(Rex.refl _ _).drew,b1,b2⟩ (fun w w' ⟨h0,h1,h2⟩ hr=>⟨h0.trans hr,h1.rex hr (by simp<;>omega),h2.rex hr (by simp<;>omega)⟩) (fun c a d v w h=>by cases d<;>exact h) ?_
 iterate 3
  apply An (hg:=rfl) (hal:=rfl)
  ·intro a W' hC hE
   obtain⟨_,k1,k2⟩:=hC
   have k1:=k1.cell
   have k2:=k2.cell
   first
    |(simp at hE;simp[go_sem,Act.eval,iw,hE,k1,k2,Bt];try rfl)
    |(clear hE;simp[go_sem,Act.eval,iw,k1,k2,Bt];try rfl)
 refine Cx rfl rfl (fun W' hC=>c_back A W') (fun a W' hC hE=> ?_) ?_
 ·obtain⟨_,k1,k2⟩:=hC
  have k1:=k1.cell
  have k2:=k2.cell
  first
   |(simp at hE;simp[go_sem,Act.eval,iw,hE,k1,k2,Bt];try rfl)
   |(clear hE;simp[go_sem,Act.eval,iw,k1,k2,Bt];try rfl)
 iterate 1
  apply An (hg:=rfl) (hal:=rfl)
  ·intro a W' hC hE
   obtain⟨_,k1,k2⟩:=hC
   have k1:=k1.cell
   have k2:=k2.cell
   first
    |(simp at hE;simp[go_sem,Act.eval,iw,hE,k1,k2,Bt];try rfl)
    |(clear hE;simp[go_sem,Act.eval,iw,k1,k2,Bt];try rfl)
 iterate 1
  apply Ai (p:=true) (hg:=rfl) (hd:=rfl) (hal:=rfl)
  ·intro v W' h
   simp[Af,Det,Am] at h
   simp
   exact h
  ·intro hp hx a W' hC hE
   obtain⟨_,k1,k2⟩:=hC
   have k1:=k1.cell
   have k2:=k2.cell
   simp[hx] at hE
   simp[go_sem,Act.eval,iw,hE,k1,k2,Bt]
   try rfl
 apply Bu (p:=true) (hg:=rfl) (hd:=rfl) (hal:=rfl)
 ·intro v W' h
  simp at h
  simp
  exact h
 ·intro hp hx W' hC
  exact c_slopeIs n d W'
 ·intro hp hx a W' hC hE
  obtain⟨_,k1,k2⟩:=hC
  have k1:=k1.cell
  have k2:=k2.cell
  first
   |(simp[hx] at hE;simp[go_sem,Act.eval,iw,hE,k1,k2,Bt];try rfl)
   |(clear hE;simp[go_sem,Act.eval,iw,k1,k2,Bt];try rfl)
 apply Cm (ho:=rfl) (hg:=rfl)
 ·intro v W' h
  simp at h
  exact h
 ·intro v W' h hx
  simp[hx] at h
  exact h
 iterate 1
  apply An (hg:=rfl) (hal:=rfl)
  ·intro a W' hC hE
   obtain⟨_,k1,k2⟩:=hC
   have k1:=k1.cell
   have k2:=k2.cell
   first
    |(simp at hE;simp[go_sem,Act.eval,iw,hE,k1,k2,Bt];try rfl)
    |(clear hE;simp[go_sem,Act.eval,iw,k1,k2,Bt];try rfl)
 iterate 1
  apply Ai (p:=true) (hg:=rfl) (hd:=rfl) (hal:=rfl)
  ·intro v W' h
   simp[Af,Det,Am] at h
   simp
   exact h
  ·intro hp hx a W' hC hE
   obtain⟨_,k1,k2⟩:=hC
   have k1:=k1.cell
   have k2:=k2.cell
   simp[hx] at hE
   simp[go_sem,Act.eval,iw,hE,k1,k2,Bt]
   try rfl
 apply Bu (p:=true) (hg:=rfl) (hd:=rfl) (hal:=rfl)
 ·intro v W' h
  simp at h
  simp
  exact h
 ·intro hp hx W' hC
  exact(let q:=Hv (show Ff n d=true by simp at hx;exact hx.2);c_lowest n d W' ⟨by have:=q.1;omega,by have:=q.1;omega⟩ q.2.1 (by have:=q.2.2;omega))
 ·intro hp hx a W' hC hE
  obtain⟨_,k1,k2⟩:=hC
  have k1:=k1.cell
  have k2:=k2.cell
  first
   |(simp[hx] at hE;simp[go_sem,Act.eval,iw,hE,k1,k2,Bt];try rfl)
   |(clear hE;simp[go_sem,Act.eval,iw,k1,k2,Bt];try rfl)
 iterate 19
  first
  |(
   apply Ai (p:=true) (hg:=rfl) (hd:=rfl) (hal:=rfl)
   ·intro v W' h
    simp[Af,Det,Am] at h
    simp
    exact h
   ·intro hp hx a W' hC hE
    obtain⟨_,k1,k2⟩:=hC
    have k1:=k1.cell
    have k2:=k2.cell
    simp[hx] at hE
    simp[go_sem,Act.eval,iw,hE,k1,k2,Bt]
    try rfl)
  |(
   apply Cm (ho:=rfl) (hg:=rfl)
   ·intro v W' h
    simp at h
    exact h
   ·intro v W' h hx
    simp[hx] at h
    exact h)
  |(
   apply An (hg:=rfl) (hal:=rfl)
   ·intro a W' hC hE
    obtain⟨_,k1,k2⟩:=hC
    have k1:=k1.cell
    have k2:=k2.cell
    first
     |(simp at hE;simp[go_sem,Act.eval,iw,hE,k1,k2,Bt];try rfl)
     |(clear hE;simp[go_sem,Act.eval,iw,k1,k2,Bt];try rfl))
 rintro W2 ⟨hR,c1,c2⟩
 simp only[A6,Det,forall_eq]
 intros
 repeat (rename Am _ _ _ _=>hgd;clear hgd)
 simp only[nS]
 refine wpList_nil ?_
 go_wp2
 go_ret
 exact⟨rfl,hW.trans (hR.of_priv hW.size)⟩
theorem over_w (A R n d t ph pl rh rl sh sl qh ql ah al oh ol rest e1 e2:Int) (w:World)
  (c1:∀w,Cb 89 #[n,t] w (.agg #[ph,.int .u64 pl]))
  (c2:∀w,Cb 88 #[R] w (.agg #[rh,.int .u64 rl]))
  (c3:∀w,Cb 87 #[.agg #[ph,.int .u64 pl],.agg #[rh,.int .u64 rl]] w (.tuple #[.agg #[sh,.int .u64 sl],e1]))
  (c4:∀w,Cb 226 #[.agg #[sh,.int .u64 sl],d] w (.tuple #[.agg #[qh,.int .u64 ql],rest,.int .i64 0]))
  (c5:∀w,Cb 88 #[A] w (.agg #[ah,.int .u64 al]))
  (c6:∀w,Cb 87 #[.agg #[qh,.int .u64 ql],.agg #[ah,.int .u64 al]] w (.tuple #[.agg #[oh,.int .u64 ol],e2])):
  Cb 214 #[.agg #[A,R,n,d],t] w (.tuple #[.agg #[oh,.int .u64 ol],rest]):=by
 have H1:=Hd c1
 have H2:=Hd c2
 have H3:=Hd c3
 have H4:=Hd c4
 have H5:=Hd c5
 have H6:=Hd c6
 clear c1 c2 c3 c4 c5 c6
 go_enter Tryz.func214,Tryz.ntmps214
 go_upto_region 1 with(fail)
 refine Bd (fun W=>Below w.heap.size w W/\Blk W w.heap.size #[A,R,n,d] 248/\Blk W (w.heap.size+1) #[.int .i64 0,.int .u64 0] 89) ⟨?_,(by repeat (first|(refine Blk.new' ?_;simp;done)|refine Blk.alloc ?_ _)),(by repeat (first|(refine Blk.new' ?_;simp;done)|refine Blk.alloc ?_ _))⟩ ?_
 ·exact(have hUp:=(Below.refl w.heap.size w);Aa)
 rintro W ⟨hW,b1,b2⟩
 have c1:=H1.out
 have c2:=H2.out
 have c3:=H3.out
 refine Az 14 46 [] (fun W'=>Rex [] W W'/\Blk W' w.heap.size #[A,R,n,d] 248/\Blk W' (w.heap.size+1) #[.int .i64 0,.int .u64 0] 89) Cu (by kernel_rfl) rfl ⟨(Rex.refl _ _).drew,b1,b2⟩ (fun w w' ⟨h0,h1,h2⟩ hr=>⟨h0.trans hr,h1.rex hr (by simp<;>omega),h2.rex hr (by simp<;>omega)⟩) (fun c a d v w h=>by cases d<;>exact h) ?_
 iterate 4
  apply An (hg:=rfl) (hal:=rfl)
  ·intro a W' hC hE
   obtain⟨_,k1,k2⟩:=hC
   have k1:=k1.cell
   first
    |(simp at hE;simp[go_sem,Act.eval,iw,hE,k1,k2];try rfl)
    |(clear hE;simp[go_sem,Act.eval,iw,k1,k2];try rfl)
 refine Cx rfl rfl (fun W' hC=>c1 W') (fun a W' hC hE=> ?_) ?_
 ·obtain⟨_,k1,k2⟩:=hC
  have k1:=k1.cell
  first
   |(simp at hE;simp[go_sem,Act.eval,iw,hE,k1,k2];try rfl)
   |(clear hE;simp[go_sem,Act.eval,iw,k1,k2];try rfl)
 iterate 3
  apply An (hg:=rfl) (hal:=rfl)
  ·intro a W' hC hE
   obtain⟨_,k1,k2⟩:=hC
   have k1:=k1.cell
   first
    |(simp at hE;simp[go_sem,Act.eval,iw,hE,k1,k2];try rfl)
    |(clear hE;simp[go_sem,Act.eval,iw,k1,k2];try rfl)
 refine Cx rfl rfl (fun W' hC=>c2 W') (fun a W' hC hE=> ?_) ?_
 ·obtain⟨_,k1,k2⟩:=hC
  have k1:=k1.cell
  first
   |(simp at hE;simp[go_sem,Act.eval,iw,hE,k1,k2];try rfl)
   |(clear hE;simp[go_sem,Act.eval,iw,k1,k2];try rfl)
 refine Cx rfl rfl (fun W' hC=>c3 W') (fun a W' hC hE=> ?_) ?_
 ·obtain⟨_,k1,k2⟩:=hC
  have k1:=k1.cell
  first
   |(simp at hE;simp[go_sem,Act.eval,iw,hE,k1,k2];try rfl)
   |(clear hE;simp[go_sem,Act.eval,iw,k1,k2];try rfl)
 iterate 3
  apply An (hg:=rfl) (hal:=rfl)
  ·intro a W' hC hE
   obtain⟨_,k1,k2⟩:=hC
   have k1:=k1.cell
   first
    |(simp at hE;simp[go_sem,Act.eval,iw,hE,k1,k2];try rfl)
    |(clear hE;simp[go_sem,Act.eval,iw,k1,k2];try rfl)
 apply Dx W.heap.size #[.int .i64 0,.int .u64 0] 89 rfl rfl
 ·exact fun W' hC=>hC.1.size
 ·simp[Bn]<;>omega
 ·intro w;kernel_rfl
 rintro W1 ⟨hR,c1,c2⟩
 simp only[A6,Det,forall_eq]
 intros
 repeat (rename Am _ _ _ _=>hgd;clear hgd)
 simp only[nS]
 clear c3
 obtain⟨g1,rfl,hg1,n1⟩:= ‹Ex _ _ _ _ _›
 have kn:=n1.cell
 have fn:=n1.frozen
 go_upto_region 2 with(fail)
 clear kn fn
 have hW1:=hW.trans (hR.of_priv hW.size)
 have hz:=hW.size
 have y1:=b1.lt
 have y2:=b2.lt
 refine Bd (fun W=>Below w.heap.size w W/\Blk W w.heap.size #[A,R,n,d] 248/\Blk W (w.heap.size+1) #[.int .i64 0,.int .u64 0] 89/\Blk W g1 #[sh,.int .u64 sl] 89) ⟨?_,?_,?_,(n1.set 0 _).set 1 _⟩ ?_
 ·exact(have hUp:=hW1;Aa)
 ·exact(have hUp:=c1;Bo)
 ·exact(have hUp:=c2;Bo)
 clear hW1 c1 c2 n1 hR hW b1 b2
 rintro W2 ⟨hW,b1,b2,b3⟩
 have k1:=b1.cell
 have k3:=b3.cell
 have c4:=H4.out
 go_wp2_with fail
 refine(c4 _).mono ?_
 rintro e w4 ⟨rfl,hb4⟩
 clear c4 k1 k3
 go_upto_region 3 with(fail)
 have d1:=b1.calls hb4
 have d2:=b2.calls hb4
 have z4:=hb4.size
 have z3:=hW.size
 refine Bd (fun W=>Below w.heap.size w W/\Blk W w.heap.size #[A,R,n,d] 248/\Blk W (w.heap.size+1) #[.int .i64 0,.int .u64 0] 89/\Blk W w4.heap.size #[qh,.int .u64 ql] 89) ⟨?_,?_,?_,Blk.new' rfl⟩ ?_
 ·exact(have hUp:=(hW.trans (hb4.mono (by have:=hW.size;omega)));Aa)
 ·exact(have hUp:=d1;Bo)
 ·exact(have hUp:=d2;Bo)
 have y4:w.heap.size+1<w4.heap.size:=d2.lt
 clear hW b1 b2 b3 hb4 d1 d2 z4 z3
 rintro W ⟨hW,b1,b2,b3⟩
 have c5:=H5.out
 have c6:=H6.out
 refine Az 10 46 [] (fun W'=>Rex [] W W'/\Blk W' w.heap.size #[A,R,n,d] 248/\Blk W' (w.heap.size+1) #[.int .i64 0,.int .u64 0] 89/\Blk W' w4.heap.size #[qh,.int .u64 ql] 89) Cu (by kernel_rfl) rfl ⟨(Rex.refl _ _).drew,b1,b2,b3⟩ (fun w w' ⟨h0,h1,h2,h3⟩ hr=>⟨h0.trans hr,h1.rex hr (by simp<;>omega),h2.rex hr (by simp<;>omega),h3.rex hr (by simp<;>omega)⟩) (fun c a d v w h=>by cases d<;>exact h) ?_
 iterate 4
  apply An (hg:=rfl) (hal:=rfl)
  ·intro a W' hC hE
   obtain⟨_,k1,k2,k3⟩:=hC
   have k1:=k1.cell
   have k3:=k3.cell
   first
    |(simp at hE;simp[go_sem,Act.eval,iw,hE,k1,k2,k3];try rfl)
    |(clear hE;simp[go_sem,Act.eval,iw,k1,k2,k3];try rfl)
 refine Cx rfl rfl (fun W' hC=>c5 W') (fun a W' hC hE=> ?_) ?_
 ·obtain⟨_,k1,k2,k3⟩:=hC
  have k1:=k1.cell
  have k3:=k3.cell
  first
   |(simp at hE;simp[go_sem,Act.eval,iw,hE,k1,k2,k3];try rfl)
   |(clear hE;simp[go_sem,Act.eval,iw,k1,k2,k3];try rfl)
 refine Cx rfl rfl (fun W' hC=>c6 W') (fun a W' hC hE=> ?_) ?_
 ·obtain⟨_,k1,k2,k3⟩:=hC
  have k1:=k1.cell
  have k3:=k3.cell
  first
   |(simp at hE;simp[go_sem,Act.eval,iw,hE,k1,k2,k3];try rfl)
   |(clear hE;simp[go_sem,Act.eval,iw,k1,k2,k3];try rfl)
 iterate 3
  apply An (hg:=rfl) (hal:=rfl)
  ·intro a W' hC hE
   obtain⟨_,k1,k2,k3⟩:=hC
   have k1:=k1.cell
   have k3:=k3.cell
   first
    |(simp at hE;simp[go_sem,Act.eval,iw,hE,k1,k2,k3];try rfl)
    |(clear hE;simp[go_sem,Act.eval,iw,k1,k2,k3];try rfl)
 apply Dx W.heap.size #[.int .i64 0,.int .u64 0] 89 rfl rfl
 ·exact fun W' hC=>hC.1.size
 ·simp[Bn]<;>omega
 ·intro w;kernel_rfl
 rintro W1 ⟨hR,c1,c2,c3⟩
 simp only[A6,Det,forall_eq]
 intros
 repeat (rename Am _ _ _ _=>hgd;clear hgd)
 simp only[nS]
 obtain⟨g2,rfl,hg2,n2⟩:= ‹Ex _ _ _ _ _›
 have kn:=n2.cell
 have fn:=n2.frozen
 have k2:=c2.cell
 have f2:=c2.frozen
 have y5:=b2.lt
 have y6:w.heap.size+1≠g2:=by omega
 clear c5 c6
 go_wp2
 refine bodyPost_ret (v:= .tuple #[.agg #[oh,.int .u64 ol],rest]) (by simp[results,Tryz.results214,go_sem,k2,f2,y6]) rfl ⟨rfl,?_⟩
 have hR':=hW.trans (hR.of_priv hW.size)
 have hz':=hW.size
 exact(have hUp:=hR';Aa)
end Go.Proofs.YtdeghcgakkhbmaaGreat
namespace Go.Proofs.YtdeghcgakkhbmaaGreat
open Go.RowKit
theorem Ad {w:World} {b:Nat} {cs:Array Value} {t:TypeId} (h:Blk w b cs t:=by repeat (first|with_reducible assumption|with_reducible (apply Blk.set2)|with_reducible (apply Blk.setO)|((with_reducible (show _≠_));omega)|with_reducible (refine Blk.new2 (by first|rfl|(simp;done)|(simp;omega)|omega) ?_)|with_reducible (refine Blk.alloc ?_ _)|with_reducible (refine Blk.calls ?_ (by assumption))|with_reducible (refine Blk.rex ?_ (by assumption) (by first|(simp;done)|(simp;omega)))|((with_reducible (show @Eq (Array Value) _ _));rfl)|((with_reducible (show @Eq Obj _ _));rfl))):Blk w b cs t:=h
def Bz (_:World):Prop:=True
def Bc (b:Nat) (cs:Array Value) (t:TypeId) (R:World->Prop) (w:World):Prop:=(Blk w b cs t/\b<w.heap.size/\(∀i,w.cell? ⟨b,i,none⟩=cs[i]?)/\∀i,w.frozen? ⟨b,i,none⟩=false)/\R w
def Rc (F R:World->Prop) (w:World):Prop:=F w/\R w
theorem Bc.mk {b:Nat} {cs:Array Value} {t:TypeId} {R:World->Prop} {w:World} (h:Blk w b cs t) (r:R w):Bc b cs t R w:=⟨⟨h,h.lt,h.cell,h.frozen⟩,r⟩
theorem Rc.mk {F R:World->Prop} {w:World} (h:F w) (r:R w):Rc F R w:=⟨h,r⟩
def Cl (R:World->Prop):Prop:=∀w w',R w->Rex [] w w'->R w'
theorem Cl.z :Cl Bz:=fun _ _ _ _=>trivial
theorem Cl.b {b:Nat} {cs:Array Value} {t:TypeId} {R:World->Prop} (h:Cl R):Cl (Bc b cs t R):=fun w w' hr hx=>Bc.mk (hr.1.1.rex hx (by simp)) (h _ _ hr.2 hx)
theorem Cl.r {F R:World->Prop} (hF:∀w w',F w->Rex [] w w'->F w') (h:Cl R):Cl (Rc F R):=fun w w' hr hx=>⟨hF _ _ hr.1 hx,h _ _ hr.2 hx⟩
theorem Ab {P:Program} {c:Code} {Q:Exit->Act->World->Prop} {a:Act} {w:World} (w0:World) (R:World->Prop) (hr:∀W,Below w0.heap.size w0 W->w0.heap.size<=W.heap.size->R W->c.wp P Q a W)
  (hI:Below w0.heap.size w0 w:=by exact Aa) (hR:R w:=by repeat (first|exact trivial|refine Bc.mk (by exact Ad) ?_)):c.wp P Q a w:=hr w hI hI.size hR
theorem wp_cutX {P:Program} {c:Code} {Q:Exit->Act->World->Prop} {a:Act} {w:World} (L:List Nat) (w0:World) (R:World->Prop) (hr:∀W,Rex L w0 W->w0.heap.size<=W.heap.size->R W->c.wp P Q a W)
  (hI:Rex L w0 w:=by exact rexAny) (hR:R w:=by repeat (first|exact trivial|refine Bc.mk (by exact Ad) ?_)):c.wp P Q a w:=hr w hI hI.size hR
theorem Aj {G:Prop} (w0 w:World) (R:World->Prop) (hr:Below w0.heap.size w0 w->w0.heap.size<=w.heap.size->R w->G)
  (hI:Below w0.heap.size w0 w:=by exact Aa) (hR:R w:=by repeat (first|exact trivial|refine Bc.mk (by exact Ad) ?_)):G:=hr hI hI.size hR
section
variable {P:Program} {ops:Array Oper} {C:World->Prop} {X:List (Nat×Nat)} {a0:Act} {Fin:List (Option Tmp×Bi)->Prop} {i:Nat} {o:Oper} {rest:List Oper} {acc:List (Option Tmp×Bi)}
theorem dA {c:Value} (hr:Ao P ops C X a0 Fin (i+1) rest ((o.dst,Det c)::acc)) (hg:o.guard=none:=by exact rfl) (hal:Au o=false:=by exact rfl)
  (h:∀(a:Act) (w:World),C w->(∀s∈o.looksAt ops,Af a0 acc s (a.tmps.getD s undef) w)->(execOp a.eval o).run P w= .ok (.value c) w:=by
   intro a W' hC hE
   simp only[Bc,Bz,Rc] at hC
   first
    |(simp[Oper.looksAt,Op.operands,Call.operands,Af,Det] at hE;simp[go_sem,Act.eval,iw,hE,hC];try rfl)
    |(clear hE;simp[go_sem,Act.eval,iw,hC];try rfl)):Ao P ops C X a0 Fin i (o::rest) acc:=An c hg hal h hr
theorem gA {x want:Bool} {k:Nat} {d:Tmp} {c:Value} (hr:Ao P ops C X a0 Fin (i+1) rest ((o.dst,Am (true&&(x==want)) c)::acc)) (hg:o.guard=some (k,want):=by exact rfl) (hd:Bf ops k=some d:=by exact rfl) (hal:Au o=false:=by exact rfl)
  (hx:∀v w,Af a0 acc d v w->if true=true then v= .bool x else v=undef:=by
   intro v W' h
   simp[Af,Det,Am] at h
   simp
   exact h)
  (h:true=true->x=want->∀(a:Act) (w:World),C w->(∀s∈o.looksAt ops,Af a0 acc s (a.tmps.getD s undef) w)->(execOp a.eval o).run P w= .ok (.value c) w:=by
   intro hp hx a W' hC hE
   simp only[Bc,Bz,Rc] at hC
   simp[Oper.looksAt,Op.operands,Call.operands,Af,Det,Am,hx] at hE
   simp[go_sem,Act.eval,iw,hE,hC]
   try rfl):Ao P ops C X a0 Fin i (o::rest) acc:=Ai true x want k d c hg hd hal hx h hr
theorem gB {p x want:Bool} {k:Nat} {d:Tmp} {c:Value} (hr:Ao P ops C X a0 Fin (i+1) rest ((o.dst,Am (p&&(x==want)) c)::acc)) (hg:o.guard=some (k,want):=by exact rfl) (hd:Bf ops k=some d:=by exact rfl) (hal:Au o=false:=by exact rfl)
  (hx:∀v w,Af a0 acc d v w->if p=true then v= .bool x else v=undef:=by
   intro v W' h
   exact h)
  (h:p=true->x=want->∀(a:Act) (w:World),C w->(∀s∈o.looksAt ops,Af a0 acc s (a.tmps.getD s undef) w)->(execOp a.eval o).run P w= .ok (.value c) w:=by
   intro hp hx a W' hC hE
   simp only[Bc,Bz,Rc] at hC
   try simp at hp
   try simp at hx
   simp[Oper.looksAt,Op.operands,Call.operands,Af,Det,Am,hp,hx] at hE
   simp[go_sem,Act.eval,iw,hE,hC]
   try rfl):Ao P ops C X a0 Fin i (o::rest) acc:=Ai p x want k d c hg hd hal hx h hr
theorem pA {x y:Bool} {c t:Tmp} (hr:Ao P ops C X a0 Fin (i+1) rest ((o.dst,Det (.bool (x&&y)))::acc)) (ho:o.op= .pick (.tmp c) (.tmp t) (.const (.bool false)):=by exact rfl) (hg:o.guard=none:=by exact rfl)
  (hc:∀v w,Af a0 acc c v w->v= .bool x:=by
   intro v W' h
   simp[Af,Det] at h
   exact h)
  (ht:∀v w,Af a0 acc t v w->x=true->v= .bool y:=by
   intro v W' h hx
   simp[Af,Am,hx] at h
   exact h):Ao P ops C X a0 Fin i (o::rest) acc:=Cm x y c t ho hg hc ht hr
theorem pO {x y:Bool} {c t:Tmp} (hr:Ao P ops C X a0 Fin (i+1) rest ((o.dst,Det (.bool (x||y)))::acc)) (ho:o.op= .pick (.tmp c) (.const (.bool true)) (.tmp t):=by exact rfl) (hg:o.guard=none:=by exact rfl)
  (hc:∀v w,Af a0 acc c v w->v= .bool x:=by
   intro v W' h
   simp[Af,Det] at h
   exact h)
  (ht:∀v w,Af a0 acc t v w->x=false->v= .bool y:=by
   intro v W' h hx
   simp[Af,Am,hx] at h
   exact h):Ao P ops C X a0 Fin i (o::rest) acc:=Ek x y c t ho hg hc ht hr
theorem pgA {g want x y:Bool} {k:Nat} {d c t:Tmp} (hr:Ao P ops C X a0 Fin (i+1) rest ((o.dst,Am (true&&(g==want)) (.bool (x&&y)))::acc)) (ho:o.op= .pick (.tmp c) (.tmp t) (.const (.bool false)):=by exact rfl) (hg:o.guard=some (k,want):=by exact rfl) (hd:Bf ops k=some d:=by exact rfl)
  (hx:∀v w,Af a0 acc d v w->if true=true then v= .bool g else v=undef:=by
   intro v W' h
   simp[Af,Det,Am] at h
   simp
   exact h)
  (hc:true=true->g=want->∀v w,Af a0 acc c v w->v= .bool x:=by
   intro _ hx v W' h
   simp[Af,Det,Am,hx] at h
   exact h)
  (ht:true=true->g=want->∀v w,Af a0 acc t v w->x=true->v= .bool y:=by
   intro _ hx v W' h hy
   simp[Af,Am,hx,hy] at h
   exact h):Ao P ops C X a0 Fin i (o::rest) acc:=Dp true g want x y k d c t ho hg hd hx hc ht hr
theorem pgO {g want x y:Bool} {k:Nat} {d c t:Tmp} (hr:Ao P ops C X a0 Fin (i+1) rest ((o.dst,Am (true&&(g==want)) (.bool (x||y)))::acc)) (ho:o.op= .pick (.tmp c) (.const (.bool true)) (.tmp t):=by exact rfl) (hg:o.guard=some (k,want):=by exact rfl) (hd:Bf ops k=some d:=by exact rfl)
  (hx:∀v w,Af a0 acc d v w->if true=true then v= .bool g else v=undef:=by
   intro v W' h
   simp[Af,Det,Am] at h
   simp
   exact h)
  (hc:true=true->g=want->∀v w,Af a0 acc c v w->v= .bool x:=by
   intro _ hx v W' h
   simp[Af,Det,Am,hx] at h
   exact h)
  (ht:true=true->g=want->∀v w,Af a0 acc t v w->x=false->v= .bool y:=by
   intro _ hx v W' h hy
   simp[Af,Am,hx,hy] at h
   exact h):Ao P ops C X a0 Fin i (o::rest) acc:=P0 true g want x y k d c t ho hg hd hx hc ht hr
theorem cA {f:FuncId} {args:Array Value} {c:Value} (hc:∀w,C w->Calls P f args w fun e w'=>e= .returned c/\Below w.heap.size w w') (hr:Ao P ops C X a0 Fin (i+1) rest ((o.dst,Det c)::acc)) (hg:o.guard=none:=by exact rfl) (hal:Au o=false:=by exact rfl)
  (h:∀(a:Act) (w:World),C w->(∀s∈o.looksAt ops,Af a0 acc s (a.tmps.getD s undef) w)->(execOp a.eval o).run P w= .ok (.enter f args) w:=by
   intro a W' hC hE
   simp only[Bc,Bz,Rc] at hC
   first
    |(simp[Oper.looksAt,Op.operands,Call.operands,Af,Det] at hE;simp[go_sem,Act.eval,iw,hE,hC];try rfl)
    |(clear hE;simp[go_sem,Act.eval,iw,hC];try rfl)):Ao P ops C X a0 Fin i (o::rest) acc:=Cx hg hal hc h hr
theorem dE {c:Value} {E:World->Prop} (e:∀w,C w->E w) (hr:Ao P ops C X a0 Fin (i+1) rest ((o.dst,Det c)::acc)) (hg:o.guard=none:=by exact rfl) (hal:Au o=false:=by exact rfl)
  (h:∀(a:Act) (w:World),C w->E w->(∀s∈o.looksAt ops,Af a0 acc s (a.tmps.getD s undef) w)->(execOp a.eval o).run P w= .ok (.value c) w:=by
   intro a W' hC hX hE
   simp only[Bc,Bz,Rc] at hC
   try simp only[Nat.zero_mul,Nat.one_mul,Nat.add_zero,Nat.zero_add] at hX
   first
    |(simp[Oper.looksAt,Op.operands,Call.operands,Af,Det] at hE;simp[go_sem,Act.eval,iw,hE,hC,hX];try rfl)
    |(clear hE;simp[go_sem,Act.eval,iw,hC,hX];try rfl)):Ao P ops C X a0 Fin i (o::rest) acc:=An c hg hal (fun a w hC hE=>h a w hC (e w hC) hE) hr
theorem gE {x want:Bool} {k:Nat} {d:Tmp} {c:Value} {E:World->Prop} (e:∀w,C w->E w) (hr:Ao P ops C X a0 Fin (i+1) rest ((o.dst,Am (true&&(x==want)) c)::acc)) (hg:o.guard=some (k,want):=by exact rfl) (hd:Bf ops k=some d:=by exact rfl) (hal:Au o=false:=by exact rfl)
  (hx:∀v w,Af a0 acc d v w->if true=true then v= .bool x else v=undef:=by
   intro v W' h
   simp[Af,Det,Am] at h
   simp
   exact h)
  (h:true=true->x=want->∀(a:Act) (w:World),C w->E w->(∀s∈o.looksAt ops,Af a0 acc s (a.tmps.getD s undef) w)->(execOp a.eval o).run P w= .ok (.value c) w:=by
   intro hp hx a W' hC hX hE
   simp only[Bc,Bz,Rc] at hC
   try simp only[Nat.zero_mul,Nat.one_mul,Nat.add_zero,Nat.zero_add] at hX
   simp[Oper.looksAt,Op.operands,Call.operands,Af,Det,Am,hx] at hE
   simp[go_sem,Act.eval,iw,hE,hC,hX]
   try rfl):Ao P ops C X a0 Fin i (o::rest) acc:=Ai true x want k d c hg hd hal hx (fun hp hx a w hC hE=>h hp hx a w hC (e w hC) hE) hr
theorem gF {p x want:Bool} {k:Nat} {d:Tmp} {c:Value} {E:World->Prop} (e:∀w,C w->E w) (hr:Ao P ops C X a0 Fin (i+1) rest ((o.dst,Am (p&&(x==want)) c)::acc)) (hg:o.guard=some (k,want):=by exact rfl) (hd:Bf ops k=some d:=by exact rfl) (hal:Au o=false:=by exact rfl)
  (hx:∀v w,Af a0 acc d v w->if p=true then v= .bool x else v=undef:=by
   intro v W' h
   exact h)
  (h:p=true->x=want->∀(a:Act) (w:World),C w->E w->(∀s∈o.looksAt ops,Af a0 acc s (a.tmps.getD s undef) w)->(execOp a.eval o).run P w= .ok (.value c) w:=by
   intro hp hx a W' hC hX hE
   simp only[Bc,Bz,Rc] at hC
   try simp only[Nat.zero_mul,Nat.one_mul,Nat.add_zero,Nat.zero_add] at hX
   try simp at hp
   try simp at hx
   simp[Oper.looksAt,Op.operands,Call.operands,Af,Det,Am,hp,hx] at hE
   simp[go_sem,Act.eval,iw,hE,hC,hX]
   try rfl):Ao P ops C X a0 Fin i (o::rest) acc:=Ai p x want k d c hg hd hal hx (fun hp hx a w hC hE=>h hp hx a w hC (e w hC) hE) hr
theorem cE {f:FuncId} {args:Array Value} {c:Value} {E:World->Prop} (e:∀w,C w->E w) (hc:∀w,C w->Calls P f args w fun e w'=>e= .returned c/\Below w.heap.size w w') (hr:Ao P ops C X a0 Fin (i+1) rest ((o.dst,Det c)::acc)) (hg:o.guard=none:=by exact rfl) (hal:Au o=false:=by exact rfl)
  (h:∀(a:Act) (w:World),C w->E w->(∀s∈o.looksAt ops,Af a0 acc s (a.tmps.getD s undef) w)->(execOp a.eval o).run P w= .ok (.enter f args) w:=by
   intro a W' hC hX hE
   simp only[Bc,Bz,Rc] at hC
   try simp only[Nat.zero_mul,Nat.one_mul,Nat.add_zero,Nat.zero_add] at hX
   first
    |(simp[Oper.looksAt,Op.operands,Call.operands,Af,Det] at hE;simp[go_sem,Act.eval,iw,hE,hC,hX];try rfl)
    |(clear hE;simp[go_sem,Act.eval,iw,hC,hX];try rfl)):Ao P ops C X a0 Fin i (o::rest) acc:=Cx hg hal hc (fun a w hC hE=>h a w hC (e w hC) hE) hr
theorem aI {a b:Prop} (x:a) (y:b):a/\b:=⟨x,y⟩
theorem cG {f:FuncId} {args:Array Value} {c:Value} {x want:Bool} {k:Nat} {d:Tmp} (hc:true=true->x=want->∀w,C w->Calls P f args w fun e w'=>e= .returned c/\Below w.heap.size w w')
  (hr:Ao P ops C X a0 Fin (i+1) rest ((o.dst,Am (true&&(x==want)) c)::acc)) (hg:o.guard=some (k,want):=by exact rfl) (hd:Bf ops k=some d:=by exact rfl) (hal:Au o=false:=by exact rfl)
  (hx:∀v w,Af a0 acc d v w->if true=true then v= .bool x else v=undef:=by
   intro v W' h
   simp[Af,Det,Am] at h
   simp
   exact h)
  (h:true=true->x=want->∀(a:Act) (w:World),C w->(∀s∈o.looksAt ops,Af a0 acc s (a.tmps.getD s undef) w)->(execOp a.eval o).run P w= .ok (.enter f args) w:=by
   intro hp hx a W' hC hE
   simp only[Bc,Bz,Rc] at hC
   first
    |(simp[Oper.looksAt,Op.operands,Call.operands,Af,Det,Am,hx] at hE;simp[go_sem,Act.eval,iw,hE,hC];try rfl)
    |(clear hE;simp[go_sem,Act.eval,iw,hC];try rfl)):Ao P ops C X a0 Fin i (o::rest) acc:=Bu true x want k d hg hd hal hx hc h hr
end
section
variable {P:Program} {Q:Exit->Act->World->Prop} {a0:Act} {id:Nat} {l:List Oper} {w0 W:World} {R:World->Prop}
theorem Bw (n m:Nat) (hW:Below w0.heap.size w0 W) (hR:R W)
  (h:Ao P l.toArray (fun W'=>Rex [] W W'/\R W') [] a0 (fun acc=>∀w,Below w0.heap.size w0 w->w0.heap.size<=w.heap.size->R w->A6 w a0 acc fun a=>wpList P l.toArray Q (l.drop n) a w) 0 (l.take n) [])
  (hf:P.follows .mixedOrders=true:=by exact Cu) (hB:okB l.toArray n m=true:=by kernel_rfl) (hm:m=a0.tmps.size:=by exact rfl)
  (hcl:Cl R:=by repeat (first|exact Cl.z|refine Cl.b ?_|refine Cl.r (fun w w' h hr=>h.rex hr (by simp<;>omega)) ?_))
  (hQ:∀c a d v w,Q (.panic c) (Act.put a d v) w->Q (.panic c) a w:=by exact fun c a d v w h=>by cases d<;>exact h):(Code.region id l.toArray true).wp P Q a0 W:=
 Az n m [] (fun W'=>Rex [] W W'/\R W') hf hB hm ⟨(Rex.refl _ _).drew,hcl _ _ hR (Rex.refl _ _).drew⟩ (fun _ _ h hr=>⟨h.1.trans hr,hcl _ _ h.2 hr⟩) hQ
  (Fp (fun acc hacc w hc=>hacc w (hW.trans (hc.1.of_priv hW.size)) (hW.trans (hc.1.of_priv hW.size)).size hc.2) _ _ _ h)
theorem Dn (n m:Nat) (hW:Below w0.heap.size w0 W) (hR:R W)
  (h:Ao P l.toArray (fun W'=>Rex [] W W'/\R W') [] a0 (fun acc=>∀w,Below w0.heap.size w0 w->w0.heap.size<=w.heap.size->R w->A6 w a0 acc fun a=>wpList P l.toArray Q (l.drop n) a w) 0 (l.take n) [])
  (hf:P.follows .mixedOrders=true:=by exact Cu) (hB:okB l.toArray n m=true:=by kernel_rfl) (hm:m=a0.tmps.size:=by exact rfl)
  (hcl:Cl R:=by repeat (first|exact Cl.z|refine Cl.b ?_|refine Cl.r (fun w w' h hr=>h.rex hr (by simp<;>omega)) ?_))
  (hn:l.drop n= []:=by exact rfl):(Code.region id l.toArray true).wp P Q a0 W:=
 D7 n m [] (fun W'=>Rex [] W W'/\R W') hf hB hm ⟨(Rex.refl _ _).drew,hcl _ _ hR (Rex.refl _ _).drew⟩ (fun _ _ h hr=>⟨h.1.trans hr,hcl _ _ h.2 hr⟩) hn
  (Fp (fun acc hacc w hc=>hacc w (hW.trans (hc.1.of_priv hW.size)) (hW.trans (hc.1.of_priv hW.size)).size hc.2) _ _ _ h)
theorem Bg (n m:Nat) (hW:Below w0.heap.size w0 W) (hR:R W)
  (h:Ao P l.toArray (fun W'=>Rex [] W W'/\R W') [] a0 (fun acc=>∀w,Below w0.heap.size w0 w->w0.heap.size<=w.heap.size->R w->A6 w a0 acc fun a=>wpList P l.toArray Q (l.drop n) a w) 0 (l.take n) [])
  (hB:InB m l=true:=by kernel_rfl) (hm:m=a0.tmps.size:=by exact rfl)
  (hcl:Cl R:=by repeat (first|exact Cl.z|refine Cl.b ?_|refine Cl.r (fun w w' h hr=>h.rex hr (by simp<;>omega)) ?_)):(Code.region id l.toArray false).wp P Q a0 W:=
 Dm n m [] (fun W'=>Rex [] W W'/\R W') hB hm ⟨Rex.refl _ _,hR⟩ (fun _ _ h hr=>⟨h.1.trans hr,hcl _ _ h.2 hr⟩)
  (Fp (fun acc hacc w hc=>hacc w (hW.trans (hc.1.of_priv hW.size)) (hW.trans (hc.1.of_priv hW.size)).size hc.2) _ _ _ h)
end
theorem ndR :(∀(w:World) (a0:Act) (K:Act->Prop),A6 w a0 [] K=K a0)/\(∀(w:World) (a0:Act) (K:Act->Prop) (d:Option Tmp) (Φ:Bi) (r:List (Option Tmp×Bi)),A6 w a0 ((d,Φ)::r) K=A6 w a0 r fun a=>∀v,Φ v w->K (a.put d v))/\
  (∀(c:Value) (w:World) (K:Value->Prop),(∀v,Det c v w->K v)↔K c):=⟨fun _ _ _=>rfl,fun _ _ _ _ _ _=>rfl,fun _ _ _=>⟨fun h=>h _ rfl,fun h _ e=>e▸h⟩⟩
theorem ndS :(∀(a:Act) (d:Tmp) (v:Value),Act.put a (some d) v= {a with tmps:=a.tmps.setIfInBounds d v})/\(∀(a:Act) (v:Value),Act.put a none v=a)/\(∀(l:List Value) (i:Nat) (a:Value),l.toArray.setIfInBounds i a=(l.set i a).toArray)/\
  (∀(a b:Value) (l:List Value),(a::l).set 0 b=b::l)/\(∀(a b:Value) (l:List Value) (i:Nat),(a::l).set (i+1) b=a::l.set i b)/\(∀(a:Oper) (l:List Oper) (i:Nat),(a::l).drop (i+1)=l.drop i)/\(∀l:List Oper,l.drop 0=l):=
 ⟨fun _ _ _=>rfl,fun _ _=>rfl,fun _ _ _=>List.setIfInBounds_toArray ..,fun _ _ _=>rfl,fun _ _ _ _=>rfl,fun _ _ _=>rfl,fun _=>rfl⟩
def Be (A R n d t:Int):Int:=(n*t+R)/d+A
def lineRest (R n d t:Int):Int:=(n*t+R)%d
structure Ni (A R n d:Int):Prop where
 A0: -2305844108725321728<=A
 A1:A<=2305844108725321728
 n0: -4611688217450643456<=n
 n1:n<=4611688217450643456
 d0:1<=d
 d1:d<=281474976710656
 g:Jn n d=1
 R0:0<=R
 R1:R<d
theorem Jv {A R n d:Int}:Cy A R n d=true↔Ni A R n d:=by
 unfold Cy Ay Ff
 simp
 constructor
 ·rintro⟨⟨⟨⟨⟨_,_⟩,⟨⟨_,_⟩,_⟩,_⟩,_⟩,_⟩,_⟩;constructor<;>assumption
 ·rintro⟨_,_,_,_,_,_,_,_,_⟩;refine⟨⟨⟨⟨⟨?_,?_⟩,⟨⟨?_,?_⟩,?_⟩,?_⟩,?_⟩,?_⟩,?_⟩<;>assumption
theorem Ww (s:Int) {d:Int} (hd:1<=d):(s<=s/d/\s/d<=0)∨(0<=s/d/\s/d<=s):=by
 rcases Int.lt_or_le s 0 with k|k
 ·have h1:s/d<0:=Int.ediv_neg_of_neg_of_pos k (by omega)
  have h2:s<=s/d:=Int.le_ediv_of_mul_le (by omega) (by have:=Int.mul_le_mul_of_nonneg_left (a:=1) (b:=d) (c:= -s) hd (by omega);rw[Int.neg_mul,Int.neg_mul] at this;omega)
  exact .inl ⟨h2,by omega⟩
 ·exact .inr ⟨Int.ediv_nonneg k (by omega),Int.ediv_le_self _ k⟩
theorem div_W128 {s d:Int} (h:Ch s) (hd:1<=d):Ch (s/d):=by
 obtain⟨_,_⟩:=h;have:=Ww s hd;exact⟨by omega,by omega⟩
theorem c_over (A R n d t:Int) (w:World) (h:Ni A R n d) (ht:0<=t) (ht':t<=281474976710656):
  Cb 214 #[.agg #[A,R,n,d],t] w (.tuple #[B7 (Be A R n d t),.int .i64 (lineRest R n d t)]):=by
 have hA0:=h.A0;have hA1:=h.A1;have hn0:=h.n0;have hn1:=h.n1;have hd0:=h.d0;have hd1:=h.d1;have hR0:=h.R0;have hR1:=h.R1
 have m0:(n*t).natAbs<=4611688217450643456*281474976710656:=by
  rw[Int.natAbs_mul];exact Nat.mul_le_mul (by omega) (by omega)
 have p1: -1298074833603726549822761531867136<=n*t/\n*t<=1298074833603726549822761531867136:=by omega
 have w1:Ch (n*t+R):=⟨by omega,by omega⟩
 have q1:=div_W128 w1 hd0
 have q2: -1298074833603726549822761531867136*1-1<=(n*t+R)/d/\(n*t+R)/d<=1298074833603726549822761531867136*2:=by
  have:=Ww (n*t+R) hd0;omega
 have w2:Ch ((n*t+R)/d+A):=⟨by omega,by omega⟩
 have z1:I64 n:=⟨by omega,by omega⟩
 have z2:I64 t:=⟨by omega,by omega⟩
 have z3:I64 R:=⟨by omega,by omega⟩
 have z4:I64 A:=⟨by omega,by omega⟩
 have c3:=fun w=>c_Add (n*t) R w (W128_mul z1 z2) z3.w
 have c6:=fun w=>c_Add ((n*t+R)/d) A w q1 z4.w
 rw[R5 w1,Ez w1] at c3
 rw[R5 w2,Ez w2] at c6
 exact over_w A R n d t _ _ _ _ _ _ _ _ _ _ _ _ _ _ _ w (fun w=>c_Mul n t w z1 z2) (fun w=>c_Of R w z3) c3 (fun w=>c_Div (n*t+R) d w w1 hd0 (by omega)) (fun w=>c_Of A w z4) c6
theorem value_ok (A R n d t oh ol rest v:Int) (w:World)
  (c1:∀w,Cb 214 #[.agg #[A,R,n,d],t] w (.tuple #[.agg #[oh,.int .u64 ol],rest]))
  (c2:∀w,Cb 91 #[.agg #[oh,.int .u64 ol]] w (.tuple #[v,.int .i64 0]))
  (c3:∀w,Cb 211 #[v] w (.bool true)):
  Cb 196 #[.agg #[A,R,n,d],t] w (.tuple #[v,.int .i64 0]):=by
 have H_c1:=Hd c1
 clear c1
 have H_c2:=Hd c2
 clear c2
 have H_c3:=Hd c3
 clear c3
 go_enter Tryz.func196,Tryz.ntmps196
 go_upto_region 1 with(fail)
 refine Ab w (Bc w.heap.size #[A,R,n,d] 248<|Bz) ?_
 rintro W1 hW z2 ⟨⟨b1,yb1,k1,f1⟩,-⟩
 go_wp2_with fail
 refine(H_c1.out _).mono ?_
 rintro e w3 ⟨rfl,hb3⟩
 have z4:=hb3.size
 try simp at z4
 clear k1 f1
 refine Aj w w3 (Bc w.heap.size #[A,R,n,d] 248<|Bz) ?_
 clear b1 hW
 rintro hW z5 ⟨⟨b1,yb1,k1,f1⟩,-⟩
 clear hb3
 go_wp2_with fail
 refine(H_c2.out _).mono ?_
 rintro e w6 ⟨rfl,hb6⟩
 have z7:=hb6.size
 try simp at z7
 clear k1 f1
 refine Aj w w6 (Bc w.heap.size #[A,R,n,d] 248<|Bz) ?_
 clear b1 hW
 rintro hW z8 ⟨⟨b1,yb1,k1,f1⟩,-⟩
 clear hb6
 go_upto_region 3 with(fail)
 clear k1 f1
 refine Ab w (Bc w.heap.size #[A,R,n,d] 248<|Bz) ?_
 clear b1 hW
 rintro W9 hW z10 hL
 refine Bg 7 29 hW hL ?_
 iterate 3 refine dA ?_
 refine gA ?_
 refine cG (fun hp hx W' hC=>H_c3.out W') ?_
 refine gA ?_
 refine pO ?_
 clear hW hL
 rintro W11 hW z12 hL
 simp only[ndR]
 intros
 repeat (rename Am _ _ _ _=>hgd;clear hgd)
 simp only[ndS]
 refine wpList_nil ?_
 obtain⟨⟨b1,yb1,k1,f1⟩,-⟩:=hL
 go_wp2
 refine bodyPost_ret (by simp[results,Tryz.results196,go_sem,k1,f1,yb1]) rfl ⟨rfl,by exact Aa⟩
theorem value_over (A R n d t oh ol rest v:Int) (w:World)
  (c1:∀w,Cb 214 #[.agg #[A,R,n,d],t] w (.tuple #[.agg #[oh,.int .u64 ol],rest]))
  (c2:∀w,Cb 91 #[.agg #[oh,.int .u64 ol]] w (.tuple #[v,.int .i64 0]))
  (c3:∀w,Cb 211 #[v] w (.bool false)):
  Cb 196 #[.agg #[A,R,n,d],t] w (.tuple #[.int .i64 0,.int .i64 5]):=by
 have H_c1:=Hd c1
 clear c1
 have H_c2:=Hd c2
 clear c2
 have H_c3:=Hd c3
 clear c3
 go_enter Tryz.func196,Tryz.ntmps196
 go_upto_region 1 with(fail)
 refine Ab w (Bc w.heap.size #[A,R,n,d] 248<|Bz) ?_
 rintro W1 hW z2 ⟨⟨b1,yb1,k1,f1⟩,-⟩
 go_wp2_with fail
 refine(H_c1.out _).mono ?_
 rintro e w3 ⟨rfl,hb3⟩
 have z4:=hb3.size
 try simp at z4
 clear k1 f1
 refine Aj w w3 (Bc w.heap.size #[A,R,n,d] 248<|Bz) ?_
 clear b1 hW
 rintro hW z5 ⟨⟨b1,yb1,k1,f1⟩,-⟩
 clear hb3
 go_wp2_with fail
 refine(H_c2.out _).mono ?_
 rintro e w6 ⟨rfl,hb6⟩
 have z7:=hb6.size
 try simp at z7
 clear k1 f1
 refine Aj w w6 (Bc w.heap.size #[A,R,n,d] 248<|Bz) ?_
 clear b1 hW
 rintro hW z8 ⟨⟨b1,yb1,k1,f1⟩,-⟩
 clear hb6
 go_upto_region 3 with(fail)
 clear k1 f1
 refine Ab w (Bc w.heap.size #[A,R,n,d] 248<|Bz) ?_
 clear b1 hW
 rintro W9 hW z10 hL
 refine Bg 7 29 hW hL ?_
 iterate 3 refine dA ?_
 refine gA ?_
 refine cG (fun hp hx W' hC=>H_c3.out W') ?_
 refine gA ?_
 refine pO ?_
 clear hW hL
 rintro W11 hW z12 hL
 simp only[ndR]
 intros
 repeat (rename Am _ _ _ _=>hgd;clear hgd)
 simp only[ndS]
 refine wpList_nil ?_
 obtain⟨⟨b1,yb1,k1,f1⟩,-⟩:=hL
 go_wp2
 refine bodyPost_ret (by simp[results,Tryz.results196,go_sem,k1,f1,yb1]) rfl ⟨rfl,by exact Aa⟩
theorem value_wide (A R n d t oh ol rest v:Int) (w:World)
  (c1:∀w,Cb 214 #[.agg #[A,R,n,d],t] w (.tuple #[.agg #[oh,.int .u64 ol],rest]))
  (c2:∀w,Cb 91 #[.agg #[oh,.int .u64 ol]] w (.tuple #[v,.int .i64 5]))
  (c3:∀w,Cb 211 #[v] w (.bool true)):
  Cb 196 #[.agg #[A,R,n,d],t] w (.tuple #[.int .i64 0,.int .i64 5]):=by
 have H_c1:=Hd c1
 clear c1
 have H_c2:=Hd c2
 clear c2
 have H_c3:=Hd c3
 clear c3
 go_enter Tryz.func196,Tryz.ntmps196
 go_upto_region 1 with(fail)
 refine Ab w (Bc w.heap.size #[A,R,n,d] 248<|Bz) ?_
 rintro W1 hW z2 ⟨⟨b1,yb1,k1,f1⟩,-⟩
 go_wp2_with fail
 refine(H_c1.out _).mono ?_
 rintro e w3 ⟨rfl,hb3⟩
 have z4:=hb3.size
 try simp at z4
 clear k1 f1
 refine Aj w w3 (Bc w.heap.size #[A,R,n,d] 248<|Bz) ?_
 clear b1 hW
 rintro hW z5 ⟨⟨b1,yb1,k1,f1⟩,-⟩
 clear hb3
 go_wp2_with fail
 refine(H_c2.out _).mono ?_
 rintro e w6 ⟨rfl,hb6⟩
 have z7:=hb6.size
 try simp at z7
 clear k1 f1
 refine Aj w w6 (Bc w.heap.size #[A,R,n,d] 248<|Bz) ?_
 clear b1 hW
 rintro hW z8 ⟨⟨b1,yb1,k1,f1⟩,-⟩
 clear hb6
 go_wp2
 refine bodyPost_ret (by simp[results,Tryz.results196,go_sem,k1,f1,yb1]) rfl ⟨rfl,by exact Aa⟩
theorem back_in {o:Int} (h:Ay o=true):I64 o:=by unfold Ay at h;simp at h;unfold I64;omega
theorem Wh {A R n d t:Int} (h:Ni A R n d) (ht:0<=t) (ht':t<=281474976710656):Ch (Be A R n d t):=by
 have hA0:=h.A0;have hA1:=h.A1;have hn0:=h.n0;have hn1:=h.n1;have hd0:=h.d0;have hd1:=h.d1;have hR0:=h.R0;have hR1:=h.R1
 have m0:(n*t).natAbs<=4611688217450643456*281474976710656:=by
  rw[Int.natAbs_mul];exact Nat.mul_le_mul (by omega) (by omega)
 have:=Ww (n*t+R) hd0
 unfold Be
 exact⟨by omega,by omega⟩
theorem Wz (A R n d t:Int) (w:World) (h:Ni A R n d) (ht:0<=t) (ht':t<=281474976710656):
  Cb 196 #[.agg #[A,R,n,d],t] w (.tuple #[.int .i64 (wv (Ay (Be A R n d t)) (Be A R n d t)),.int .i64 (we (Ay (Be A R n d t)))]):=by
 have c1:=fun w=>c_over A R n d t w h ht ht'
 have c2:=fun w=>c_Int (Be A R n d t) w (Wh h ht ht')
 have c3:=fun w=>c_back (Be A R n d t) w
 cases hb:Ay (Be A R n d t) with
 |true=>
  rw[inI_in (back_in hb)] at c2
  rw[hb] at c3
  exact value_ok A R n d t _ _ _ _ w c1 c2 c3
 |false=>
  cases hi:inI (Be A R n d t) with
  |true=>
   rw[hi] at c2
   rw[hb] at c3
   exact value_over A R n d t _ _ _ _ w c1 c2 c3
  |false=>
   rw[hi] at c2
   exact value_wide A R n d t _ _ _ _ w c1 c2 (fun w=>c_back 0 w)
def Wk (t:Int):Bool:=decide (0<=t)&&decide (t<=281474976710656)
theorem M9 {t:Int}:Wk t=true↔0<=t/\t<=281474976710656:=by unfold Wk;simp
theorem Sj (t:Int) (w:World):Cb 195 #[t] w (.bool (Wk t)):=by
 unfold Wk
 go_enter Tryz.func195,Tryz.ntmps195
 go_upto_region 1 with(fail)
 refine Ab w (Bz) ?_
 rintro W1 hW z2 hL
 refine Bg 7 9 hW hL ?_
 iterate 3 refine dA ?_
 iterate 2 refine gA ?_
 refine pA ?_
 refine dA ?_
 clear hW hL
 rintro W3 hW z4 hL
 simp only[ndR]
 intros
 repeat (rename Am _ _ _ _=>hgd;clear hgd)
 simp only[ndS]
 refine wpList_nil ?_
 obtain⟨-⟩:=hL
 go_wp2
 refine bodyPost_ret (by simp[results,Tryz.results195,go_sem]) rfl ⟨rfl,by exact Aa⟩
def eLine (b:Bool):Int:=if b=true then 0 else 150
theorem at_ok (A R n d t v e:Int) (w:World)
  (c1:∀w,Cb 194 #[.agg #[A,R,n,d]] w (.bool true))
  (c2:∀w,Cb 195 #[t] w (.bool true))
  (c3:∀w,Cb 196 #[.agg #[A,R,n,d],t] w (.tuple #[v,e])):
  Cb 176 #[.agg #[A,R,n,d],t] w (.tuple #[v,e]):=by
 have H_c1:=Hd c1
 clear c1
 have H_c2:=Hd c2
 clear c2
 have H_c3:=Hd c3
 clear c3
 go_enter Tryz.func176,Tryz.ntmps176
 go_upto_region 1 with(fail)
 refine Ab w (Bc w.heap.size #[A,R,n,d] 132<|Bz) ?_
 rintro W1 hW z2 ⟨⟨b1,yb1,k1,f1⟩,-⟩
 go_wp2_with fail
 refine(H_c1.out _).mono ?_
 rintro e w3 ⟨rfl,hb3⟩
 have z4:=hb3.size
 try simp at z4
 clear k1 f1
 refine Aj w w3 (Bc w.heap.size #[A,R,n,d] 132<|Bc W1.heap.size #[A,R,n,d] 248<|Bz) ?_
 clear b1 hW
 rintro hW z5 ⟨⟨b1,yb1,k1,f1⟩,⟨b2,yb2,k2,f2⟩,-⟩
 clear hb3
 go_wp2_with fail
 refine(H_c2.out _).mono ?_
 rintro e w6 ⟨rfl,hb6⟩
 have z7:=hb6.size
 try simp at z7
 clear k1 f1 k2 f2
 refine Aj w w6 (Bc w.heap.size #[A,R,n,d] 132<|Bc W1.heap.size #[A,R,n,d] 248<|Bz) ?_
 clear b1 b2 hW
 rintro hW z8 ⟨⟨b1,yb1,k1,f1⟩,⟨b2,yb2,k2,f2⟩,-⟩
 clear hb6
 go_wp2_with fail
 refine(H_c3.out _).mono ?_
 rintro e w9 ⟨rfl,hb9⟩
 have z10:=hb9.size
 try simp at z10
 clear k1 f1 k2 f2
 refine Aj w w9 (Bc w.heap.size #[A,R,n,d] 132<|Bc W1.heap.size #[A,R,n,d] 248<|Bz) ?_
 clear b1 b2 hW
 rintro hW z11 ⟨⟨b1,yb1,k1,f1⟩,⟨b2,yb2,k2,f2⟩,-⟩
 clear hb9
 go_wp2
 refine bodyPost_ret (by simp[results,Tryz.results176,go_sem,k1,f1,k2,f2,yb1,yb2]) rfl ⟨rfl,by exact Aa⟩
theorem c_At (A R n d t:Int) (w:World) (h:Ni A R n d) (ht:0<=t) (ht':t<=281474976710656):
  Cb 176 #[.agg #[A,R,n,d],t] w (.tuple #[.int .i64 (wv (Ay (Be A R n d t)) (Be A R n d t)),.int .i64 (we (Ay (Be A R n d t)))]):=by
 have c1:=fun w=>c_is A R n d w
 rw[Jv.2 h] at c1
 have c2:=fun w=>Sj t w
 rw[M9.2 ⟨ht,ht'⟩] at c2
 exact at_ok A R n d t _ _ w c1 c2 (fun w=>Wz A R n d t w h ht ht')
theorem Oq (A R n d t v e:Int) (g:Nat) (w:World) (hg:Blk w g #[.func (.func 196) #[.agg #[A,R,n,d]] #[]] 249)
  (c1:∀w,Cb 196 #[.agg #[A,R,n,d],t] w (.tuple #[v,e])):
  Cb 217 #[t,.pointer (some ⟨g,0,none⟩)] w (.tuple #[v,e]):=by
 have H_c1:=Hd c1
 clear c1
 have b1:=hg
 go_enter Tryz.func217,Tryz.ntmps217
 go_upto_region 1 with(fail)
 refine Ab w (Bc g #[.func (.func 196) #[.agg #[A,R,n,d]] #[]] 249<|Bz) ?_
 clear b1
 rintro W1 hW z2 ⟨⟨b1,yb1,k1,f1⟩,-⟩
 go_wp2_with fail
 refine(H_c1.out _).mono ?_
 rintro e w3 ⟨rfl,hb3⟩
 have z4:=hb3.size
 try simp at z4
 clear k1 f1
 refine Aj w w3 (Bc g #[.func (.func 196) #[.agg #[A,R,n,d]] #[]] 249<|Bz) ?_
 clear b1 hW
 rintro hW z5 ⟨⟨b1,yb1,k1,f1⟩,-⟩
 clear hb3
 go_wp2
 refine bodyPost_ret (by simp[results,Tryz.results217,go_sem,k1,f1,yb1]) rfl ⟨rfl,by exact Aa⟩
theorem both_ok (A R n d a b va vb:Int) (g:Nat) (w:World) (hg:Blk w g #[.func (.func 196) #[.agg #[A,R,n,d]] #[]] 249)
  (c1:∀w,Blk w g #[.func (.func 196) #[.agg #[A,R,n,d]] #[]] 249->Cb 217 #[a,.pointer (some ⟨g,0,none⟩)] w (.tuple #[va,.int .i64 0]))
  (c2:∀w,Blk w g #[.func (.func 196) #[.agg #[A,R,n,d]] #[]] 249->Cb 217 #[b,.pointer (some ⟨g,0,none⟩)] w (.tuple #[vb,.int .i64 0])):
  Cb 216 #[.agg #[a,b],.func (.func 217) #[] #[.pointer (some ⟨g,0,none⟩)]] w (.tuple #[.agg #[va,vb],.int .i64 0]):=by
 have y0:=hg.lt
 have hix0:∀(x y:Int) (w:World),(Instr.index 86 (.agg #[x,y]) (.int .i64 0)).run Tryz.prog w= .ok (x) w:=by intros;kernel_rfl
 have hix1:∀(x y:Int) (w:World),(Instr.index 86 (.agg #[x,y]) (.int .i64 1)).run Tryz.prog w= .ok (y) w:=by intros;kernel_rfl
 have H_c1:=Hd c1
 clear c1
 have H_c2:=Hd c2
 clear c2
 go_enter Tryz.func216,Tryz.ntmps216
 go_wp2
 go_step3
 go_upto_region 2 with(fail)
 refine Ab w (Bc w.heap.size #[a,b] 86<|Bc (w.heap.size+1) #[.int .i64 0,.int .i64 0] 86<|Bc (w.heap.size+2) #[.int .i64 0,.int .i64 0] 86<|Bc g #[.func (.func 196) #[.agg #[A,R,n,d]] #[]] 249<|Bz) ?_
 rintro W1 hW z2 ⟨⟨b1,yb1,k1,f1⟩,⟨b2,yb2,k2,f2⟩,⟨b3,yb3,k3,f3⟩,⟨b4,yb4,k4,f4⟩,-⟩
 go_wp2
 go_step3
 go_wp2
 refine wp_loop_rounds 3 ?_
 rw[rounds_succ]
 go_wp2_with fail
 refine(H_c1.out _ (Bo)).mono ?_
 rintro e w3 ⟨rfl,hb3⟩
 have z4:=hb3.size
 try simp at z4
 clear k1 f1 k2 f2 k3 f3 k4 f4
 refine Aj w w3 (Bc w.heap.size #[a,b] 86<|Bc (w.heap.size+1) #[.int .i64 0,.int .i64 0] 86<|Bc (w.heap.size+2) #[.int .i64 0,.int .i64 0] 86<|Bc g #[.func (.func 196) #[.agg #[A,R,n,d]] #[]] 249<|Bz) ?_
 clear b1 b2 b3 b4 hW
 rintro hW z5 ⟨⟨b1,yb1,k1,f1⟩,⟨b2,yb2,k2,f2⟩,⟨b3,yb3,k3,f3⟩,⟨b4,yb4,k4,f4⟩,-⟩
 clear hb3
 go_upto_region 6 with(fail)
 clear k1 f1 k2 f2 k3 f3 k4 f4
 refine Ab w (Bc w.heap.size #[a,b] 86<|Bc (w.heap.size+1) #[.int .i64 0,.int .i64 0] 86<|Bc (w.heap.size+2) #[.int .i64 0,.int .i64 0] 86<|Bc g #[.func (.func 196) #[.agg #[A,R,n,d]] #[]] 249<|Bz) ?_
 clear b1 b2 b3 b4 hW
 rintro W6 hW z7 ⟨⟨b1,yb1,k1,f1⟩,⟨b2,yb2,k2,f2⟩,⟨b3,yb3,k3,f3⟩,⟨b4,yb4,k4,f4⟩,-⟩
 go_wp2
 rw[rounds_succ]
 go_wp2_with fail
 refine(H_c2.out _ (Bo)).mono ?_
 rintro e w8 ⟨rfl,hb8⟩
 have z9:=hb8.size
 try simp at z9
 clear k1 f1 k2 f2 k3 f3 k4 f4
 refine Aj w w8 (Bc w.heap.size #[a,b] 86<|Bc (w.heap.size+1) #[.int .i64 0,.int .i64 0] 86<|Bc (w.heap.size+2) #[va,.int .i64 0] 86<|Bc g #[.func (.func 196) #[.agg #[A,R,n,d]] #[]] 249<|Bz) ?_
 clear b1 b2 b3 b4 hW
 rintro hW z10 ⟨⟨b1,yb1,k1,f1⟩,⟨b2,yb2,k2,f2⟩,⟨b3,yb3,k3,f3⟩,⟨b4,yb4,k4,f4⟩,-⟩
 clear hb8
 go_wp2
 rw[rounds_succ]
 go_wp2
 rw[Exit.noGoto_ret]
 refine bodyPost_ret (by simp[results,Tryz.results216,go_sem,k1,f1,k2,f2,k3,f3,k4,f4,yb1,yb2,yb3,yb4]) rfl ⟨rfl,by exact Aa⟩
theorem both_first (A R n d a b va vb:Int) (g:Nat) (w:World) (hg:Blk w g #[.func (.func 196) #[.agg #[A,R,n,d]] #[]] 249)
  (c1:∀w,Blk w g #[.func (.func 196) #[.agg #[A,R,n,d]] #[]] 249->Cb 217 #[a,.pointer (some ⟨g,0,none⟩)] w (.tuple #[.int .i64 0,.int .i64 5]))
   :
  Cb 216 #[.agg #[a,b],.func (.func 217) #[] #[.pointer (some ⟨g,0,none⟩)]] w (.tuple #[.agg #[.int .i64 0,.int .i64 0],.int .i64 5]):=by
 have y0:=hg.lt
 have hix0:∀(x y:Int) (w:World),(Instr.index 86 (.agg #[x,y]) (.int .i64 0)).run Tryz.prog w= .ok (x) w:=by intros;kernel_rfl
 have hix1:∀(x y:Int) (w:World),(Instr.index 86 (.agg #[x,y]) (.int .i64 1)).run Tryz.prog w= .ok (y) w:=by intros;kernel_rfl
 have H_c1:=Hd c1
 clear c1
 go_enter Tryz.func216,Tryz.ntmps216
 go_wp2
 go_step3
 go_upto_region 2 with(fail)
 refine Ab w (Bc w.heap.size #[a,b] 86<|Bc (w.heap.size+1) #[.int .i64 0,.int .i64 0] 86<|Bc (w.heap.size+2) #[.int .i64 0,.int .i64 0] 86<|Bc g #[.func (.func 196) #[.agg #[A,R,n,d]] #[]] 249<|Bz) ?_
 rintro W1 hW z2 ⟨⟨b1,yb1,k1,f1⟩,⟨b2,yb2,k2,f2⟩,⟨b3,yb3,k3,f3⟩,⟨b4,yb4,k4,f4⟩,-⟩
 go_wp2
 go_step3
 go_wp2
 refine wp_loop_rounds 3 ?_
 rw[rounds_succ]
 go_wp2_with fail
 refine(H_c1.out _ (Bo)).mono ?_
 rintro e w3 ⟨rfl,hb3⟩
 have z4:=hb3.size
 try simp at z4
 clear k1 f1 k2 f2 k3 f3 k4 f4
 refine Aj w w3 (Bc w.heap.size #[a,b] 86<|Bc (w.heap.size+1) #[.int .i64 0,.int .i64 0] 86<|Bc (w.heap.size+2) #[.int .i64 0,.int .i64 0] 86<|Bc g #[.func (.func 196) #[.agg #[A,R,n,d]] #[]] 249<|Bz) ?_
 clear b1 b2 b3 b4 hW
 rintro hW z5 ⟨⟨b1,yb1,k1,f1⟩,⟨b2,yb2,k2,f2⟩,⟨b3,yb3,k3,f3⟩,⟨b4,yb4,k4,f4⟩,-⟩
 clear hb3
 go_wp2
 rw[Exit.noGoto_ret]
 refine bodyPost_ret (by simp[results,Tryz.results216,go_sem,k1,f1,k2,f2,k3,f3,k4,f4,yb1,yb2,yb3,yb4]) rfl ⟨rfl,by exact Aa⟩
theorem Z2 (A R n d a b va vb:Int) (g:Nat) (w:World) (hg:Blk w g #[.func (.func 196) #[.agg #[A,R,n,d]] #[]] 249)
  (c1:∀w,Blk w g #[.func (.func 196) #[.agg #[A,R,n,d]] #[]] 249->Cb 217 #[a,.pointer (some ⟨g,0,none⟩)] w (.tuple #[va,.int .i64 0]))
  (c2:∀w,Blk w g #[.func (.func 196) #[.agg #[A,R,n,d]] #[]] 249->Cb 217 #[b,.pointer (some ⟨g,0,none⟩)] w (.tuple #[.int .i64 0,.int .i64 5])):
  Cb 216 #[.agg #[a,b],.func (.func 217) #[] #[.pointer (some ⟨g,0,none⟩)]] w (.tuple #[.agg #[.int .i64 0,.int .i64 0],.int .i64 5]):=by
 have y0:=hg.lt
 have hix0:∀(x y:Int) (w:World),(Instr.index 86 (.agg #[x,y]) (.int .i64 0)).run Tryz.prog w= .ok (x) w:=by intros;kernel_rfl
 have hix1:∀(x y:Int) (w:World),(Instr.index 86 (.agg #[x,y]) (.int .i64 1)).run Tryz.prog w= .ok (y) w:=by intros;kernel_rfl
 have H_c1:=Hd c1
 clear c1
 have H_c2:=Hd c2
 clear c2
 go_enter Tryz.func216,Tryz.ntmps216
 go_wp2
 go_step3
 go_upto_region 2 with(fail)
 refine Ab w (Bc w.heap.size #[a,b] 86<|Bc (w.heap.size+1) #[.int .i64 0,.int .i64 0] 86<|Bc (w.heap.size+2) #[.int .i64 0,.int .i64 0] 86<|Bc g #[.func (.func 196) #[.agg #[A,R,n,d]] #[]] 249<|Bz) ?_
 rintro W1 hW z2 ⟨⟨b1,yb1,k1,f1⟩,⟨b2,yb2,k2,f2⟩,⟨b3,yb3,k3,f3⟩,⟨b4,yb4,k4,f4⟩,-⟩
 go_wp2
 go_step3
 go_wp2
 refine wp_loop_rounds 3 ?_
 rw[rounds_succ]
 go_wp2_with fail
 refine(H_c1.out _ (Bo)).mono ?_
 rintro e w3 ⟨rfl,hb3⟩
 have z4:=hb3.size
 try simp at z4
 clear k1 f1 k2 f2 k3 f3 k4 f4
 refine Aj w w3 (Bc w.heap.size #[a,b] 86<|Bc (w.heap.size+1) #[.int .i64 0,.int .i64 0] 86<|Bc (w.heap.size+2) #[.int .i64 0,.int .i64 0] 86<|Bc g #[.func (.func 196) #[.agg #[A,R,n,d]] #[]] 249<|Bz) ?_
 clear b1 b2 b3 b4 hW
 rintro hW z5 ⟨⟨b1,yb1,k1,f1⟩,⟨b2,yb2,k2,f2⟩,⟨b3,yb3,k3,f3⟩,⟨b4,yb4,k4,f4⟩,-⟩
 clear hb3
 go_upto_region 6 with(fail)
 clear k1 f1 k2 f2 k3 f3 k4 f4
 refine Ab w (Bc w.heap.size #[a,b] 86<|Bc (w.heap.size+1) #[.int .i64 0,.int .i64 0] 86<|Bc (w.heap.size+2) #[.int .i64 0,.int .i64 0] 86<|Bc g #[.func (.func 196) #[.agg #[A,R,n,d]] #[]] 249<|Bz) ?_
 clear b1 b2 b3 b4 hW
 rintro W6 hW z7 ⟨⟨b1,yb1,k1,f1⟩,⟨b2,yb2,k2,f2⟩,⟨b3,yb3,k3,f3⟩,⟨b4,yb4,k4,f4⟩,-⟩
 go_wp2
 rw[rounds_succ]
 go_wp2_with fail
 refine(H_c2.out _ (Bo)).mono ?_
 rintro e w8 ⟨rfl,hb8⟩
 have z9:=hb8.size
 try simp at z9
 clear k1 f1 k2 f2 k3 f3 k4 f4
 refine Aj w w8 (Bc w.heap.size #[a,b] 86<|Bc (w.heap.size+1) #[.int .i64 0,.int .i64 0] 86<|Bc (w.heap.size+2) #[va,.int .i64 0] 86<|Bc g #[.func (.func 196) #[.agg #[A,R,n,d]] #[]] 249<|Bz) ?_
 clear b1 b2 b3 b4 hW
 rintro hW z10 ⟨⟨b1,yb1,k1,f1⟩,⟨b2,yb2,k2,f2⟩,⟨b3,yb3,k3,f3⟩,⟨b4,yb4,k4,f4⟩,-⟩
 clear hb8
 go_wp2
 rw[Exit.noGoto_ret]
 refine bodyPost_ret (by simp[results,Tryz.results216,go_sem,k1,f1,k2,f2,k3,f3,k4,f4,yb1,yb2,yb3,yb4]) rfl ⟨rfl,by exact Aa⟩
theorem ends_no (A R n d a b va vb e:Int) (w:World)
  (c1:∀w,Cb 194 #[.agg #[A,R,n,d]] w (.bool false))
   :
  Cb 202 #[.agg #[A,R,n,d],a,b] w (.tuple #[.agg #[.int .i64 0,.int .i64 0],.int .i64 150]):=by
 have hmf:∀(fn:Fn) (first cap:Array Value) (w:World),(Instr.makeFunc fn first cap).run Tryz.prog w= .ok (.func fn first cap) w:=fun _ _ _ _=>rfl
 have H_c1:=Hd c1
 clear c1
 go_enter Tryz.func202,Tryz.ntmps202
 go_upto_region 1 with(fail)
 refine Ab w (Bc w.heap.size #[A,R,n,d] 132<|Bc (w.heap.size+1) #[.int .i64 0,.int .i64 0] 38<|Bz) ?_
 rintro W1 hW z2 ⟨⟨b1,yb1,k1,f1⟩,⟨b2,yb2,k2,f2⟩,-⟩
 go_wp2_with fail
 refine(H_c1.out _).mono ?_
 rintro e w3 ⟨rfl,hb3⟩
 have z4:=hb3.size
 try simp at z4
 clear k1 f1 k2 f2
 refine Aj w w3 (Bc w.heap.size #[A,R,n,d] 132<|Bc (w.heap.size+1) #[.int .i64 0,.int .i64 0] 38<|Bc W1.heap.size #[A,R,n,d] 248<|Bz) ?_
 clear b1 b2 hW
 rintro hW z5 ⟨⟨b1,yb1,k1,f1⟩,⟨b2,yb2,k2,f2⟩,⟨b3,yb3,k3,f3⟩,-⟩
 clear hb3
 go_wp2
 refine bodyPost_ret (by simp[results,Tryz.results202,go_sem,k1,f1,k2,f2,k3,f3,yb1,yb2,yb3]) rfl ⟨rfl,by exact Aa⟩
theorem ends_lt (A R n d a b va vb e:Int) (w:World) (hle:decide (b<a)=false) (h:va<vb)
  (c1:∀w,Cb 194 #[.agg #[A,R,n,d]] w (.bool true))
  (c2:∀w,Cb 195 #[a] w (.bool true))
  (c3:∀w,Cb 195 #[b] w (.bool true))
  (c4:∀w g,Blk w g #[.func (.func 196) #[.agg #[A,R,n,d]] #[]] 249->Cb 216 #[.agg #[a,b],.func (.func 217) #[] #[.pointer (some ⟨g,0,none⟩)]] w (.tuple #[.agg #[va,vb],e])):
  Cb 202 #[.agg #[A,R,n,d],a,b] w (.tuple #[.agg #[va,vb],e]):=by
 have hmf:∀(fn:Fn) (first cap:Array Value) (w:World),(Instr.makeFunc fn first cap).run Tryz.prog w= .ok (.func fn first cap) w:=fun _ _ _ _=>rfl
 have H_c1:=Hd c1
 clear c1
 have H_c2:=Hd c2
 clear c2
 have H_c3:=Hd c3
 clear c3
 have H_c4:=Hd c4
 clear c4
 go_enter Tryz.func202,Tryz.ntmps202
 go_upto_region 1 with(fail)
 refine Ab w (Bc w.heap.size #[A,R,n,d] 132<|Bc (w.heap.size+1) #[.int .i64 0,.int .i64 0] 38<|Bz) ?_
 rintro W1 hW z2 ⟨⟨b1,yb1,k1,f1⟩,⟨b2,yb2,k2,f2⟩,-⟩
 go_wp2_with fail
 refine(H_c1.out _).mono ?_
 rintro e w3 ⟨rfl,hb3⟩
 have z4:=hb3.size
 try simp at z4
 clear k1 f1 k2 f2
 refine Aj w w3 (Bc w.heap.size #[A,R,n,d] 132<|Bc (w.heap.size+1) #[.int .i64 0,.int .i64 0] 38<|Bc W1.heap.size #[A,R,n,d] 248<|Bz) ?_
 clear b1 b2 hW
 rintro hW z5 ⟨⟨b1,yb1,k1,f1⟩,⟨b2,yb2,k2,f2⟩,⟨b3,yb3,k3,f3⟩,-⟩
 clear hb3
 go_wp2_with fail
 refine(H_c2.out _).mono ?_
 rintro e w6 ⟨rfl,hb6⟩
 have z7:=hb6.size
 try simp at z7
 clear k1 f1 k2 f2 k3 f3
 refine Aj w w6 (Bc w.heap.size #[A,R,n,d] 132<|Bc (w.heap.size+1) #[.int .i64 0,.int .i64 0] 38<|Bc W1.heap.size #[A,R,n,d] 248<|Bz) ?_
 clear b1 b2 b3 hW
 rintro hW z8 ⟨⟨b1,yb1,k1,f1⟩,⟨b2,yb2,k2,f2⟩,⟨b3,yb3,k3,f3⟩,-⟩
 clear hb6
 go_wp2_with fail
 refine(H_c3.out _).mono ?_
 rintro e w9 ⟨rfl,hb9⟩
 have z10:=hb9.size
 try simp at z10
 clear k1 f1 k2 f2 k3 f3
 refine Aj w w9 (Bc w.heap.size #[A,R,n,d] 132<|Bc (w.heap.size+1) #[.int .i64 0,.int .i64 0] 38<|Bc W1.heap.size #[A,R,n,d] 248<|Bz) ?_
 clear b1 b2 b3 hW
 rintro hW z11 ⟨⟨b1,yb1,k1,f1⟩,⟨b2,yb2,k2,f2⟩,⟨b3,yb3,k3,f3⟩,-⟩
 clear hb9
 go_upto_region 6 with(fail)
 clear k1 f1 k2 f2 k3 f3
 refine Ab w (Bc w.heap.size #[A,R,n,d] 132<|Bc (w.heap.size+1) #[.int .i64 0,.int .i64 0] 38<|Bc W1.heap.size #[A,R,n,d] 248<|Bz) ?_
 clear b1 b2 b3 hW
 rintro W12 hW z13 ⟨⟨b1,yb1,k1,f1⟩,⟨b2,yb2,k2,f2⟩,⟨b3,yb3,k3,f3⟩,-⟩
 go_upto_region 7 with(fail)
 clear k1 f1 k2 f2 k3 f3
 refine Ab w (Bc w.heap.size #[A,R,n,d] 132<|Bc (w.heap.size+1) #[.int .i64 0,.int .i64 0] 38<|Bc W1.heap.size #[A,R,n,d] 248<|Bc W12.heap.size #[.func (.func 196) #[.agg #[A,R,n,d]] #[]] 249<|Bz) ?_
 clear b1 b2 b3 hW
 rintro W14 hW z15 ⟨⟨b1,yb1,k1,f1⟩,⟨b2,yb2,k2,f2⟩,⟨b3,yb3,k3,f3⟩,⟨b4,yb4,k4,f4⟩,-⟩
 go_wp2_with fail
 refine(H_c4.out _ _ (Bo)).mono ?_
 rintro e w16 ⟨rfl,hb16⟩
 have z17:=hb16.size
 try simp at z17
 clear k1 f1 k2 f2 k3 f3 k4 f4
 refine Aj w w16 (Bc w.heap.size #[A,R,n,d] 132<|Bc (w.heap.size+1) #[.int .i64 0,.int .i64 0] 38<|Bc W1.heap.size #[A,R,n,d] 248<|Bc W12.heap.size #[.func (.func 196) #[.agg #[A,R,n,d]] #[]] 249<|Bz) ?_
 clear b1 b2 b3 b4 hW
 rintro hW z18 ⟨⟨b1,yb1,k1,f1⟩,⟨b2,yb2,k2,f2⟩,⟨b3,yb3,k3,f3⟩,⟨b4,yb4,k4,f4⟩,-⟩
 clear hb16
 go_wp2
 refine bodyPost_ret (by simp[results,Tryz.results202,go_sem,k1,f1,k2,f2,k3,f3,k4,f4,yb1,yb2,yb3,yb4]) rfl ⟨rfl,by exact Aa⟩
theorem ends_gt (A R n d a b va vb e:Int) (w:World) (hle:decide (b<a)=false) (h:vb<va)
  (c1:∀w,Cb 194 #[.agg #[A,R,n,d]] w (.bool true))
  (c2:∀w,Cb 195 #[a] w (.bool true))
  (c3:∀w,Cb 195 #[b] w (.bool true))
  (c4:∀w g,Blk w g #[.func (.func 196) #[.agg #[A,R,n,d]] #[]] 249->Cb 216 #[.agg #[a,b],.func (.func 217) #[] #[.pointer (some ⟨g,0,none⟩)]] w (.tuple #[.agg #[va,vb],e])):
  Cb 202 #[.agg #[A,R,n,d],a,b] w (.tuple #[.agg #[vb,va],e]):=by
 have hmf:∀(fn:Fn) (first cap:Array Value) (w:World),(Instr.makeFunc fn first cap).run Tryz.prog w= .ok (.func fn first cap) w:=fun _ _ _ _=>rfl
 have H_c1:=Hd c1
 clear c1
 have H_c2:=Hd c2
 clear c2
 have H_c3:=Hd c3
 clear c3
 have H_c4:=Hd c4
 clear c4
 go_enter Tryz.func202,Tryz.ntmps202
 go_upto_region 1 with(fail)
 refine Ab w (Bc w.heap.size #[A,R,n,d] 132<|Bc (w.heap.size+1) #[.int .i64 0,.int .i64 0] 38<|Bz) ?_
 rintro W1 hW z2 ⟨⟨b1,yb1,k1,f1⟩,⟨b2,yb2,k2,f2⟩,-⟩
 go_wp2_with fail
 refine(H_c1.out _).mono ?_
 rintro e w3 ⟨rfl,hb3⟩
 have z4:=hb3.size
 try simp at z4
 clear k1 f1 k2 f2
 refine Aj w w3 (Bc w.heap.size #[A,R,n,d] 132<|Bc (w.heap.size+1) #[.int .i64 0,.int .i64 0] 38<|Bc W1.heap.size #[A,R,n,d] 248<|Bz) ?_
 clear b1 b2 hW
 rintro hW z5 ⟨⟨b1,yb1,k1,f1⟩,⟨b2,yb2,k2,f2⟩,⟨b3,yb3,k3,f3⟩,-⟩
 clear hb3
 go_wp2_with fail
 refine(H_c2.out _).mono ?_
 rintro e w6 ⟨rfl,hb6⟩
 have z7:=hb6.size
 try simp at z7
 clear k1 f1 k2 f2 k3 f3
 refine Aj w w6 (Bc w.heap.size #[A,R,n,d] 132<|Bc (w.heap.size+1) #[.int .i64 0,.int .i64 0] 38<|Bc W1.heap.size #[A,R,n,d] 248<|Bz) ?_
 clear b1 b2 b3 hW
 rintro hW z8 ⟨⟨b1,yb1,k1,f1⟩,⟨b2,yb2,k2,f2⟩,⟨b3,yb3,k3,f3⟩,-⟩
 clear hb6
 go_wp2_with fail
 refine(H_c3.out _).mono ?_
 rintro e w9 ⟨rfl,hb9⟩
 have z10:=hb9.size
 try simp at z10
 clear k1 f1 k2 f2 k3 f3
 refine Aj w w9 (Bc w.heap.size #[A,R,n,d] 132<|Bc (w.heap.size+1) #[.int .i64 0,.int .i64 0] 38<|Bc W1.heap.size #[A,R,n,d] 248<|Bz) ?_
 clear b1 b2 b3 hW
 rintro hW z11 ⟨⟨b1,yb1,k1,f1⟩,⟨b2,yb2,k2,f2⟩,⟨b3,yb3,k3,f3⟩,-⟩
 clear hb9
 go_upto_region 6 with(fail)
 clear k1 f1 k2 f2 k3 f3
 refine Ab w (Bc w.heap.size #[A,R,n,d] 132<|Bc (w.heap.size+1) #[.int .i64 0,.int .i64 0] 38<|Bc W1.heap.size #[A,R,n,d] 248<|Bz) ?_
 clear b1 b2 b3 hW
 rintro W12 hW z13 ⟨⟨b1,yb1,k1,f1⟩,⟨b2,yb2,k2,f2⟩,⟨b3,yb3,k3,f3⟩,-⟩
 go_upto_region 7 with(fail)
 clear k1 f1 k2 f2 k3 f3
 refine Ab w (Bc w.heap.size #[A,R,n,d] 132<|Bc (w.heap.size+1) #[.int .i64 0,.int .i64 0] 38<|Bc W1.heap.size #[A,R,n,d] 248<|Bc W12.heap.size #[.func (.func 196) #[.agg #[A,R,n,d]] #[]] 249<|Bz) ?_
 clear b1 b2 b3 hW
 rintro W14 hW z15 ⟨⟨b1,yb1,k1,f1⟩,⟨b2,yb2,k2,f2⟩,⟨b3,yb3,k3,f3⟩,⟨b4,yb4,k4,f4⟩,-⟩
 go_wp2_with fail
 refine(H_c4.out _ _ (Bo)).mono ?_
 rintro e w16 ⟨rfl,hb16⟩
 have z17:=hb16.size
 try simp at z17
 clear k1 f1 k2 f2 k3 f3 k4 f4
 refine Aj w w16 (Bc w.heap.size #[A,R,n,d] 132<|Bc (w.heap.size+1) #[.int .i64 0,.int .i64 0] 38<|Bc W1.heap.size #[A,R,n,d] 248<|Bc W12.heap.size #[.func (.func 196) #[.agg #[A,R,n,d]] #[]] 249<|Bz) ?_
 clear b1 b2 b3 b4 hW
 rintro hW z18 ⟨⟨b1,yb1,k1,f1⟩,⟨b2,yb2,k2,f2⟩,⟨b3,yb3,k3,f3⟩,⟨b4,yb4,k4,f4⟩,-⟩
 clear hb16
 go_wp2
 refine bodyPost_ret (by simp[results,Tryz.results202,go_sem,k1,f1,k2,f2,k3,f3,k4,f4,yb1,yb2,yb3,yb4]) rfl ⟨rfl,by exact Aa⟩
theorem Wv (A R n d a b va vb e:Int) (w:World) (hle:decide (b<a)=false)
  (c1:∀w,Cb 194 #[.agg #[A,R,n,d]] w (.bool true))
  (c2:∀w,Cb 195 #[a] w (.bool true))
  (c3:∀w,Cb 195 #[b] w (.bool true))
  (c4:∀w g,Blk w g #[.func (.func 196) #[.agg #[A,R,n,d]] #[]] 249->Cb 216 #[.agg #[a,b],.func (.func 217) #[] #[.pointer (some ⟨g,0,none⟩)]] w (.tuple #[.agg #[va,va],e])):
  Cb 202 #[.agg #[A,R,n,d],a,b] w (.tuple #[.agg #[va,va],e]):=by
 have hmf:∀(fn:Fn) (first cap:Array Value) (w:World),(Instr.makeFunc fn first cap).run Tryz.prog w= .ok (.func fn first cap) w:=fun _ _ _ _=>rfl
 have H_c1:=Hd c1
 clear c1
 have H_c2:=Hd c2
 clear c2
 have H_c3:=Hd c3
 clear c3
 have H_c4:=Hd c4
 clear c4
 go_enter Tryz.func202,Tryz.ntmps202
 go_upto_region 1 with(fail)
 refine Ab w (Bc w.heap.size #[A,R,n,d] 132<|Bc (w.heap.size+1) #[.int .i64 0,.int .i64 0] 38<|Bz) ?_
 rintro W1 hW z2 ⟨⟨b1,yb1,k1,f1⟩,⟨b2,yb2,k2,f2⟩,-⟩
 go_wp2_with fail
 refine(H_c1.out _).mono ?_
 rintro e w3 ⟨rfl,hb3⟩
 have z4:=hb3.size
 try simp at z4
 clear k1 f1 k2 f2
 refine Aj w w3 (Bc w.heap.size #[A,R,n,d] 132<|Bc (w.heap.size+1) #[.int .i64 0,.int .i64 0] 38<|Bc W1.heap.size #[A,R,n,d] 248<|Bz) ?_
 clear b1 b2 hW
 rintro hW z5 ⟨⟨b1,yb1,k1,f1⟩,⟨b2,yb2,k2,f2⟩,⟨b3,yb3,k3,f3⟩,-⟩
 clear hb3
 go_wp2_with fail
 refine(H_c2.out _).mono ?_
 rintro e w6 ⟨rfl,hb6⟩
 have z7:=hb6.size
 try simp at z7
 clear k1 f1 k2 f2 k3 f3
 refine Aj w w6 (Bc w.heap.size #[A,R,n,d] 132<|Bc (w.heap.size+1) #[.int .i64 0,.int .i64 0] 38<|Bc W1.heap.size #[A,R,n,d] 248<|Bz) ?_
 clear b1 b2 b3 hW
 rintro hW z8 ⟨⟨b1,yb1,k1,f1⟩,⟨b2,yb2,k2,f2⟩,⟨b3,yb3,k3,f3⟩,-⟩
 clear hb6
 go_wp2_with fail
 refine(H_c3.out _).mono ?_
 rintro e w9 ⟨rfl,hb9⟩
 have z10:=hb9.size
 try simp at z10
 clear k1 f1 k2 f2 k3 f3
 refine Aj w w9 (Bc w.heap.size #[A,R,n,d] 132<|Bc (w.heap.size+1) #[.int .i64 0,.int .i64 0] 38<|Bc W1.heap.size #[A,R,n,d] 248<|Bz) ?_
 clear b1 b2 b3 hW
 rintro hW z11 ⟨⟨b1,yb1,k1,f1⟩,⟨b2,yb2,k2,f2⟩,⟨b3,yb3,k3,f3⟩,-⟩
 clear hb9
 go_upto_region 6 with(fail)
 clear k1 f1 k2 f2 k3 f3
 refine Ab w (Bc w.heap.size #[A,R,n,d] 132<|Bc (w.heap.size+1) #[.int .i64 0,.int .i64 0] 38<|Bc W1.heap.size #[A,R,n,d] 248<|Bz) ?_
 clear b1 b2 b3 hW
 rintro W12 hW z13 ⟨⟨b1,yb1,k1,f1⟩,⟨b2,yb2,k2,f2⟩,⟨b3,yb3,k3,f3⟩,-⟩
 go_upto_region 7 with(fail)
 clear k1 f1 k2 f2 k3 f3
 refine Ab w (Bc w.heap.size #[A,R,n,d] 132<|Bc (w.heap.size+1) #[.int .i64 0,.int .i64 0] 38<|Bc W1.heap.size #[A,R,n,d] 248<|Bc W12.heap.size #[.func (.func 196) #[.agg #[A,R,n,d]] #[]] 249<|Bz) ?_
 clear b1 b2 b3 hW
 rintro W14 hW z15 ⟨⟨b1,yb1,k1,f1⟩,⟨b2,yb2,k2,f2⟩,⟨b3,yb3,k3,f3⟩,⟨b4,yb4,k4,f4⟩,-⟩
 go_wp2_with fail
 refine(H_c4.out _ _ (Bo)).mono ?_
 rintro e w16 ⟨rfl,hb16⟩
 have z17:=hb16.size
 try simp at z17
 clear k1 f1 k2 f2 k3 f3 k4 f4
 refine Aj w w16 (Bc w.heap.size #[A,R,n,d] 132<|Bc (w.heap.size+1) #[.int .i64 0,.int .i64 0] 38<|Bc W1.heap.size #[A,R,n,d] 248<|Bc W12.heap.size #[.func (.func 196) #[.agg #[A,R,n,d]] #[]] 249<|Bz) ?_
 clear b1 b2 b3 b4 hW
 rintro hW z18 ⟨⟨b1,yb1,k1,f1⟩,⟨b2,yb2,k2,f2⟩,⟨b3,yb3,k3,f3⟩,⟨b4,yb4,k4,f4⟩,-⟩
 clear hb16
 go_wp2
 refine bodyPost_ret (by simp[results,Tryz.results202,go_sem,k1,f1,k2,f2,k3,f3,k4,f4,yb1,yb2,yb3,yb4]) rfl ⟨rfl,by exact Aa⟩
end Go.Proofs.YtdeghcgakkhbmaaGreat
