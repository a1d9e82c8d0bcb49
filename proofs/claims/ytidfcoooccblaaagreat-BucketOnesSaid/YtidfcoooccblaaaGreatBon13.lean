/- Parts of the proof that follows. No condition. -/
import Derived.RegionTactic
import Derived.ChangeAlike
import Derived.Test.YtidfcoooccblaaaGreatBon12
set_option maxRecDepth 100000
set_option maxHeartbeats 8000000
set_option linter.unusedSimpArgs false
set_option linter.unusedVariables false
namespace Go.Proofs.YtidfcoooccblaaaGreat
open Go.RowKit
attribute [local simp] Oper.looksAt Op.operands Call.operands Aj Det Ao
theorem mul_few {x:Int} (h0:0<=x) (h1:x<=1099511627776) (n:Nat) (hn:n<=1000):0<=x*(n:Int)/\x*(n:Int)<=1099511627776000:=by
 have a:=Int.mul_nonneg h0 (show (0:Int)<=n by omega)
 have b:=Int.mul_le_mul h1 (show (n:Int)<=1000 by omega) (by omega) (by omega)
 omega
section
variable {P:Program} {ops:Array Oper} {C:World->Prop} {X:List (Nat×Nat)} {a0:Act} {Fin:List (Option Tmp×Bo)->Prop} {i:Nat} {o:Oper} {rest:List Oper} {acc:List (Option Tmp×Bo)}
theorem Ox (Φ:Bo) (hcl:Bj (Bl X i) Φ) (hg:o.guard=none) (hal:Az o=false)
  (h:∀(a:Act) (w:World),C w->(∀s∈o.looksAt ops,Aj a0 acc s (a.tmps.getD s undef) w)->∃v w',(execOp a.eval o).run P w= .ok (.value v) w'/\Below w.heap.size w w'/\Φ v w')
  (hr:Aq P ops C X a0 Fin (i+1) rest ((o.dst,Φ)::acc)):Aq P ops C X a0 Fin i (o::rest) acc:=
 ⟨Φ,hcl,fun a w hC hE=>⟨fun _=>by
  obtain⟨v,w',h1,h2,h3⟩:=h a w hC hE
  rw[h1];exact⟨Rex.of_below h2,h3,fun e=>by rw[hal] at e;cases e⟩,fun e=>by rw[Ei hg] at e;cases e⟩,hr⟩
end
def SPV (l:List (Int×Int)):Bo:=fun v w=>∃k,v= .slice (some ⟨k,0,none⟩) 2 2/\Bv w (some ⟨k,0,none⟩) l
theorem SPV.closed (l:List (Int×Int)):Bj [] (SPV l):=fun _ _ _ hr ⟨k,e,h⟩=>⟨k,e,h.rex hr rfl⟩
theorem take_more (g:Nat) (n a b c d s1 s2 s3 s4 m p q t1 t2 far x1 x2 y1 y2 r1 r2 u1 u2 m1 m2 l1 l2 h1 h2 v1 v2 v3 v4 e1 e2 e3 e4:Int) (w:World) (hg:Blk w g #[.int .i64 n,.int .i64 a,.int .i64 b,.int .i64 c,.int .i64 d,.int .i64 s1,.int .u64 s2,.int .i64 s3,.int .u64 s4] 190) (hn:0<n) (hn2:n<=1000000) (hm:0<=m) (hm2:m<=1000000)
  (c1:∀W,Cb 156 #[.int .i64 p,.int .i64 far] W (.agg #[.int .i64 x1,.int .i64 x2]))
  (c2:∀W,Cb 156 #[.int .i64 q,.int .i64 far] W (.agg #[.int .i64 y1,.int .i64 y2]))
  (c3:∀W k,Bv W (some ⟨k,0,none⟩) [(a,b),(x1,x2)]->Cb 43 #[.slice (some ⟨k,0,none⟩) 2 2] W (.tuple #[.agg #[.int .i64 r1,.int .i64 r2],.int .i64 0]))
  (c4:∀W k,Bv W (some ⟨k,0,none⟩) [(c,d),(y1,y2)]->Cb 44 #[.slice (some ⟨k,0,none⟩) 2 2] W (.tuple #[.agg #[.int .i64 u1,.int .i64 u2],.int .i64 0]))
  (c5:∀W,Cb 157 #[.int .i64 far,.int .i64 m] W (.agg #[.int .i64 m1,.int .u64 m2]))
  (c6:∀W,Cb 158 #[.agg #[.int .i64 t1,.int .u64 t2],.agg #[.int .i64 m1,.int .u64 m2]] W (.tuple #[.agg #[.int .i64 l1,.int .u64 l2],.int .i64 e1]))
  (c7:∀W,Cb 16 #[.agg #[.int .i64 t1,.int .u64 t2],.agg #[.int .i64 m1,.int .u64 m2]] W (.tuple #[.agg #[.int .i64 h1,.int .u64 h2],.int .i64 e2]))
  (c8:∀W,Cb 16 #[.agg #[.int .i64 s1,.int .u64 s2],.agg #[.int .i64 l1,.int .u64 l2]] W (.tuple #[.agg #[.int .i64 v1,.int .u64 v2],.int .i64 e3]))
  (c9:∀W,Cb 16 #[.agg #[.int .i64 s3,.int .u64 s4],.agg #[.int .i64 h1,.int .u64 h2]] W (.tuple #[.agg #[.int .i64 v3,.int .u64 v4],.int .i64 e4])):
  Calls Tryz.prog 106 #[.pointer (some ⟨g,0,none⟩),.agg #[.int .i64 m,.int .i64 p,.int .i64 q,.int .i64 t1,.int .u64 t2,.int .i64 far]] w fun e w'=>e= .returned (.tuple #[])/\Rex [g] w w'/\Blk w' g #[.int .i64 (n+m),.int .i64 r1,.int .i64 r2,.int .i64 u1,.int .i64 u2,.int .i64 v1,.int .u64 v2,.int .i64 v3,.int .u64 v4] 190:=by
 have y0:=hg.lt
 have H_c1:=Hd c1
 clear c1
 have H_c2:=Hd c2
 clear c2
 have H_c3:=Hd c3
 clear c3
 have H_c4:=Hd c4
 clear c4
 have H_c5:=Hd c5
 clear c5
 have H_c6:=Hd c6
 clear c6
 have H_c7:=Hd c7
 clear c7
 have H_c8:=Hd c8
 clear c8
 have H_c9:=Hd c9
 clear c9
 go_enter Tryz.func106,Tryz.ntmps106
 go_upto_region 1 with(fail)
 refine Cm [g] w (Bc g #[.int .i64 n,.int .i64 a,.int .i64 b,.int .i64 c,.int .i64 d,.int .i64 s1,.int .u64 s2,.int .i64 s3,.int .u64 s4] 190<|Bc w.heap.size #[.int .i64 m,.int .i64 p,.int .i64 q,.int .i64 t1,.int .u64 t2,.int .i64 far] 198<|Bz) ?_
 rintro W1 hW z2 ⟨⟨b1,yb1,k1,f1⟩,⟨b2,yb2,k2,f2⟩,-⟩
 have c1:=H_c1.out
 have c2:=H_c2.out
 refine D0 14 123 [] (fun W'=>Rex [] W1 W'/\Blk W' g #[.int .i64 n,.int .i64 a,.int .i64 b,.int .i64 c,.int .i64 d,.int .i64 s1,.int .u64 s2,.int .i64 s3,.int .u64 s4] 190/\Blk W' w.heap.size #[.int .i64 m,.int .i64 p,.int .i64 q,.int .i64 t1,.int .u64 t2,.int .i64 far] 198) Cd (by kernel_rfl) rfl ⟨(Rex.refl _ _).drew,b1,b2⟩ (fun w w' ⟨h0,h1,h2⟩ hr=>⟨h0.trans hr,h1.rex hr (by simp<;>omega),h2.rex hr (by simp<;>omega)⟩) (fun c a d v w h=>by cases d<;>exact h) ?_
 iterate 5
  apply Ag (hg:=rfl) (hal:=rfl)
  ·intro a W' hC hE
   obtain⟨_,k1,k2⟩:=hC
   have k2:=k2.cell
   first
    |(simp at hE;simp[go_sem,Act.eval,iw,hE,k1,k2];try rfl)
    |(clear hE;simp[go_sem,Act.eval,iw,k1,k2];try rfl)
 refine Bg rfl rfl (fun W' hC=>c1 W') (fun a W' hC hE=> ?_) ?_
 ·obtain⟨_,k1,k2⟩:=hC
  have k2:=k2.cell
  first
   |(simp at hE;simp[go_sem,Act.eval,iw,hE,k1,k2];try rfl)
   |(clear hE;simp[go_sem,Act.eval,iw,k1,k2];try rfl)
 iterate 5
  apply Ag (hg:=rfl) (hal:=rfl)
  ·intro a W' hC hE
   obtain⟨_,k1,k2⟩:=hC
   have k2:=k2.cell
   first
    |(simp at hE;simp[go_sem,Act.eval,iw,hE,k1,k2];try rfl)
    |(clear hE;simp[go_sem,Act.eval,iw,k1,k2];try rfl)
 refine Bg rfl rfl (fun W' hC=>c2 W') (fun a W' hC hE=> ?_) ?_
 ·obtain⟨_,k1,k2⟩:=hC
  have k2:=k2.cell
  first
   |(simp at hE;simp[go_sem,Act.eval,iw,hE,k1,k2];try rfl)
   |(clear hE;simp[go_sem,Act.eval,iw,k1,k2];try rfl)
 apply Db W1.heap.size #[.int .i64 0,.int .i64 0] 33 rfl rfl
 ·exact fun W' hC=>hC.1.size
 ·simp[Bl]<;>omega
 ·intro w;kernel_rfl
 apply Db W1.heap.size #[.int .i64 0,.int .i64 0] 33 rfl rfl
 ·exact fun W' hC=>hC.1.size
 ·simp[Bl]<;>omega
 ·intro w;kernel_rfl
 rintro W3 ⟨hR,d1,d2⟩
 simp only[Ar,Det,forall_eq]
 intros
 repeat (rename Ao _ _ _ _=>hgd;clear hgd)
 simp only[nS]
 clear b1 b2 H_c1 H_c2 c1 c2
 have b1:=d1
 have b2:=d2
 clear d1 d2
 replace hW:=hW.trans (hR.more (by simp))
 clear hR
 rename Ex _ _=>hap
 rename D9 _ _ _ _ _=>hn5
 obtain⟨o5,rfl,hg5,b4⟩:=hn5
 rename D9 _ _ _ _ _=>hn4
 obtain⟨o4,rfl,hg4,b3⟩:=hn4
 have hne:o4≠o5:=fun e=>hap 4 5 (by simp[C6,Az]) (by simp[C6,Az]) (by decide) ⟨o4,0,none⟩ (by simp[Act.put]) (by simp[Act.put,e])
 clear hap
 have z9:=hW.size
 have z10:=b1.lt
 have z11:=b2.lt
 have z12:=b3.lt
 have z13:=b4.lt
 clear k1 f1 k2 f2
 have k1:=b1.cell
 have f1:=b1.frozen
 have k2:=b2.cell
 have f2:=b2.frozen
 have k3:=b3.cell
 have f3:=b3.frozen
 have k4:=b4.cell
 have f4:=b4.frozen
 go_upto_region 3 with(fail)
 clear k1 f1 k2 f2 k3 f3 k4 f4
 refine Cm [g] w (Bc g #[.int .i64 n,.int .i64 a,.int .i64 b,.int .i64 c,.int .i64 d,.int .i64 s1,.int .u64 s2,.int .i64 s3,.int .u64 s4] 190<|Bc w.heap.size #[.int .i64 m,.int .i64 p,.int .i64 q,.int .i64 t1,.int .u64 t2,.int .i64 far] 198<|Bc o4 #[.int .i64 x1,.int .i64 x2] 33<|Bc o5 #[.int .i64 y1,.int .i64 y2] 33<|Bz) ?_
 clear b1 b2 b3 b4 hW
 rintro W31 hW z32 ⟨⟨b1,yb1,k1,f1⟩,⟨b2,yb2,k2,f2⟩,⟨b3,yb3,k3,f3⟩,⟨b4,yb4,k4,f4⟩,-⟩
 have c3:=H_c3.out
 refine An 11 123 [] (fun W'=>Rex [] W31 W'/\Blk W' g #[.int .i64 n,.int .i64 a,.int .i64 b,.int .i64 c,.int .i64 d,.int .i64 s1,.int .u64 s2,.int .i64 s3,.int .u64 s4] 190/\Blk W' w.heap.size #[.int .i64 m,.int .i64 p,.int .i64 q,.int .i64 t1,.int .u64 t2,.int .i64 far] 198/\Blk W' o4 #[.int .i64 x1,.int .i64 x2] 33/\Blk W' o5 #[.int .i64 y1,.int .i64 y2] 33) Cd (by kernel_rfl) rfl ⟨(Rex.refl _ _).drew,b1,b2,b3,b4⟩ (fun w w' ⟨h0,h1,h2,h3,h4⟩ hr=>⟨h0.trans hr,h1.rex hr (by simp<;>omega),h2.rex hr (by simp<;>omega),h3.rex hr (by simp<;>omega),h4.rex hr (by simp<;>omega)⟩) (fun c a d v w h=>by cases d<;>exact h) ?_
 iterate 6
  apply Ag (hg:=rfl) (hal:=rfl)
  ·intro a W' hC hE
   obtain⟨_,k1,k2,k3,k4⟩:=hC
   have k1:=k1.cell
   have k3:=k3.cell
   have k4:=k4.cell
   first
    |(simp at hE;simp[go_sem,Act.eval,iw,hE,k1,k2,k3,k4];try rfl)
    |(clear hE;simp[go_sem,Act.eval,iw,k1,k2,k3,k4];try rfl)
 apply Ox (SPV [(a,b),(x1,x2)]) (hg:=rfl) (hal:=rfl)
 ·exact SPV.closed _
 ·intro a' W' hC hE
  simp at hE
  refine⟨_,W'.alloc (.cells #[.int .i64 a,.int .i64 b,.int .i64 x1,.int .i64 x2] 33),?_,(Below.refl _ _).alloc (Nat.le_refl _) _,W'.heap.size,rfl,J5 (n:=4) (Blk.new' rfl) rfl⟩
  simp[go_sem,execOp,Act.eval,hE]
  try rfl
  done
 apply K6 (.tuple #[.agg #[.int .i64 r1,.int .i64 r2],.int .i64 0]) (hg:=rfl) (hal:=rfl)
 ·intro a' W' hC hE
  simp at hE
  obtain⟨k,hk,hp⟩:=hE
  exact⟨_,_,by simp[go_sem,Act.eval,hk],c3 W' k hp⟩
 iterate 3
  apply Ag (hg:=rfl) (hal:=rfl)
  ·intro a W' hC hE
   obtain⟨_,k1,k2,k3,k4⟩:=hC
   have k1:=k1.cell
   have k3:=k3.cell
   have k4:=k4.cell
   first
    |(simp at hE;simp[go_sem,Act.eval,iw,hE,k1,k2,k3,k4];try rfl)
    |(clear hE;simp[go_sem,Act.eval,iw,k1,k2,k3,k4];try rfl)
 rintro W33 ⟨hR,d1,d2,d3,d4⟩
 simp only[Ar,Det,forall_eq]
 intros
 repeat (rename Ao _ _ _ _=>hgd;clear hgd)
 simp only[nS]
 clear b1 b2 b3 b4
 have b1:=d1
 have b2:=d2
 have b3:=d3
 have b4:=d4
 clear d1 d2 d3 d4
 replace hW:=hW.trans (hR.more (by simp))
 clear hR
 repeat (rename SPV _ _ _=>hsp;clear hsp)
 clear c3
 have z34:=hW.size
 have z35:=b1.lt
 have z36:=b2.lt
 have z37:=b3.lt
 have z38:=b4.lt
 clear k1 f1 k2 f2 k3 f3 k4 f4
 have k1:=b1.cell
 have f1:=b1.frozen
 have k2:=b2.cell
 have f2:=b2.frozen
 have k3:=b3.cell
 have f3:=b3.frozen
 have k4:=b4.cell
 have f4:=b4.frozen
 go_upto_region 4 with(fail)
 clear k1 f1 k2 f2 k3 f3 k4 f4
 refine Cm [g] w (Bc g #[.int .i64 n,.int .i64 a,.int .i64 b,.int .i64 c,.int .i64 d,.int .i64 s1,.int .u64 s2,.int .i64 s3,.int .u64 s4] 190<|Bc w.heap.size #[.int .i64 m,.int .i64 p,.int .i64 q,.int .i64 t1,.int .u64 t2,.int .i64 far] 198<|Bc o4 #[.int .i64 r1,.int .i64 r2] 33<|Bc o5 #[.int .i64 y1,.int .i64 y2] 33<|Bz) ?_
 clear b1 b2 b3 b4 hW
 rintro W39 hW z40 ⟨⟨b1,yb1,k1,f1⟩,⟨b2,yb2,k2,f2⟩,⟨b3,yb3,k3,f3⟩,⟨b4,yb4,k4,f4⟩,-⟩
 have c4:=H_c4.out
 refine An 11 123 [] (fun W'=>Rex [] W39 W'/\Blk W' g #[.int .i64 n,.int .i64 a,.int .i64 b,.int .i64 c,.int .i64 d,.int .i64 s1,.int .u64 s2,.int .i64 s3,.int .u64 s4] 190/\Blk W' w.heap.size #[.int .i64 m,.int .i64 p,.int .i64 q,.int .i64 t1,.int .u64 t2,.int .i64 far] 198/\Blk W' o4 #[.int .i64 r1,.int .i64 r2] 33/\Blk W' o5 #[.int .i64 y1,.int .i64 y2] 33) Cd (by kernel_rfl) rfl ⟨(Rex.refl _ _).drew,b1,b2,b3,b4⟩ (fun w w' ⟨h0,h1,h2,h3,h4⟩ hr=>⟨h0.trans hr,h1.rex hr (by simp<;>omega),h2.rex hr (by simp<;>omega),h3.rex hr (by simp<;>omega),h4.rex hr (by simp<;>omega)⟩) (fun c a d v w h=>by cases d<;>exact h) ?_
 iterate 6
  apply Ag (hg:=rfl) (hal:=rfl)
  ·intro a W' hC hE
   obtain⟨_,k1,k2,k3,k4⟩:=hC
   have k1:=k1.cell
   have k3:=k3.cell
   have k4:=k4.cell
   first
    |(simp at hE;simp[go_sem,Act.eval,iw,hE,k1,k2,k3,k4];try rfl)
    |(clear hE;simp[go_sem,Act.eval,iw,k1,k2,k3,k4];try rfl)
 apply Ox (SPV [(c,d),(y1,y2)]) (hg:=rfl) (hal:=rfl)
 ·exact SPV.closed _
 ·intro a' W' hC hE
  simp at hE
  refine⟨_,W'.alloc (.cells #[.int .i64 c,.int .i64 d,.int .i64 y1,.int .i64 y2] 33),?_,(Below.refl _ _).alloc (Nat.le_refl _) _,W'.heap.size,rfl,J5 (n:=4) (Blk.new' rfl) rfl⟩
  simp[go_sem,execOp,Act.eval,hE]
  try rfl
  done
 apply K6 (.tuple #[.agg #[.int .i64 u1,.int .i64 u2],.int .i64 0]) (hg:=rfl) (hal:=rfl)
 ·intro a' W' hC hE
  simp at hE
  obtain⟨k,hk,hp⟩:=hE
  exact⟨_,_,by simp[go_sem,Act.eval,hk],c4 W' k hp⟩
 iterate 3
  apply Ag (hg:=rfl) (hal:=rfl)
  ·intro a W' hC hE
   obtain⟨_,k1,k2,k3,k4⟩:=hC
   have k1:=k1.cell
   have k3:=k3.cell
   have k4:=k4.cell
   first
    |(simp at hE;simp[go_sem,Act.eval,iw,hE,k1,k2,k3,k4];try rfl)
    |(clear hE;simp[go_sem,Act.eval,iw,k1,k2,k3,k4];try rfl)
 rintro W41 ⟨hR,d1,d2,d3,d4⟩
 simp only[Ar,Det,forall_eq]
 intros
 repeat (rename Ao _ _ _ _=>hgd;clear hgd)
 simp only[nS]
 clear b1 b2 b3 b4
 have b1:=d1
 have b2:=d2
 have b3:=d3
 have b4:=d4
 clear d1 d2 d3 d4
 replace hW:=hW.trans (hR.more (by simp))
 clear hR
 repeat (rename SPV _ _ _=>hsp;clear hsp)
 clear c4
 have z42:=hW.size
 have z43:=b1.lt
 have z44:=b2.lt
 have z45:=b3.lt
 have z46:=b4.lt
 clear k1 f1 k2 f2 k3 f3 k4 f4
 have k1:=b1.cell
 have f1:=b1.frozen
 have k2:=b2.cell
 have f2:=b2.frozen
 have k3:=b3.cell
 have f3:=b3.frozen
 have k4:=b4.cell
 have f4:=b4.frozen
 go_upto_region 5 with(fail)
 clear k1 f1 k2 f2 k3 f3 k4 f4
 refine Cm [g] w (Bc g #[.int .i64 n,.int .i64 a,.int .i64 b,.int .i64 c,.int .i64 d,.int .i64 s1,.int .u64 s2,.int .i64 s3,.int .u64 s4] 190<|Bc w.heap.size #[.int .i64 m,.int .i64 p,.int .i64 q,.int .i64 t1,.int .u64 t2,.int .i64 far] 198<|Bc o4 #[.int .i64 r1,.int .i64 r2] 33<|Bc o5 #[.int .i64 u1,.int .i64 u2] 33<|Bz) ?_
 clear b1 b2 b3 b4 hW
 rintro W47 hW z48 ⟨⟨b1,yb1,k1,f1⟩,⟨b2,yb2,k2,f2⟩,⟨b3,yb3,k3,f3⟩,⟨b4,yb4,k4,f4⟩,-⟩
 go_region
 simp only[Exit.then]
 go_upto_region 6 with(fail)
 clear k1 f1 k2 f2 k3 f3 k4 f4
 refine Cm [g] w (Bc g #[.int .i64 n,.int .i64 r1,.int .i64 r2,.int .i64 u1,.int .i64 u2,.int .i64 s1,.int .u64 s2,.int .i64 s3,.int .u64 s4] 190<|Bc w.heap.size #[.int .i64 m,.int .i64 p,.int .i64 q,.int .i64 t1,.int .u64 t2,.int .i64 far] 198<|Bc o4 #[.int .i64 r1,.int .i64 r2] 33<|Bc o5 #[.int .i64 u1,.int .i64 u2] 33<|Bz) ?_ (hI:=by exact Rex.drew Gt) (hR:=(Bc.mk (by exact Blk.drew Ab)<|Bc.mk (by exact Blk.drew Ab)<|Bc.mk (by exact Blk.drew Ab)<|Bc.mk (by exact Blk.drew Ab)<|trivial))
 clear b1 b2 b3 b4 hW
 rintro W49 hW z50 ⟨⟨b1,yb1,k1,f1⟩,⟨b2,yb2,k2,f2⟩,⟨b3,yb3,k3,f3⟩,⟨b4,yb4,k4,f4⟩,-⟩
 go_region
 simp only[Exit.then]
 go_upto_region 7 with(fail)
 clear k1 f1 k2 f2 k3 f3 k4 f4
 refine Cm [g] w (Bc g #[.int .i64 (n+m),.int .i64 r1,.int .i64 r2,.int .i64 u1,.int .i64 u2,.int .i64 s1,.int .u64 s2,.int .i64 s3,.int .u64 s4] 190<|Bc w.heap.size #[.int .i64 m,.int .i64 p,.int .i64 q,.int .i64 t1,.int .u64 t2,.int .i64 far] 198<|Bz) ?_ (hI:=by exact Rex.drew Gt) (hR:=(Bc.mk (by exact Blk.drew Ab)<|Bc.mk (by exact Blk.drew Ab)<|trivial))
 clear b1 b2 hW
 rintro W51 hW z52 ⟨⟨b1,yb1,k1,f1⟩,⟨b2,yb2,k2,f2⟩,-⟩
 go_wp2_with fail
 refine(H_c5.out _).mono ?_
 rintro e w53 ⟨rfl,hb53⟩
 have z54:=hb53.size
 try simp at z54
 clear k1 f1 k2 f2
 refine K9 [g] w w53 (Bc g #[.int .i64 (n+m),.int .i64 r1,.int .i64 r2,.int .i64 u1,.int .i64 u2,.int .i64 s1,.int .u64 s2,.int .i64 s3,.int .u64 s4] 190<|Bc w.heap.size #[.int .i64 m,.int .i64 p,.int .i64 q,.int .i64 t1,.int .u64 t2,.int .i64 far] 198<|Bz) ?_
 clear b1 b2 hW
 rintro hW z55 ⟨⟨b1,yb1,k1,f1⟩,⟨b2,yb2,k2,f2⟩,-⟩
 clear hb53
 go_wp2_with fail
 refine(H_c6.out _).mono ?_
 rintro e w56 ⟨rfl,hb56⟩
 have z57:=hb56.size
 try simp at z57
 clear k1 f1 k2 f2
 refine K9 [g] w w56 (Bc g #[.int .i64 (n+m),.int .i64 r1,.int .i64 r2,.int .i64 u1,.int .i64 u2,.int .i64 s1,.int .u64 s2,.int .i64 s3,.int .u64 s4] 190<|Bc w.heap.size #[.int .i64 m,.int .i64 p,.int .i64 q,.int .i64 t1,.int .u64 t2,.int .i64 far] 198<|Bc w53.heap.size #[.int .i64 m1,.int .u64 m2] 36<|Bz) ?_
 clear b1 b2 hW
 rintro hW z58 ⟨⟨b1,yb1,k1,f1⟩,⟨b2,yb2,k2,f2⟩,⟨b3,yb3,k3,f3⟩,-⟩
 clear hb56
 go_wp2_with fail
 refine(H_c7.out _).mono ?_
 rintro e w59 ⟨rfl,hb59⟩
 have z60:=hb59.size
 try simp at z60
 clear k1 f1 k2 f2 k3 f3
 refine K9 [g] w w59 (Bc g #[.int .i64 (n+m),.int .i64 r1,.int .i64 r2,.int .i64 u1,.int .i64 u2,.int .i64 s1,.int .u64 s2,.int .i64 s3,.int .u64 s4] 190<|Bc w.heap.size #[.int .i64 m,.int .i64 p,.int .i64 q,.int .i64 t1,.int .u64 t2,.int .i64 far] 198<|Bc w53.heap.size #[.int .i64 m1,.int .u64 m2] 36<|Bc w56.heap.size #[.int .i64 l1,.int .u64 l2] 36<|Bz) ?_
 clear b1 b2 b3 hW
 rintro hW z61 ⟨⟨b1,yb1,k1,f1⟩,⟨b2,yb2,k2,f2⟩,⟨b3,yb3,k3,f3⟩,⟨b4,yb4,k4,f4⟩,-⟩
 clear hb59
 go_upto_region 10 with(fail)
 clear k1 f1 k2 f2 k3 f3 k4 f4
 refine Cm [g] w (Bc g #[.int .i64 (n+m),.int .i64 r1,.int .i64 r2,.int .i64 u1,.int .i64 u2,.int .i64 s1,.int .u64 s2,.int .i64 s3,.int .u64 s4] 190<|Bc w.heap.size #[.int .i64 m,.int .i64 p,.int .i64 q,.int .i64 t1,.int .u64 t2,.int .i64 far] 198<|Bc w53.heap.size #[.int .i64 m1,.int .u64 m2] 36<|Bc w56.heap.size #[.int .i64 l1,.int .u64 l2] 36<|Bc w59.heap.size #[.int .i64 h1,.int .u64 h2] 36<|Bz) ?_
 clear b1 b2 b3 b4 hW
 rintro W62 hW z63 ⟨⟨b1,yb1,k1,f1⟩,⟨b2,yb2,k2,f2⟩,⟨b3,yb3,k3,f3⟩,⟨b4,yb4,k4,f4⟩,⟨b5,yb5,k5,f5⟩,-⟩
 go_upto_region 10 with(fail)
 clear k1 f1 k2 f2 k3 f3 k4 f4 k5 f5
 refine Cm [g] w (Bc g #[.int .i64 (n+m),.int .i64 r1,.int .i64 r2,.int .i64 u1,.int .i64 u2,.int .i64 s1,.int .u64 s2,.int .i64 s3,.int .u64 s4] 190<|Bc w.heap.size #[.int .i64 m,.int .i64 p,.int .i64 q,.int .i64 t1,.int .u64 t2,.int .i64 far] 198<|Bc w53.heap.size #[.int .i64 m1,.int .u64 m2] 36<|Bc w56.heap.size #[.int .i64 l1,.int .u64 l2] 36<|Bc w59.heap.size #[.int .i64 h1,.int .u64 h2] 36<|Bz) ?_
 clear b1 b2 b3 b4 b5 hW
 rintro W64 hW z65 ⟨⟨b1,yb1,k1,f1⟩,⟨b2,yb2,k2,f2⟩,⟨b3,yb3,k3,f3⟩,⟨b4,yb4,k4,f4⟩,⟨b5,yb5,k5,f5⟩,-⟩
 clear k1 f1 k2 f2 k3 f3 k4 f4 k5 f5
 have c8:=H_c8.out
 refine An 11 123 [] (fun W'=>Rex [] W64 W'/\Blk W' g #[.int .i64 (n+m),.int .i64 r1,.int .i64 r2,.int .i64 u1,.int .i64 u2,.int .i64 s1,.int .u64 s2,.int .i64 s3,.int .u64 s4] 190/\Blk W' w.heap.size #[.int .i64 m,.int .i64 p,.int .i64 q,.int .i64 t1,.int .u64 t2,.int .i64 far] 198/\Blk W' w53.heap.size #[.int .i64 m1,.int .u64 m2] 36/\Blk W' w56.heap.size #[.int .i64 l1,.int .u64 l2] 36/\Blk W' w59.heap.size #[.int .i64 h1,.int .u64 h2] 36) Cd (by kernel_rfl) rfl ⟨(Rex.refl _ _).drew,b1,b2,b3,b4,b5⟩ (fun w w' ⟨h0,h1,h2,h3,h4,h5⟩ hr=>⟨h0.trans hr,h1.rex hr (by simp<;>omega),h2.rex hr (by simp<;>omega),h3.rex hr (by simp<;>omega),h4.rex hr (by simp<;>omega),h5.rex hr (by simp<;>omega)⟩) (fun c a d v w h=>by cases d<;>exact h) ?_
 iterate 7
  apply Ag (hg:=rfl) (hal:=rfl)
  ·intro a W' hC hE
   obtain⟨_,k1,k2,k3,k4,k5⟩:=hC
   have k1:=k1.cell
   have k4:=k4.cell
   first
    |(simp at hE;simp[go_sem,Act.eval,iw,hE,k1,k2,k3,k4,k5];try rfl)
    |(clear hE;simp[go_sem,Act.eval,iw,k1,k2,k3,k4,k5];try rfl)
 refine Bg rfl rfl (fun W' hC=>c8 W') (fun a W' hC hE=> ?_) ?_
 ·obtain⟨_,k1,k2,k3,k4,k5⟩:=hC
  have k1:=k1.cell
  have k4:=k4.cell
  first
   |(simp at hE;simp[go_sem,Act.eval,iw,hE,k1,k2,k3,k4,k5];try rfl)
   |(clear hE;simp[go_sem,Act.eval,iw,k1,k2,k3,k4,k5];try rfl)
 iterate 3
  apply Ag (hg:=rfl) (hal:=rfl)
  ·intro a W' hC hE
   obtain⟨_,k1,k2,k3,k4,k5⟩:=hC
   have k1:=k1.cell
   have k4:=k4.cell
   first
    |(simp at hE;simp[go_sem,Act.eval,iw,hE,k1,k2,k3,k4,k5];try rfl)
    |(clear hE;simp[go_sem,Act.eval,iw,k1,k2,k3,k4,k5];try rfl)
 rintro W66 ⟨hR,d1,d2,d3,d4,d5⟩
 simp only[Ar,Det,forall_eq]
 intros
 repeat (rename Ao _ _ _ _=>hgd;clear hgd)
 simp only[nS]
 replace hW:=hW.trans (hR.more (by simp))
 clear hR
 clear c8
 try clear b1 b2 b3 b4 b5
 have b1:=d1
 clear d1
 have b2:=d2
 clear d2
 have b3:=d3
 clear d3
 have b4:=d4
 clear d4
 have b5:=d5
 clear d5
 have k1:=b1.cell
 have f1:=b1.frozen
 have k2:=b2.cell
 have f2:=b2.frozen
 have k3:=b3.cell
 have f3:=b3.frozen
 have k4:=b4.cell
 have f4:=b4.frozen
 have k5:=b5.cell
 have f5:=b5.frozen
 go_upto_region 11 with(fail)
 clear k1 f1 k2 f2 k3 f3 k4 f4 k5 f5
 refine Cm [g] w (Bc g #[.int .i64 (n+m),.int .i64 r1,.int .i64 r2,.int .i64 u1,.int .i64 u2,.int .i64 v1,.int .u64 v2,.int .i64 s3,.int .u64 s4] 190<|Bc w.heap.size #[.int .i64 m,.int .i64 p,.int .i64 q,.int .i64 t1,.int .u64 t2,.int .i64 far] 198<|Bc w53.heap.size #[.int .i64 m1,.int .u64 m2] 36<|Bc w56.heap.size #[.int .i64 l1,.int .u64 l2] 36<|Bc w59.heap.size #[.int .i64 h1,.int .u64 h2] 36<|Bz) ?_
 clear b1 b2 b3 b4 b5 hW
 rintro W67 hW z68 ⟨⟨b1,yb1,k1,f1⟩,⟨b2,yb2,k2,f2⟩,⟨b3,yb3,k3,f3⟩,⟨b4,yb4,k4,f4⟩,⟨b5,yb5,k5,f5⟩,-⟩
 clear k1 f1 k2 f2 k3 f3 k4 f4 k5 f5
 have c9:=H_c9.out
 refine An 11 123 [] (fun W'=>Rex [] W67 W'/\Blk W' g #[.int .i64 (n+m),.int .i64 r1,.int .i64 r2,.int .i64 u1,.int .i64 u2,.int .i64 v1,.int .u64 v2,.int .i64 s3,.int .u64 s4] 190/\Blk W' w.heap.size #[.int .i64 m,.int .i64 p,.int .i64 q,.int .i64 t1,.int .u64 t2,.int .i64 far] 198/\Blk W' w53.heap.size #[.int .i64 m1,.int .u64 m2] 36/\Blk W' w56.heap.size #[.int .i64 l1,.int .u64 l2] 36/\Blk W' w59.heap.size #[.int .i64 h1,.int .u64 h2] 36) Cd (by kernel_rfl) rfl ⟨(Rex.refl _ _).drew,b1,b2,b3,b4,b5⟩ (fun w w' ⟨h0,h1,h2,h3,h4,h5⟩ hr=>⟨h0.trans hr,h1.rex hr (by simp<;>omega),h2.rex hr (by simp<;>omega),h3.rex hr (by simp<;>omega),h4.rex hr (by simp<;>omega),h5.rex hr (by simp<;>omega)⟩) (fun c a d v w h=>by cases d<;>exact h) ?_
 iterate 7
  apply Ag (hg:=rfl) (hal:=rfl)
  ·intro a W' hC hE
   obtain⟨_,k1,k2,k3,k4,k5⟩:=hC
   have k1:=k1.cell
   have k5:=k5.cell
   first
    |(simp at hE;simp[go_sem,Act.eval,iw,hE,k1,k2,k3,k4,k5];try rfl)
    |(clear hE;simp[go_sem,Act.eval,iw,k1,k2,k3,k4,k5];try rfl)
 refine Bg rfl rfl (fun W' hC=>c9 W') (fun a W' hC hE=> ?_) ?_
 ·obtain⟨_,k1,k2,k3,k4,k5⟩:=hC
  have k1:=k1.cell
  have k5:=k5.cell
  first
   |(simp at hE;simp[go_sem,Act.eval,iw,hE,k1,k2,k3,k4,k5];try rfl)
   |(clear hE;simp[go_sem,Act.eval,iw,k1,k2,k3,k4,k5];try rfl)
 iterate 3
  apply Ag (hg:=rfl) (hal:=rfl)
  ·intro a W' hC hE
   obtain⟨_,k1,k2,k3,k4,k5⟩:=hC
   have k1:=k1.cell
   have k5:=k5.cell
   first
    |(simp at hE;simp[go_sem,Act.eval,iw,hE,k1,k2,k3,k4,k5];try rfl)
    |(clear hE;simp[go_sem,Act.eval,iw,k1,k2,k3,k4,k5];try rfl)
 rintro W69 ⟨hR,d1,d2,d3,d4,d5⟩
 simp only[Ar,Det,forall_eq]
 intros
 repeat (rename Ao _ _ _ _=>hgd;clear hgd)
 simp only[nS]
 replace hW:=hW.trans (hR.more (by simp))
 clear hR
 clear c9
 try clear b1 b2 b3 b4 b5
 have b1:=d1
 clear d1
 have b2:=d2
 clear d2
 have b3:=d3
 clear d3
 have b4:=d4
 clear d4
 have b5:=d5
 clear d5
 have k1:=b1.cell
 have f1:=b1.frozen
 have k2:=b2.cell
 have f2:=b2.frozen
 have k3:=b3.cell
 have f3:=b3.frozen
 have k4:=b4.cell
 have f4:=b4.frozen
 have k5:=b5.cell
 have f5:=b5.frozen
 go_wp2
 refine bodyPost_end (results_none rfl _ _ _) rfl ⟨rfl,Gt,Ab⟩
theorem Xu (g:Nat) (m p q t1 t2 far x1 x2 y1 y2 m1 m2 l1 l2 h1 h2 v1 v2 v3 v4 e1 e2 e3 e4:Int) (w:World) (hg:Blk w g #[.int .i64 0,.int .i64 0,.int .i64 0,.int .i64 0,.int .i64 0,.int .i64 0,.int .u64 0,.int .i64 0,.int .u64 0] 190) (hm:0<=m) (hm2:m<=1000000)
  (c1:∀W,Cb 156 #[.int .i64 p,.int .i64 far] W (.agg #[.int .i64 x1,.int .i64 x2]))
  (c2:∀W,Cb 156 #[.int .i64 q,.int .i64 far] W (.agg #[.int .i64 y1,.int .i64 y2]))
  (c5:∀W,Cb 157 #[.int .i64 far,.int .i64 m] W (.agg #[.int .i64 m1,.int .u64 m2]))
  (c6:∀W,Cb 158 #[.agg #[.int .i64 t1,.int .u64 t2],.agg #[.int .i64 m1,.int .u64 m2]] W (.tuple #[.agg #[.int .i64 l1,.int .u64 l2],.int .i64 e1]))
  (c7:∀W,Cb 16 #[.agg #[.int .i64 t1,.int .u64 t2],.agg #[.int .i64 m1,.int .u64 m2]] W (.tuple #[.agg #[.int .i64 h1,.int .u64 h2],.int .i64 e2]))
  (c8:∀W,Cb 16 #[.agg #[.int .i64 0,.int .u64 0],.agg #[.int .i64 l1,.int .u64 l2]] W (.tuple #[.agg #[.int .i64 v1,.int .u64 v2],.int .i64 e3]))
  (c9:∀W,Cb 16 #[.agg #[.int .i64 0,.int .u64 0],.agg #[.int .i64 h1,.int .u64 h2]] W (.tuple #[.agg #[.int .i64 v3,.int .u64 v4],.int .i64 e4])):
  Calls Tryz.prog 106 #[.pointer (some ⟨g,0,none⟩),.agg #[.int .i64 m,.int .i64 p,.int .i64 q,.int .i64 t1,.int .u64 t2,.int .i64 far]] w fun e w'=>e= .returned (.tuple #[])/\Rex [g] w w'/\Blk w' g #[.int .i64 m,.int .i64 x1,.int .i64 x2,.int .i64 y1,.int .i64 y2,.int .i64 v1,.int .u64 v2,.int .i64 v3,.int .u64 v4] 190:=by
 have y0:=hg.lt
 have H_c1:=Hd c1
 clear c1
 have H_c2:=Hd c2
 clear c2
 have H_c5:=Hd c5
 clear c5
 have H_c6:=Hd c6
 clear c6
 have H_c7:=Hd c7
 clear c7
 have H_c8:=Hd c8
 clear c8
 have H_c9:=Hd c9
 clear c9
 go_enter Tryz.func106,Tryz.ntmps106
 go_upto_region 1 with(fail)
 refine Cm [g] w (Bc g #[.int .i64 0,.int .i64 0,.int .i64 0,.int .i64 0,.int .i64 0,.int .i64 0,.int .u64 0,.int .i64 0,.int .u64 0] 190<|Bc w.heap.size #[.int .i64 m,.int .i64 p,.int .i64 q,.int .i64 t1,.int .u64 t2,.int .i64 far] 198<|Bz) ?_
 rintro W1 hW z2 ⟨⟨b1,yb1,k1,f1⟩,⟨b2,yb2,k2,f2⟩,-⟩
 have c1:=H_c1.out
 have c2:=H_c2.out
 refine D0 14 123 [] (fun W'=>Rex [] W1 W'/\Blk W' g #[.int .i64 0,.int .i64 0,.int .i64 0,.int .i64 0,.int .i64 0,.int .i64 0,.int .u64 0,.int .i64 0,.int .u64 0] 190/\Blk W' w.heap.size #[.int .i64 m,.int .i64 p,.int .i64 q,.int .i64 t1,.int .u64 t2,.int .i64 far] 198) Cd (by kernel_rfl) rfl ⟨(Rex.refl _ _).drew,b1,b2⟩ (fun w w' ⟨h0,h1,h2⟩ hr=>⟨h0.trans hr,h1.rex hr (by simp<;>omega),h2.rex hr (by simp<;>omega)⟩) (fun c a d v w h=>by cases d<;>exact h) ?_
 iterate 5
  apply Ag (hg:=rfl) (hal:=rfl)
  ·intro a W' hC hE
   obtain⟨_,k1,k2⟩:=hC
   have k2:=k2.cell
   first
    |(simp at hE;simp[go_sem,Act.eval,iw,hE,k1,k2];try rfl)
    |(clear hE;simp[go_sem,Act.eval,iw,k1,k2];try rfl)
 refine Bg rfl rfl (fun W' hC=>c1 W') (fun a W' hC hE=> ?_) ?_
 ·obtain⟨_,k1,k2⟩:=hC
  have k2:=k2.cell
  first
   |(simp at hE;simp[go_sem,Act.eval,iw,hE,k1,k2];try rfl)
   |(clear hE;simp[go_sem,Act.eval,iw,k1,k2];try rfl)
 iterate 5
  apply Ag (hg:=rfl) (hal:=rfl)
  ·intro a W' hC hE
   obtain⟨_,k1,k2⟩:=hC
   have k2:=k2.cell
   first
    |(simp at hE;simp[go_sem,Act.eval,iw,hE,k1,k2];try rfl)
    |(clear hE;simp[go_sem,Act.eval,iw,k1,k2];try rfl)
 refine Bg rfl rfl (fun W' hC=>c2 W') (fun a W' hC hE=> ?_) ?_
 ·obtain⟨_,k1,k2⟩:=hC
  have k2:=k2.cell
  first
   |(simp at hE;simp[go_sem,Act.eval,iw,hE,k1,k2];try rfl)
   |(clear hE;simp[go_sem,Act.eval,iw,k1,k2];try rfl)
 apply Db W1.heap.size #[.int .i64 0,.int .i64 0] 33 rfl rfl
 ·exact fun W' hC=>hC.1.size
 ·simp[Bl]<;>omega
 ·intro w;kernel_rfl
 apply Db W1.heap.size #[.int .i64 0,.int .i64 0] 33 rfl rfl
 ·exact fun W' hC=>hC.1.size
 ·simp[Bl]<;>omega
 ·intro w;kernel_rfl
 rintro W3 ⟨hR,d1,d2⟩
 simp only[Ar,Det,forall_eq]
 intros
 repeat (rename Ao _ _ _ _=>hgd;clear hgd)
 simp only[nS]
 clear b1 b2 H_c1 H_c2 c1 c2
 have b1:=d1
 have b2:=d2
 clear d1 d2
 replace hW:=hW.trans (hR.more (by simp))
 clear hR
 rename Ex _ _=>hap
 rename D9 _ _ _ _ _=>hn5
 obtain⟨o5,rfl,hg5,b4⟩:=hn5
 rename D9 _ _ _ _ _=>hn4
 obtain⟨o4,rfl,hg4,b3⟩:=hn4
 have hne:o4≠o5:=fun e=>hap 4 5 (by simp[C6,Az]) (by simp[C6,Az]) (by decide) ⟨o4,0,none⟩ (by simp[Act.put]) (by simp[Act.put,e])
 clear hap
 have z9:=hW.size
 have z10:=b1.lt
 have z11:=b2.lt
 have z12:=b3.lt
 have z13:=b4.lt
 clear k1 f1 k2 f2
 have k1:=b1.cell
 have f1:=b1.frozen
 have k2:=b2.cell
 have f2:=b2.frozen
 have k3:=b3.cell
 have f3:=b3.frozen
 have k4:=b4.cell
 have f4:=b4.frozen
 go_upto_region 5 with(fail)
 clear k1 f1 k2 f2 k3 f3 k4 f4
 refine Cm [g] w (Bc g #[.int .i64 0,.int .i64 0,.int .i64 0,.int .i64 0,.int .i64 0,.int .i64 0,.int .u64 0,.int .i64 0,.int .u64 0] 190<|Bc w.heap.size #[.int .i64 m,.int .i64 p,.int .i64 q,.int .i64 t1,.int .u64 t2,.int .i64 far] 198<|Bc o4 #[.int .i64 x1,.int .i64 x2] 33<|Bc o5 #[.int .i64 y1,.int .i64 y2] 33<|Bz) ?_
 clear b1 b2 b3 b4 hW
 rintro W31 hW z32 ⟨⟨b1,yb1,k1,f1⟩,⟨b2,yb2,k2,f2⟩,⟨b3,yb3,k3,f3⟩,⟨b4,yb4,k4,f4⟩,-⟩
 go_region
 simp only[Exit.then]
 go_upto_region 6 with(fail)
 clear k1 f1 k2 f2 k3 f3 k4 f4
 refine Cm [g] w (Bc g #[.int .i64 0,.int .i64 x1,.int .i64 x2,.int .i64 y1,.int .i64 y2,.int .i64 0,.int .u64 0,.int .i64 0,.int .u64 0] 190<|Bc w.heap.size #[.int .i64 m,.int .i64 p,.int .i64 q,.int .i64 t1,.int .u64 t2,.int .i64 far] 198<|Bc o4 #[.int .i64 x1,.int .i64 x2] 33<|Bc o5 #[.int .i64 y1,.int .i64 y2] 33<|Bz) ?_ (hI:=by exact Rex.drew Gt) (hR:=(Bc.mk (by exact Blk.drew Ab)<|Bc.mk (by exact Blk.drew Ab)<|Bc.mk (by exact Blk.drew Ab)<|Bc.mk (by exact Blk.drew Ab)<|trivial))
 clear b1 b2 b3 b4 hW
 rintro W33 hW z34 ⟨⟨b1,yb1,k1,f1⟩,⟨b2,yb2,k2,f2⟩,⟨b3,yb3,k3,f3⟩,⟨b4,yb4,k4,f4⟩,-⟩
 go_region
 simp only[Exit.then]
 go_upto_region 7 with(fail)
 clear k1 f1 k2 f2 k3 f3 k4 f4
 refine Cm [g] w (Bc g #[.int .i64 m,.int .i64 x1,.int .i64 x2,.int .i64 y1,.int .i64 y2,.int .i64 0,.int .u64 0,.int .i64 0,.int .u64 0] 190<|Bc w.heap.size #[.int .i64 m,.int .i64 p,.int .i64 q,.int .i64 t1,.int .u64 t2,.int .i64 far] 198<|Bz) ?_ (hI:=by exact Rex.drew Gt) (hR:=(Bc.mk (by exact Blk.drew Ab)<|Bc.mk (by exact Blk.drew Ab)<|trivial))
 clear b1 b2 hW
 rintro W35 hW z36 ⟨⟨b1,yb1,k1,f1⟩,⟨b2,yb2,k2,f2⟩,-⟩
 go_wp2_with fail
 refine(H_c5.out _).mono ?_
 rintro e w37 ⟨rfl,hb37⟩
 have z38:=hb37.size
 try simp at z38
 clear k1 f1 k2 f2
 refine K9 [g] w w37 (Bc g #[.int .i64 m,.int .i64 x1,.int .i64 x2,.int .i64 y1,.int .i64 y2,.int .i64 0,.int .u64 0,.int .i64 0,.int .u64 0] 190<|Bc w.heap.size #[.int .i64 m,.int .i64 p,.int .i64 q,.int .i64 t1,.int .u64 t2,.int .i64 far] 198<|Bz) ?_
 clear b1 b2 hW
 rintro hW z39 ⟨⟨b1,yb1,k1,f1⟩,⟨b2,yb2,k2,f2⟩,-⟩
 clear hb37
 go_wp2_with fail
 refine(H_c6.out _).mono ?_
 rintro e w40 ⟨rfl,hb40⟩
 have z41:=hb40.size
 try simp at z41
 clear k1 f1 k2 f2
 refine K9 [g] w w40 (Bc g #[.int .i64 m,.int .i64 x1,.int .i64 x2,.int .i64 y1,.int .i64 y2,.int .i64 0,.int .u64 0,.int .i64 0,.int .u64 0] 190<|Bc w.heap.size #[.int .i64 m,.int .i64 p,.int .i64 q,.int .i64 t1,.int .u64 t2,.int .i64 far] 198<|Bc w37.heap.size #[.int .i64 m1,.int .u64 m2] 36<|Bz) ?_
 clear b1 b2 hW
 rintro hW z42 ⟨⟨b1,yb1,k1,f1⟩,⟨b2,yb2,k2,f2⟩,⟨b3,yb3,k3,f3⟩,-⟩
 clear hb40
 go_wp2_with fail
 refine(H_c7.out _).mono ?_
 rintro e w43 ⟨rfl,hb43⟩
 have z44:=hb43.size
 try simp at z44
 clear k1 f1 k2 f2 k3 f3
 refine K9 [g] w w43 (Bc g #[.int .i64 m,.int .i64 x1,.int .i64 x2,.int .i64 y1,.int .i64 y2,.int .i64 0,.int .u64 0,.int .i64 0,.int .u64 0] 190<|Bc w.heap.size #[.int .i64 m,.int .i64 p,.int .i64 q,.int .i64 t1,.int .u64 t2,.int .i64 far] 198<|Bc w37.heap.size #[.int .i64 m1,.int .u64 m2] 36<|Bc w40.heap.size #[.int .i64 l1,.int .u64 l2] 36<|Bz) ?_
 clear b1 b2 b3 hW
 rintro hW z45 ⟨⟨b1,yb1,k1,f1⟩,⟨b2,yb2,k2,f2⟩,⟨b3,yb3,k3,f3⟩,⟨b4,yb4,k4,f4⟩,-⟩
 clear hb43
 go_upto_region 10 with(fail)
 clear k1 f1 k2 f2 k3 f3 k4 f4
 refine Cm [g] w (Bc g #[.int .i64 m,.int .i64 x1,.int .i64 x2,.int .i64 y1,.int .i64 y2,.int .i64 0,.int .u64 0,.int .i64 0,.int .u64 0] 190<|Bc w.heap.size #[.int .i64 m,.int .i64 p,.int .i64 q,.int .i64 t1,.int .u64 t2,.int .i64 far] 198<|Bc w37.heap.size #[.int .i64 m1,.int .u64 m2] 36<|Bc w40.heap.size #[.int .i64 l1,.int .u64 l2] 36<|Bc w43.heap.size #[.int .i64 h1,.int .u64 h2] 36<|Bz) ?_
 clear b1 b2 b3 b4 hW
 rintro W46 hW z47 ⟨⟨b1,yb1,k1,f1⟩,⟨b2,yb2,k2,f2⟩,⟨b3,yb3,k3,f3⟩,⟨b4,yb4,k4,f4⟩,⟨b5,yb5,k5,f5⟩,-⟩
 go_upto_region 10 with(fail)
 clear k1 f1 k2 f2 k3 f3 k4 f4 k5 f5
 refine Cm [g] w (Bc g #[.int .i64 m,.int .i64 x1,.int .i64 x2,.int .i64 y1,.int .i64 y2,.int .i64 0,.int .u64 0,.int .i64 0,.int .u64 0] 190<|Bc w.heap.size #[.int .i64 m,.int .i64 p,.int .i64 q,.int .i64 t1,.int .u64 t2,.int .i64 far] 198<|Bc w37.heap.size #[.int .i64 m1,.int .u64 m2] 36<|Bc w40.heap.size #[.int .i64 l1,.int .u64 l2] 36<|Bc w43.heap.size #[.int .i64 h1,.int .u64 h2] 36<|Bz) ?_
 clear b1 b2 b3 b4 b5 hW
 rintro W48 hW z49 ⟨⟨b1,yb1,k1,f1⟩,⟨b2,yb2,k2,f2⟩,⟨b3,yb3,k3,f3⟩,⟨b4,yb4,k4,f4⟩,⟨b5,yb5,k5,f5⟩,-⟩
 clear k1 f1 k2 f2 k3 f3 k4 f4 k5 f5
 have c8:=H_c8.out
 refine An 11 123 [] (fun W'=>Rex [] W48 W'/\Blk W' g #[.int .i64 m,.int .i64 x1,.int .i64 x2,.int .i64 y1,.int .i64 y2,.int .i64 0,.int .u64 0,.int .i64 0,.int .u64 0] 190/\Blk W' w.heap.size #[.int .i64 m,.int .i64 p,.int .i64 q,.int .i64 t1,.int .u64 t2,.int .i64 far] 198/\Blk W' w37.heap.size #[.int .i64 m1,.int .u64 m2] 36/\Blk W' w40.heap.size #[.int .i64 l1,.int .u64 l2] 36/\Blk W' w43.heap.size #[.int .i64 h1,.int .u64 h2] 36) Cd (by kernel_rfl) rfl ⟨(Rex.refl _ _).drew,b1,b2,b3,b4,b5⟩ (fun w w' ⟨h0,h1,h2,h3,h4,h5⟩ hr=>⟨h0.trans hr,h1.rex hr (by simp<;>omega),h2.rex hr (by simp<;>omega),h3.rex hr (by simp<;>omega),h4.rex hr (by simp<;>omega),h5.rex hr (by simp<;>omega)⟩) (fun c a d v w h=>by cases d<;>exact h) ?_
 iterate 7
  apply Ag (hg:=rfl) (hal:=rfl)
  ·intro a W' hC hE
   obtain⟨_,k1,k2,k3,k4,k5⟩:=hC
   have k1:=k1.cell
   have k4:=k4.cell
   first
    |(simp at hE;simp[go_sem,Act.eval,iw,hE,k1,k2,k3,k4,k5];try rfl)
    |(clear hE;simp[go_sem,Act.eval,iw,k1,k2,k3,k4,k5];try rfl)
 refine Bg rfl rfl (fun W' hC=>c8 W') (fun a W' hC hE=> ?_) ?_
 ·obtain⟨_,k1,k2,k3,k4,k5⟩:=hC
  have k1:=k1.cell
  have k4:=k4.cell
  first
   |(simp at hE;simp[go_sem,Act.eval,iw,hE,k1,k2,k3,k4,k5];try rfl)
   |(clear hE;simp[go_sem,Act.eval,iw,k1,k2,k3,k4,k5];try rfl)
 iterate 3
  apply Ag (hg:=rfl) (hal:=rfl)
  ·intro a W' hC hE
   obtain⟨_,k1,k2,k3,k4,k5⟩:=hC
   have k1:=k1.cell
   have k4:=k4.cell
   first
    |(simp at hE;simp[go_sem,Act.eval,iw,hE,k1,k2,k3,k4,k5];try rfl)
    |(clear hE;simp[go_sem,Act.eval,iw,k1,k2,k3,k4,k5];try rfl)
 rintro W50 ⟨hR,d1,d2,d3,d4,d5⟩
 simp only[Ar,Det,forall_eq]
 intros
 repeat (rename Ao _ _ _ _=>hgd;clear hgd)
 simp only[nS]
 replace hW:=hW.trans (hR.more (by simp))
 clear hR
 clear c8
 try clear b1 b2 b3 b4 b5
 have b1:=d1
 clear d1
 have b2:=d2
 clear d2
 have b3:=d3
 clear d3
 have b4:=d4
 clear d4
 have b5:=d5
 clear d5
 have k1:=b1.cell
 have f1:=b1.frozen
 have k2:=b2.cell
 have f2:=b2.frozen
 have k3:=b3.cell
 have f3:=b3.frozen
 have k4:=b4.cell
 have f4:=b4.frozen
 have k5:=b5.cell
 have f5:=b5.frozen
 go_upto_region 11 with(fail)
 clear k1 f1 k2 f2 k3 f3 k4 f4 k5 f5
 refine Cm [g] w (Bc g #[.int .i64 m,.int .i64 x1,.int .i64 x2,.int .i64 y1,.int .i64 y2,.int .i64 v1,.int .u64 v2,.int .i64 0,.int .u64 0] 190<|Bc w.heap.size #[.int .i64 m,.int .i64 p,.int .i64 q,.int .i64 t1,.int .u64 t2,.int .i64 far] 198<|Bc w37.heap.size #[.int .i64 m1,.int .u64 m2] 36<|Bc w40.heap.size #[.int .i64 l1,.int .u64 l2] 36<|Bc w43.heap.size #[.int .i64 h1,.int .u64 h2] 36<|Bz) ?_
 clear b1 b2 b3 b4 b5 hW
 rintro W51 hW z52 ⟨⟨b1,yb1,k1,f1⟩,⟨b2,yb2,k2,f2⟩,⟨b3,yb3,k3,f3⟩,⟨b4,yb4,k4,f4⟩,⟨b5,yb5,k5,f5⟩,-⟩
 clear k1 f1 k2 f2 k3 f3 k4 f4 k5 f5
 have c9:=H_c9.out
 refine An 11 123 [] (fun W'=>Rex [] W51 W'/\Blk W' g #[.int .i64 m,.int .i64 x1,.int .i64 x2,.int .i64 y1,.int .i64 y2,.int .i64 v1,.int .u64 v2,.int .i64 0,.int .u64 0] 190/\Blk W' w.heap.size #[.int .i64 m,.int .i64 p,.int .i64 q,.int .i64 t1,.int .u64 t2,.int .i64 far] 198/\Blk W' w37.heap.size #[.int .i64 m1,.int .u64 m2] 36/\Blk W' w40.heap.size #[.int .i64 l1,.int .u64 l2] 36/\Blk W' w43.heap.size #[.int .i64 h1,.int .u64 h2] 36) Cd (by kernel_rfl) rfl ⟨(Rex.refl _ _).drew,b1,b2,b3,b4,b5⟩ (fun w w' ⟨h0,h1,h2,h3,h4,h5⟩ hr=>⟨h0.trans hr,h1.rex hr (by simp<;>omega),h2.rex hr (by simp<;>omega),h3.rex hr (by simp<;>omega),h4.rex hr (by simp<;>omega),h5.rex hr (by simp<;>omega)⟩) (fun c a d v w h=>by cases d<;>exact h) ?_
 iterate 7
  apply Ag (hg:=rfl) (hal:=rfl)
  ·intro a W' hC hE
   obtain⟨_,k1,k2,k3,k4,k5⟩:=hC
   have k1:=k1.cell
   have k5:=k5.cell
   first
    |(simp at hE;simp[go_sem,Act.eval,iw,hE,k1,k2,k3,k4,k5];try rfl)
    |(clear hE;simp[go_sem,Act.eval,iw,k1,k2,k3,k4,k5];try rfl)
 refine Bg rfl rfl (fun W' hC=>c9 W') (fun a W' hC hE=> ?_) ?_
 ·obtain⟨_,k1,k2,k3,k4,k5⟩:=hC
  have k1:=k1.cell
  have k5:=k5.cell
  first
   |(simp at hE;simp[go_sem,Act.eval,iw,hE,k1,k2,k3,k4,k5];try rfl)
   |(clear hE;simp[go_sem,Act.eval,iw,k1,k2,k3,k4,k5];try rfl)
 iterate 3
  apply Ag (hg:=rfl) (hal:=rfl)
  ·intro a W' hC hE
   obtain⟨_,k1,k2,k3,k4,k5⟩:=hC
   have k1:=k1.cell
   have k5:=k5.cell
   first
    |(simp at hE;simp[go_sem,Act.eval,iw,hE,k1,k2,k3,k4,k5];try rfl)
    |(clear hE;simp[go_sem,Act.eval,iw,k1,k2,k3,k4,k5];try rfl)
 rintro W53 ⟨hR,d1,d2,d3,d4,d5⟩
 simp only[Ar,Det,forall_eq]
 intros
 repeat (rename Ao _ _ _ _=>hgd;clear hgd)
 simp only[nS]
 replace hW:=hW.trans (hR.more (by simp))
 clear hR
 clear c9
 try clear b1 b2 b3 b4 b5
 have b1:=d1
 clear d1
 have b2:=d2
 clear d2
 have b3:=d3
 clear d3
 have b4:=d4
 clear d4
 have b5:=d5
 clear d5
 have k1:=b1.cell
 have f1:=b1.frozen
 have k2:=b2.cell
 have f2:=b2.frozen
 have k3:=b3.cell
 have f3:=b3.frozen
 have k4:=b4.cell
 have f4:=b4.frozen
 have k5:=b5.cell
 have f5:=b5.frozen
 go_wp2
 refine bodyPost_end (results_none rfl _ _ _) rfl ⟨rfl,Gt,Ab⟩
def pcA (vs:List Int) (far:Int):Array Value:= #[.int .i64 vs.length,.int .i64 (Bh vs),.int .i64 (Bi vs),.int .i64 (hiW (Ap vs)),.int .u64 (loW (Ap vs)),.int .i64 far]
theorem mn_min (x y:Int):mn x y=min x y:=by have:=Hr x y;omega
theorem mx_max (x y:Int):mx x y=max x y:=by have:=L4 x y;omega
theorem c_SubOk (a b:Int) (w:World) (ha:Bt a) (hb:Bt b) (h:Bt (a-b)):
  Cb 158 #[B4 a,B4 b] w (.tuple #[B4 (a-b),.int .i64 0]):=by
 have:=c_Sub a b w ha hb
 rw[Ka h,Dv h] at this
 exact this
theorem Up (a b:Int) (w:World) (ha:Bt a) (hb:Bt b) (h:Bt (a+b)):
  Cb 16 #[B4 a,B4 b] w (.tuple #[B4 (a+b),.int .i64 0]):=by
 have:=S0 a b w ha hb
 rw[Ka h,Dv h] at this
 exact this
theorem c_take (g:Nat) (l:List (Int×Int)) (vs:List Int) (far:Int) (w:World) (hg:Blk w g (shA l) 190) (hvs:vs≠ []) (h0:0<=far) (h1:far<=1099511627776) (hb:∀v,v∈vs-> -2305844108725321728<=v/\v<=2305844108725321728) (hn:vs.length<=1000)
  (hl:∀x,x∈l-> -2305844108725321728<=x.1/\x.1<=2305844108725321728/\0<=x.2/\x.2<=1099511627776) (hll:l.length<=100000):
  Calls Tryz.prog 106 #[.pointer (some ⟨g,0,none⟩),.agg (pcA vs far)] w fun e w'=>e= .returned (.tuple #[])/\Rex [g] w w'/\Blk w' g (shA (l++pairs (vs,far))) 190:=by
 obtain⟨p1,p2⟩:=F3 hvs
 obtain⟨q1,q2⟩:=F4 hvs
 have hp:=hb _ p1
 have hq:=hb _ q1
 have hs:=Gz hb
 have hm:=mul_few h0 h1 vs.length hn
 have hls:=Gz (l:=loL l) (B:=2305847407260205056) (fun v hv=>by
  unfold loL at hv
  obtain⟨x,hx,rfl⟩:=List.mem_map.1 hv
  have:=hl x hx
  omega)
 have hhs:=Gz (l:=hiL l) (B:=2305847407260205056) (fun v hv=>by
  unfold hiL at hv
  obtain⟨x,hx,rfl⟩:=List.mem_map.1 hv
  have:=hl x hx
  omega)
 have el:(loL l).length=l.length:=by unfold loL;simp
 have eh:(hiL l).length=l.length:=by unfold hiL;simp
 rw[el] at hls
 rw[eh] at hhs
 have c1:=fun W=>Re (Bh vs) far W h0 h1 (by omega) (by omega)
 have c2:=fun W=>Re (Bi vs) far W h0 h1 (by omega) (by omega)
 have c5:=fun W=>c_Mul far vs.length W ⟨by omega,by omega⟩ ⟨by omega,by omega⟩
 obtain⟨M,hM⟩:∃M,far*(vs.length:Int)=M:=⟨_,rfl⟩
 obtain⟨T,hT⟩:∃T,Ap vs=T:=⟨_,rfl⟩
 have c6:=fun W=>c_SubOk T M W (by unfold Bt;omega) (by unfold Bt;omega) (by unfold Bt;omega)
 have c7:=fun W=>Up T M W (by unfold Bt;omega) (by unfold Bt;omega) (by unfold Bt;omega)
 have c8:=fun W=>Up (Ap (loL l)) (T-M) W (by unfold Bt;omega) (by unfold Bt;omega) (by unfold Bt;omega)
 have c9:=fun W=>Up (Ap (hiL l)) (T+M) W (by unfold Bt;omega) (by unfold Bt;omega) (by unfold Bt;omega)
 rw[hM] at c5
 unfold pcA
 rw[hT]
 by_cases hne:l= []
 ·subst hne
  rw[shA_first far hvs,hM,hT,Int.zero_add]
  exact Xu g _ _ _ _ _ far _ _ _ _ _ _ _ _ _ _ _ _ _ _ _ _ _ _ w hg (by omega) (by omega) c1 c2 c5 c6 c7 c8 c9
 ·rw[shA_more far hne hvs,hM,hT]
  obtain⟨a1,a2⟩:=F3 (Qu hne)
  obtain⟨b1,b2⟩:=F3 (Q0 hne)
  obtain⟨d1,d2⟩:=F4 (Qu hne)
  obtain⟨e1,e2⟩:=F4 (Q0 hne)
  have hab:Bh (loL l)<=Bh (hiL l):=by
   unfold hiL at b1
   obtain⟨x,hx,he⟩:=List.mem_map.1 b1
   have:=a2 _ (List.mem_map_of_mem (f:=fun x:Int×Int=>x.1-x.2) hx)
   have:=hl x hx
   unfold hiL
   omega
  have hcd:Bi (loL l)<=Bi (hiL l):=by
   unfold loL at d1
   obtain⟨x,hx,he⟩:=List.mem_map.1 d1
   have:=e2 _ (List.mem_map_of_mem (f:=fun x:Int×Int=>x.1+x.2) hx)
   have:=hl x hx
   unfold loL
   omega
  have c3:=fun W k (hk:Bv W (some ⟨k,0,none⟩) [(Bh (loL l),Bh (hiL l)),(Bh vs-far,Bh vs+far)])=>c_spLeast (some ⟨k,0,none⟩) 2 _ W (by simp) (by simp) hk (by simp;omega)
  have c4:=fun W k (hk:Bv W (some ⟨k,0,none⟩) [(Bi (loL l),Bi (hiL l)),(Bi vs-far,Bi vs+far)])=>c_spMost (some ⟨k,0,none⟩) 2 _ W (by simp) (by simp) hk (by simp;omega)
  have key:=take_more g l.length (Bh (loL l)) (Bh (hiL l)) (Bi (loL l)) (Bi (hiL l)) _ _ _ _ _ _ _ _ _ far _ _ _ _ _ _ _ _ _ _ _ _ _ _ _ _ _ _ _ _ _ _ w hg (by have:=List.length_pos_iff.2 hne;omega) (by omega) (by omega) (by omega) c1 c2 c3 c4 c5 c6 c7 c8 c9
  rw[<-mn_min,<-mn_min,<-mx_max,<-mx_max]
  exact key
end Go.Proofs.YtidfcoooccblaaaGreat
namespace Go.Proofs.YtidfcoooccblaaaGreat
open Go.RowKit Go.Shelf
attribute [local go_sem] Oper.semAt_some
def SeqWr {α:Type} (F:Fence) (n:Nat) (P:Program) (g:Nat) (lb:Array Value) (encs:α->Array Value) (Kp:World->World->Prop) (xs:List α) (Ba:Nat) (w:World):Prop:=
 ∀(l:Nat) (J:List α->World->Prop) (W:World),Below w.heap.size w W->AbidesFrom W.heap.size J->(∀pre W1 v,J pre W1->J pre (W1.setCell ⟨Ba,0,none⟩ v))->
  (∀pre x W1,J pre W1->pre++ [x]<+:xs->YieldAt F (n-1) P l (encs x) W1 fun e W'=>e= .returned (.bool true)/\J (pre++ [x]) W'/\Kp W1 W')->
  J [] W->CallsIn F n P g (#[.func (.yield l) #[] #[]]++lb) W fun e W'=>(∃v,e= .returned v)/\J xs W'
def goesOn {α:Type} (B:Nat) (Kp:World->World->Prop) (I:List α->World->Prop) (pre:List α) (W:World):Exit->Act->World->Prop
 | .normal,_,W'=>KeepsFrom B W W'/\Kp W W'/\I pre W'
 |_,_,_=>False
theorem Ti {α:Type} {F:Fence} {P:Program} {n:Nat} {g:Operand} {ps:Array Tmp} {assign body:Code} {Q:Exit->Act->World->Prop} {a:Act} {w:World} (hro:F.round=none) (h1:1<=n) {gf:Nat} {lb:Array Value}
  (hg:a.eval g= .func (.func gf) #[] lb) (hFg:F.fn gf) (eg:∀args w,(callFunc gf args).run P w= .ok (.enter gf args) w) {encs:α->Array Value} {Kp:World->World->Prop} {xs:List α} {Ba:Nat} (hBa:Ba<w.heap.size)
  (hseq:SeqWr F (n-1) P gf lb encs Kp xs Ba w) (hKt:∀ {A B C:World},Kp A B->Kp B C->Kp A C)
  (hKb:∀(W:World) (l:Nat) (o o':Obj),w.heap.size<=l->W.heap[l]? =some o->o.isCells=false->o.isWalk=false->Kp W (W.putObj l o')) (hps:∀x,(encs x).size=ps.size)
  (I:List α->World->Prop) (hI:OwnFrom w.heap.size I) (hIw:∀pre W v,I pre W->I pre (W.setCell ⟨Ba,0,none⟩ v)) (h0:I [] w) (Ax:α->Act->World->Prop) (hAx:∀x a',OwnFrom w.heap.size (fun(_:Unit) W=>Ax x a' W))
  (hassign:∀(l:Nat) (pre:List α) (x:α) (W:World) (K:Act->World->Prop),I pre W->(∀a' W',KeepsFrom w.heap.size W W'->Kp W W'->I pre W'->Ax x a' W'->K a' W')->
   assign.wpIn (F.inRound l) (n-1-1) P (Exit.then K (fun _ _ _=>False)) {tmps:=(ps.zip (encs x)).foldl (fun t (p,v)=>t.setIfInBounds p v) a.tmps,defers:= []} W)
  (hbody:∀(l:Nat) (pre:List α) (x:α) (a':Act) (W:World),I pre W->Ax x a' W->pre++ [x]<+:xs->body.wpIn (F.inRound l) (n-1-1) P (goesOn w.heap.size Kp I (pre++ [x]) W) a' W)
  (hdone:∀(D:Nat) (W:World),w.heap.size<=D->I xs W->W.heap[D]? =some (.deferred (some []))->Q .normal {a with defers:= {target:= .collected D,args:= #[]}::a.defers} W):
  (Code.rangeFunc g ps assign body).wpIn F n P Q a w:=by
 refine wpIn_rangeFunc fun fn hfn=> ?_
 rw[hro]
 let rec0:LoopState->Option Code->Loop:=fun st pe=> {state:=st,pending:=pe,fn,tmps:=a.tmps,params:=ps,assign,body,defers:=w.heap.size}
 obtain⟨rc,hrc⟩:∃r,r=rec0:=⟨_,rfl⟩
 let D:=w.heap.size
 obtain⟨W1,e1⟩:∃W1,W1=(w.alloc (.deferred (some []))).alloc (.loop (rc .ready none)):=⟨_,rfl⟩
 have hD:W1.heap[D]? =some (.deferred (some [])):=by rw[e1];exact(Below.heap_alloc _ _ _ (by simp[D])).trans (World.alloc_heap_new w _)
 have hL:W1.heap[D+1]? =some (.loop (rc .ready none)):=by
  rw[e1];have:=World.alloc_heap_new (w.alloc (.deferred (some []))) (.loop (rc .ready none));rwa [World.size_alloc] at this
 have hB:Below w.heap.size w W1:=by rw[e1];exact((Below.refl _ w).alloc (Nat.le_refl _) _).alloc (by simp) _
 refine⟨D+1,[{target:= .collected D,args:= #[]}],W1,{target:= .fn (.func gf) lb,args:= #[.func (.yield (D+1)) #[] #[]]},W1,gf,#[.func (.yield (D+1)) #[] #[]]++lb,W1,?_,?_,?_,?_,fun _=>h1,?_⟩
 ·rw[e1,hrc];exact run_enterLoop_outer _ _ _ _ _
 ·simp only[resolve,hg]
  simp[go_sem]
 ·intro f' hf'
  simp[Target.leads] at hf'
  exact hf'▸hFg
 ·simp[invoke,go_sem,eg]
 ·have hsz:W1.heap.size=D+1+1:=by rw[e1];simp[D]
  refine(hseq (D+1) (fun pre W=>I pre W/\W.heap[D+1]? =some (.loop (rc .ready none))/\W.heap[D]? =some (.deferred (some []))) W1 hB ?_ ?_ ?_ ⟨by rw[e1];exact hI.alloc _ (hI.alloc _ h0),hL,hD⟩).mono ?_
  ·--what the iterator makes,and turns of its own
   intro pre A C row hs hgr hr
   refine⟨hI pre A C row hs.1 hgr fun r e=> ?_,(grownBy_keeps hgr (fun r e=>(hr r e).2) hs.2.1 rfl).trans hs.2.1,(grownBy_keeps hgr (fun r e=>(hr r e).2) hs.2.2 rfl).trans hs.2.2⟩
   obtain⟨k1,o,k2,k3⟩:=hr r e
   exact⟨by simp only[D] at hsz;omega,o,k2,Obj.not_cells_of_walk k3⟩
  ·--the variable of its own
   intro pre A v hs
   exact⟨hIw pre A v hs.1,(heap_setCell_other A ⟨Ba,0,none⟩ (D+1) v (by simp only[D];omega)).trans hs.2.1,(heap_setCell_other A ⟨Ba,0,none⟩ D v (by simp only[D];omega)).trans hs.2.2⟩
  ·--one round
   rintro pre x W ⟨hi,hl,hd⟩ hlen
   have hy:=run_yield (P:=P) (args:=encs x) hl (by rw[hrc];exact hps x)
   rw[hrc] at hy
   refine⟨fn,_,assign,body,hy,roundIn_of_wpIn hfn (hassign _ pre x W _ hi fun a' V hkf hkp hiV hax=> ?_)⟩
   have hlV:V.heap[D+1]? =some (.loop (rc .ready none)):=hkf.same _ _ (by simp only[D];omega) hl rfl
   have hdV:V.heap[D]? =some (.deferred (some [])):=hkf.same _ _ (Nat.le_refl _) hd rfl
   have hlt:=Cv hlV
   refine⟨_,run_beginRound hlV (by rw[hrc]),?_⟩
   obtain⟨V2,e2⟩:∃V2,V2=V.putObj (D+1) (.loop {rc .ready none with state:= .busy}):=⟨_,rfl⟩
   rw[<-e2]
   have hl2:V2.heap[D+1]? =some (.loop {rc .ready none with state:= .busy}):=by rw[e2];exact World.putObj_heap_same hlt
   have hd2:V2.heap[D]? =some (.deferred (some [])):=by rw[e2];exact(World.putObj_heap_other (by omega)).trans hdV
   have hk2:Kp V V2:=by rw[e2];exact hKb _ _ _ _ (by simp only[D];omega) hlV rfl rfl
   refine wpIn_mono (hbody _ pre x a' V2 (by rw[e2];exact hI.putObj _ hiV (by simp only[D];omega) hlV rfl) (by rw[e2];exact(hAx x a').putObj (s:=()) _ hax (by simp only[D];omega) hlV rfl) hlen) ?_
   intro e a3 W3 hp
   cases e with
   |normal=>
    obtain⟨q1,q2,q3⟩:=hp
    have hl3:=q1.same _ _ (by simp only[D];omega) hl2 rfl
    have hd3:=q1.same _ _ (Nat.le_refl _) hd2 rfl
    have hr:=run_endRound (P:=P) none hl3
    refine⟨_,_,hr,rfl,⟨hI.putObj _ q3 (by simp only[D];omega) hl3 rfl,?_,(World.putObj_heap_other (by omega)).trans hd3⟩,hKt hkp (hKt (hKt hk2 q2) (hKb _ _ _ _ (by simp only[D];omega) hl3 rfl rfl))⟩
    have:=World.putObj_heap_same (w:=W3) (r:=D+1) (o:= .loop {rc .ready none with state:= .ready,pending:=none}) (Cv hl3)
    rw[hrc] at this⊢
    exact this
   |ret=>exact hp.elim
   |exit id=>exact hp.elim
   |goto t=>exact hp.elim
   |panic c=>exact hp.elim
   |outgrown=>exact hp.elim
  ·--behind the iterator
   rintro e W2 ⟨⟨v,rfl⟩,hi,hl,hd⟩
   refine⟨none,_,by have:=run_endLoop (P:=P) hl (by rw[hrc];simp[rec0]);rw[hrc] at this;exact this,hdone D _ (Nat.le_refl _) (hI.putObj _ hi (by simp only[D];omega) hl rfl) ((World.putObj_heap_other (by omega)).trans hd)⟩
end Go.Proofs.YtidfcoooccblaaaGreat
namespace Go.Proofs.YtidfcoooccblaaaGreat
open Go.RowKit
attribute [local go_sem] Oper.semAt_some
section
variable {P:Program} {ops:Array Oper} {C:World->Prop} {X:List (Nat×Nat)} {a0:Act} {n nn:Nat} {Q:Exit->Act->World->Prop}
def S4 (ops:Array Oper) (n:Nat):Bool:=(List.range n).all fun i=>(List.range ops.size).all fun t=>decide (t<n)||Xe ops 8 t i
theorem Kn :∀(l:List Oper) (k:Nat) (listed:Array Bool) (a:Act) (w:World),(∀j,l[j]? =ops[k+j]?)->Region.seqB .any ops l.length k listed=true->
  wpListIn Fence.wide nn P ops Q l a w->wpAnyIn Fence.wide nn P .any ops Q l.length listed a w
 | [],_,_,_,_,_,hB,h=>⟨by simpa [Region.seqB] using hB,h⟩
 |o::l,k,listed,a,w,hl,hB,h=>by
  have h0:ops[k]? =some o:=by simpa using (hl 0).symm
  simp only[List.length_cons,Region.seqB,Bool.and_eq_true,decide_eq_true_eq] at hB
  refine⟨fun e=>(by rw[hB.1] at e;cases e),fun i hi=> ?_⟩
  obtain rfl:i=k:=by rw[hB.1] at hi;simpa using hi
  have hw:wpOpIn Fence.wide nn P ops Q i (wpListIn Fence.wide nn P ops Q l) a w:=by
   unfold wpOpIn
   simp only[h0]
   exact h
  exact wpOpIn_mono (fun a' w' h'=>Kn l (i+1) _ a' w' (fun j=>by have:=hl (j+1);simpa [Nat.add_assoc,Nat.add_comm 1 j] using this) hB.2 h') hw
theorem Yw {m i:Nat} {Ψ:Nat->Bo} {listed:Array Bool} {a:Act} {w:World} (hok:Ok ops n m) (hm:m=a0.tmps.size) (hC:∀w w',C w->Rex (X.map (·.2)) w w'->C w')
  (hcl:∀i,i<n->Bj (Bl X i) (Ψ i)) (hop:∀i o,i<n->ops[i]? =some o->Ow P ops C (Fh X i) (Aj a0 (Dp ops Ψ i)) o (Ψ i))
  (inv:Inv ops C a0 n Ψ listed a w) (hr:i∈Region.ready .any ops listed) (hi:i<n):wpOpIn Fence.wide nn P ops Q i (Inv ops C a0 n Ψ (listed.setIfInBounds i true)) a w:=by
 obtain⟨_,o,ho,_⟩:=mem_ready.1 hr
 obtain⟨h1,h2⟩:=hop i o hi ho a w inv.c (Nx hok inv hr hi ho)
 unfold wpOpIn
 simp only[ho]
 by_cases hw:Region.wanted o (yielded ops a.tmps)=true
 ·simp only[hw,if_true]
  refine⟨fun _ _=>trivial,?_⟩
  show o.uponIn Fence.wide nn P a _ Q ((execOp a.eval o).run P w)
  have h1:=h1 hw
  generalize (execOp a.eval o).run P w=r at h1
  cases r with
  |ok x w'=>
   cases x<;>simp only[Ky] at h1<;>simp only[Oper.uponIn]
   case value u=>exact Gj hok hm hC hcl inv hr hi ho h1.1 h1.2.1 fun ha=> .inr (h1.2.2 ha)
   case skip=>exact Gj hok hm hC hcl inv hr hi ho h1.1 h1.2.1 fun ha=>by rw[h1.2.2] at ha;cases ha
   case enter f args=>
    obtain⟨rfl,hna,hc⟩:=h1
    refine⟨fun e=>by simp[Fence.wide] at e,(callsIn_wide.2 hc).mono fun e w'' ⟨u,he,hR,hΦ⟩=> ?_⟩
    subst he
    exact Gj hok hm hC hcl inv hr hi ho hR hΦ fun ha=>by rw[hna] at ha;cases ha
  |halt x w'=>simp only[Ky] at h1
 ·have hw':Region.wanted o (yielded ops a.tmps)=false:=by simpa using hw
  simp only[hw',Bool.false_eq_true,if_false]
  exact⟨fun _ _=>trivial,Gj hok hm hC hcl inv hr hi ho (Rex.refl _ _) (h2 hw') fun _=> .inl rfl⟩
theorem nd_anyIn {m:Nat} {Ψ:Nat->Bo} (hok:Ok ops n m) (hall:S4 ops n=true) (hm:m=a0.tmps.size) (hC:∀w w',C w->Rex (X.map (·.2)) w w'->C w')
  (hcl:∀i,i<n->Bj (Bl X i) (Ψ i)) (hop:∀i o,i<n->ops[i]? =some o->Ow P ops C (Fh X i) (Aj a0 (Dp ops Ψ i)) o (Ψ i))
  (hFin:∀a w,(∃listed,Inv ops C a0 n Ψ listed a w/\∀i,i<n->listed.getD i false=true)->wpListIn Fence.wide nn P ops Q (ops.toList.drop n) a w):
  ∀(f:Nat) (listed:Array Bool) (a:Act) (w:World),Inv ops C a0 n Ψ listed a w->listed.toList.count false=f->(∀t,n<=t->listed.getD t false=false)->wpAnyIn Fence.wide nn P .any ops Q f listed a w:=by
 intro f
 induction f with
 |zero=>
  intro listed a w inv hcnt htl
  have hle:=hok.le
  have hl:∀i,i<ops.size->listed.getD i false=true:=fun i hi=>by
   have h0:¬false∈listed.toList:=by rw[<-List.count_eq_zero];exact hcnt
   have hi':i<listed.size:=by rw[inv.lsize];exact hi
   cases hb:listed[i] with
   |true=>simp[hi',hb]
   |false=>exact absurd (by rw[<-hb];exact Array.mem_toList_iff.2 (Array.getElem_mem hi')) h0
  have hn:n=ops.size:=by
   rcases Nat.lt_or_ge n ops.size with h|h
   ·have:=htl n (Nat.le_refl _);rw[hl n h] at this;cases this
   ·omega
  refine⟨List.eq_nil_iff_forall_not_mem.2 fun k hk=> ?_,?_⟩
  ·obtain⟨h1,o,ho,_⟩:=mem_ready.1 hk
   have hk':=(Array.getElem?_eq_some_iff.1 ho).1
   have h2:=hl k hk'
   simp[inv.lsize,hk'] at h1 h2
   rw[h1] at h2;cases h2
  ·have:=hFin a w ⟨listed,inv,fun i hi=>hl i (by omega)⟩
   rw[hn,List.drop_eq_nil_of_le (by simp)] at this
   exact this
 |succ f ih=>
  intro listed a w inv hcnt htl
  have hle:=hok.le
  by_cases hbody:∀i,i<n->listed.getD i false=true
  ·have hl:listed=(Array.replicate n true)++Array.replicate (ops.size-n) false:=by
    apply Array.ext
    ·simp[inv.lsize];omega
    ·intro i h1 h2
     by_cases hi:i<n
     ·have:=hbody i hi
      simp[h1] at this
      simp[hi,this]
     ·have:=htl i (by omega)
      simp[h1] at this
      simp[Array.getElem_append,hi,this]
   have hc:listed.toList.count false=ops.size-n:=by
    rw[hl];simp[List.count_replicate]
   have hseq:=hok.seq
   unfold Kw at hseq
   rw[<-hl] at hseq
   have hlen:(ops.toList.drop n).length=ops.size-n:=by simp
   have:=Kn (P:=P) (nn:=nn) (Q:=Q) (ops.toList.drop n) n listed a w (fun j=>by rw[List.getElem?_drop];simp) (by rw[hlen];exact hseq) (hFin a w ⟨listed,inv,hbody⟩)
   rw[hlen] at this
   have he:ops.size-n=f+1:=by omega
   rwa [he] at this
  ·obtain⟨i0,hi0⟩:=Classical.not_forall.1 hbody
   obtain⟨hi0n,hi0l⟩:=Classical.not_imp.1 hi0
   have hl0:listed.getD i0 false=false:=by simpa using hi0l
   obtain⟨k,_,hk2,_⟩:=Gp hok inv.lsize i0 (by omega) hl0
   refine⟨fun h=>(by rw[h] at hk2;cases hk2),fun i hi=> ?_⟩
   have hin:i<n:=by
    rcases Nat.lt_or_ge i n with h|h
    ·exact h
    ·obtain⟨_,o,ho,hal⟩:=mem_ready.1 hi
     have h9:=List.all_eq_true.1 (List.all_eq_true.1 hall i0 (List.mem_range.2 hi0n)) i (List.mem_range.2 (Array.getElem?_eq_some_iff.1 ho).1)
     rw[decide_eq_false (by omega),Bool.false_or] at h9
     have:=M5 inv 8 i i0 o ho hal h9
     rw[hl0] at this;cases this
   refine wpOpIn_mono (fun a' w' hinv=>ih _ a' w' hinv ?_ fun t ht=>by rw[getD_set_ne false (by omega)];exact htl t ht) (Yw hok hm hC hcl hop inv hi hin)
   obtain⟨hun,o,ho,_⟩:=mem_ready.1 hi
   have his:i<listed.size:=by rw[inv.lsize];exact(Array.getElem?_eq_some_iff.1 ho).1
   have hunf:=Do his hun
   have hg:listed.toList[i]? =some false:=by simp[his] at hunf;simp[his,hunf]
   have:=Ha listed.toList i hg
   rw[Array.toList_setIfInBounds];omega
theorem inv_fin {m:Nat} {Ψ:Nat->Bo} {listed:Array Bool} {a:Act} {w:World} (hok:Ok ops n m) (hm:m=a0.tmps.size) (inv:Inv ops C a0 n Ψ listed a w) (hall:∀i,i<n->listed.getD i false=true) {K:Act->Prop} (h:Ar w a0 (Dp ops Ψ n) K):K a:=by
 have hex:∀i,∃v,i<n->Ψ i v w/\∀d,Cf ops i=some d->v=a.tmps.getD d undef:=by
  intro i
  by_cases hi:i<n
  ·cases hd:Cf ops i with
   |none=>
    obtain⟨u,hu⟩:=inv.eff i hi (hall i hi) hd
    exact⟨u,fun _=>⟨hu,fun d h=>by cases h⟩⟩
   |some d=>exact⟨a.tmps.getD d undef,fun _=>⟨inv.val i hi (hall i hi) d hd,fun d' h=>by injection h with h;rw[h]⟩⟩
  ·exact⟨undef,fun h=>absurd h hi⟩
 let val:Nat->Value:=fun i=>(hex i).choose
 have hval:∀i,i<n->Ψ i (val i) w/\∀d,Cf ops i=some d->val i=a.tmps.getD d undef:=fun i hi=>(hex i).choose_spec hi
 have ha:a=F9 ops val a0 n:=by
  have ht:a.tmps=(F9 ops val a0 n).tmps:=by
   apply Array.ext
   ·rw[Jk,inv.size]
   ·intro s h1 h2
    have hg:a.tmps.getD s undef=(F9 ops val a0 n).tmps.getD s undef:=by
     by_cases hw:∃i,i<n/\Cf ops i=some s
     ·obtain⟨i,hi,hw⟩:=hw
      rw[Lv hok hm val s n (Nat.le_refl _) i hi hw,(hval i hi).2 s hw]
     ·rw[Lw val s n fun i hi hwi=>hw ⟨i,hi,hwi⟩]
      exact inv.old s fun i hi _ hwi=>hw ⟨i,hi,hwi⟩
    simpa [h1,h2] using hg
  have hd:a.defers=(F9 ops val a0 n).defers:=by rw[Hp,inv.defers]
  cases a;cases hp:F9 ops val a0 n;rw[hp] at ht hd;simp at ht hd;subst ht;subst hd;rfl
 have:=T7 (ops:=ops) (a0:=a0) (val:=val) n K (fun i hi=>(hval i hi).1) h
 rwa [<-ha] at this
theorem Qa {id:Nat} {l:List Oper} {w0:World} (n m:Nat) (X:List (Nat×Nat)) (C:World->Prop) (hf:P.follows .mixedOrders=true) (hB:okB l.toArray n m=true) (hall:S4 l.toArray n=true) (hm:m=a0.tmps.size)
  (h0:C w0.drew) (hC:∀w w',C w->Rex (X.map (·.2)) w w'->C w')
  (h:Aq P l.toArray C X a0 (fun acc=>∀w,C w->Ar w a0 acc fun a=>wpListIn Fence.wide nn P l.toArray Q (l.drop n) a w) 0 (l.take n) []):
  (Code.region id l.toArray true).wpIn Fence.wide nn P Q a0 w0:=by
 have hok:=Ov hB
 have hle:n<=l.length:=by have:=hok.le;simpa using this
 obtain⟨Ψ,_,h2,h3⟩:=Lo (ops:=l.toArray) (l.take n) 0 [] (fun _ _ _=>True) (fun j hj=>by simp at hj;simp[hj]) rfl h
 have hlen:0+(l.take n).length=n:=by simp;omega
 rw[hlen] at h3
 refine wpIn_region_any hf (nd_anyIn hok hall hm hC (fun i hi=>(h2 i (by omega) (by omega)).1) (fun i o hi ho=> ?_) (fun a w ⟨listed,inv,hl⟩=>inv_fin hok hm inv hl (h3 w inv.c)) _ _ _ _ ⟨h0,rfl,rfl,by simp,?_,?_,?_,?_,?_,?_⟩ (by simp) (fun t _=>getD_replicate_false _ t))
 ·obtain⟨_,o',ho',h⟩:=h2 i (by omega) (by omega)
  rw[ho] at ho';injection ho' with e;subst e;exact h
 ·intro i o ho hl;rw[getD_replicate_false] at hl;cases hl
 ·intro i hi hl;rw[getD_replicate_false] at hl;cases hl
 ·intro i hi hl;rw[getD_replicate_false] at hl;cases hl
 ·intro s _;rfl
 ·intro i o d hi hl;rw[getD_replicate_false] at hl;cases hl
 ·intro i o d j o' d' hi hj hij hl;rw[getD_replicate_false] at hl;cases hl
end
end Go.Proofs.YtidfcoooccblaaaGreat
namespace Go.Proofs.YtidfcoooccblaaaGreat
open Go.RowKit Go.Shelf
attribute [local simp] Oper.looksAt Op.operands Call.operands Aj Det Ao
attribute [local go_sem] Oper.semAt_some
theorem pcs_step {s:Be} {A b:Int} {k:Nat} {x:A4} (h:s.segs[k]? =some x):(s.segs.take (k+1)).flatMap (Fa A b)=(s.segs.take k).flatMap (Fa A b)++Fa A b x:=G9 (Fa A b) h
theorem gdet_on {p:Bool} {c v:Value} {w:World} (h:Ao p c v w) (hp:p=true):v=c:=by unfold Ao at h;rw[if_pos hp] at h;exact h
theorem gdet_off {p:Bool} {c v:Value} {w:World} (h:Ao p c v w) (hp:p=false):v=undef:=by unfold Ao at h;rw[if_neg (by rw[hp];simp)] at h;exact h
theorem opnPc_in {A b t v:Int} (l:List (Int×Int)) (h1:A<=t) (h2:t<=b):D3 A b (l++ [(t,v)])=D3 A b l++ [([v],0)]:=by
 have:Fz A b (t,v)=true:=by simp[Fz,h1,h2]
 simp[D3,this]
theorem opnPc_out {A b t v:Int} (l:List (Int×Int)) (h:¬(A<=t/\t<=b)):D3 A b (l++ [(t,v)])=D3 A b l:=by
 have:Fz A b (t,v)=false:=by
  cases hh:Fz A b (t,v) with
  |false=>rfl
  |true=>simp[Fz] at hh;exact absurd hh h
 simp[D3,this]
theorem Us (n:Nat) (hn:1<=n) (lr Ba Bs Bb n₀:Nat) (s:Be) (ps po:Option Addr) (cs co:Nat) (a b:Int) (w₁:World) (hin:Av w₁ s ps po) (hv:∀x,x∈s.segs->C1 x=true) (hI:∀x,x∈s.opn->I64 x.2) (hb: -9223372036854775808<=b) (h1:w₁.heap.size<=n₀) (hA0:n₀<=Ba) (hS0:n₀<=Bs) (hB0:n₀<=Bb) (hab:Ba≠Bs) (hac:Ba≠Bb)
  (J:List (List Int×Int)->World->Prop) (B0:Nat) (hJ:AbidesFrom B0 J) (hJw:∀pre W v,J pre W->J pre (W.setCell ⟨Ba,0,none⟩ v))
  (hY:∀pre x W,J pre W->pre++ [x]<+:Mf s a b->YieldAt Fence.wide (n-1) Tryz.prog lr #[.agg (pcA x.1 x.2)] W fun e W'=>e= .returned (.bool true)/\J (pre++ [x]) W'/\KF w₁.heap.size n₀ W W')
  (W:World) (hW:Below w₁.heap.size w₁ W) (kS:Blk W Bs (Cg s ps cs po co) 25) (kA:Blk W Ba #[.int .i64 a] 2) (kB:Blk W Bb #[.int .i64 b] 2) (h0:J [] W):
  CallsIn Fence.wide n Tryz.prog 159 #[.func (.yield lr) #[] #[],.pointer (some ⟨Ba,0,none⟩),.pointer (some ⟨Bs,0,none⟩),.pointer (some ⟨Bb,0,none⟩)] W fun e W'=>(∃v,e= .returned v)/\J (Mf s a b) W':=by
 have hfS:=hin.fewS
 have hfO:=hin.fewO
 obtain⟨A,hA⟩:∃A,mx a s.floor=A:=⟨_,rfl⟩
 have hpc:Mf s a b=s.segs.flatMap (Fa A b)++D3 A b s.opn:=by unfold Mf;rw[hA]
 rw[hpc] at hY⊢
 clear hpc
 have hmax:∀ts t x y w,(Builtin.max_ ts t #[.int .i64 x,.int .i64 y]).run Tryz.prog w= .ok (.int .i64 (mx x y)) w:=fun ts t x y w=>by simp[Builtin.max_,Builtin.max2,mx]
 have k1:=kS.cell
 unfold Cg at k1
 have k2:=kA.cell
 have f2:=kA.frozen
 have y2:=kA.lt
 refine callsIn_of_wp Tryz.func159 rfl trivial ?_ rfl
 simp only[Tryz.ntmps159,List.size_toArray,List.length_cons,List.length_nil,Nat.reduceAdd,Nat.reduceSub,Array.replicate_succ,Array.replicate_zero,List.push_toArray,List.append_toArray,List.nil_append,List.cons_append]
 refine Mj ?_
 gi_wp2
 clear k1 k2 f2 hmax
 have hW2:Below w₁.heap.size w₁ (W.setCell ⟨Ba,0,none⟩ (.int .i64 A)):=hW.setCell (p:=⟨Ba,0,none⟩) (by simp;omega) _
 have e1:Blk (W.setCell ⟨Ba,0,none⟩ (.int .i64 A)) Bs (Cg s ps cs po co) 25:=kS.setO (Ne.symm hab) 0 _
 have e2:Blk (W.setCell ⟨Ba,0,none⟩ (.int .i64 A)) Ba #[.int .i64 A] 2:=kA.set2 rfl
 have e3:Blk (W.setCell ⟨Ba,0,none⟩ (.int .i64 A)) Bb #[.int .i64 b] 2:=kB.setO (Ne.symm hac) 0 _
 have hJ2:=hJw _ _ (.int .i64 A) h0
 obtain⟨V,hVe⟩:∃V,V=W.setCell ⟨Ba,0,none⟩ (.int .i64 A):=⟨_,rfl⟩
 rw[<-hVe] at hW2 e1 e2 e3 hJ2⊢
 clear hVe hW kS kA kB h0 y2
 have k1:=e1.cell
 unfold Cg at k1
 refine wpIn_label ?_
 gi_wp2
 clear k1
 gi_loopw [18] (fun i wr=>∃k:Nat,k<=s.segs.length/\i= .int .i64 k/\J ((s.segs.take k).flatMap (Fa A b)) wr/\Below w₁.heap.size w₁ wr/\Blk wr Bs (Cg s ps cs po co) 25/\Blk wr Ba #[.int .i64 A] 2/\Blk wr Bb #[.int .i64 b] 2) (fun i _=>s.segs.length-(intOf i).toNat)
 case atStart=>exact⟨0,Nat.zero_le _,rfl,hJ2,hW2,e1,e2,e3⟩
 case round=>
  obtain⟨k,hk,rfl,hJk,hbw,d1,d2,d3⟩:=hrel
  have y1:=d1.lt
  have y2:=d2.lt
  have y3:=d3.lt
  rcases Nat.lt_or_ge k s.segs.length with hlk|hge
  ·obtain⟨x,tr⟩:∃r,s.segs[k]? =some r:=⟨s.segs[k]'(by omega),List.getElem?_eq_getElem (by omega)⟩
   have hsx:=hv x (List.mem_of_getElem? tr)
   obtain⟨b0,o0,p',q',cp,vc,rfl,hs,hvc,q0,q1,q2,q3,q4,q5,q6,q7⟩:=(hin.below hbw).segs.one tr
   have cP:=fun W' (hW':Below wr.heap.size wr W')=>c_Part x p' q' cp vc A b W' (hs.below hW') hvc hb
   rw[Vo hsx A b] at cP
   have zb:=A8 q0
   try simp only at zb
   have hst:=pcs_step (A:=A) (b:=b) tr
   have hroom:=V8 (m:=1) (Fa A b) tr (D3 A b s.opn)
   unfold Dh at cP
   have k2:=d2.cell
   have k3:=d3.cell
   by_cases he:Nh A b (Dr x)= []
   ·rw[if_pos he] at cP
    have hpc:Fa A b x= []:=by unfold Fa;rw[if_pos he]
    rw[hpc,List.append_nil] at hst
    replace hst:=Hd hst
    replace cP:=Hd cP
    clear hroom hpc he tr hsx hs
    gi_wp2_with (refine⟨trivial,?_⟩;gi_at_call 160;refine(callsIn_wide.2 (cP.out _ (Aa))).mono ?_;rintro e w2 ⟨rfl,hB⟩)
    have hAB:=((Below.refl wr.heap.size wr).alloc (Nat.le_refl _) (Obj.cells #[.int .i64 x.K,.slice p' x.runs.length cp,.int .i64 x.A,.int .i64 x.R,.int .i64 x.n,.int .i64 x.d,.slice q' x.raw.length vc,.int .i64 x.E] 98)).trans (hB.mono (by simp))
    go_roundw
    case rel=>exact⟨k+1,by omega,by simp,by rw[hst.out];exact Cx hJ hJk (hAB.alloc hAB.size _),(hbw.trans (hAB.mono hbw.size)).alloc (by have:=hAB.size;have:=hbw.size;omega) _,(d1.below hAB).alloc _,(d2.below hAB).alloc _,(d3.below hAB).alloc _⟩
    case measure=>simp[intOf];omega
   ·rw[if_neg he] at cP
    have hpc:Fa A b x= [(Nh A b (Dr x),x.E)]:=by unfold Fa;rw[if_neg he]
    rw[hpc] at hst hroom
    obtain⟨L,hL⟩:∃L,Nh A b (Dr x)=L:=⟨_,rfl⟩
    rw[hL] at cP hst hroom
    have hroom:=Hd (show (s.segs.take k).flatMap (Fa A b)++ [(L,x.E)]<+:s.segs.flatMap (Fa A b)++D3 A b s.opn from hroom)
    unfold Nn at cP
    replace hst:=Hd hst
    replace cP:=Hd cP
    clear hpc he tr hsx hs hL
    gi_wp2_with (refine⟨trivial,?_⟩;gi_at_call 160;refine(callsIn_wide.2 (cP.out _ (Aa))).mono ?_;rintro e w2 ⟨rfl,hB⟩;have bx:=(Blk.new' rfl:Blk (wr.alloc (.cells #[.int .i64 x.K,.slice p' x.runs.length cp,.int .i64 x.A,.int .i64 x.R,.int .i64 x.n,.int .i64 x.d,.slice q' x.raw.length vc,.int .i64 x.E] 98)) wr.heap.size #[.int .i64 x.K,.slice p' x.runs.length cp,.int .i64 x.A,.int .i64 x.R,.int .i64 x.n,.int .i64 x.d,.slice q' x.raw.length vc,.int .i64 x.E] 98).below hB;have kx:=bx.cell;have zx:=bx.lt;have hAB:=((Below.refl wr.heap.size wr).alloc (Nat.le_refl _) (Obj.cells #[.int .i64 x.K,.slice p' x.runs.length cp,.int .i64 x.A,.int .i64 x.R,.int .i64 x.n,.int .i64 x.d,.slice q' x.raw.length vc,.int .i64 x.E] 98)).trans (hB.mono (by simp));obtain⟨fn,tmps,assign,body,hy,hR⟩:=hY _ (L,x.E) (w2.alloc (.cells #[.int .i64 (L.length:Int),.int .i64 (Bh L),.int .i64 (Bi L),.int .i64 (hiW (Ap L)),.int .u64 (loW (Ap L))] 196)) (Cx hJ hJk (hAB.alloc hAB.size _)) hroom.out;unfold pcA at hy;dsimp only at hy)
    refine hR.mono ?_
    rintro e W3 ⟨rfl,hJ3,hk3⟩
    gi_wp2
    go_roundw
    case rel=>exact⟨k+1,by omega,by simp,by rw[hst.out];exact hJ3,((hbw.trans (hAB.mono hbw.size)).alloc (by have:=hAB.size;have:=hbw.size;omega) _).trans hk3.below,hk3.blk hS0 ((d1.below hAB).alloc _),hk3.blk hA0 ((d2.below hAB).alloc _),hk3.blk hB0 ((d3.below hAB).alloc _)⟩
    case measure=>simp[intOf];omega
  ·obtain rfl:k=s.segs.length:=by omega
   rw[List.take_length] at hJk
   have k1:=d1.cell
   unfold Cg at k1
   gi_wp2
   clear k1
   gi_loopw [44] (fun i wr=>∃m:Nat,m<=s.opn.length/\i= .int .i64 m/\J (s.segs.flatMap (Fa A b)++D3 A b (s.opn.take m)) wr/\Below w₁.heap.size w₁ wr/\Blk wr Bs (Cg s ps cs po co) 25/\Blk wr Ba #[.int .i64 A] 2/\Blk wr Bb #[.int .i64 b] 2) (fun i _=>s.opn.length-(intOf i).toNat)
   case atStart=>exact⟨0,Nat.zero_le _,rfl,by simpa [D3] using hJk,hbw,d1,d2,d3⟩
   case round=>
    obtain⟨m,hm,rfl,hJm,hbw,d1,d2,d3⟩:=hrel
    have y1:=d1.lt
    have y2:=d2.lt
    have y3:=d3.lt
    rcases Nat.lt_or_ge m s.opn.length with hlm|hgem
    ·obtain⟨⟨t,v⟩,tr⟩:∃t,s.opn[m]? =some t:=⟨s.opn[m]'hlm,List.getElem?_eq_getElem _⟩
     obtain⟨b0,o0,rfl,q0,q1⟩:=(hin.below hbw).opn.at' m _ tr
     simp only at q0 q1
     have hvv:=hI _ (List.mem_of_getElem? tr)
     have zb:=A8 q0
     try simp only at zb
     have hst:s.opn.take (m+1)=s.opn.take m++ [(t,v)]:=Lq tr
     have cO:=fun W=>Rt v W hvv
     unfold B4 at cO
     replace cO:=Hd cO
     have e1:Blk (wr.alloc (.cells #[.int .i64 t,.int .i64 v] 91)) Bs #[.string s.name,.int .i64 s.eps,.int .i64 s.floor,.int .i64 s.last,.int .i64 s.scale,.slice ps s.segs.length cs,.slice (some ⟨b0,o0,none⟩) s.opn.length co] 25:=d1.alloc _
     have e2:=d2.alloc (.cells #[.int .i64 t,.int .i64 v] 91)
     have e3:=d3.alloc (.cells #[.int .i64 t,.int .i64 v] 91)
     have e4:Blk (wr.alloc (.cells #[.int .i64 t,.int .i64 v] 91)) wr.heap.size #[.int .i64 t,.int .i64 v] 91:=Blk.new' rfl
     gi_wp2
     refine Qa 21 73 [] (fun W'=>Rex [] (wr.alloc (.cells #[.int .i64 t,.int .i64 v] 91)) W'/\Blk W' Bs #[.string s.name,.int .i64 s.eps,.int .i64 s.floor,.int .i64 s.last,.int .i64 s.scale,.slice ps s.segs.length cs,.slice (some ⟨b0,o0,none⟩) s.opn.length co] 25/\Blk W' Ba #[.int .i64 A] 2/\Blk W' Bb #[.int .i64 b] 2/\Blk W' wr.heap.size #[.int .i64 t,.int .i64 v] 91) Cd (by kernel_rfl) (by kernel_rfl) rfl ⟨(Rex.refl _ _).drew,e1,e2,e3,e4⟩ (fun w w' ⟨h0,h1,h2,h3,h4⟩ hr=>⟨h0.trans hr,h1.rex hr (by simp<;>omega),h2.rex hr (by simp<;>omega),h3.rex hr (by simp<;>omega),h4.rex hr (by simp<;>omega)⟩) ?_
     iterate 18
      first
      |(
       apply Ag (hg:=rfl) (hal:=rfl)
       ·intro a W' hC hE
        obtain⟨_,k1,k2,k3,k4⟩:=hC
        have k2:=k2.cell
        have k3:=k3.cell
        have k4:=k4.cell
        first
         |(simp at hE;simp[go_sem,Act.eval,iw,hE,k1,k2,k3,k4];try rfl)
         |(clear hE;simp[go_sem,Act.eval,iw,k1,k2,k3,k4];try rfl))
      |(
       apply Am (p:=true) (hg:=rfl) (hd:=rfl) (hal:=rfl)
       ·intro v W' h
        simp[Aj,Det,Ao] at h
        simp
        exact h
       ·intro hp hx a W' hC hE
        obtain⟨_,k1,k2,k3,k4⟩:=hC
        have k2:=k2.cell
        have k3:=k3.cell
        have k4:=k4.cell
        simp[hx] at hE
        simp[go_sem,Act.eval,iw,hE,k1,k2,k3,k4]
        try rfl)
      |(
       apply Ch (ho:=rfl) (hg:=rfl)
       ·intro v W' h
        simp at h
        exact h
       ·intro v W' h hx
        simp[hx] at h
        exact h)
     apply Cj (p:=true) (hg:=rfl) (hd:=rfl) (hal:=rfl)
     ·intro v W' h
      simp at h
      simp
      exact h
     ·intro hp hx W' hC
      exact cO.out W'
     ·intro hp hx a W' hC hE
      obtain⟨_,k1,k2,k3,k4⟩:=hC
      have k2:=k2.cell
      have k3:=k3.cell
      have k4:=k4.cell
      first
       |(simp[hx] at hE;simp[go_sem,Act.eval,iw,hE,k1,k2,k3,k4];try rfl)
       |(clear hE;simp[go_sem,Act.eval,iw,k1,k2,k3,k4];try rfl)
     iterate 2
      apply Am (p:=true) (hg:=rfl) (hd:=rfl) (hal:=rfl)
      ·intro v W' h
       simp[Aj,Det,Ao] at h
       simp
       exact h
      ·intro hp hx a W' hC hE
       obtain⟨_,k1,k2,k3,k4⟩:=hC
       have k2:=k2.cell
       have k3:=k3.cell
       have k4:=k4.cell
       simp[hx] at hE
       simp[go_sem,Act.eval,iw,hE,k1,k2,k3,k4]
       try rfl
     rintro W8 ⟨hR,x1,x2,x3,x4⟩
     simp only[Ar,Det,forall_eq]
     intros
     simp only[nS]
     have hAB:Below wr.heap.size wr W8:=((Below.refl _ _).alloc (Nat.le_refl _) _).trans (hR.below.mono (by simp))
     have hbw8:=hbw.trans (hAB.mono hbw.size)
     have hJ8:=Cx hJ hJm hAB
     clear hR hbw hJm d1 d2 d3 e1 e2 e3 e4 q0 q1 cO
     have z1:=x1.lt
     have z2:=x2.lt
     have z3:=x3.lt
     have z4:=x4.lt
     by_cases hsel:A<=t/\t<=b
     ·obtain⟨g1,g2⟩:=hsel
      repeat (rename Ao _ _ _ _=>hgd;obtain rfl:=gdet_on hgd (by simp[g1,g2]);clear hgd)
      have hc:(decide (A<=t)&&decide (t<=b))=true:=by simp[g1,g2]
      rw[hc]
      have hop:D3 A b (s.opn.take (m+1))=D3 A b (s.opn.take m)++ [([v],0)]:=by rw[hst];exact opnPc_in _ g1 g2
      have hroom:(s.segs.flatMap (Fa A b)++D3 A b (s.opn.take m))++ [([v],0)]<+:s.segs.flatMap (Fa A b)++D3 A b s.opn:=by
       have e:D3 A b s.opn=D3 A b (s.opn.take (m+1))++D3 A b (s.opn.drop (m+1)):=by unfold D3;rw[<-List.map_append,<-List.filter_append,List.take_append_drop]
       rw[e,hop]
       exact⟨D3 A b (s.opn.drop (m+1)),by simp⟩
      obtain⟨fn,tmps,assign,body,hy,hR⟩:=hY _ ([v],0) W8 hJ8 hroom
      rw[show pcA ([v],(0:Int)).1 ([v],(0:Int)).2= #[.int .i64 1,.int .i64 v,.int .i64 v,.int .i64 (hiW v),.int .u64 (loW v),.int .i64 0] by simp[pcA,Bh,Bi,Ap]] at hy
      replace hop:=Hd hop
      clear hc g1 g2 hroom hst tr hJ8
      gi_wp2
      refine hR.mono ?_
      rintro e W3 ⟨rfl,hJ3,hk3⟩
      gi_wp2
      go_roundw
      case rel=>exact⟨m+1,by omega,by simp,by rw[hop.out,<-List.append_assoc];exact hJ3,hbw8.trans hk3.below,hk3.blk hS0 x1,hk3.blk hA0 x2,hk3.blk hB0 x3⟩
      case measure=>simp[intOf];omega
     ·have hc:(decide (A<=t)&&decide (t<=b))=false:=by
       cases h:(decide (A<=t)&&decide (t<=b)) with
       |false=>rfl
       |true=>simp at h;exact absurd h hsel
      have hcc:(true&&(decide (A<=t)&&decide (t<=b))==true)=false:=by rw[hc];rfl
      repeat (rename Ao _ _ _ _=>hgd;first|(have hq:=gdet_off hgd hcc;subst hq;clear hgd)|clear hgd)
      clear hcc
      rw[hc]
      have hop:=Hd (show D3 A b (s.opn.take (m+1))=D3 A b (s.opn.take m) by rw[hst];exact opnPc_out _ hsel)
      clear hc hsel hst tr
      gi_wp2
      refine⟨fun _ _=>trivial,?_⟩
      gi_wp2
      go_roundw
      case rel=>exact⟨m+1,by omega,by simp,by rw[hop.out];exact hJ8,hbw8,x1,x2,x3⟩
      case measure=>simp[intOf];omega
    ·obtain rfl:m=s.opn.length:=by omega
     rw[List.take_length] at hJm
     gi_wp2
     simp only[Exit.noGoto]
     refine bodyPost_end (results_none rfl _ _ _) rfl ?_
     exact⟨⟨_,rfl⟩,hJm⟩
end Go.Proofs.YtidfcoooccblaaaGreat
