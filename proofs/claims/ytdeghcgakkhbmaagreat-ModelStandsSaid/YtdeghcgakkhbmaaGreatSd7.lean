/- Parts of the proof that follows. No condition. -/
import Derived.Lib.OthersKept
import Derived.Lib.RuneBytes
import Derived.Test.YtdeghcgakkhbmaaGreatSd6
set_option maxRecDepth 100000
set_option maxHeartbeats 8000000
set_option linter.unusedSimpArgs false
set_option linter.unusedVariables false
namespace Go.Proofs.YtdeghcgakkhbmaaGreat
open Go.RowKit
attribute [local simp] Oper.looksAt Op.operands Call.operands Af Det Am
def DV (x y:Int):Bi:=fun v w=>∃v1 v2,v= .tuple #[v1,v2]/\B3 w v1 (x/y)/\B3 w v2 (x%y)
theorem DV.closed (x y:Int):A9 [] (DV x y):=fun _ _ _ hr ⟨v1,v2,e,h1,h2⟩=>⟨v1,v2,e,h1.rex hr rfl,h2.rex hr rfl⟩
theorem rat_yes (A R n d t X:Int) (w:World) (hd: -9223372036854775808<=d/\d<=9223372036854775807) (hX:X.natAbs<2^800) (hd0:0<d) (hd8:d.natAbs<2^800)
  (c1:∀W,Calls Tryz.prog 165 #[.agg #[A,R,n,d],t] W fun e w'=>∃v,e= .returned v/\B3 w' v X/\Below W.heap.size W w')
  (c2:∀W va,B3 W va (X/d)->Cb 106 #[va] W (.tuple #[.int .i64 (X/d),.bool true])) (hb:Ay (X/d)=true):
  Cb 137 #[.agg #[A,R,n,d],t] w (.tuple #[.int .i64 (X/d),.bool true]):=by
 have H_c1:=Hd c1
 clear c1
 have H_c2:=Hd c2
 clear c2
 go_enter Tryz.func137,Tryz.ntmps137
 go_upto_region 1 with(fail)
 refine Ab w (Bc w.heap.size #[A,R,n,d] 132<|Bz) ?_
 rintro W1 hW z2 ⟨⟨b1,yb1,k1,f1⟩,-⟩
 have c1:=H_c1.out
 refine E8 12 33 [] (fun W'=>Rex [] W1 W'/\Blk W' w.heap.size #[A,R,n,d] 132) Cu (by kernel_rfl) rfl ⟨(Rex.refl _ _).drew,b1⟩ (fun w w' ⟨h0,h1⟩ hr=>⟨h0.trans hr,h1.rex hr (by simp<;>omega)⟩) (fun c a d v w h=>by cases d<;>exact h) ?_
 iterate 2
  apply An (hg:=rfl) (hal:=rfl)
  ·intro a W' hC hE
   obtain⟨_,k1⟩:=hC
   have k1:=k1.cell
   first
    |(simp at hE;simp[go_sem,Act.eval,iw,hE,k1];try rfl)
    |(clear hE;simp[go_sem,Act.eval,iw,k1];try rfl)
 apply A5 (NI X) (hg:=rfl) (hal:=rfl)
 ·exact NI.closed _
 ·intro a W' hC hE
  obtain⟨_,k1⟩:=hC
  have k1:=k1.cell
  simp at hE
  refine⟨_,_,?_,(c1 W').mono ?_⟩
  ·simp[go_sem,Act.eval,hE]
   try rfl
  ·rintro e w' ⟨v,rfl,hB,hR⟩
   exact⟨_,rfl,hR,hB⟩
 iterate 2
  apply An (hg:=rfl) (hal:=rfl)
  ·intro a W' hC hE
   obtain⟨_,k1⟩:=hC
   have k1:=k1.cell
   first
    |(simp at hE;simp[go_sem,Act.eval,iw,hE,k1];try rfl)
    |(clear hE;simp[go_sem,Act.eval,iw,k1];try rfl)
 apply A5 (NI d) (hg:=rfl) (hal:=rfl)
 ·exact NI.closed _
 ·intro a W' hC hE
  simp at hE
  refine⟨_,_,?_,(En d W' hd.1 hd.2).mono ?_⟩
  ·simp[go_sem,Act.eval,hE]
   try rfl
  ·rintro e w' ⟨v,rfl,hB,hR⟩
   exact⟨_,rfl,hR,hB⟩
 apply A5 (DV X d) (hg:=rfl) (hal:=rfl)
 ·exact DV.closed _ _
 ·intro a W' hC hE
  simp at hE
  refine⟨_,_,?_,(Sm _ _ X d W' hE.1 hE.2 hX hd0 hd8).mono ?_⟩
  ·simp[go_sem,Act.eval]
   try rfl
  ·rintro e w' ⟨v1,v2,rfl,h1,h2,hR⟩
   exact⟨_,rfl,hR,v1,v2,rfl,h1,h2⟩
 apply Hc (DV X d) (hg:=rfl) (hal:=rfl)
 ·exact DV.closed _ _
 ·intro a W' hC hE
  simp at hE
  refine⟨_,?_,hE⟩
  simp[go_sem,Act.eval]
 apply Hc (NI (X/d)) (hg:=rfl) (hal:=rfl)
 ·exact NI.closed _
 ·intro a W' hC hE
  simp at hE
  obtain⟨v1,v2,h0,h1,h2⟩:=hE
  refine⟨v1,?_,h1⟩
  simp[go_sem,Act.eval,h0]
 apply Hc (NI (X%d)) (hg:=rfl) (hal:=rfl)
 ·exact NI.closed _
 ·intro a W' hC hE
  simp at hE
  obtain⟨v1,v2,h0,h1,h2⟩:=hE
  refine⟨v2,?_,h2⟩
  simp[go_sem,Act.eval,h0]
 apply Dx W1.heap.size #[.bool false,.slice none 0 0] 115 rfl rfl
 ·exact fun W' hC=>hC.1.size
 ·simp[Bn]<;>omega
 ·intro w;kernel_rfl
 apply Dx W1.heap.size #[.bool false,.slice none 0 0] 115 rfl rfl
 ·exact fun W' hC=>hC.1.size
 ·simp[Bn]<;>omega
 ·intro w;kernel_rfl
 rintro W2 ⟨hR,d1⟩
 simp only[A6,Det,forall_eq]
 intros
 repeat (rename Am _ _ _ _=>hgd;clear hgd)
 simp only[nS]
 clear b1
 have b1:=d1
 clear d1
 replace hW:=hW.trans (hR.of_priv hW.size)
 clear hR
 clear H_c1
 try clear c1
 rename Gs _ _=>hap
 rename Ex _ _ _ _ _=>hn7
 obtain⟨o7,rfl,hg7,b3⟩:=hn7
 rename Ex _ _ _ _ _=>hn6
 obtain⟨o6,rfl,hg6,b2⟩:=hn6
 have hne:o6≠o7:=fun e=>hap 6 7 (by simp[Cz,Au]) (by simp[Cz,Au]) (by decide) ⟨o6,0,none⟩ (by simp[Act.put]) (by simp[Act.put,e])
 clear hap
 rename NI (X/d) _ _=>hi1
 rename NI (X%d) _ _=>hi2
 obtain⟨p1,l1,k1',rfl,hq1⟩:=Bm hi1
 obtain⟨p2,l2,k2',rfl,hq2⟩:=Bm hi2
 clear hi1 hi2 hq2
 have hS:=Hd ((hq1.store b2 (.bool (decide (X/d<0))) (.slice p1 l1 k1')).store (show Blk _ o7 #[.bool false,.slice none 0 0] 115 from (b3.setO (by omega) 0 _).setO (by omega) 1 _) (.bool (decide (X%d<0))) (.slice p2 l2 k2'))
 clear hq1
 have z9:=hW.size
 have z10:=b1.lt
 have z11:=b2.lt
 have z12:=b3.lt
 clear k1 f1
 have k1:=b1.cell
 have f1:=b1.frozen
 have k2:=b2.cell
 have f2:=b2.frozen
 have k3:=b3.cell
 have f3:=b3.frozen
 go_upto_region 2 with(fail)
 clear k1 f1 k2 f2 k3 f3
 refine Ab w (Bc o6 #[.bool (decide (X/d<0)),.slice p1 l1 k1'] 115<|Rc (fun W'=>Av W' (.slice p1 l1 k1') (X/d).natAbs)<|Bz) ?_ (hI:=by exact Aa) (hR:=(Bc.mk (by exact Ad)<|Rc.mk (by exact hS.out)<|trivial))
 clear b1 b2 b3 hW
 rintro W3 hW z4 ⟨⟨b1,yb1,k1,f1⟩,b2,-⟩
 have hq:=Hd b2
 clear b2 hS
 go_wp2_with fail
 refine(H_c2.out _ _ ⟨_,rfl,hq.out⟩).mono ?_
 rintro e w5 ⟨rfl,hb5⟩
 have z6:=hb5.size
 try simp at z6
 clear k1 f1
 refine Aj w w5 (Bc o6 #[.bool (decide (X/d<0)),.slice p1 l1 k1'] 115<|Bz) ?_
 clear b1 hW
 rintro hW z7 ⟨⟨b1,yb1,k1,f1⟩,-⟩
 clear hb5
 go_upto_region 3 with(fail)
 clear k1 f1
 refine Ab w (Bc o6 #[.bool (decide (X/d<0)),.slice p1 l1 k1'] 115<|Bz) ?_
 clear b1 hW
 rintro W8 hW z9 hL
 refine Bg 7 33 hW hL ?_
 iterate 3 refine dE (fun W' hC=>hb) ?_
 refine gE (fun W' hC=>hb) ?_
 apply Bu (p:=true) (hg:=rfl) (hd:=rfl) (hal:=rfl)
 ·intro v W' h
  simp at h
  simp
  exact h
 ·intro hp hx W' hC
  exact On (X/d) W'
 ·intro hp hx a W' hC hE
  obtain⟨_,⟨-,-,k1,-⟩,-⟩:=hC
  first
   |(simp[hx] at hE;simp[go_sem,Act.eval,iw,hE,k1,hb];try rfl)
   |(clear hE;simp[go_sem,Act.eval,iw,k1,hb];try rfl)
 refine gE (fun W' hC=>hb) ?_
 refine pO ?_
 clear hW hL
 rintro W10 hW z11 hL
 simp only[ndR]
 intros
 repeat (rename Am _ _ _ _=>hgd;clear hgd)
 simp only[ndS]
 refine wpList_nil ?_
 obtain⟨⟨b1,yb1,k1,f1⟩,-⟩:=hL
 go_wp2
 refine bodyPost_ret (v:= .tuple #[.int .i64 (X/d),.bool true]) (by simp[results,Tryz.results137,go_sem,k1,f1,yb1]) rfl ⟨rfl,hW⟩
theorem rat_back (A R n d t X:Int) (w:World) (hd: -9223372036854775808<=d/\d<=9223372036854775807) (hX:X.natAbs<2^800) (hd0:0<d) (hd8:d.natAbs<2^800)
  (c1:∀W,Calls Tryz.prog 165 #[.agg #[A,R,n,d],t] W fun e w'=>∃v,e= .returned v/\B3 w' v X/\Below W.heap.size W w')
  (c2:∀W va,B3 W va (X/d)->Cb 106 #[va] W (.tuple #[.int .i64 (X/d),.bool true])) (hb:Ay (X/d)=false):
  Cb 137 #[.agg #[A,R,n,d],t] w (.tuple #[.int .i64 0,.bool false]):=by
 have H_c1:=Hd c1
 clear c1
 have H_c2:=Hd c2
 clear c2
 go_enter Tryz.func137,Tryz.ntmps137
 go_upto_region 1 with(fail)
 refine Ab w (Bc w.heap.size #[A,R,n,d] 132<|Bz) ?_
 rintro W1 hW z2 ⟨⟨b1,yb1,k1,f1⟩,-⟩
 have c1:=H_c1.out
 refine E8 12 33 [] (fun W'=>Rex [] W1 W'/\Blk W' w.heap.size #[A,R,n,d] 132) Cu (by kernel_rfl) rfl ⟨(Rex.refl _ _).drew,b1⟩ (fun w w' ⟨h0,h1⟩ hr=>⟨h0.trans hr,h1.rex hr (by simp<;>omega)⟩) (fun c a d v w h=>by cases d<;>exact h) ?_
 iterate 2
  apply An (hg:=rfl) (hal:=rfl)
  ·intro a W' hC hE
   obtain⟨_,k1⟩:=hC
   have k1:=k1.cell
   first
    |(simp at hE;simp[go_sem,Act.eval,iw,hE,k1];try rfl)
    |(clear hE;simp[go_sem,Act.eval,iw,k1];try rfl)
 apply A5 (NI X) (hg:=rfl) (hal:=rfl)
 ·exact NI.closed _
 ·intro a W' hC hE
  obtain⟨_,k1⟩:=hC
  have k1:=k1.cell
  simp at hE
  refine⟨_,_,?_,(c1 W').mono ?_⟩
  ·simp[go_sem,Act.eval,hE]
   try rfl
  ·rintro e w' ⟨v,rfl,hB,hR⟩
   exact⟨_,rfl,hR,hB⟩
 iterate 2
  apply An (hg:=rfl) (hal:=rfl)
  ·intro a W' hC hE
   obtain⟨_,k1⟩:=hC
   have k1:=k1.cell
   first
    |(simp at hE;simp[go_sem,Act.eval,iw,hE,k1];try rfl)
    |(clear hE;simp[go_sem,Act.eval,iw,k1];try rfl)
 apply A5 (NI d) (hg:=rfl) (hal:=rfl)
 ·exact NI.closed _
 ·intro a W' hC hE
  simp at hE
  refine⟨_,_,?_,(En d W' hd.1 hd.2).mono ?_⟩
  ·simp[go_sem,Act.eval,hE]
   try rfl
  ·rintro e w' ⟨v,rfl,hB,hR⟩
   exact⟨_,rfl,hR,hB⟩
 apply A5 (DV X d) (hg:=rfl) (hal:=rfl)
 ·exact DV.closed _ _
 ·intro a W' hC hE
  simp at hE
  refine⟨_,_,?_,(Sm _ _ X d W' hE.1 hE.2 hX hd0 hd8).mono ?_⟩
  ·simp[go_sem,Act.eval]
   try rfl
  ·rintro e w' ⟨v1,v2,rfl,h1,h2,hR⟩
   exact⟨_,rfl,hR,v1,v2,rfl,h1,h2⟩
 apply Hc (DV X d) (hg:=rfl) (hal:=rfl)
 ·exact DV.closed _ _
 ·intro a W' hC hE
  simp at hE
  refine⟨_,?_,hE⟩
  simp[go_sem,Act.eval]
 apply Hc (NI (X/d)) (hg:=rfl) (hal:=rfl)
 ·exact NI.closed _
 ·intro a W' hC hE
  simp at hE
  obtain⟨v1,v2,h0,h1,h2⟩:=hE
  refine⟨v1,?_,h1⟩
  simp[go_sem,Act.eval,h0]
 apply Hc (NI (X%d)) (hg:=rfl) (hal:=rfl)
 ·exact NI.closed _
 ·intro a W' hC hE
  simp at hE
  obtain⟨v1,v2,h0,h1,h2⟩:=hE
  refine⟨v2,?_,h2⟩
  simp[go_sem,Act.eval,h0]
 apply Dx W1.heap.size #[.bool false,.slice none 0 0] 115 rfl rfl
 ·exact fun W' hC=>hC.1.size
 ·simp[Bn]<;>omega
 ·intro w;kernel_rfl
 apply Dx W1.heap.size #[.bool false,.slice none 0 0] 115 rfl rfl
 ·exact fun W' hC=>hC.1.size
 ·simp[Bn]<;>omega
 ·intro w;kernel_rfl
 rintro W2 ⟨hR,d1⟩
 simp only[A6,Det,forall_eq]
 intros
 repeat (rename Am _ _ _ _=>hgd;clear hgd)
 simp only[nS]
 clear b1
 have b1:=d1
 clear d1
 replace hW:=hW.trans (hR.of_priv hW.size)
 clear hR
 clear H_c1
 try clear c1
 rename Gs _ _=>hap
 rename Ex _ _ _ _ _=>hn7
 obtain⟨o7,rfl,hg7,b3⟩:=hn7
 rename Ex _ _ _ _ _=>hn6
 obtain⟨o6,rfl,hg6,b2⟩:=hn6
 have hne:o6≠o7:=fun e=>hap 6 7 (by simp[Cz,Au]) (by simp[Cz,Au]) (by decide) ⟨o6,0,none⟩ (by simp[Act.put]) (by simp[Act.put,e])
 clear hap
 rename NI (X/d) _ _=>hi1
 rename NI (X%d) _ _=>hi2
 obtain⟨p1,l1,k1',rfl,hq1⟩:=Bm hi1
 obtain⟨p2,l2,k2',rfl,hq2⟩:=Bm hi2
 clear hi1 hi2 hq2
 have hS:=Hd ((hq1.store b2 (.bool (decide (X/d<0))) (.slice p1 l1 k1')).store (show Blk _ o7 #[.bool false,.slice none 0 0] 115 from (b3.setO (by omega) 0 _).setO (by omega) 1 _) (.bool (decide (X%d<0))) (.slice p2 l2 k2'))
 clear hq1
 have z9:=hW.size
 have z10:=b1.lt
 have z11:=b2.lt
 have z12:=b3.lt
 clear k1 f1
 have k1:=b1.cell
 have f1:=b1.frozen
 have k2:=b2.cell
 have f2:=b2.frozen
 have k3:=b3.cell
 have f3:=b3.frozen
 go_upto_region 2 with(fail)
 clear k1 f1 k2 f2 k3 f3
 refine Ab w (Bc o6 #[.bool (decide (X/d<0)),.slice p1 l1 k1'] 115<|Rc (fun W'=>Av W' (.slice p1 l1 k1') (X/d).natAbs)<|Bz) ?_ (hI:=by exact Aa) (hR:=(Bc.mk (by exact Ad)<|Rc.mk (by exact hS.out)<|trivial))
 clear b1 b2 b3 hW
 rintro W3 hW z4 ⟨⟨b1,yb1,k1,f1⟩,b2,-⟩
 have hq:=Hd b2
 clear b2 hS
 go_wp2_with fail
 refine(H_c2.out _ _ ⟨_,rfl,hq.out⟩).mono ?_
 rintro e w5 ⟨rfl,hb5⟩
 have z6:=hb5.size
 try simp at z6
 clear k1 f1
 refine Aj w w5 (Bc o6 #[.bool (decide (X/d<0)),.slice p1 l1 k1'] 115<|Bz) ?_
 clear b1 hW
 rintro hW z7 ⟨⟨b1,yb1,k1,f1⟩,-⟩
 clear hb5
 go_upto_region 3 with(fail)
 clear k1 f1
 refine Ab w (Bc o6 #[.bool (decide (X/d<0)),.slice p1 l1 k1'] 115<|Bz) ?_
 clear b1 hW
 rintro W8 hW z9 hL
 refine Bg 7 33 hW hL ?_
 iterate 3 refine dE (fun W' hC=>hb) ?_
 refine gE (fun W' hC=>hb) ?_
 apply Bu (p:=true) (hg:=rfl) (hd:=rfl) (hal:=rfl)
 ·intro v W' h
  simp at h
  simp
  exact h
 ·intro hp hx W' hC
  exact On (X/d) W'
 ·intro hp hx a W' hC hE
  obtain⟨_,⟨-,-,k1,-⟩,-⟩:=hC
  first
   |(simp[hx] at hE;simp[go_sem,Act.eval,iw,hE,k1,hb];try rfl)
   |(clear hE;simp[go_sem,Act.eval,iw,k1,hb];try rfl)
 refine gE (fun W' hC=>hb) ?_
 refine pO ?_
 clear hW hL
 rintro W10 hW z11 hL
 simp only[ndR]
 intros
 repeat (rename Am _ _ _ _=>hgd;clear hgd)
 simp only[ndS]
 refine wpList_nil ?_
 obtain⟨⟨b1,yb1,k1,f1⟩,-⟩:=hL
 go_wp2
 refine bodyPost_ret (v:= .tuple #[.int .i64 0,.bool false]) (by simp[results,Tryz.results137,go_sem,k1,f1,yb1]) rfl ⟨rfl,hW⟩
theorem rat_over (A R n d t X:Int) (w:World) (hd: -9223372036854775808<=d/\d<=9223372036854775807) (hX:X.natAbs<2^800) (hd0:0<d) (hd8:d.natAbs<2^800)
  (c1:∀W,Calls Tryz.prog 165 #[.agg #[A,R,n,d],t] W fun e w'=>∃v,e= .returned v/\B3 w' v X/\Below W.heap.size W w')
  (c2:∀W va,B3 W va (X/d)->Cb 106 #[va] W (.tuple #[.int .i64 0,.bool false])):
  Cb 137 #[.agg #[A,R,n,d],t] w (.tuple #[.int .i64 0,.bool false]):=by
 have H_c1:=Hd c1
 clear c1
 have H_c2:=Hd c2
 clear c2
 go_enter Tryz.func137,Tryz.ntmps137
 go_upto_region 1 with(fail)
 refine Ab w (Bc w.heap.size #[A,R,n,d] 132<|Bz) ?_
 rintro W1 hW z2 ⟨⟨b1,yb1,k1,f1⟩,-⟩
 have c1:=H_c1.out
 refine E8 12 33 [] (fun W'=>Rex [] W1 W'/\Blk W' w.heap.size #[A,R,n,d] 132) Cu (by kernel_rfl) rfl ⟨(Rex.refl _ _).drew,b1⟩ (fun w w' ⟨h0,h1⟩ hr=>⟨h0.trans hr,h1.rex hr (by simp<;>omega)⟩) (fun c a d v w h=>by cases d<;>exact h) ?_
 iterate 2
  apply An (hg:=rfl) (hal:=rfl)
  ·intro a W' hC hE
   obtain⟨_,k1⟩:=hC
   have k1:=k1.cell
   first
    |(simp at hE;simp[go_sem,Act.eval,iw,hE,k1];try rfl)
    |(clear hE;simp[go_sem,Act.eval,iw,k1];try rfl)
 apply A5 (NI X) (hg:=rfl) (hal:=rfl)
 ·exact NI.closed _
 ·intro a W' hC hE
  obtain⟨_,k1⟩:=hC
  have k1:=k1.cell
  simp at hE
  refine⟨_,_,?_,(c1 W').mono ?_⟩
  ·simp[go_sem,Act.eval,hE]
   try rfl
  ·rintro e w' ⟨v,rfl,hB,hR⟩
   exact⟨_,rfl,hR,hB⟩
 iterate 2
  apply An (hg:=rfl) (hal:=rfl)
  ·intro a W' hC hE
   obtain⟨_,k1⟩:=hC
   have k1:=k1.cell
   first
    |(simp at hE;simp[go_sem,Act.eval,iw,hE,k1];try rfl)
    |(clear hE;simp[go_sem,Act.eval,iw,k1];try rfl)
 apply A5 (NI d) (hg:=rfl) (hal:=rfl)
 ·exact NI.closed _
 ·intro a W' hC hE
  simp at hE
  refine⟨_,_,?_,(En d W' hd.1 hd.2).mono ?_⟩
  ·simp[go_sem,Act.eval,hE]
   try rfl
  ·rintro e w' ⟨v,rfl,hB,hR⟩
   exact⟨_,rfl,hR,hB⟩
 apply A5 (DV X d) (hg:=rfl) (hal:=rfl)
 ·exact DV.closed _ _
 ·intro a W' hC hE
  simp at hE
  refine⟨_,_,?_,(Sm _ _ X d W' hE.1 hE.2 hX hd0 hd8).mono ?_⟩
  ·simp[go_sem,Act.eval]
   try rfl
  ·rintro e w' ⟨v1,v2,rfl,h1,h2,hR⟩
   exact⟨_,rfl,hR,v1,v2,rfl,h1,h2⟩
 apply Hc (DV X d) (hg:=rfl) (hal:=rfl)
 ·exact DV.closed _ _
 ·intro a W' hC hE
  simp at hE
  refine⟨_,?_,hE⟩
  simp[go_sem,Act.eval]
 apply Hc (NI (X/d)) (hg:=rfl) (hal:=rfl)
 ·exact NI.closed _
 ·intro a W' hC hE
  simp at hE
  obtain⟨v1,v2,h0,h1,h2⟩:=hE
  refine⟨v1,?_,h1⟩
  simp[go_sem,Act.eval,h0]
 apply Hc (NI (X%d)) (hg:=rfl) (hal:=rfl)
 ·exact NI.closed _
 ·intro a W' hC hE
  simp at hE
  obtain⟨v1,v2,h0,h1,h2⟩:=hE
  refine⟨v2,?_,h2⟩
  simp[go_sem,Act.eval,h0]
 apply Dx W1.heap.size #[.bool false,.slice none 0 0] 115 rfl rfl
 ·exact fun W' hC=>hC.1.size
 ·simp[Bn]<;>omega
 ·intro w;kernel_rfl
 apply Dx W1.heap.size #[.bool false,.slice none 0 0] 115 rfl rfl
 ·exact fun W' hC=>hC.1.size
 ·simp[Bn]<;>omega
 ·intro w;kernel_rfl
 rintro W2 ⟨hR,d1⟩
 simp only[A6,Det,forall_eq]
 intros
 repeat (rename Am _ _ _ _=>hgd;clear hgd)
 simp only[nS]
 clear b1
 have b1:=d1
 clear d1
 replace hW:=hW.trans (hR.of_priv hW.size)
 clear hR
 clear H_c1
 try clear c1
 rename Gs _ _=>hap
 rename Ex _ _ _ _ _=>hn7
 obtain⟨o7,rfl,hg7,b3⟩:=hn7
 rename Ex _ _ _ _ _=>hn6
 obtain⟨o6,rfl,hg6,b2⟩:=hn6
 have hne:o6≠o7:=fun e=>hap 6 7 (by simp[Cz,Au]) (by simp[Cz,Au]) (by decide) ⟨o6,0,none⟩ (by simp[Act.put]) (by simp[Act.put,e])
 clear hap
 rename NI (X/d) _ _=>hi1
 rename NI (X%d) _ _=>hi2
 obtain⟨p1,l1,k1',rfl,hq1⟩:=Bm hi1
 obtain⟨p2,l2,k2',rfl,hq2⟩:=Bm hi2
 clear hi1 hi2 hq2
 have hS:=Hd ((hq1.store b2 (.bool (decide (X/d<0))) (.slice p1 l1 k1')).store (show Blk _ o7 #[.bool false,.slice none 0 0] 115 from (b3.setO (by omega) 0 _).setO (by omega) 1 _) (.bool (decide (X%d<0))) (.slice p2 l2 k2'))
 clear hq1
 have z9:=hW.size
 have z10:=b1.lt
 have z11:=b2.lt
 have z12:=b3.lt
 clear k1 f1
 have k1:=b1.cell
 have f1:=b1.frozen
 have k2:=b2.cell
 have f2:=b2.frozen
 have k3:=b3.cell
 have f3:=b3.frozen
 go_upto_region 2 with(fail)
 clear k1 f1 k2 f2 k3 f3
 refine Ab w (Bc o6 #[.bool (decide (X/d<0)),.slice p1 l1 k1'] 115<|Rc (fun W'=>Av W' (.slice p1 l1 k1') (X/d).natAbs)<|Bz) ?_ (hI:=by exact Aa) (hR:=(Bc.mk (by exact Ad)<|Rc.mk (by exact hS.out)<|trivial))
 clear b1 b2 b3 hW
 rintro W3 hW z4 ⟨⟨b1,yb1,k1,f1⟩,b2,-⟩
 have hq:=Hd b2
 clear b2 hS
 go_wp2_with fail
 refine(H_c2.out _ _ ⟨_,rfl,hq.out⟩).mono ?_
 rintro e w5 ⟨rfl,hb5⟩
 have z6:=hb5.size
 try simp at z6
 clear k1 f1
 refine Aj w w5 (Bc o6 #[.bool (decide (X/d<0)),.slice p1 l1 k1'] 115<|Bz) ?_
 clear b1 hW
 rintro hW z7 ⟨⟨b1,yb1,k1,f1⟩,-⟩
 clear hb5
 go_wp2
 refine bodyPost_ret (v:= .tuple #[.int .i64 0,.bool false]) (by simp[results,Tryz.results137,go_sem,k1,f1,yb1]) rfl ⟨rfl,hW⟩
end Go.Proofs.YtdeghcgakkhbmaaGreat
namespace Go.Proofs.YtdeghcgakkhbmaaGreat
open Go.RowKit
theorem Pq {A R n d t:Int} (h:Cy A R n d=true) (h0:0<=t) (h1:t<=281474976710656):
  (-9223372036854775808<=n/\n<=9223372036854775807)/\(-9223372036854775808<=t/\t<=9223372036854775807)/\(-9223372036854775808<=R/\R<=9223372036854775807)/\(-9223372036854775808<=A/\A<=9223372036854775807)/\(1<=d/\d<=281474976710656)/\
   n.natAbs<2^64/\t.natAbs<2^64/\A.natAbs<2^64/\d.natAbs<2^64/\(n*t).natAbs<2^128/\R.natAbs<2^64/\(A*d).natAbs<2^128/\(n*t+R).natAbs<2^129/\(n*t+R+A*d).natAbs<2^130:=by
 unfold Cy at h
 simp only[Bool.and_eq_true,decide_eq_true_eq] at h
 obtain⟨⟨⟨⟨ha,hs⟩,_⟩,hR0⟩,hR1⟩:=h
 have ha:=Gk.1 ha
 have hs:=Hv hs
 have e1:(n*t).natAbs<2^128:=by
  rw[Int.natAbs_mul,show (2:Nat)^128=2^64*2^64 by rw[<-Nat.pow_add]]
  exact Nat.mul_lt_mul'' (by omega) (by omega)
 have e2:(A*d).natAbs<2^128:=by
  rw[Int.natAbs_mul,show (2:Nat)^128=2^64*2^64 by rw[<-Nat.pow_add]]
  exact Nat.mul_lt_mul'' (by omega) (by omega)
 exact⟨by omega,by omega,by omega,by omega,by omega,by omega,by omega,by omega,by omega,e1,by omega,e2,by omega,by omega⟩
theorem at_div {A R n d t:Int} (hd:1<=d):(n*t+R+A*d)/d=Be A R n d t:=by
 unfold Be
 exact Int.add_mul_ediv_right _ _ (by omega)
theorem Lr {A R n d t:Int} (h:Cy A R n d=true) (h0:0<=t) (h1:t<=281474976710656) (w:World):
  Calls Tryz.prog 165 #[.agg #[A,R,n,d],t] w fun e w'=>∃v,e= .returned v/\B3 w' v (n*t+R+A*d)/\Below w.heap.size w w':=by
 obtain⟨a1,a2,a3,a4,a5,a6,a7,a8,a9,a10,a11,a12,a13,a14⟩:=Pq h h0 h1
 exact rtimes_w A R n d t w a1 a2 a3 a4 (by omega) (C1 64 400 a6 (by omega)) (C1 64 400 a7 (by omega)) (C1 64 400 a8 (by omega)) (C1 64 400 a9 (by omega)) (C1 128 900 a10 (by omega)) (C1 64 900 a11 (by omega)) (C1 129 900 a13 (by omega)) (C1 128 900 a12 (by omega))
theorem c_rat_yes {A R n d t:Int} (h:Cy A R n d=true) (h0:0<=t) (h1:t<=281474976710656) (hb:Ay (Be A R n d t)=true) (w:World):
  Cb 137 #[.agg #[A,R,n,d],t] w (.tuple #[.int .i64 (Be A R n d t),.bool true]):=by
 obtain⟨a1,a2,a3,a4,a5,a6,a7,a8,a9,a10,a11,a12,a13,a14⟩:=Pq h h0 h1
 rw[<-at_div a5.1] at hb⊢
 have hb':=Gk.1 hb
 exact rat_yes A R n d t _ w (by omega) (C1 130 800 a14 (by omega)) (by omega) (C1 64 800 a9 (by omega)) (fun W=>Lr h h0 h1 W) (fun W va hv=>Sk va _ W hv (by omega) (by omega)) hb
theorem c_rat_no {A R n d t:Int} (h:Cy A R n d=true) (h0:0<=t) (h1:t<=281474976710656) (hb:Ay (Be A R n d t)=false) (w:World):
  Cb 137 #[.agg #[A,R,n,d],t] w (.tuple #[.int .i64 0,.bool false]):=by
 obtain⟨a1,a2,a3,a4,a5,a6,a7,a8,a9,a10,a11,a12,a13,a14⟩:=Pq h h0 h1
 rw[<-at_div a5.1] at hb
 by_cases hf: -9223372036854775808<=(n*t+R+A*d)/d/\(n*t+R+A*d)/d<9223372036854775808
 ·exact rat_back A R n d t _ w (by omega) (C1 130 800 a14 (by omega)) (by omega) (C1 64 800 a9 (by omega)) (fun W=>Lr h h0 h1 W) (fun W va hv=>Sk va _ W hv hf.1 hf.2) hb
 ·refine rat_over A R n d t _ w (by omega) (C1 130 800 a14 (by omega)) (by omega) (C1 64 800 a9 (by omega)) (fun W=>Lr h h0 h1 W) (fun W va hv=>Tn va _ W hv ?_ hf)
  have:((n*t+R+A*d)/d).natAbs<=(n*t+R+A*d).natAbs:=by
   have:=Int.natAbs_ediv_le_natAbs (n*t+R+A*d) d
   omega
  exact Nat.lt_of_le_of_lt this (C1 130 900 a14 (by omega))
structure Bj (W:World) (B:Nat) (e:TypeId) (s:Nat) (v:Value) (n:Nat) (xs:List Value):Prop where
 own:W.ownsRow B e s v n xs
theorem Bj.below {w w':World} {B:Nat} {e:TypeId} {s:Nat} {v:Value} {n:Nat} {xs:List Value} (h:Bj w B e s v n xs) (hb:Below w.heap.size w w'):Bj w' B e s v n xs:=by
 obtain⟨h1,h2⟩:=h.own
 refine⟨h1,?_⟩
 rcases h2 with h2|⟨g,cap,cur,hv,hg,hh,rest⟩
 ·exact .inl h2
 ·exact .inr ⟨g,cap,cur,hv,hg,(hb.block g (Array.getElem?_eq_some_iff.1 hh).1).trans hh,rest⟩
theorem Bj.rex {L:List Nat} {w w':World} {B:Nat} {e:TypeId} {s:Nat} {v:Value} {n:Nat} {xs:List Value} (h:Bj w B e s v n xs) (hr:Rex L w w') (hL:L= []):Bj w' B e s v n xs:=by subst hL;exact h.below hr.below
theorem Bj.drew {w:World} {B:Nat} {e:TypeId} {s:Nat} {v:Value} {n:Nat} {xs:List Value} (h:Bj w B e s v n xs):Bj w.drew B e s v n xs:=⟨h.own⟩
theorem Bj.mono {w:World} {B B':Nat} {e:TypeId} {s:Nat} {v:Value} {n:Nat} {xs:List Value} (h:Bj w B e s v n xs) (hB:B'<=B):Bj w B' e s v n xs:=by
 obtain⟨h1,h2⟩:=h.own
 refine⟨h1,?_⟩
 rcases h2 with h2|⟨g,cap,cur,hv,hg,rest⟩
 ·exact .inl h2
 ·exact .inr ⟨g,cap,cur,hv,Nat.le_trans hB hg,rest⟩
theorem Bj.nil (W:World) (B:Nat) (e:TypeId) (s:Nat):Bj W B e s (.slice none 0 0) 0 []:=⟨World.ownsRow_nil _ _ _ _⟩
theorem Blk.grown {W w1:World} {B g:Nat} {cs:Array Value} {t e:TypeId} {s n:Nat} {v:Value} {xs:List Value} {o:Obj} (h:Blk W g cs t) (hown:W.ownsRow B e s v n xs) (ht:t≠e) (hgr:(W.alloc o).grownBy w1 v.ownBlock):Blk w1 g cs t:=by
 have hlt:=h.lt
 have h':(W.alloc o).heap[g]? =some (.cells cs t (0,0)):=(h.alloc o:Blk (W.alloc o) g cs t)
 refine(hgr.block g (by simp;omega) fun e1=> ?_).trans h'
 rcases hown.2 with⟨rfl,_⟩|⟨g',cap,cur,rfl,_,hb,_⟩
 ·simp[Value.ownBlock] at e1
 ·have:g=g':=by simpa [Value.ownBlock] using e1
  subst this
  unfold Blk at h
  rw[h] at hb
  injection hb with hb
  injection hb with _ h2 _
  exact ht h2
theorem Bj.form {W:World} {B n:Nat} {e:TypeId} {s:Nat} {v:Value} {xs:List Value} (h:Bj W B e s v n xs):∃p cap,v= .slice p n cap/\n<=cap/\cap<=9223372036854775807/\(p=none->n=0/\cap=0)/\(∀a,p=some a->a=⟨a.block,0,none⟩/\B<=a.block):=by
 rcases h.own.2 with⟨rfl,h0⟩|⟨g,cap,cur,rfl,hg,hb,hn,hmx,_⟩
 ·subst h0;exact⟨none,0,rfl,Nat.le_refl _,by omega,fun _=>⟨rfl,rfl⟩,fun a e=>by cases e⟩
 ·exact⟨some ⟨g,0,none⟩,cap,rfl,hn,by unfold maxLen at hmx;omega,(fun e=>by cases e),fun a e=>by cases e;exact⟨rfl,hg⟩⟩
theorem Bj.ints {W:World} {B n:Nat} {e:TypeId} {p:Option Addr} {cap:Nat} {l:List Int} (h:Bj W B e 1 (.slice p n cap) n (l.map (Value.int .i64))):A3 W p l:=by
 rcases h.own.2 with⟨h1,h0⟩|⟨g,cap',cur,h1,hg,hb,hn,hmx,_,ht⟩
 ·have:=h.own.1
  simp at this
  subst h0
  have:l= []:=List.length_eq_zero_iff.1 this
  subst this
  exact⟨fun i x hx=>by simp at hx⟩
 ·injection h1 with h2 _ _
  subst h2
  exact Lp hb (by simpa using ht)
theorem Bj.runs {W:World} {B n:Nat} {e:TypeId} {p:Option Addr} {cap:Nat} {l:List Ah} (h:Bj W B e 3 (.slice p n cap) n (As l)):Al W p l:=by
 rcases h.own.2 with⟨h1,h0⟩|⟨g,cap',cur,h1,hg,hb,hn,hmx,_,ht⟩
 ·have:=h.own.1
  rw[Dg] at this
  subst h0
  have:l= []:=List.length_eq_zero_iff.1 (by omega)
  subst this
  exact⟨fun i x hx=>by simp at hx⟩
 ·injection h1 with h2 _ _
  subst h2
  exact Lo hb ht
structure Dd (w:World) (b o:Nat) (l:List Int):Prop where
 ints:A3 w (some ⟨b,o,none⟩) l
theorem Dd.below {w w':World} {b o:Nat} {l:List Int} (h:Dd w b o l) (hb:Below w.heap.size w w'):Dd w' b o l:=⟨h.ints.below hb⟩
theorem Dd.rex {L:List Nat} {w w':World} {b o:Nat} {l:List Int} (h:Dd w b o l) (hr:Rex L w w') (hL:L= []):Dd w' b o l:=by subst hL;exact h.below hr.below
theorem Dd.drew {w:World} {b o:Nat} {l:List Int} (h:Dd w b o l):Dd w.drew b o l:=⟨⟨h.ints.at'⟩⟩
theorem Dd.cellAt {w:World} {b o:Nat} {l:List Int} (h:Dd w b o l) {i:Nat} {x:Int} (hx:l[i]? =some x):w.cell? ⟨b,o+i,none⟩=some (x):=by
 obtain⟨b',o',e,h1⟩:=h.ints.at' i x hx
 cases e
 exact h1
instance : DecidableEq Ah := fun a b =>
 if h:a.f=b.f/\a.s=b.s/\a.c=b.c then isTrue (by obtain⟨a1,a2,a3⟩:=a;obtain⟨b1,b2,b3⟩:=b;obtain⟨h1,h2,h3⟩:=h;simp at h1 h2 h3;subst h1;subst h2;subst h3;rfl)
 else isFalse (fun e=>h (by subst e;exact⟨rfl,rfl,rfl⟩))
def Da (s p:Int):List Int->Nat
 | []=>0
 |t::l=>if t-p=s then Da s t l+1 else 0
theorem extn_le (s:Int):∀(l:List Int) (p:Int),Da s p l<=l.length
 | [],_=>Nat.le_refl _
 |t::l,p=>by
  simp only[Da,List.length_cons]
  split
  ·have:=extn_le s l t;omega
  ·omega
theorem Ua (s p:Int) (k:Nat):p+s+s*((k:Int)+1)=p+s*(((k+1:Nat):Int)+1):=by
 have:s*(((k+1:Nat):Int)+1)=s+s*((k:Int)+1):=by
  rw[show (((k+1:Nat):Int)+1)=1+((k:Int)+1) by omega,Int.mul_add,Int.mul_one]
 omega
theorem Pk (s:Int):∀(l:List Int) (p:Int),l.take (Da s p l)=(List.range (Da s p l)).map fun(k:Nat)=>p+s*((k:Int)+1)
 | [],_=>rfl
 |t::l,p=>by
  simp only[Da]
  split
  ·next h=>
   rw[List.take_succ_cons,Pk s l t,List.range_succ_eq_map,List.map_cons,List.map_map]
   congr 1
   ·simp;omega
   ·apply List.map_congr_left
    intro k _
    show t+s*((k:Int)+1)=p+s*(((k+1:Nat):Int)+1)
    rw[<-Ua,show t=p+s by omega]
  ·simp
theorem U6 (s:Int):∀(l:List Int) (p t:Int) (m:List Int),l.drop (Da s p l)=t::m->t-(p+s*(Da s p l:Int))≠s
 | [],p,t,m,h=>by simp at h
 |x::l,p,t,m,h=>by
  simp only[Da] at h⊢
  split at h
  ·next hx=>
   rw[if_pos hx]
   rw[List.drop_succ_cons] at h
   have ih:=U6 s l x t m h
   have e:p+s*((Da s x l+1:Nat):Int)=x+s*(Da s x l:Int):=by
    rw[show x=p+s by omega,show ((Da s (p+s) l+1:Nat):Int)=1+(Da s (p+s) l:Int) by omega,Int.mul_add,Int.mul_one]
    omega
   rw[e];exact ih
  ·next hx=>
   rw[if_neg hx]
   simp at h
   simp
   rw[<-h.1];exact hx
def ofL:List Int->List Ah
 | []=> []
 | [t]=> [⟨t,0,1⟩]
 |a::b::l=>⟨a,b-a,((Da (b-a) b l+2:Nat):Int)⟩::ofL (l.drop (Da (b-a) b l))
termination_by l=>l.length
decreasing_by simp;omega
theorem Kb :ofL []= []:=by rw[ofL]
theorem L7 (t:Int):ofL [t]= [⟨t,0,1⟩]:=by rw[ofL]
theorem Jt (a b:Int) (l:List Int):ofL (a::b::l)=⟨a,b-a,((Da (b-a) b l+2:Nat):Int)⟩::ofL (l.drop (Da (b-a) b l)):=by rw[ofL]
theorem Xw (a b:Int) (l:List Int):Ce ⟨a,b-a,((Da (b-a) b l+2:Nat):Int)⟩=a::b::l.take (Da (b-a) b l):=by
 unfold Ce
 simp only[]
 rw[Int.toNat_natCast,List.range_succ_eq_map,List.map_cons,List.map_map,List.range_succ_eq_map,List.map_cons,List.map_map,Pk]
 congr 1
 ·simp
 ·congr 1
  ·simp[Function.comp];omega
  ·apply List.map_congr_left
   intro k _
   show a+(b-a)*((k+1+1:Nat):Int)=b+(b-a)*((k:Int)+1)
   rw[show ((k+1+1:Nat):Int)=1+((k:Int)+1) by omega,Int.mul_add,Int.mul_one]
   omega
theorem Xu :∀(n:Nat) (t:List Int),t.length<=n->Ae (ofL t)=t
 |_,[],_=>by rw[Kb];rfl
 |_,[t],_=>by rw[L7];simp[Ae,Ce]
 |0,a::b::l,h=>by simp at h
 |n+1,a::b::l,h=>by
  rw[Jt]
  show Ce _++Ae _=_
  rw[Xw,Xu n _ (by simp at h⊢;omega)]
  simp
structure G8 (t:List Int):Prop where
 up:t.Pairwise (·<·)
 lo:∀x,x∈t->0<=x/\x<=281474976710656
theorem G8.tail {a:Int} {t:List Int} (h:G8 (a::t)):G8 t:=⟨(List.pairwise_cons.1 h.up).2,fun x hx=>h.lo x (by simp[hx])⟩
theorem G8.drop {t:List Int} (h:G8 t) (k:Nat):G8 (t.drop k):=⟨h.up.sublist (List.drop_sublist k t),fun x hx=>h.lo x (List.mem_of_mem_drop hx)⟩
theorem of_first {t:List Int} {q:Ah} (h:(ofL t).head? =some q):t.head? =some q.f:=by
 match t,h with
 | [],h=>simp[Kb] at h
 | [x],h=>simp[L7] at h;subst h;rfl
 |a::b::l,h=>rw[Jt] at h;simp at h;subst h;rfl
theorem Pi (a b:Int) (l:List Int):Dq ⟨a,b-a,((Da (b-a) b l+2:Nat):Int)⟩=b+(b-a)*(Da (b-a) b l:Int):=by
 unfold Dq
 simp only[]
 rw[show ((Da (b-a) b l+2:Nat):Int)-1=1+(Da (b-a) b l:Int) by omega,Int.mul_add,Int.mul_one]
 omega
theorem Y7 (a b:Int) (l:List Int):b+(b-a)*(Da (b-a) b l:Int)∈b::l.take (Da (b-a) b l):=by
 rw[Pk]
 rcases Nat.eq_zero_or_pos (Da (b-a) b l) with h|h
 ·rw[h];simp
 ·refine List.mem_cons_of_mem _ (List.mem_map.2 ⟨Da (b-a) b l-1,List.mem_range.2 (by omega),?_⟩)
  rw[show ((Da (b-a) b l-1:Nat):Int)+1=(Da (b-a) b l:Int) by omega]
theorem of_each :∀(n:Nat) (t:List Int),t.length<=n->t.length<=256->G8 t->(∀r,r∈ofL t->Gz r)/\Kx (ofL t)
 |_,[],_,_,_=>by rw[Kb];exact⟨by simp,trivial⟩
 |_,[t],_,_,h=>by
  rw[L7]
  have:=h.lo t (by simp)
  refine⟨?_,?_⟩
  ·intro r hr
   simp at hr
   subst hr
   exact⟨by simp;omega,by simp;omega,by simp,by simp,by simp,by simp,by simp,by simp[Dq];omega⟩
  ·exact⟨by simp,trivial⟩
 |0,a::b::l,h,_,_=>by simp at h
 |n+1,a::b::l,hn,h256,h=>by
  have hk:=extn_le (b-a) l b
  have ih:=of_each n (l.drop (Da (b-a) b l)) (by simp at hn⊢;omega) (by simp at h256⊢;omega) (h.tail.tail.drop _)
  have ha:=h.lo a (by simp)
  have hb:=h.lo b (by simp)
  have hab:a<b:=(List.pairwise_cons.1 h.up).1 b (by simp)
  have hlm:b+(b-a)*(Da (b-a) b l:Int)∈b::l:=by
   have:=Y7 a b l
   rcases List.mem_cons.1 this with e|e
   ·rw[e];simp
   ·exact List.mem_cons_of_mem _ (List.mem_of_mem_take e)
  have hlast:=h.lo _ (List.mem_cons_of_mem a hlm)
  rw[Jt]
  refine⟨?_,?_⟩
  ·intro r hr
   rcases List.mem_cons.1 hr with e|e
   ·subst e
    refine⟨ha.1,ha.2,by simp;omega,by simp;omega,by simp;omega,by simp at h256;simp;omega,by simp;omega,?_⟩
    rw[Pi];exact hlast.2
   ·exact ih.1 r e
  ·refine⟨?_,ih.2⟩
   intro q hq
   have h1:=of_first hq
   cases hd:l.drop (Da (b-a) b l) with
   |nil=>rw[hd] at h1;simp at h1
   |cons x m=>
    rw[hd] at h1
    simp at h1
    have hs:=U6 _ l b x m hd
    refine⟨⟨?_,?_⟩,by simp;omega⟩
    ·rw[Pi,<-h1]
     have hu:(b::l).Pairwise (·<·):=(List.pairwise_cons.1 h.up).2
     have e:b::l=(b::l.take (Da (b-a) b l))++(x::m):=by rw[<-hd,List.cons_append,List.take_append_drop]
     rw[e,List.pairwise_append] at hu
     exact hu.2.2 _ (Y7 a b l) x (by simp)
    ·rw[Pi,<-h1];exact hs
theorem Mp {l:List Ah} (h:∀r,r∈l->Gz r):((Ae l).length:Int)=cnt l:=C2 l fun r hr=>by have:=(h r hr).c0;omega
theorem Wy :∀(l:List Ah),(∀r,r∈l->1<=r.c)->(l.length:Int)<=cnt l
 | [],_=>by simp[cnt]
 |r::l,h=>by
  have:=Wy l fun r hr=>h r (by simp[hr])
  have:=h r (by simp)
  simp[cnt];omega
theorem of_runs {t:List Int} (h:G8 t) (h0:0<t.length) (h1:t.length<=256):Cf (ofL t):=by
 obtain⟨he,hc⟩:=of_each t.length t (Nat.le_refl _) h1 h
 have ht:=Xu t.length t (Nat.le_refl _)
 have hn:=Mp he
 rw[ht] at hn
 have hg:=Wy _ fun r hr=>(he r hr).c0
 refine⟨?_,by omega,he,by omega,hc⟩
 cases hl:ofL t with
 |nil=>rw[hl] at ht;simp[Ae] at ht;subst ht;simp at h0
 |cons r l=>simp
theorem Zh (s:Int):∀(k:Nat) (p:Int) (m:List Int),(∀x,m.head? =some x->x-(p+s*(k:Int))≠s)->Da s p ((List.range k).map (fun(i:Nat)=>p+s*((i:Int)+1))++m)=k
 |0,p,[],_=>rfl
 |0,p,x::m,h=>by
  have:=h x rfl
  simp at this
  simp[Da,this]
 |k+1,p,m,h=>by
  rw[List.range_succ_eq_map,List.map_cons,List.map_map,List.cons_append]
  simp only[Da]
  rw[if_pos (by simp;omega)]
  congr 1
  have e:(fun(i:Nat)=>p+s*((i:Int)+1))∘Nat.succ=fun(i:Nat)=>(p+s)+s*((i:Int)+1):=by
   funext i
   exact(Ua s p i).symm
  rw[e]
  have:=Zh s k (p+s) m fun x hx=>by
   have h1:=h x hx
   rw[show ((k+1:Nat):Int)=1+(k:Int) by omega,Int.mul_add,Int.mul_one] at h1
   intro h2;apply h1;omega
  simpa using this
theorem Yu :∀(l:List Ah),(∀r,r∈l->Gz r)->Kx l->ofL (Ae l)=l
 | [],_,_=>by simp[Ae,Kb]
 |r::l,he,hc=>by
  have hr:=he r (by simp)
  have ih:=Yu l (fun q hq=>he q (by simp[hq])) hc.tail
  have c0:=hr.c0
  by_cases h1:r.c=1
  ·have hl:l= []:=by
    cases l with
    |nil=>rfl
    |cons q l=>have:=(hc.1 q rfl).2;omega
   subst hl
   obtain⟨f,s,c⟩:=r
   simp at h1
   subst h1
   have hs:s=0:=hr.one.1 rfl
   subst hs
   simp[Ae,Ce,L7]
  ·obtain⟨k,hk⟩:∃k:Nat,r.c=((k+2:Nat):Int):=⟨(r.c-2).toNat,by omega⟩
   obtain⟨f,s,c⟩:=r
   simp at hk
   subst hk
   have e:Ce ⟨f,s,(k:Int)+2⟩=f::(f+s)::(List.range k).map fun(i:Nat)=>(f+s)+s*((i:Int)+1):=by
    unfold Ce
    simp only[]
    rw[show ((k:Int)+2).toNat=k+1+1 by omega,List.range_succ_eq_map,List.map_cons,List.map_map,List.range_succ_eq_map,List.map_cons,List.map_map]
    congr 1
    ·simp
    ·congr 1
     ·simp[Function.comp]
     ·apply List.map_congr_left
      intro i _
      show f+s*((i+1+1:Nat):Int)=_
      rw[show ((i+1+1:Nat):Int)=1+((i:Int)+1) by omega,Int.mul_add,Int.mul_one]
      omega
   have hx:Da s (f+s) ((List.range k).map (fun(i:Nat)=>(f+s)+s*((i:Int)+1))++Ae l)=k:=Zh s k (f+s) _ fun x hx=>by
    cases l with
    |nil=>simp[Ae] at hx
    |cons q l=>
     obtain⟨⟨h2,h3⟩,-⟩:=hc.1 q rfl
     have hq:=he q (by simp)
     have:(Ae (q::l)).head? =some q.f:=by
      obtain⟨j,hj⟩:∃j:Nat,q.c.toNat=j+1:=⟨q.c.toNat-1,by have:=hq.c0;omega⟩
      show (Ce q++Ae l).head? =_
      unfold Ce
      rw[hj,List.range_succ_eq_map]
      simp
     rw[this] at hx
     cases hx
     unfold Dq at h3
     simp only[] at h3
     rw[show (k:Int)+2-1=1+(k:Int) by omega,Int.mul_add,Int.mul_one] at h3
     intro h4;apply h3;omega
   show ofL (Ce _++Ae l)=_
   rw[e,List.cons_append,List.cons_append,Jt,show f+s-f=s by omega,hx,List.drop_left' (by simp),ih]
   simp
def Wt (r:Ah):Bool:=decide (1<=r.c)&&decide (r.c<=256)&&decide (0<=r.s)&&decide (r.s<=281474976710656)&&decide (0<=r.f)&&decide (r.f<=281474976710656)
def fitL (l:List Ah):Bool:=l.all Wt&&decide (cnt l<=256)
def Eg (l:List Ah):List Int:=if fitL l then Ae l else []
def Fd (t:List Int):Bool:=decide (1<=t.length)&&decide (t.length<=256)&&decide (t.Pairwise (·<·))&&t.all fun x=>decide (0<=x)&&decide (x<=281474976710656)
theorem Jc (t:List Int):Fd t=true↔1<=t.length/\t.length<=256/\G8 t:=by
 unfold Fd
 simp only[Bool.and_eq_true,decide_eq_true_eq,List.all_eq_true]
 constructor
 ·rintro⟨⟨⟨a,b⟩,c⟩,d⟩;exact⟨a,b,c,d⟩
 ·rintro⟨a,b,c,d⟩;exact⟨⟨⟨a,b⟩,c⟩,d⟩
def rightR (l:List Ah):Bool:=Fd (Eg l)&&decide (ofL (Eg l)=l)
theorem fit_ok {l:List Ah} (h:Cf l):fitL l=true:=by
 unfold fitL
 simp only[Bool.and_eq_true,decide_eq_true_eq,List.all_eq_true]
 refine⟨fun r hr=> ?_,h.count⟩
 have:=h.each r hr
 have a:=this.f0;have b:=this.f1;have c:=this.s0;have d:=this.s1;have e:=this.c0;have f:=this.c1
 unfold Wt
 simp[a,b,c,d,e,f]
theorem Xt {l:List Ah} (h:Cf l):Eg l=Ae l:=by unfold Eg;rw[if_pos (fit_ok h)]
theorem rising_ok {l:List Ah} (h:Cf l):G8 (Ae l):=⟨Ho l h.each h.chain,Xv l h⟩
theorem cnt_one {l:List Ah} (h:Cf l):1<=cnt l:=by
 have:=Wy l fun r hr=>(h.each r hr).c0
 have:=h.some'
 omega
theorem rightR_is (l:List Ah):rightR l=Et l:=by
 rw[Bool.eq_iff_iff,Ei]
 unfold rightR
 rw[Bool.and_eq_true,Jc,decide_eq_true_eq]
 constructor
 ·rintro⟨⟨h1,h2,h3⟩,h4⟩
  rw[<-h4]
  exact of_runs h3 (by omega) h2
 ·intro h
  have hn:=Mp h.each
  have:=cnt_one h
  have:=h.count
  rw[Xt h]
  exact⟨⟨by omega,by omega,rising_ok h⟩,Yu l h.each h.chain⟩
theorem Tryz.infoI64 :(Tryz.prog.info? 2).map (fun i=>(i.zero,i.size,i.bytes))=some (some (.int .i64 0),1,8):=by kernel_rfl
def tiRel (w:World) (p:Option Addr) (l:List Ah) (cap:Nat) (a':Act) (W:World):Prop:=
 Below w.heap.size w W/\∃(i:Nat) (T:List Int) (v:Value),(∃u:Nat->Value,a'= {tmps:= #[.slice p l.length cap,u 1,.slice none 0 0,v,.int .i64 (i:Int),u 5,u 6,u 7,u 8,u 9,u 10,u 11,u 12,u 13,u 14,u 15,u 16,u 17,u 18,u 19,u 20,u 21,u 22,u 23,u 24,u 25,u 26,u 27,u 28,u 29,u 30,u 31,u 32,u 33,u 34,u 35,u 36,u 37,u 38,u 39,u 40,u 41,u 42,u 43,u 44,u 45,u 46,u 47,u 48,u 49,u 50,u 51,u 52,u 53,u 54,u 55,u 56,u 57,u 58,u 59,u 60,u 61,u 62,u 63,u 64,u 65,u 66,u 67,u 68,u 69],defers:= []})/\
  Bj W w.heap.size 2 1 v T.length (T.map (Value.int .i64))/\T=Ae (l.take i)/\i<=l.length/\(∀r,r∈l.take i->Wt r=true)/\cnt (l.take i)<=256
def tjRel (w:World) (p:Option Addr) (l:List Ah) (cap i:Nat) (T:List Int) (r:Ah) (g:Nat) (a':Act) (W:World):Prop:=
 Below w.heap.size w W/\Blk W g #[r.f,r.s,r.c] 141/\∃(k:Nat) (T1:List Int) (v:Value),(∃u:Nat->Value,a'= {tmps:= #[.slice p l.length cap,u 1,.slice none 0 0,v,.int .i64 (i:Int),.pointer (some ⟨g,0,none⟩),.int .i64 (k:Int),u 7,u 8,u 9,u 10,u 11,u 12,u 13,u 14,u 15,u 16,u 17,u 18,u 19,u 20,u 21,u 22,u 23,u 24,u 25,u 26,u 27,u 28,u 29,u 30,u 31,u 32,u 33,u 34,u 35,u 36,u 37,u 38,u 39,u 40,u 41,u 42,u 43,u 44,u 45,u 46,u 47,u 48,u 49,u 50,u 51,u 52,u 53,u 54,u 55,u 56,u 57,u 58,u 59,u 60,u 61,u 62,u 63,u 64,u 65,u 66,u 67,u 68,u 69],defers:= []})/\
  Bj W w.heap.size 2 1 v T1.length (T1.map (Value.int .i64))/\T1=T++(List.range k).map (fun(j:Nat)=>r.f+r.s*(j:Int))/\(k:Int)<=r.c
theorem Sd :∀(l:List Ah) (k:Nat),(∀r,r∈l->1<=r.c)->cnt (l.take k)<=cnt l
 | [],k,_=>by simp
 |r::l,0,h=>by
  have:=Wy (r::l) h
  simp[cnt] at this⊢
  have:cnt ([]:List Ah)=0:=rfl
  omega
 |r::l,k+1,h=>by
  have:=Sd l k fun q hq=>h q (by simp[hq])
  simp only[List.take_succ_cons,cnt]
  omega
theorem M1 (p:Option Addr) (cap:Nat) (l:List Ah) (w:World) (h:Al w p l) (hlen:l.length<=1000):
  Calls Tryz.prog 135 #[.slice p l.length cap] w fun e w'=>∃v,e= .returned v/\Bj w' w.heap.size 2 1 v (Eg l).length ((Eg l).map (Value.int .i64))/\Below w.heap.size w w':=by
 obtain⟨i0,hi,hz0,hz1,hz2⟩:=info_parts Tryz.infoI64
 go_enter Tryz.func135,Tryz.ntmps135
 go_wp2
 refine wp_loop (tiRel w p l cap) (fun a' _=>l.length-(Ag (a'.tmps.getD 4 undef)).toNat) ?_ ?_
 ·unfold tiRel
  exact⟨Below.refl _ _,0,[],_,Ac rfl,Bj.nil _ _ _ _,by simp[Ae],by omega,by simp,by simp[cnt]⟩
 ·rintro a' W ⟨hW0,i,T,v,⟨u,rfl⟩,hown,hT,hi',hfit,hcnt⟩
  have hz:=hW0.size
  obtain⟨pv,cv,rfl,hcv,hcm,-,-⟩:=hown.form
  have hTl:(T.length:Int)=cnt (l.take i):=by
   rw[hT];exact C2 _ fun r hr=>by have:=hfit r hr;unfold Wt at this;simp at this;omega
  have hT256:T.length<=256:=by omega
  replace hT:=Hd hT
  replace hfit:=Hd hfit
  replace hcnt:=Hd hcnt
  replace hTl:=Hd hTl
  rcases Nat.lt_or_ge i l.length with hlt|hge
  ·obtain⟨r,hri⟩:∃r,l[i]? =some r:=⟨l[i]'(by omega),List.getElem?_eq_getElem (by omega)⟩
   obtain⟨b,o,rfl,k0,k1,k2⟩:=(h.below hW0).at' i r hri
   replace hri:=Hd hri
   obtain⟨S,hS⟩:∃S,wrap64 ((T.length:Int)+r.c)=S:=⟨_,rfl⟩
   replace hS:=Hd hS
   go_upto_region 6 with(fail)
   refine Ab W (Bc W.heap.size #[r.f,r.s,r.c] 141<|Rc (fun W'=>Bj W' w.heap.size 2 1 (.slice pv T.length cv) T.length (T.map (Value.int .i64)))<|Bz) ?_ (hI:=by exact Aa) (hR:=(Bc.mk (by exact Ad)<|Rc.mk (by exact hown.below Aa)<|trivial))
   rintro W1 hW z2 hL
   obtain⟨⟨b1,yb1,k1,f1⟩,b2,-⟩:=id hL
   clear k1 f1
   refine Bg 36 70 hW hL ?_
   iterate 4 refine dE (fun W' hC=>hS.out) ?_
   iterate 3 refine gE (fun W' hC=>hS.out) ?_
   refine pO ?_
   refine dE (fun W' hC=>hS.out) ?_
   iterate 6 refine gE (fun W' hC=>hS.out) ?_
   refine pO ?_
   refine dE (fun W' hC=>hS.out) ?_
   iterate 3 refine gE (fun W' hC=>hS.out) ?_
   refine pO ?_
   refine dE (fun W' hC=>hS.out) ?_
   iterate 3 refine gE (fun W' hC=>hS.out) ?_
   refine pO ?_
   refine dE (fun W' hC=>hS.out) ?_
   iterate 3 refine gE (fun W' hC=>hS.out) ?_
   refine pO ?_
   refine dE (fun W' hC=>hS.out) ?_
   iterate 3 refine gE (fun W' hC=>hS.out) ?_
   refine pO ?_
   clear hW hL b1 b2
   rintro W3 hW z4 hL
   simp only[ndR]
   intros
   simp only[ndS]
   refine wpList_nil ?_
   obtain⟨⟨b1,yb1,k1,f1⟩,b2,-⟩:=hL
   obtain⟨F,hF⟩:∃F,(decide (r.c<1)||decide (256<r.c)||decide (256<S)||decide (r.s<0)||decide (281474976710656<r.s)||decide (r.f<0)||decide (281474976710656<r.f))=F:=⟨_,rfl⟩
   rw[hF]
   have hrt:=Hd (show (l.take (i+1))=l.take i++ [r] by rw[List.take_succ_eq_append_getElem hlt];have:=hri.out;rw[List.getElem?_eq_getElem hlt] at this;injection this with this;rw[this])
   cases F with
   |true=>
    have hG:Eg l= []:=by
     unfold Eg
     rw[if_neg]
     intro hh
     unfold fitL at hh
     simp only[Bool.and_eq_true,List.all_eq_true,decide_eq_true_eq] at hh
     have hr:=hh.1 r (List.mem_of_getElem? hri.out)
     unfold Wt at hr
     simp at hr
     simp at hF
     have hc2:=Sd l (i+1) fun q hq=>by have:=hh.1 q hq;unfold Wt at this;simp at this;omega
     rw[hrt.out,Kg] at hc2
     simp only[cnt] at hc2
     have h3:=hTl.out
     have h4:=hS.out
     rw[Ak] at h4
     omega
    clear hF
    replace hG:=Hd hG
    go_wp2
    go_ret
    exact⟨_,rfl,by rw[hG.out];exact Bj.nil _ _ _ _,hW0.trans (hW.mono hz)⟩
   |false=>
    simp only[Bool.or_eq_false_iff,decide_eq_false_iff_not] at hF
    obtain⟨⟨⟨⟨⟨⟨f1,f2⟩,f3⟩,f4⟩,f5⟩,f6⟩,f7⟩:=hF
    have hSS:S=T.length+r.c:=by have h4:=hS.out;rw[Ak] at h4;omega
    clear hS
    subst hSS
    have zb:=b1.lt
    have zz:=Nat.le_trans hz hW.size
    have hB1:=hW0.trans (hW.mono hz)
    clear hW hown k0 k1 k2
    go_wp2
    refine wp_loop (tjRel w (some ⟨b,o,none⟩) l cap i T r W.heap.size) (fun a' _=>r.c.toNat-(Ag (a'.tmps.getD 6 undef)).toNat) ?_ ?_
    ·unfold tjRel
     exact⟨hB1,b1,0,T,_,Ac rfl,b2,by simp,by omega⟩
    ·rintro a' W2 ⟨hW1,b1,k,T1,v,⟨u,rfl⟩,hown,hT1,hk⟩
     have ya1:=hW1.size
     have zb2:=b1.lt
     have hl1:T1.length=T.length+k:=by rw[hT1];simp
     have hl9:T1.length<=256:=by omega
     replace hT1:=Hd hT1
     replace hl1:=Hd hl1
     have k1:=b1.cell
     have g1:=b1.frozen
     rcases Int.lt_or_le (k:Int) r.c with hkc|hkc
     ·obtain⟨M,hM⟩:∃M,(k:Int)*r.s=M:=⟨_,rfl⟩
      have m0:0<=M:=hM▸Int.mul_nonneg (by omega) (by omega)
      have m1:M<=256*281474976710656:=hM▸Int.mul_le_mul (by omega) (by omega) (by omega) (by omega)
      have hown':=hown.own
      go_wp2_with (at_builtin;refine wpList_append_own _ rfl (.tmp 59) (.tmp 67) 133 rfl w.heap.size 2 i0 (.int .i64 0) 1 8 (by kernel_rfl) hi hz0 hz1 hz2 rfl (by decide) _ _ _ rfl (hown'.alloc _) ⟨W2.heap.size,0,none⟩ 1 1 [.int .i64 (r.f+M)] rfl rfl (cell_one_new _ _ _) (by simp[Value.oneCell']) (by simp[maxLen];omega) (by omega) (by simp;omega) ?_)
      intro v' w1 hown2 hgr _
      have hB:=Hd (A7 hW1 ya1 hown' hgr)
      have b2:=b1.grown hown' (by decide) hgr
      clear hgr hown' hown
      replace hown2:=Hd hown2
      clear b1 k1 g1
      go_wp2
      rw[show (k:Int)+1=((k+1:Nat):Int) by omega]
      refine⟨?_,by simp[Ag];omega⟩
      unfold tjRel
      exact⟨hB.out,b2,k+1,T1++ [r.f+M],v',Ac rfl,⟨by simpa using hown2.out⟩,by rw[hT1.out,List.range_succ,List.map_append,List.append_assoc,<-hM,Int.mul_comm];rfl,by omega⟩
     ·have hkc2:(k:Int)=r.c:=by omega
      have hTT:=Hd (show T1=Ae (l.take (i+1)) by
       rw[hrt.out,E9,hT1.out,<-hT.out]
       show _=T++(Ce r++ [])
       rw[List.append_nil]
       unfold Ce
       rw[show r.c.toNat=k by omega])
      have hfit2:=Hd (show∀q,q∈l.take (i+1)->Wt q=true by
       intro q hq
       rw[hrt.out] at hq
       rcases List.mem_append.1 hq with hq|hq
       ·exact hfit.out q hq
       ·rw[List.mem_singleton.1 hq]
        unfold Wt
        simp
        omega)
      have hcnt2:=Hd (show cnt (l.take (i+1))<=256 by
       rw[hrt.out,Kg,<-hTl.out]
       simp only[cnt]
       omega)
      clear hkc2 f3
      go_wp2
      rw[show (i:Int)+1=((i+1:Nat):Int) by omega]
      refine⟨?_,by simp[Ag];omega⟩
      unfold tiRel
      exact⟨hW1,i+1,T1,v,Ac rfl,hown,hTT.out,by omega,hfit2.out,hcnt2.out⟩
  ·obtain rfl:i=l.length:=by omega
   have hG:Eg l=T:=by
    unfold Eg fitL
    have h1:=hfit.out
    have h2:=hcnt.out
    rw[List.take_length] at h1 h2
    rw[if_pos (by simp only[Bool.and_eq_true,List.all_eq_true,decide_eq_true_eq];exact⟨h1,h2⟩),hT.out,List.take_length]
   replace hG:=Hd hG
   go_wp2
   go_ret
   exact⟨_,rfl,by rw[hG.out];exact hown,hW0⟩
structure UpTo (T:List Int) (n:Nat):Prop where
 lo:∀(k:Nat) (x:Int),k<n->T[k]? =some x->0<=x/\x<=281474976710656
 up:∀(k:Nat) (x y:Int),k+1<n->T[k]? =some x->T[k+1]? =some y->x<y
theorem UpTo.pair :∀ {T:List Int},UpTo T T.length->T.Pairwise (·<·)
 | [],_=>List.Pairwise.nil
 | [a],_=>by simp
 |a::b::l,h=>by
  have ht:UpTo (b::l) (b::l).length:=⟨fun k x hk hx=>h.lo (k+1) x (by simp at hk⊢;omega) (by simpa using hx),fun k x y hk hx hy=>h.up (k+1) x y (by simp at hk⊢;omega) (by simpa using hx) (by simpa using hy)⟩
  have ih:=ht.pair
  have hab:a<b:=h.up 0 a b (by simp) (by simp) (by simp)
  refine List.pairwise_cons.2 ⟨fun c hc=> ?_,ih⟩
  rcases List.mem_cons.1 hc with rfl|hc
  ·exact hab
  ·have:=(List.pairwise_cons.1 ih).1 c hc;omega
theorem UpTo.rising {T:List Int} (h:UpTo T T.length) (h0:1<=T.length) (h1:T.length<=256):Fd T=true:=
 (Jc T).2 ⟨h0,h1,h.pair,fun x hx=>by
  obtain⟨k,hk⟩:=List.getElem?_of_mem hx
  exact h.lo k x (List.getElem?_eq_some_iff.1 hk).1 hk⟩
theorem J6 {T:List Int} (h:¬(1<=T.length/\T.length<=256/\G8 T)):Fd T=false:=by
 rcases hb:Fd T with _|_
 ·rfl
 ·exact absurd ((Jc T).1 hb) h
def Vz (w:World) (b o cap:Nat) (T:List Int) (a':Act) (W:World):Prop:=
 Below w.heap.size w W/\∃(i:Nat),(∃u:Nat->Value,a'= {tmps:= #[.slice (some ⟨b,o,none⟩) T.length cap,u 1,.bool false,.int .i64 (i:Int),u 4,u 5,u 6,u 7,u 8,u 9,u 10,u 11,u 12,u 13,u 14,u 15,u 16,u 17,u 18,u 19,u 20,u 21,u 22,u 23,u 24,u 25,u 26,u 27,u 28,u 29,u 30,u 31,u 32,u 33,u 34,u 35,u 36,u 37,u 38,u 39,u 40,u 41,u 42,u 43,u 44,u 45],defers:= []})/\i<=T.length/\UpTo T i
theorem P7 (p:Option Addr) (cap:Nat) (T:List Int) (w:World) (hlen:T.length<=1000000) (hT0:A3 w p T):
  Cb 197 #[.slice p T.length cap] w (.bool (Fd T)):=by
 go_enter Tryz.func197,Tryz.ntmps197
 rcases Nat.lt_or_ge T.length 1 with h1|h1
 ·have hr:=J6 (T:=T) (by omega)
  rw[hr]
  clear hr
  go_wp2
  go_ret
  exact⟨rfl,Below.refl _ _⟩
 rcases Nat.lt_or_ge 256 T.length with h2|h2
 ·have hr:=J6 (T:=T) (by omega)
  rw[hr]
  clear hr
  go_wp2
  go_ret
  exact⟨rfl,Below.refl _ _⟩
 obtain⟨b,o,rfl⟩:∃b o,p=some ⟨b,o,none⟩:=by
  obtain⟨b,o,e,_⟩:=hT0.at' 0 _ (List.getElem?_eq_getElem (show 0<T.length by omega))
  exact⟨b,o,e⟩
 go_wp2
 refine wp_loop (Vz w b o cap T) (fun a' _=>T.length-(Ag (a'.tmps.getD 3 undef)).toNat) ?_ ?_
 ·unfold Vz
  exact⟨Below.refl _ _,0,Ac rfl,by omega,⟨fun k x hk=>by omega,fun k x y hk=>by omega⟩⟩
 ·rintro a' W ⟨hW0,i,⟨u,rfl⟩,hi',hup⟩
  have hz:=hW0.size
  have hT:Dd W b o T:=⟨hT0.below hW0⟩
  replace hup:=Hd hup
  rcases Nat.lt_or_ge i T.length with hlt|hge
  ·obtain⟨x,tx⟩:∃x,T[i]? =some x:=⟨T[i]'(by omega),List.getElem?_eq_getElem (by omega)⟩
   replace tx:=Hd tx
   rcases Nat.eq_zero_or_pos i with hi0|hi0
   ·have e10:=Hd (show decide (0<(i:Int))=false by simp;omega)
    replace hi0:=Hd hi0
    go_upto_region 6 with(fail)
    refine Ab W (Rc (fun W'=>Dd W' b o T)<|Bz) ?_ (hI:=by exact Aa) (hR:=(Rc.mk (by exact hT.below Aa)<|trivial))
    rintro W1 hW z2 hL
    obtain⟨b1,-⟩:=id hL
    refine Dn 28 46 hW hL ?_
    iterate 6 refine dE (fun W' hC=>aI (hC.2.1.cellAt tx.out) (aI hlt e10.out)) ?_
    iterate 5 refine gE (fun W' hC=>aI (hC.2.1.cellAt tx.out) (aI hlt e10.out)) ?_
    refine pO ?_
    refine dE (fun W' hC=>aI (hC.2.1.cellAt tx.out) (aI hlt e10.out)) ?_
    iterate 3 refine gE (fun W' hC=>aI (hC.2.1.cellAt tx.out) (aI hlt e10.out)) ?_
    apply Ai (p:=_) (c:=undef) (hg:=rfl) (hd:=rfl) (hal:=rfl)
    ·intro v W' h
     exact h
    ·intro hp hx
     exfalso
     simp at hx
     have:=hi0.out
     omega
    apply Ai (p:=_) (c:=undef) (hg:=rfl) (hd:=rfl) (hal:=rfl)
    ·intro v W' h
     exact h
    ·intro hp hx
     exfalso
     simp at hx
     have:=hi0.out
     omega
    apply Ai (p:=_) (c:=undef) (hg:=rfl) (hd:=rfl) (hal:=rfl)
    ·intro v W' h
     exact h
    ·intro hp hx
     exfalso
     simp at hx
     have:=hi0.out
     omega
    apply Ai (p:=_) (c:=undef) (hg:=rfl) (hd:=rfl) (hal:=rfl)
    ·intro v W' h
     exact h
    ·intro hp hx
     exfalso
     simp at hx
     have:=hi0.out
     omega
    apply Ai (p:=_) (c:=undef) (hg:=rfl) (hd:=rfl) (hal:=rfl)
    ·intro v W' h
     exact h
    ·intro hp hx
     exfalso
     simp at hx
     have:=hi0.out
     omega
    apply Ai (p:=_) (c:=undef) (hg:=rfl) (hd:=rfl) (hal:=rfl)
    ·intro v W' h
     exact h
    ·intro hp hx
     exfalso
     simp at hx
     have:=hi0.out
     omega
    apply Ai (p:=_) (c:=undef) (hg:=rfl) (hd:=rfl) (hal:=rfl)
    ·intro v W' h
     exact h
    ·intro hp hx
     exfalso
     simp at hx
     have:=hi0.out
     omega
    apply Ai (p:=_) (c:=undef) (hg:=rfl) (hd:=rfl) (hal:=rfl)
    ·intro v W' h
     exact h
    ·intro hp hx
     exfalso
     simp at hx
     have:=hi0.out
     omega
    apply Ai (p:=_) (c:=undef) (hg:=rfl) (hd:=rfl) (hal:=rfl)
    ·intro v W' h
     exact h
    ·intro hp hx
     exfalso
     simp at hx
     have:=hi0.out
     omega
    apply Ai (p:=_) (c:=undef) (hg:=rfl) (hd:=rfl) (hal:=rfl)
    ·intro v W' h
     exact h
    ·intro hp hx
     exfalso
     simp at hx
     have:=hi0.out
     omega
    apply Dp (y:=false) (p:=true) (ho:=rfl) (hg:=rfl) (hd:=rfl)
    ·intro v W' h
     simp[Af,Det] at h
     simp
     exact h
    ·intro _ hx v W' h
     simp[Af,Det,Am,hx] at h
     exact h
    ·intro hp hx v W' h hy
     exfalso
     simp at hy
     have:=hi0.out
     omega
    refine pO ?_
    clear hW hL b1
    rintro W3 hW z4 hL
    simp only[ndR]
    intros
    repeat (rename Am _ _ _ _=>hgd;clear hgd)
    simp only[ndS]
    refine wpList_nil ?_
    obtain⟨b1,-⟩:=hL
    obtain⟨F,hF⟩:∃F,(decide (x<0)||decide (281474976710656<x)||false)=F:=⟨_,rfl⟩
    rw[hF]
    cases F with
    |true=>
     have hr:=Hd (show Fd T=false from J6 (fun hh=>by
      have h3:=hh.2.2.lo x (List.mem_of_getElem? tx.out)
      simp at hF;omega))
     clear hF
     go_wp2
     go_ret
     exact⟨by rw[hr.out];rfl,hW0.trans (hW.mono hz)⟩
    |false=>
     have hup':=Hd (show UpTo T (i+1) from ⟨fun k v hk hv=>by
       rcases Nat.lt_or_ge k i with h|h
       ·exact hup.out.lo k v h hv
       ·obtain rfl:k=i:=by omega
        rw[tx.out] at hv
        injection hv with hv
        subst hv
        simp at hF;omega,fun k v v' hk hv hw=>by
       rcases Nat.lt_or_ge (k+1) i with h|h
       ·exact hup.out.up k v v' h hv hw
       ·have e:k+1=i:=by omega
        have:=hi0.out;omega⟩)
     clear hF
     go_wp2
     rw[show (i:Int)+1=((i+1:Nat):Int) by omega]
     refine⟨?_,by simp[Ag];omega⟩
     unfold Vz
     exact⟨hW0.trans (hW.mono hz),i+1,Ac rfl,by omega,hup'.out⟩
   ·obtain⟨y,ty⟩:∃y,T[i-1]? =some y:=⟨T[i-1]'(by omega),List.getElem?_eq_getElem (by omega)⟩
    replace ty:=Hd ty
    have e8:=Hd (show wrap64 ((i:Int)-1)=((i-1:Nat):Int) by rw[Ak];omega)
    have e9:i-1<T.length:=by omega
    have e10:=Hd (show decide (0<(i:Int))=true by simp;omega)
    go_upto_region 6 with(fail)
    refine Ab W (Rc (fun W'=>Dd W' b o T)<|Bz) ?_ (hI:=by exact Aa) (hR:=(Rc.mk (by exact hT.below Aa)<|trivial))
    rintro W1 hW z2 hL
    obtain⟨b1,-⟩:=id hL
    refine Dn 28 46 hW hL ?_
    iterate 6 refine dE (fun W' hC=>aI (hC.2.1.cellAt tx.out) (aI (hC.2.1.cellAt ty.out) (aI e8.out (aI e9 (aI e10.out hlt))))) ?_
    iterate 5 refine gE (fun W' hC=>aI (hC.2.1.cellAt tx.out) (aI (hC.2.1.cellAt ty.out) (aI e8.out (aI e9 (aI e10.out hlt))))) ?_
    refine pO ?_
    refine dE (fun W' hC=>aI (hC.2.1.cellAt tx.out) (aI (hC.2.1.cellAt ty.out) (aI e8.out (aI e9 (aI e10.out hlt))))) ?_
    iterate 3 refine gE (fun W' hC=>aI (hC.2.1.cellAt tx.out) (aI (hC.2.1.cellAt ty.out) (aI e8.out (aI e9 (aI e10.out hlt))))) ?_
    iterate 10 refine gF (fun W' hC=>aI (hC.2.1.cellAt tx.out) (aI (hC.2.1.cellAt ty.out) (aI e8.out (aI e9 (aI e10.out hlt))))) ?_
    refine pgA ?_
    refine pO ?_
    clear hW hL b1
    rintro W3 hW z4 hL
    simp only[ndR]
    intros
    repeat (rename Am _ _ _ _=>hgd;clear hgd)
    simp only[ndS]
    refine wpList_nil ?_
    obtain⟨b1,-⟩:=hL
    obtain⟨F,hF⟩:∃F,(decide (x<0)||decide (281474976710656<x)||decide (0<i)&&decide (x<=y))=F:=⟨_,rfl⟩
    rw[hF]
    cases F with
    |true=>
     have hr:=Hd (show Fd T=false from J6 (fun hh=>by
      have h3:=hh.2.2.lo x (List.mem_of_getElem? tx.out)
      have h4:=List.pairwise_iff_getElem.1 hh.2.2.up (i-1) i e9 hlt (by omega);have t1:=tx.out;have t2:=ty.out;rw[List.getElem?_eq_getElem hlt] at t1;rw[List.getElem?_eq_getElem e9] at t2;injection t1 with t1;injection t2 with t2;rw[t1,t2] at h4;simp at hF;omega))
     clear hF
     go_wp2
     go_ret
     exact⟨by rw[hr.out];rfl,hW0.trans (hW.mono hz)⟩
    |false=>
     have hup':=Hd (show UpTo T (i+1) from ⟨fun k v hk hv=>by
       rcases Nat.lt_or_ge k i with h|h
       ·exact hup.out.lo k v h hv
       ·obtain rfl:k=i:=by omega
        rw[tx.out] at hv
        injection hv with hv
        subst hv
        simp at hF;omega,fun k v v' hk hv hw=>by
       rcases Nat.lt_or_ge (k+1) i with h|h
       ·exact hup.out.up k v v' h hv hw
       ·have e:k+1=i:=by omega
        rw[e,tx.out] at hw;rw[show k=i-1 by omega,ty.out] at hv;injection hv with hv;injection hw with hw;subst hv;subst hw;simp at hF;omega⟩)
     clear hF
     go_wp2
     rw[show (i:Int)+1=((i+1:Nat):Int) by omega]
     refine⟨?_,by simp[Ag];omega⟩
     unfold Vz
     exact⟨hW0.trans (hW.mono hz),i+1,Ac rfl,by omega,hup'.out⟩
  ·obtain rfl:i=T.length:=by omega
   have hr:=Hd (hup.out.rising h1 h2)
   go_wp2
   go_ret
   exact⟨by rw[hr.out];rfl,hW0⟩
theorem Em (W:World) (a b c:Value) (t:TypeId) (j:Nat) (u:Value) (h: [a,b,c][j]? =some u):(W.alloc (.cells #[a,b,c] t)).cell? ((⟨W.heap.size,0,none⟩:Addr).add j)=some u:=by
 have hb:Blk (W.alloc (.cells #[a,b,c] t)) W.heap.size #[a,b,c] t:=Blk.new' rfl
 have hadd:(⟨W.heap.size,0,none⟩:Addr).add j=⟨W.heap.size,j,none⟩:=by unfold Addr.add;split<;>simp_all
 rw[hadd,hb.cell]
 simpa using h
theorem F3 (L:List Ah) (r:Ah):As (L++ [r])=As L++ [.int .i64 r.f,.int .i64 r.s,.int .i64 r.c]:=by
 induction L with
 |nil=>rfl
 |cons q L ih=>simp only[List.cons_append,As,ih]
theorem drop_two {T:List Int} {i:Nat} {a b:Int} (ha:T[i]? =some a) (hb:T[i+1]? =some b):T.drop i=a::b::T.drop (i+2):=by
 obtain⟨h1,rfl⟩:=List.getElem?_eq_some_iff.1 ha
 obtain⟨h2,rfl⟩:=List.getElem?_eq_some_iff.1 hb
 rw[List.drop_eq_getElem_cons h1,List.drop_eq_getElem_cons h2]
theorem of_step {T:List Int} {i j:Nat} {a b:Int} (ha:T[i]? =some a) (hb:T[i+1]? =some b) (hij:i+1<=j) (hx:Da (b-a) b (T.drop (i+2))=j-i-1):ofL (T.drop i)=⟨a,b-a,((j-i+1:Nat):Int)⟩::ofL (T.drop (j+1)):=by
 rw[drop_two ha hb,Jt,hx,List.drop_drop]
 congr 2
 ·rw[show j-i-1+2=j-i+1 by omega]
 ·congr 1;omega
theorem of_last {T:List Int} {i:Nat} {a:Int} (ha:T[i]? =some a) (hl:i+1=T.length):ofL (T.drop i)= [⟨a,0,1⟩]:=by
 obtain⟨h1,rfl⟩:=List.getElem?_eq_some_iff.1 ha
 rw[List.drop_eq_getElem_cons h1,List.drop_eq_nil_of_le (by omega),L7]
theorem extn_on {T:List Int} {j:Nat} {x y s:Int} (hy:T[j+1]? =some y) (h:y-x=s):Da s x (T.drop (j+1))=Da s y (T.drop (j+2))+1:=by
 obtain⟨h1,rfl⟩:=List.getElem?_eq_some_iff.1 hy
 rw[List.drop_eq_getElem_cons h1]
 simp only[Da]
 rw[if_pos h]
theorem extn_off {T:List Int} {j:Nat} {x y s:Int} (hy:T[j+1]? =some y) (h:¬y-x=s):Da s x (T.drop (j+1))=0:=by
 obtain⟨h1,rfl⟩:=List.getElem?_eq_some_iff.1 hy
 rw[List.drop_eq_getElem_cons h1]
 simp only[Da]
 rw[if_neg h]
theorem extn_end {T:List Int} {j:Nat} {x s:Int} (h:j+1=T.length):Da s x (T.drop (j+1))=0:=by
 rw[List.drop_eq_nil_of_le (by omega)];rfl
def ofRel (w:World) (b o cap:Nat) (T:List Int) (a':Act) (W:World):Prop:=
 Below w.heap.size w W/\∃(i:Nat) (L:List Ah) (v:Value),(∃u:Nat->Value,a'= {tmps:= #[.slice (some ⟨b,o,none⟩) T.length cap,u 1,.slice none 0 0,v,.int .i64 (i:Int),u 5,u 6,u 7,u 8,u 9,u 10,u 11,u 12,u 13,u 14,u 15,u 16,u 17,u 18,u 19,u 20,u 21,u 22,u 23,u 24,u 25,u 26,u 27,u 28,u 29,u 30,u 31,u 32,u 33,u 34,u 35,u 36,u 37,u 38,u 39,u 40,u 41,u 42,u 43,u 44,u 45,u 46,u 47,u 48,u 49,u 50,u 51,u 52,u 53,u 54,u 55,u 56,u 57,u 58,u 59,u 60,u 61,u 62,u 63,u 64,u 65,u 66,u 67,u 68,u 69,u 70,u 71,u 72,u 73,u 74,u 75,u 76,u 77,u 78,u 79,u 80],defers:= []})/\
  Bj W w.heap.size 141 3 v L.length (As L)/\ofL T=L++ofL (T.drop i)/\i<=T.length/\L.length<=i
def ojRel (w:World) (b o cap:Nat) (T:List Int) (i:Nat) (v:Value) (L:List Ah) (s x1:Int) (a':Act) (W:World):Prop:=
 Below w.heap.size w W/\∃(j:Nat) (x:Int),(∃u:Nat->Value,a'= {tmps:= #[.slice (some ⟨b,o,none⟩) T.length cap,u 1,.slice none 0 0,v,.int .i64 (i:Int),.int .i64 (j:Int),u 6,u 7,u 8,u 9,u 10,u 11,u 12,u 13,u 14,u 15,u 16,u 17,u 18,u 19,u 20,u 21,u 22,u 23,u 24,u 25,u 26,u 27,u 28,u 29,u 30,u 31,u 32,u 33,u 34,u 35,u 36,u 37,u 38,u 39,u 40,u 41,u 42,u 43,u 44,u 45,u 46,u 47,u 48,u 49,u 50,u 51,u 52,u 53,u 54,u 55,u 56,u 57,u 58,u 59,u 60,u 61,u 62,u 63,u 64,u 65,u 66,u 67,u 68,u 69,u 70,u 71,u 72,u 73,u 74,u 75,u 76,u 77,u 78,u 79,u 80],defers:= []})/\
  Bj W w.heap.size 141 3 v L.length (As L)/\i+1<=j/\j<T.length/\T[j]? =some x/\Da s x1 (T.drop (i+2))=(j-i-1)+Da s x (T.drop (j+1))
theorem refof_w (b o cap:Nat) (T:List Int) (w:World) (hlen:T.length<=256) (hr:G8 T) (hT0:Dd w b o T):
  Calls Tryz.prog 199 #[.slice (some ⟨b,o,none⟩) T.length cap] w fun e w'=>∃v,e= .returned v/\Bj w' w.heap.size 141 3 v (ofL T).length (As (ofL T))/\Below w.heap.size w w':=by
 obtain⟨i0,hi,hz0,hz1,hz2⟩:=info_parts Tryz.infoRun
 have hbd:=Hd (fun(k:Nat) (x:Int) (h:T[k]? =some x)=>hr.lo x (List.mem_of_getElem? h))
 clear hr
 go_enter Tryz.func199,Tryz.ntmps199
 go_wp2
 refine wp_loop (ofRel w b o cap T) (fun a' _=>T.length-(Ag (a'.tmps.getD 4 undef)).toNat) ?_ ?_
 ·unfold ofRel
  exact⟨Below.refl _ _,0,[],_,Ac rfl,Bj.nil _ _ _ _,by simp,by omega,by simp⟩
 ·rintro a' W ⟨hW0,i,L,v,⟨u,rfl⟩,hown,hL,hi',hLi⟩
  have hz:=hW0.size
  have hT:=hT0.below hW0
  have hown':=hown.own
  replace hL:=Hd hL
  rcases Nat.lt_or_ge i T.length with hlt|hge
  ·obtain⟨a,ta⟩:∃a,T[i]? =some a:=⟨T[i]'(by omega),List.getElem?_eq_getElem (by omega)⟩
   have ba:=hbd.out i a ta
   rcases Nat.lt_or_ge (i+1) T.length with hlt1|hge1
   ·obtain⟨x1,tb⟩:∃x1,T[i+1]? =some x1:=⟨T[i+1]'(by omega),List.getElem?_eq_getElem (by omega)⟩
    have bb:=hbd.out (i+1) x1 tb
    replace ta:=Hd ta
    replace tb:=Hd tb
    clear hown'
    go_wp2
    refine wp_loop (ojRel w b o cap T i v L (x1-a) x1) (fun a' _=>T.length-(Ag (a'.tmps.getD 5 undef)).toNat) ?_ ?_
    ·unfold ojRel
     rw[show (i:Int)+1=((i+1:Nat):Int) by omega]
     exact⟨hW0,i+1,x1,Ac rfl,hown,by omega,hlt1,tb.out,by rw[show i+1-i-1=0 by omega,Nat.zero_add]⟩
    ·rintro a' W ⟨hW1,j,x,⟨u,rfl⟩,hown,hij,hjl,tx,hex⟩
     have ya:=hW1.size
     have hT:=hT0.below hW1
     have bx:=hbd.out j x tx
     replace tx:=Hd tx
     replace hex:=Hd hex
     have l1:=hlt
     have l2:=hlt1
     have l3:=hjl
     have E2:=Hd (show wrap64 (x1-a)=x1-a by rw[Ak];omega)
     have E3:=Hd (show wrap64 ((j:Int)+1)=((j+1:Nat):Int) by rw[Ak];omega)
     have E4:=Hd (show wrap64 ((i:Int)+1)=((i+1:Nat):Int) by rw[Ak];omega)
     have G2:=Hd (show 0<=(i:Int)+1/\(i:Int)+1<(T.length:Int) by omega)
     rcases Nat.lt_or_ge (j+1) T.length with hj1|hj1
     ·obtain⟨y,ty⟩:∃y,T[j+1]? =some y:=⟨T[j+1]'(by omega),List.getElem?_eq_getElem (by omega)⟩
      have by':=hbd.out (j+1) y ty
      replace ty:=Hd ty
      have l4:=hj1
      have G1:=Hd (show 0<=(j:Int)+1/\(j:Int)+1<(T.length:Int) by omega)
      have E1:=Hd (show wrap64 (y-x)=y-x by rw[Ak];omega)
      have E5:=Hd (show decide (((j+1:Nat):Int)<(T.length:Int))=true by simp;omega)
      go_upto_region 8 with(fail)
      refine Ab W (Rc (fun W'=>Dd W' b o T)<|Rc (fun W'=>Bj W' w.heap.size 141 3 v L.length (As L))<|Bz) ?_ (hI:=by exact Aa) (hR:=(Rc.mk (by exact hT.below Aa)<|Rc.mk (by exact hown.below Aa)<|trivial))
      rintro W1 hW z2 hL
      obtain⟨b1,b2,-⟩:=id hL
      refine Dn 28 81 hW hL ?_
      iterate 6 refine dE (fun W' hC=>aI (hC.2.1.cellAt ta.out) (aI (hC.2.1.cellAt tb.out) (aI (hC.2.1.cellAt tx.out) (aI (hC.2.1.cellAt ty.out) (aI E1.out (aI E2.out (aI E3.out (aI E4.out (aI l1 (aI l2 (aI l3 (aI l4 (aI E5.out (aI G1.out G2.out)))))))))))))) ?_
      iterate 21 refine gE (fun W' hC=>aI (hC.2.1.cellAt ta.out) (aI (hC.2.1.cellAt tb.out) (aI (hC.2.1.cellAt tx.out) (aI (hC.2.1.cellAt ty.out) (aI E1.out (aI E2.out (aI E3.out (aI E4.out (aI l1 (aI l2 (aI l3 (aI l4 (aI E5.out (aI G1.out G2.out)))))))))))))) ?_
      refine pA ?_
      clear hW hL b1 b2
      rintro W3 hW z4 hL
      simp only[ndR]
      intros
      simp only[ndS]
      refine wpList_nil ?_
      obtain⟨b1,b2,-⟩:=hL
      by_cases hs:y-x=x1-a
      ·
       rw[show (true&&y-x==x1-a)=true by simp[hs]]
       have hex':=Hd (show Da (x1-a) x1 (T.drop (i+2))=(j+1-i-1)+Da (x1-a) y (T.drop (j+1+1)) by rw[hex.out,extn_on ty.out hs,show j+1+1=j+2 from rfl];omega)
       clear hs hex E1 E2 E3 E4 E5 G1 G2
       go_wp2
       rw[show (j:Int)+1=((j+1:Nat):Int) by omega]
       refine⟨?_,by simp[Ag];omega⟩
       unfold ojRel
       exact⟨hW1.trans (hW.mono ya),j+1,y,Ac rfl,b2,by omega,hj1,ty.out,hex'.out⟩
      ·rw[show (true&&y-x==x1-a)=false by simp[hs]]
       have hX:=Hd (show Da (x1-a) x1 (T.drop (i+2))=j-i-1 by rw[hex.out,extn_off ty.out hs,Nat.add_zero])
       clear hs hex E1 G1
       have hWc:=hW1.trans (hW.mono ya)
       have yb:=hWc.size
       clear hW hW1 ya
       have E6:=Hd (show wrap64 ((j:Int)-(i:Int))=((j-i:Nat):Int) by rw[Ak];omega)
       have E7:=Hd (show wrap64 (((j-i:Nat):Int)+1)=((j-i+1:Nat):Int) by rw[Ak];omega)
       go_upto_region 10 with(fail)
       refine Ab W3 (Rc (fun W'=>Dd W' b o T)<|Rc (fun W'=>Bj W' w.heap.size 141 3 v L.length (As L))<|Bz) ?_ (hI:=by exact Aa) (hR:=(Rc.mk (by exact b1.below Aa)<|Rc.mk (by exact b2.below Aa)<|trivial))
       rintro W11 hW z12 hL
       obtain⟨b1,b2,-⟩:=id hL
       refine Bw 20 81 hW hL ?_
       iterate 20 refine dE (fun W' hC=>aI (hC.2.1.cellAt ta.out) (aI (hC.2.1.cellAt tb.out) (aI E2.out (aI E4.out (aI l1 (aI l2 (aI E6.out (aI E7.out G2.out)))))))) ?_
       clear hW hL b1 b2
       rintro W13 hW z14 hL
       simp only[ndR]
       intros
       simp only[ndS]
       obtain⟨b1,b2,-⟩:=hL
       have hWd:=hWc.trans (hW.mono yb)
       have yc:=hWd.size
       have hown':=b2.own
       clear hW b2 b1 E6 E7 E2 E3 E4 E5 G2 hown hT
       go_wp2_with (at_builtin;refine wpList_append_own _ rfl (.tmp 56) (.tmp 76) 130 rfl w.heap.size 141 i0 (.agg #[.int .i64 0,.int .i64 0,.int .i64 0]) 3 24 (by kernel_rfl) hi hz0 hz1 hz2 rfl (by decide) _ _ _ rfl (hown'.alloc _) ⟨W13.heap.size,0,none⟩ 1 1 [.int .i64 a,.int .i64 (x1-a),.int .i64 ((j-i+1:Nat):Int)] rfl rfl (Em _ _ _ _ _) (by simp[Value.oneCell']) (by simp[maxLen];omega) (by omega) (by simp;omega) ?_)
       intro v' w1 hown2 hgr _
       have hB:=Hd (A7 hWd yc hown' hgr)
       have hOL:=Hd (show ofL T=(L++ [⟨a,x1-a,((j-i+1:Nat):Int)⟩])++ofL (T.drop (j+1)) by rw[hL.out,of_step ta.out tb.out hij hX.out,List.append_assoc];rfl)
       replace hown2:=Hd hown2
       clear hgr hown' hWd hWc hX
       go_wp2
       rw[show (j:Int)+1=((j+1:Nat):Int) by omega]
       refine⟨?_,by simp[Ag];omega⟩
       unfold ofRel
       exact⟨hB.out,j+1,L++ [⟨a,x1-a,((j-i+1:Nat):Int)⟩],v',Ac rfl,⟨by rw[F3];simpa using hown2.out⟩,hOL.out,by omega,by simp;omega⟩
     ·have E5:=Hd (show decide (((j+1:Nat):Int)<(T.length:Int))=false by simp;omega)
      go_upto_region 8 with(fail)
      refine Ab W (Rc (fun W'=>Dd W' b o T)<|Rc (fun W'=>Bj W' w.heap.size 141 3 v L.length (As L))<|Bz) ?_ (hI:=by exact Aa) (hR:=(Rc.mk (by exact hT.below Aa)<|Rc.mk (by exact hown.below Aa)<|trivial))
      rintro W1 hW z2 hL
      obtain⟨b1,b2,-⟩:=id hL
      refine Dn 28 81 hW hL ?_
      iterate 6 refine dE (fun W' hC=>aI E3.out E5.out) ?_
      apply Ai (p:=true) (c:=undef) (hg:=rfl) (hd:=rfl) (hal:=rfl)
      ·intro v W' h
       simp[Af,Det] at h
       simp
       exact h
      ·intro hp hx
       exfalso
       simp at hx
       omega
      apply Ai (p:=true) (c:=undef) (hg:=rfl) (hd:=rfl) (hal:=rfl)
      ·intro v W' h
       simp[Af,Det] at h
       simp
       exact h
      ·intro hp hx
       exfalso
       simp at hx
       omega
      apply Ai (p:=true) (c:=undef) (hg:=rfl) (hd:=rfl) (hal:=rfl)
      ·intro v W' h
       simp[Af,Det] at h
       simp
       exact h
      ·intro hp hx
       exfalso
       simp at hx
       omega
      apply Ai (p:=true) (c:=undef) (hg:=rfl) (hd:=rfl) (hal:=rfl)
      ·intro v W' h
       simp[Af,Det] at h
       simp
       exact h
      ·intro hp hx
       exfalso
       simp at hx
       omega
      apply Ai (p:=true) (c:=undef) (hg:=rfl) (hd:=rfl) (hal:=rfl)
      ·intro v W' h
       simp[Af,Det] at h
       simp
       exact h
      ·intro hp hx
       exfalso
       simp at hx
       omega
      apply Ai (p:=true) (c:=undef) (hg:=rfl) (hd:=rfl) (hal:=rfl)
      ·intro v W' h
       simp[Af,Det] at h
       simp
       exact h
      ·intro hp hx
       exfalso
       simp at hx
       omega
      apply Ai (p:=true) (c:=undef) (hg:=rfl) (hd:=rfl) (hal:=rfl)
      ·intro v W' h
       simp[Af,Det] at h
       simp
       exact h
      ·intro hp hx
       exfalso
       simp at hx
       omega
      apply Ai (p:=true) (c:=undef) (hg:=rfl) (hd:=rfl) (hal:=rfl)
      ·intro v W' h
       simp[Af,Det] at h
       simp
       exact h
      ·intro hp hx
       exfalso
       simp at hx
       omega
      apply Ai (p:=true) (c:=undef) (hg:=rfl) (hd:=rfl) (hal:=rfl)
      ·intro v W' h
       simp[Af,Det] at h
       simp
       exact h
      ·intro hp hx
       exfalso
       simp at hx
       omega
      apply Ai (p:=true) (c:=undef) (hg:=rfl) (hd:=rfl) (hal:=rfl)
      ·intro v W' h
       simp[Af,Det] at h
       simp
       exact h
      ·intro hp hx
       exfalso
       simp at hx
       omega
      apply Ai (p:=true) (c:=undef) (hg:=rfl) (hd:=rfl) (hal:=rfl)
      ·intro v W' h
       simp[Af,Det] at h
       simp
       exact h
      ·intro hp hx
       exfalso
       simp at hx
       omega
      apply Ai (p:=true) (c:=undef) (hg:=rfl) (hd:=rfl) (hal:=rfl)
      ·intro v W' h
       simp[Af,Det] at h
       simp
       exact h
      ·intro hp hx
       exfalso
       simp at hx
       omega
      apply Ai (p:=true) (c:=undef) (hg:=rfl) (hd:=rfl) (hal:=rfl)
      ·intro v W' h
       simp[Af,Det] at h
       simp
       exact h
      ·intro hp hx
       exfalso
       simp at hx
       omega
      apply Ai (p:=true) (c:=undef) (hg:=rfl) (hd:=rfl) (hal:=rfl)
      ·intro v W' h
       simp[Af,Det] at h
       simp
       exact h
      ·intro hp hx
       exfalso
       simp at hx
       omega
      apply Ai (p:=true) (c:=undef) (hg:=rfl) (hd:=rfl) (hal:=rfl)
      ·intro v W' h
       simp[Af,Det] at h
       simp
       exact h
      ·intro hp hx
       exfalso
       simp at hx
       omega
      apply Ai (p:=true) (c:=undef) (hg:=rfl) (hd:=rfl) (hal:=rfl)
      ·intro v W' h
       simp[Af,Det] at h
       simp
       exact h
      ·intro hp hx
       exfalso
       simp at hx
       omega
      apply Ai (p:=true) (c:=undef) (hg:=rfl) (hd:=rfl) (hal:=rfl)
      ·intro v W' h
       simp[Af,Det] at h
       simp
       exact h
      ·intro hp hx
       exfalso
       simp at hx
       omega
      apply Ai (p:=true) (c:=undef) (hg:=rfl) (hd:=rfl) (hal:=rfl)
      ·intro v W' h
       simp[Af,Det] at h
       simp
       exact h
      ·intro hp hx
       exfalso
       simp at hx
       omega
      apply Ai (p:=true) (c:=undef) (hg:=rfl) (hd:=rfl) (hal:=rfl)
      ·intro v W' h
       simp[Af,Det] at h
       simp
       exact h
      ·intro hp hx
       exfalso
       simp at hx
       omega
      apply Ai (p:=true) (c:=undef) (hg:=rfl) (hd:=rfl) (hal:=rfl)
      ·intro v W' h
       simp[Af,Det] at h
       simp
       exact h
      ·intro hp hx
       exfalso
       simp at hx
       omega
      apply Ai (p:=true) (c:=undef) (hg:=rfl) (hd:=rfl) (hal:=rfl)
      ·intro v W' h
       simp[Af,Det] at h
       simp
       exact h
      ·intro hp hx
       exfalso
       simp at hx
       omega
      apply Cm (y:=false) (ho:=rfl) (hg:=rfl)
      ·intro v W' h
       simp[Af,Det] at h
       exact h
      ·intro v W' h hx
       exfalso
       simp at hx
       omega
      clear hW hL b1 b2
      rintro W3 hW z4 hL
      simp only[ndR]
      intros
      repeat (rename Am _ _ _ _=>hgd;clear hgd)
      simp only[ndS]
      refine wpList_nil ?_
      obtain⟨b1,b2,-⟩:=hL
      rw[Bool.and_false]
      have hX:=Hd (show Da (x1-a) x1 (T.drop (i+2))=j-i-1 by rw[hex.out,extn_end (by omega),Nat.add_zero])
      clear hex
      have hWc:=hW1.trans (hW.mono ya)
      have yb:=hWc.size
      clear hW hW1 ya
      have E6:=Hd (show wrap64 ((j:Int)-(i:Int))=((j-i:Nat):Int) by rw[Ak];omega)
      have E7:=Hd (show wrap64 (((j-i:Nat):Int)+1)=((j-i+1:Nat):Int) by rw[Ak];omega)
      go_upto_region 10 with(fail)
      refine Ab W3 (Rc (fun W'=>Dd W' b o T)<|Rc (fun W'=>Bj W' w.heap.size 141 3 v L.length (As L))<|Bz) ?_ (hI:=by exact Aa) (hR:=(Rc.mk (by exact b1.below Aa)<|Rc.mk (by exact b2.below Aa)<|trivial))
      rintro W11 hW z12 hL
      obtain⟨b1,b2,-⟩:=id hL
      refine Bw 20 81 hW hL ?_
      iterate 20 refine dE (fun W' hC=>aI (hC.2.1.cellAt ta.out) (aI (hC.2.1.cellAt tb.out) (aI E2.out (aI E4.out (aI l1 (aI l2 (aI E6.out (aI E7.out G2.out)))))))) ?_
      clear hW hL b1 b2
      rintro W13 hW z14 hL
      simp only[ndR]
      intros
      simp only[ndS]
      obtain⟨b1,b2,-⟩:=hL
      have hWd:=hWc.trans (hW.mono yb)
      have yc:=hWd.size
      have hown':=b2.own
      clear hW b2 b1 E6 E7 E2 E3 E4 E5 G2 hown hT
      go_wp2_with (at_builtin;refine wpList_append_own _ rfl (.tmp 56) (.tmp 76) 130 rfl w.heap.size 141 i0 (.agg #[.int .i64 0,.int .i64 0,.int .i64 0]) 3 24 (by kernel_rfl) hi hz0 hz1 hz2 rfl (by decide) _ _ _ rfl (hown'.alloc _) ⟨W13.heap.size,0,none⟩ 1 1 [.int .i64 a,.int .i64 (x1-a),.int .i64 ((j-i+1:Nat):Int)] rfl rfl (Em _ _ _ _ _) (by simp[Value.oneCell']) (by simp[maxLen];omega) (by omega) (by simp;omega) ?_)
      intro v' w1 hown2 hgr _
      have hB:=Hd (A7 hWd yc hown' hgr)
      have hOL:=Hd (show ofL T=(L++ [⟨a,x1-a,((j-i+1:Nat):Int)⟩])++ofL (T.drop (j+1)) by rw[hL.out,of_step ta.out tb.out hij hX.out,List.append_assoc];rfl)
      replace hown2:=Hd hown2
      clear hgr hown' hWd hWc hX
      go_wp2
      rw[show (j:Int)+1=((j+1:Nat):Int) by omega]
      refine⟨?_,by simp[Ag];omega⟩
      unfold ofRel
      exact⟨hB.out,j+1,L++ [⟨a,x1-a,((j-i+1:Nat):Int)⟩],v',Ac rfl,⟨by rw[F3];simpa using hown2.out⟩,hOL.out,by omega,by simp;omega⟩
   ·have hl1:i+1=T.length:=by omega
    have hfin:=Hd (of_last ta hl1)
    replace ta:=Hd ta
    have q1:=hT.cellAt ta.out
    go_wp2_with (at_builtin;refine wpList_append_own _ rfl (.tmp 15) (.tmp 21) 130 rfl w.heap.size 141 i0 (.agg #[.int .i64 0,.int .i64 0,.int .i64 0]) 3 24 (by kernel_rfl) hi hz0 hz1 hz2 rfl (by decide) _ _ _ rfl (hown'.alloc _) ⟨W.heap.size,0,none⟩ 1 1 [.int .i64 a,.int .i64 0,.int .i64 1] rfl rfl (Em _ _ _ _ _) (by simp[Value.oneCell']) (by simp[maxLen];omega) (by omega) (by simp;omega) ?_)
    intro v' w1 hown2 hgr _
    have hB:=Hd (A7 hW0 hz hown' hgr)
    clear hgr hown' hown
    have hOL:=Hd (show ofL T=L++ [⟨a,0,1⟩] by rw[hL.out,hfin.out])
    replace hown2:=Hd hown2
    clear q1
    go_wp2
    go_ret
    exact⟨_,rfl,⟨by rw[hOL.out,F3];simpa using hown2.out⟩,hB.out⟩
  ·obtain rfl:i=T.length:=by omega
   have hOL:=Hd (show ofL T=L by rw[hL.out,List.drop_eq_nil_of_le (Nat.le_refl _),Kb,List.append_nil])
   go_wp2
   go_ret
   exact⟨_,rfl,by rw[hOL.out];exact hown,hW0⟩
attribute [local simp] Oper.looksAt Op.operands Call.operands Af Det Am
theorem Tf (l:List Ah):(Eg l).length<=256:=by
 unfold Eg
 split
 ·next h=>
  unfold fitL at h
  simp only[Bool.and_eq_true,List.all_eq_true,decide_eq_true_eq] at h
  have:=C2 l fun r hr=>by have:=h.1 r hr;unfold Wt at this;simp at this;omega
  omega
 ·simp
theorem length_of (T:List Int):(ofL T).length<=T.length:=by
 have key:∀(n:Nat) (T:List Int),T.length<=n->(ofL T).length<=T.length:=by
  intro n
  induction n with
  |zero=>intro T h;have:T= []:=List.length_eq_zero_iff.1 (by omega);subst this;simp[Kb]
  |succ n ih=>
   intro T h
   match T,h with
   | [],_=>simp[Kb]
   | [t],_=>simp[L7]
   |a::b::l,h=>
    rw[Jt]
    have:=ih (l.drop (Da (b-a) b l)) (by simp at h⊢;omega)
    simp at this⊢
    omega
 exact key _ T (Nat.le_refl _)
structure Gc (w:World) (b o:Nat) (l:List Ah):Prop where
 runs:Al w (some ⟨b,o,none⟩) l
theorem Gc.below {w w':World} {b o:Nat} {l:List Ah} (h:Gc w b o l) (hb:Below w.heap.size w w'):Gc w' b o l:=⟨h.runs.below hb⟩
theorem Gc.rex {L:List Nat} {w w':World} {b o:Nat} {l:List Ah} (h:Gc w b o l) (hr:Rex L w w') (hL:L= []):Gc w' b o l:=by subst hL;exact h.below hr.below
theorem Gc.drew {w:World} {b o:Nat} {l:List Ah} (h:Gc w b o l):Gc w.drew b o l:=⟨⟨h.runs.at'⟩⟩
theorem Gc.cellAt {w:World} {b o:Nat} {l:List Ah} (h:Gc w b o l) {i:Nat} {r:Ah} (hx:l[i]? =some r):
  w.cell? ⟨b,o+i*3,none⟩=some (r.f)/\w.cell? ⟨b,o+i*3+1,none⟩=some (r.s)/\w.cell? ⟨b,o+i*3+2,none⟩=some (r.c):=h.runs.cells hx
theorem ite_eq3 {a b c d e f:Int} {w:World}:((if a=b then (if c=d then (if e=f then Result.ok (Go.Next.value (Value.bool false)) w else Result.ok (Go.Next.value (Value.bool true)) w) else Result.ok (Go.Next.value (Value.bool true)) w) else Result.ok (Go.Next.value (Value.bool true)) w):Result Go.Next)=Result.ok (Go.Next.value (Value.bool (!(decide (a=b)&&decide (c=d)&&decide (e=f))))) w:=by
 by_cases h1:a=b<;>by_cases h2:c=d<;>by_cases h3:e=f<;>simp[h1,h2,h3]
def smRel (w:World) (p:Option Addr) (cap:Nat) (p':Option Addr) (cap':Nat) (A B:List Ah) (a':Act) (W:World):Prop:=
 Below w.heap.size w W/\∃(i:Nat),(∃u:Nat->Value,a'= {tmps:= #[.slice p A.length cap,.slice p' A.length cap',u 2,u 3,.bool false,.int .i64 (i:Int),u 6,u 7,u 8,u 9,u 10,u 11,u 12,u 13,u 14,u 15,u 16,u 17,u 18,u 19,u 20,u 21,u 22,u 23,u 24,u 25],defers:= []})/\i<=A.length/\∀k,k<i->A[k]? =B[k]?
theorem refsame_w (p:Option Addr) (cap:Nat) (p':Option Addr) (cap':Nat) (A B:List Ah) (w:World) (hl:A.length=B.length) (hlen:A.length<=1000000) (hA0:Al w p A) (hB0:Al w p' B):
  Cb 198 #[.slice p A.length cap,.slice p' A.length cap'] w (.bool (decide (A=B))):=by
 go_enter Tryz.func198,Tryz.ntmps198
 replace hl:=Hd hl
 go_wp2
 refine wp_loop (smRel w p cap p' cap' A B) (fun a' _=>A.length-(Ag (a'.tmps.getD 5 undef)).toNat) ?_ ?_
 ·unfold smRel
  exact⟨Below.refl _ _,0,Ac rfl,by omega,fun k hk=>by omega⟩
 ·rintro a' W ⟨hW0,i,⟨u,rfl⟩,hi',hall⟩
  have hz:=hW0.size
  replace hall:=Hd hall
  rcases Nat.lt_or_ge i A.length with hlt|hge
  ·obtain⟨r,tr⟩:∃r,A[i]? =some r:=⟨A[i]'(by omega),List.getElem?_eq_getElem (by omega)⟩
   obtain⟨q,tq⟩:∃q,B[i]? =some q:=⟨B[i]'(by have:=hl.out;omega),List.getElem?_eq_getElem (by have:=hl.out;omega)⟩
   obtain⟨b,o,rfl,-⟩:=hA0.at' i r tr
   obtain⟨b',o',rfl,-⟩:=hB0.at' i q tq
   have hA:Gc W b o A:=⟨hA0.below hW0⟩
   have hB:Gc W b' o' B:=⟨hB0.below hW0⟩
   replace tr:=Hd tr
   replace tq:=Hd tq
   have l1:=hlt
   have l2:i<B.length:=by have:=hl.out;omega
   go_upto_region 6 with(fail)
   refine Ab W (Rc (fun W'=>Gc W' b o A)<|Rc (fun W'=>Gc W' b' o' B)<|Bz) ?_ (hI:=by exact Aa) (hR:=(Rc.mk (by exact hA.below Aa)<|Rc.mk (by exact hB.below Aa)<|trivial))
   rintro W1 hW z2 hL
   obtain⟨b1,b2,-⟩:=id hL
   refine Dn 9 26 hW hL ?_
   iterate 9
    apply An (hg:=rfl) (hal:=rfl)
    ·intro a W' hC hE
     obtain⟨_,k1,k2,-⟩:=hC
     obtain⟨q0,q1,q2⟩:=k1.cellAt tr.out;obtain⟨q3,q4,q5⟩:=k2.cellAt tq.out
     first
      |(simp at hE;simp[go_sem,Act.eval,iw,hE,k1,k2,q0,q1,q2,q3,q4,q5,l1,l2,ite_eq3];try rfl)
      |(clear hE;simp[go_sem,Act.eval,iw,k1,k2,q0,q1,q2,q3,q4,q5,l1,l2,ite_eq3];try rfl)
   clear hW hL b1 b2
   rintro W3 hW z4 hL
   simp only[ndR]
   intros
   simp only[ndS]
   refine wpList_nil ?_
   obtain⟨b1,b2,-⟩:=hL
   by_cases hrq:r=q
   ·have hall':=Hd (show∀k,k<i+1->A[k]? =B[k]? from fun k hk=>by
     rcases Nat.lt_or_ge k i with h|h
     ·exact hall.out k h
     ·obtain rfl:k=i:=by omega
      rw[tr.out,tq.out,hrq])
    rw[show (!decide (r.f=q.f)|| !decide (r.s=q.s)|| !decide (r.c=q.c))=false by subst hrq;simp]
    clear hrq
    go_wp2
    rw[show (i:Int)+1=((i+1:Nat):Int) by omega]
    refine⟨?_,by simp[Ag];omega⟩
    unfold smRel
    exact⟨hW0.trans (hW.mono hz),i+1,Ac rfl,by omega,hall'.out⟩
   ·have hne:=Hd (show decide (A=B)=false by
     rw[decide_eq_false_iff_not]
     rintro rfl
     rw[tr.out] at tq
     exact hrq (Option.some.inj tq.out))
    rw[show (!decide (r.f=q.f)|| !decide (r.s=q.s)|| !decide (r.c=q.c))=true by
     obtain⟨r1,r2,r3⟩:=r
     obtain⟨q1,q2,q3⟩:=q
     simp at hrq
     simp
     by_cases h1:r1=q1<;>by_cases h2:r2=q2<;>simp[h1,h2] at hrq⊢
     exact hrq]
    clear hrq
    go_wp2
    go_ret
    exact⟨by rw[hne.out];rfl,hW0.trans (hW.mono hz)⟩
  ·obtain rfl:i=A.length:=by omega
   have heq:=Hd (show decide (A=B)=true by
    rw[decide_eq_true_eq]
    apply List.ext_getElem?
    intro k
    rcases Nat.lt_or_ge k A.length with h|h
    ·exact hall.out k h
    ·rw[List.getElem?_eq_none h,List.getElem?_eq_none (by have:=hl.out;omega)])
   go_wp2
   go_ret
   exact⟨by rw[heq.out];rfl,hW0⟩
theorem Yf (p:Option Addr) (n cap:Nat) (p':Option Addr) (m cap':Nat) (w:World) (hl:¬n=m):
  Cb 198 #[.slice p n cap,.slice p' m cap'] w (.bool false):=by
 go_enter Tryz.func198,Tryz.ntmps198
 go_wp2
 go_ret
 exact⟨rfl,Below.refl _ _⟩
theorem c_refsame (p:Option Addr) (cap:Nat) (p':Option Addr) (cap':Nat) (A B:List Ah) (w:World) (hlen:A.length<=1000000) (hA0:Al w p A) (hB0:Al w p' B):
  Cb 198 #[.slice p A.length cap,.slice p' B.length cap'] w (.bool (decide (A=B))):=by
 by_cases h:A.length=B.length
 ·rw[<-h];exact refsame_w p cap p' cap' A B w h hlen hA0 hB0
 ·rw[show decide (A=B)=false by rw[decide_eq_false_iff_not];rintro rfl;exact h rfl]
  exact Yf p _ cap p' _ cap' w h
theorem Yg (p:Option Addr) (cap:Nat) (l:List Ah) (w:World) (hlen:l.length<=1000) (h:Al w p l) (hb:Fd (Eg l)=false):
  Cb 177 #[.slice p l.length cap] w (.bool false):=by
 have ct:=Hd (fun W (hW:Below w.heap.size w W)=>M1 p cap l W (h.below hW) hlen)
 have hTl:=Tf l
 obtain⟨T,hT⟩:∃T,T=Eg l:=⟨_,rfl⟩
 rw[<-hT] at ct hb hTl
 clear hT
 replace hTl:=Hd hTl
 replace hb:=Hd hb
 go_enter Tryz.func177,Tryz.ntmps177
 go_wp2_with fail
 refine(ct.out _ Aa).mono ?_
 rintro e w1 ⟨v,rfl,hown,hB1⟩
 have hz1:=hB1.size
 obtain⟨pt,cp,rfl,-,-,-,-⟩:=hown.form
 have hI:=hown.ints
 clear hown ct
 have cr:=P7 pt cp T w1 (by exact Nat.le_trans hTl.out (by omega)) hI
 rw[hb.out] at cr
 replace cr:=Hd cr
 go_wp2_with fail
 refine cr.out.mono ?_
 rintro e w2 ⟨rfl,hB2⟩
 have hz2:=hB2.size
 clear cr
 go_wp2
 go_ret
 exact⟨rfl,hB1.trans (hB2.mono hz1)⟩
theorem V1 (p:Option Addr) (cap:Nat) (l:List Ah) (w:World) (hlen:l.length<=1000) (h:Al w p l) (hb:Fd (Eg l)=true) (T:List Int) (hT:T=Eg l):
  Cb 177 #[.slice p l.length cap] w (.bool (decide (ofL T=l))):=by
 have ct:=Hd (fun W (hW:Below w.heap.size w W)=>hT▸M1 p cap l W (h.below hW) hlen)
 obtain⟨hl1,hl2,hris⟩:=(Jc T).1 (hT▸hb)
 rw[<-hT] at hb
 clear hT
 replace hris:=Hd hris
 replace hb:=Hd hb
 go_enter Tryz.func177,Tryz.ntmps177
 go_wp2_with fail
 refine(ct.out _ Aa).mono ?_
 rintro e w1 ⟨v,rfl,hown,hB1⟩
 have hz1:=hB1.size
 obtain⟨pt,cp,rfl,-,-,-,-⟩:=hown.form
 have hI:=hown.ints
 clear hown ct
 have cr:=P7 pt cp T w1 (by omega) hI
 rw[hb.out] at cr
 replace cr:=Hd cr
 go_wp2_with fail
 refine cr.out.mono ?_
 rintro e w2 ⟨rfl,hB2⟩
 have hz2:=hB2.size
 clear cr
 obtain⟨b,o,rfl⟩:∃b o,pt=some ⟨b,o,none⟩:=by
  obtain⟨b,o,e,_⟩:=hI.at' 0 _ (List.getElem?_eq_getElem (show 0<T.length by omega))
  exact⟨b,o,e⟩
 have co:=Hd (refof_w b o cp T w2 hl2 hris.out ⟨hI.below hB2⟩)
 go_wp2_with fail
 refine co.out.mono ?_
 rintro e w3 ⟨v,rfl,hown,hB3⟩
 have hz3:=hB3.size
 obtain⟨po,cq,rfl,-,-,-,-⟩:=hown.form
 have hR:=hown.runs
 clear hown co
 have hW:=hB1.trans ((hB2.trans (hB3.mono hz2)).mono hz1)
 have hOl:=length_of T
 have cs:=Hd (c_refsame po cq p cap (ofL T) l w3 (by omega) hR (h.below hW))
 clear hOl
 go_wp2_with fail
 refine cs.out.mono ?_
 rintro e w4 ⟨rfl,hB4⟩
 have hz4:=hW.size
 clear cs
 go_wp2
 go_ret
 exact⟨rfl,hW.trans (hB4.mono hz4)⟩
theorem c_refright (p:Option Addr) (cap:Nat) (l:List Ah) (w:World) (hlen:l.length<=1000) (h:Al w p l):
  Cb 177 #[.slice p l.length cap] w (.bool (Et l)):=by
 rw[<-rightR_is]
 unfold rightR
 cases hb:Fd (Eg l) with
 |false=>rw[Bool.false_and];exact Yg p cap l w hlen h hb
 |true=>rw[Bool.true_and];exact V1 p cap l w hlen h hb _ rfl
end Go.Proofs.YtdeghcgakkhbmaaGreat
namespace Go.Proofs.YtdeghcgakkhbmaaGreat
open Go.RowKit
def Um (w1:World) (g bt ot ct:Nat) (T V:List Int) (a':Act) (W:World):Prop:=
 Below w1.heap.size w1 W/\∃(i:Nat) (v:Value),(∃u:Nat->Value,a'= {tmps:= #[u 0,.pointer (some ⟨g,0,none⟩),.slice none 0 0,.bool false,.slice (some ⟨bt,ot,none⟩) T.length ct,v,.int .i64 (i:Int),u 7,u 8,u 9,u 10,u 11,u 12,u 13,u 14,u 15,u 16,u 17,u 18,u 19,u 20,u 21,u 22,u 23,u 24,u 25,u 26,u 27,u 28,u 29,u 30,u 31,u 32,u 33,u 34,u 35,u 36,u 37,u 38,u 39,u 40,u 41,u 42,u 43,u 44,u 45,u 46,u 47,u 48,u 49,u 50,u 51,u 52,u 53,u 54,u 55,u 56,u 57,u 58,u 59],defers:= []})/\
  Bj W w1.heap.size 58 2 v i (Ax ((T.zip V).take i))/\i<=T.length/\∀(k:Nat) (y:Int),k<i->V[k]? =some y->Ay y=true
def Xj (w:World) (T V:List Int) (e:Ending) (w':World):Prop:=
 Below w.heap.size w w'/\((V.all Ay=true/\∃v,e= .returned (.tuple #[v,.bool true])/\Bj w' w.heap.size 58 2 v T.length (Ax (T.zip V)))∨(V.all Ay=false/\e= .returned (.tuple #[.slice none 0 0,.bool false])))
theorem Ha {w:World} {B:Nat} {e:TypeId} {s n g:Nat} {v:Value} {xs:List Value} (h:w.ownsRow B e s v n xs) (hg:∀k,v.ownBlock=some k->k≠g) (i:Nat) (u:Value):(w.setCell ⟨g,i,none⟩ u).ownsRow B e s v n xs:=by
 obtain⟨h1,h2⟩:=h
 refine⟨h1,?_⟩
 rcases h2 with h2|⟨k,cap,cur,hv,hk,hh,rest⟩
 ·exact .inl h2
 ·refine .inr ⟨k,cap,cur,hv,hk,?_,rest⟩
  have hne:k≠g:=hg k (by rw[hv];rfl)
  exact(heap_setCell_other w ⟨g,i,none⟩ k u hne).trans hh
theorem Xo {T V:List Int} {i:Nat} {x y:Int} (hx:T[i]? =some x) (hy:V[i]? =some y):(T.zip V).take (i+1)=(T.zip V).take i++ [(x,y)]:=by
 have h:(T.zip V)[i]? =some (x,y):=by rw[List.getElem?_zip_eq_some];exact⟨hx,hy⟩
 rw[List.take_add_one,h];rfl
theorem not_all {V:List Int} {i:Nat} {y:Int} (hy:V[i]? =some y) (hb:Ay y=false):V.all Ay=false:=by
 cases h:V.all Ay with
 |false=>rfl
 |true=>rw[List.all_eq_true.1 h y (List.mem_of_getElem? hy)] at hb;cases hb
theorem yes_all {V:List Int} {n:Nat} (hn:V.length<=n) (h:∀(k:Nat) (y:Int),k<n->V[k]? =some y->Ay y=true):V.all Ay=true:=by
 rw[List.all_eq_true]
 intro y hy
 obtain⟨k,hk⟩:=List.getElem?_of_mem hy
 exact h k y (by have:=(List.getElem?_eq_some_iff.1 hk).1;omega) hk
theorem pts_raw (A R n d E:Int) (p:Option Addr) (len cap b o vc:Nat) (T V:List Int) (w:World) (hV0:Dd w b o V) (hTV:V.length=T.length) (h0:1<=T.length) (h256:T.length<=256)
  (c1:∀W,Below w.heap.size w W->Calls Tryz.prog 135 #[.slice p len cap] W fun e w'=>∃v,e= .returned v/\Bj w' W.heap.size 2 1 v T.length (T.map (Value.int .i64))/\Below W.heap.size W w'):
  Calls Tryz.prog 85 #[.agg #[.int .i64 4,.slice p len cap,A,R,n,d,.slice (some ⟨b,o,none⟩) V.length vc,E]] w (Xj w T V):=by
 obtain⟨i0,hi,hz0,hz1,hz2⟩:=info_parts Tryz.infoPoint
 replace hTV:=Hd hTV
 have H_c1:=Hd c1
 clear c1
 go_enter Tryz.func85,Tryz.ntmps85
 go_wp2_with fail
 refine(H_c1.out _ Aa).mono ?_
 rintro e w1 ⟨v0,rfl,hT0,hb1⟩
 have z2:=hb1.size
 try simp at z2
 refine Aj w w1 (Bc w.heap.size #[.int .i64 4,.slice p len cap,A,R,n,d,.slice (some ⟨b,o,none⟩) V.length vc,E] 135<|Bz) ?_
 rintro hW z3 ⟨⟨b1,yb1,k1,f1⟩,-⟩
 obtain⟨pt,ct,rfl,-,-,-,-⟩:=hT0.form
 have hI:=hT0.ints
 clear hT0
 obtain⟨bt,ot,rfl⟩:∃b o,pt=some ⟨b,o,none⟩:=by
  obtain⟨b,o,e,_⟩:=hI.at' 0 _ (List.getElem?_eq_getElem (show 0<T.length by omega))
  exact⟨b,o,e⟩
 have hT1:Dd w1 bt ot T:=⟨hI⟩
 have hWW:=hW
 have hV1:=hV0.below hW
 clear hI
 go_wp2
 refine wp_loop (Um w1 w.heap.size bt ot ct T V) (fun a' _=>T.length-(Ag (a'.tmps.getD 6 undef)).toNat) ?_ ?_
 ·unfold Um
  exact⟨Below.refl _ _,0,_,Ac rfl,Bj.nil _ _ _ _,by omega,fun k y hk=>by omega⟩
 ·rintro a' W ⟨hW0,i,v,⟨u,rfl⟩,hown,hi',hall⟩
  have hz:=hW0.size
  have hT:=hT1.below hW0
  have hV:=hV1.below hW0
  have b1:=b1.below hW0
  have zb:=b1.lt
  replace hall:=Hd hall
  rcases Nat.lt_or_ge i T.length with hlt|hge
  ·obtain⟨x,tx⟩:∃x,T[i]? =some x:=⟨T[i]'(by omega),List.getElem?_eq_getElem (by omega)⟩
   obtain⟨y,ty⟩:∃y,V[i]? =some y:=⟨V[i]'(by have:=hTV.out;omega),List.getElem?_eq_getElem (by have:=hTV.out;omega)⟩
   replace tx:=Hd tx
   replace ty:=Hd ty
   have l2:i<V.length:=by have:=hTV.out;omega
   cases hbk:Ay y with
   |false=>
    replace hbk:=Hd hbk
    have k1:=b1.cell
    have f1:=b1.frozen
    have q1:=hT.cellAt tx.out
    have q2:=hV.cellAt ty.out
    have zv:=Ap q2
    have zt:=Ap q1
    try simp at zv
    try simp at zt
    have cb:=On y
    rw[hbk.out] at cb
    replace cb:=Hd cb
    go_wp2_with fail
    refine(cb.out _).mono ?_
    rintro e w21 ⟨rfl,hb21⟩
    have z22:=hb21.size
    try simp at z22
    clear k1 f1
    refine Aj W w21 (Bc w.heap.size #[.int .i64 4,.slice p len cap,A,R,n,d,.slice (some ⟨b,o,none⟩) V.length vc,E] 135<|Bc W.heap.size #[x,y] 58<|Bz) ?_
    clear b1
    rintro hW z23 ⟨⟨b1,yb1,k1,f1⟩,⟨b2,yb2,k2,f2⟩,-⟩
    clear hb21
    go_wp2
    go_ret2
    exact⟨hWW.trans (((hW0.trans (hW.mono hz))).mono hWW.size),.inr ⟨not_all ty.out hbk.out,rfl⟩⟩
   |true=>
    replace hbk:=Hd hbk
    have k1:=b1.cell
    have f1:=b1.frozen
    have q1:=hT.cellAt tx.out
    have q2:=hV.cellAt ty.out
    have zv:=Ap q2
    have zt:=Ap q1
    try simp at zv
    try simp at zt
    have cb:=On y
    rw[hbk.out] at cb
    replace cb:=Hd cb
    go_wp2_with fail
    refine(cb.out _).mono ?_
    rintro e w21 ⟨rfl,hb21⟩
    have z22:=hb21.size
    try simp at z22
    clear k1 f1
    refine Aj W w21 (Bc w.heap.size #[.int .i64 4,.slice p len cap,A,R,n,d,.slice (some ⟨b,o,none⟩) V.length vc,E] 135<|Bc W.heap.size #[x,y] 58<|Bz) ?_
    clear b1
    rintro hW z23 ⟨⟨b1,yb1,k1,f1⟩,⟨b2,yb2,k2,f2⟩,-⟩
    clear hb21
    have hown':=(hown.below hW).own
    have hW9:=hW0.trans (hW.mono hz)
    have ya9:=hW9.size
    clear cb hown hW
    go_wp2_with (at_builtin;refine wpList_append_own _ rfl (.tmp 55) (.tmp 57) 33 rfl w1.heap.size 58 i0 (.agg #[.int .i64 0,.int .i64 0]) 2 16 (by kernel_rfl) hi hz0 hz1 hz2 rfl (by decide) _ _ _ rfl (hown'.alloc _) ⟨w21.heap.size,0,none⟩ 1 1 [x,y] rfl rfl (Hh _ _ _ _) (by simp[Value.oneCell']) (by simp[maxLen];omega) (by omega) (by simp;omega) ?_)
    intro v' w9 hown2 hgr _
    have hB:=Hd (A7 hW9 ya9 hown' hgr)
    replace hown2:=Hd hown2
    have hall':=Hd (show∀k y,k<i+1->V[k]? =some y->Ay y=true from fun k z hk hz=>by
     rcases Nat.lt_or_ge k i with h|h
     ·exact hall.out k z h hz
     ·obtain rfl:k=i:=by omega
      rw[ty.out] at hz
      injection hz with hz
      rw[<-hz];exact hbk.out)
    clear hgr hown'
    go_wp2
    rw[show (i:Int)+1=((i+1:Nat):Int) by omega]
    refine⟨?_,by simp[Ag];omega⟩
    unfold Um
    exact⟨hB.out,i+1,v',Ac rfl,⟨by rw[Xo tx.out ty.out,Hf];simpa using hown2.out⟩,by omega,hall'.out⟩
  ·obtain rfl:i=T.length:=by omega
   have hya:=Hd (yes_all (by have:=hTV.out;omega) hall.out)
   have htk:=Hd (show (T.zip V).take T.length=T.zip V from List.take_of_length_le (by rw[List.length_zip];exact Nat.min_le_left _ _))
   go_wp2
   go_ret2
   exact⟨hWW.trans (hW0.mono hWW.size),.inl ⟨hya.out,_,rfl,by have:=hown.mono hWW.size;rw[htk.out] at this;exact this⟩⟩
theorem pts_line (K A R n d E x0:Int) (p q:Option Addr) (len cap m vc:Nat) (T V:List Int) (w:World) (hK:(K==4)=false) (hTV:V.length=T.length) (h0:1<=T.length) (h256:T.length<=256) (t0:T[0]? =some x0) (hbd:∀x,x∈T->0<=x/\x<=281474976710656)
  (c1:∀W,Below w.heap.size w W->Calls Tryz.prog 135 #[.slice p len cap] W fun e w'=>∃v,e= .returned v/\Bj w' W.heap.size 2 1 v T.length (T.map (Value.int .i64))/\Below W.heap.size W w')
  (c2:∀W (i:Nat) x y,T[i]? =some x->V[i]? =some y->Ay y=true->Cb 137 #[.agg #[A,R,n,d],.int .i64 (x-x0)] W (.tuple #[y,.bool true]))
  (c3:∀W (i:Nat) x y,T[i]? =some x->V[i]? =some y->Ay y=false->Cb 137 #[.agg #[A,R,n,d],.int .i64 (x-x0)] W (.tuple #[.int .i64 0,.bool false])):
  Calls Tryz.prog 85 #[.agg #[K,.slice p len cap,A,R,n,d,.slice q m vc,E]] w (Xj w T V):=by
 obtain⟨i0,hi,hz0,hz1,hz2⟩:=info_parts Tryz.infoPoint
 replace hTV:=Hd hTV
 have bx0:=hbd x0 (List.mem_of_getElem? t0)
 replace hbd:=Hd hbd
 replace t0:=Hd t0
 replace c2:=Hd c2
 replace c3:=Hd c3
 have H_c1:=Hd c1
 clear c1
 go_enter Tryz.func85,Tryz.ntmps85
 go_wp2_with fail
 refine(H_c1.out _ Aa).mono ?_
 rintro e w1 ⟨v0,rfl,hT0,hb1⟩
 have z2:=hb1.size
 try simp at z2
 refine Aj w w1 (Bc w.heap.size #[K,.slice p len cap,A,R,n,d,.slice q m vc,E] 135<|Bz) ?_
 rintro hW z3 ⟨⟨b1,yb1,k1,f1⟩,-⟩
 obtain⟨pt,ct,rfl,-,-,-,-⟩:=hT0.form
 have hI:=hT0.ints
 clear hT0
 obtain⟨bt,ot,rfl⟩:∃b o,pt=some ⟨b,o,none⟩:=by
  obtain⟨b,o,e,_⟩:=hI.at' 0 _ (List.getElem?_eq_getElem (show 0<T.length by omega))
  exact⟨b,o,e⟩
 have hT1:Dd w1 bt ot T:=⟨hI⟩
 have hWW:=hW
 clear hI
 go_wp2
 refine wp_loop (Um w1 w.heap.size bt ot ct T V) (fun a' _=>T.length-(Ag (a'.tmps.getD 6 undef)).toNat) ?_ ?_
 ·unfold Um
  exact⟨Below.refl _ _,0,_,Ac rfl,Bj.nil _ _ _ _,by omega,fun k y hk=>by omega⟩
 ·rintro a' W ⟨hW0,i,v,⟨u,rfl⟩,hown,hi',hall⟩
  have hz:=hW0.size
  have hT:=hT1.below hW0
  have b1:=b1.below hW0
  have zb:=b1.lt
  replace hall:=Hd hall
  rcases Nat.lt_or_ge i T.length with hlt|hge
  ·obtain⟨x,tx⟩:∃x,T[i]? =some x:=⟨T[i]'(by omega),List.getElem?_eq_getElem (by omega)⟩
   obtain⟨y,ty⟩:∃y,V[i]? =some y:=⟨V[i]'(by have:=hTV.out;omega),List.getElem?_eq_getElem (by have:=hTV.out;omega)⟩
   have bx:=hbd.out x (List.mem_of_getElem? tx)
   replace tx:=Hd tx
   replace ty:=Hd ty
   have l1:=hlt
   have l2:0<T.length:=h0
   cases hbk:Ay y with
   |false=>
    have cb:=Hd (fun W=>c3.out W i x y tx.out ty.out hbk)
    replace hbk:=Hd hbk
    have k1:=b1.cell
    have f1:=b1.frozen
    have q1:=hT.cellAt tx.out
    have zt:=Ap q1
    try simp at zt
    have E1:=Hd (show wrap64 (x-x0)=x-x0 by rw[Ak];omega)
    have hown7:=Hd hown
    clear hown
    go_upto_region 11 with(fail)
    clear k1 f1
    refine Ab W (Bc w.heap.size #[K,.slice p len cap,A,R,n,d,.slice q m vc,E] 135<|Bc W.heap.size #[x,.int .i64 0] 58<|Rc (fun W'=>Dd W' bt ot T)<|Bz) ?_ (hI:=by exact Aa) (hR:=(Bc.mk (by exact Ad)<|Bc.mk (by exact Ad)<|Rc.mk (by exact hT.below Aa)<|trivial))
    clear b1
    rintro W21 hW z22 hL
    obtain⟨⟨b1,yb1,k1,f1⟩,⟨b2,yb2,k2,f2⟩,b3,-⟩:=id hL
    clear k1 f1 k2 f2
    refine Dn 16 60 hW hL ?_
    iterate 10 refine dE (fun W' hC=>aI (hC.2.2.2.1.cellAt tx.out) (aI (hC.2.2.2.1.cellAt t0.out) (aI l1 (aI l2 E1.out)))) ?_
    refine cE (fun W' hC=>aI (hC.2.2.2.1.cellAt tx.out) (aI (hC.2.2.2.1.cellAt t0.out) (aI l1 (aI l2 E1.out)))) (fun W' hC=>cb.out W') ?_
    iterate 5 refine dE (fun W' hC=>aI (hC.2.2.2.1.cellAt tx.out) (aI (hC.2.2.2.1.cellAt t0.out) (aI l1 (aI l2 E1.out)))) ?_
    clear hW hL b1 b2 b3
    rintro W23 hW z24 hL
    simp only[ndR]
    intros
    simp only[ndS]
    refine wpList_nil ?_
    obtain⟨⟨b1,yb1,k1,f1⟩,⟨b2,yb2,k2,f2⟩,b3,-⟩:=hL
    go_wp2
    go_ret2
    exact⟨hWW.trans (((hW0.trans (hW.mono hz))).mono hWW.size),.inr ⟨not_all ty.out hbk.out,rfl⟩⟩
   |true=>
    have cb:=Hd (fun W=>c2.out W i x y tx.out ty.out hbk)
    replace hbk:=Hd hbk
    have k1:=b1.cell
    have f1:=b1.frozen
    have q1:=hT.cellAt tx.out
    have zt:=Ap q1
    try simp at zt
    have E1:=Hd (show wrap64 (x-x0)=x-x0 by rw[Ak];omega)
    have hown7:=Hd hown
    clear hown
    go_upto_region 11 with(fail)
    clear k1 f1
    refine Ab W (Bc w.heap.size #[K,.slice p len cap,A,R,n,d,.slice q m vc,E] 135<|Bc W.heap.size #[x,.int .i64 0] 58<|Rc (fun W'=>Dd W' bt ot T)<|Bz) ?_ (hI:=by exact Aa) (hR:=(Bc.mk (by exact Ad)<|Bc.mk (by exact Ad)<|Rc.mk (by exact hT.below Aa)<|trivial))
    clear b1
    rintro W21 hW z22 hL
    obtain⟨⟨b1,yb1,k1,f1⟩,⟨b2,yb2,k2,f2⟩,b3,-⟩:=id hL
    clear k1 f1 k2 f2
    refine Dn 16 60 hW hL ?_
    iterate 10 refine dE (fun W' hC=>aI (hC.2.2.2.1.cellAt tx.out) (aI (hC.2.2.2.1.cellAt t0.out) (aI l1 (aI l2 E1.out)))) ?_
    refine cE (fun W' hC=>aI (hC.2.2.2.1.cellAt tx.out) (aI (hC.2.2.2.1.cellAt t0.out) (aI l1 (aI l2 E1.out)))) (fun W' hC=>cb.out W') ?_
    iterate 5 refine dE (fun W' hC=>aI (hC.2.2.2.1.cellAt tx.out) (aI (hC.2.2.2.1.cellAt t0.out) (aI l1 (aI l2 E1.out)))) ?_
    clear hW hL b1 b2 b3
    rintro W23 hW z24 hL
    simp only[ndR]
    intros
    simp only[ndS]
    refine wpList_nil ?_
    obtain⟨⟨b1,yb1,k1,f1⟩,⟨b2,yb2,k2,f2⟩,b3,-⟩:=hL
    have z97:=b1.lt
    have z98:=b2.lt
    have hown':=(hown7.out.below hW).own
    have hne9:=Hd (show∀k,v.ownBlock=some k->k≠W.heap.size from fun k hk=>by have:=(hown7.out.own.lt k hk).2;omega)
    clear cb b3
    go_upto_region 15 with(fail)
    clear k1 f1 k2 f2
    refine Ab W (Bc W.heap.size #[x,y] 58<|Rc (fun W'=>Bj W' w1.heap.size 58 2 v i (Ax ((T.zip V).take i)))<|Bz) ?_ (hI:=by exact Aa) (hR:=(Bc.mk (by exact Ad)<|Rc.mk (by exact⟨Ha hown' hne9.out 1 (y)⟩)<|trivial))
    clear b1 b2 hW
    rintro W25 hW z26 ⟨⟨b1,yb1,k1,f1⟩,b2,-⟩
    have hown9:=b2.own
    have hW9:=hW0.trans (hW.mono hz)
    have ya9:=hW9.size
    clear hW hown' b2
    go_wp2_with (at_builtin;refine wpList_append_own _ rfl (.tmp 55) (.tmp 57) 33 rfl w1.heap.size 58 i0 (.agg #[.int .i64 0,.int .i64 0]) 2 16 (by kernel_rfl) hi hz0 hz1 hz2 rfl (by decide) _ _ _ rfl (hown9.alloc _) ⟨W25.heap.size,0,none⟩ 1 1 [x,y] rfl rfl (Hh _ _ _ _) (by simp[Value.oneCell']) (by simp[maxLen];omega) (by omega) (by simp;omega) ?_)
    intro v' w9 hown2 hgr _
    have hB:=Hd (A7 hW9 ya9 hown9 hgr)
    replace hown2:=Hd hown2
    have hall':=Hd (show∀k y,k<i+1->V[k]? =some y->Ay y=true from fun k z hk hz=>by
     rcases Nat.lt_or_ge k i with h|h
     ·exact hall.out k z h hz
     ·obtain rfl:k=i:=by omega
      rw[ty.out] at hz
      injection hz with hz
      rw[<-hz];exact hbk.out)
    clear hgr hown9
    go_wp2
    rw[show (i:Int)+1=((i+1:Nat):Int) by omega]
    refine⟨?_,by simp[Ag];omega⟩
    unfold Um
    exact⟨hB.out,i+1,v',Ac rfl,⟨by rw[Xo tx.out ty.out,Hf];simpa using hown2.out⟩,by omega,hall'.out⟩
  ·obtain rfl:i=T.length:=by omega
   have hya:=Hd (yes_all (by have:=hTV.out;omega) hall.out)
   have htk:=Hd (show (T.zip V).take T.length=T.zip V from List.take_of_length_le (by rw[List.length_zip];exact Nat.min_le_left _ _))
   go_wp2
   go_ret2
   exact⟨hWW.trans (hW0.mono hWW.size),.inl ⟨hya.out,_,rfl,by have:=hown.mono hWW.size;rw[htk.out] at this;exact this⟩⟩

def plS1 (i:Nat) (S:Int):Int:=if 1<=i then S else 0
def plS2 (i:Nat) (S:Int):Int:=if 2<=i then S else 0
def plusV (f:Bool) (S1 S2:Int):Array Value:=if f=true then #[S1,S2] else #[.int .i64 0,.int .i64 0]
def plusE (f:Bool):Int:=if f=true then 0 else 5
def spA (l:List (Int×Int)):Int:=He (l.map (·.1))
def spB (l:List (Int×Int)):Int:=He (l.map (·.2))
theorem Zw (r:Nat) (w:World):Cb 118 #[.int .i32 r] w (.bool (Ea r)):=by
 go_enter Tryz.func118,Tryz.ntmps118
 go_upto_region 1 with(fail)
 refine Ab w (Bz) ?_
 rintro W1 hW z2 hL
 refine Bg 15 17 hW hL ?_
 iterate 3 refine dA ?_
 iterate 2 refine gA ?_
 refine pA ?_
 refine dA ?_
 iterate 3 refine gA ?_
 iterate 2 refine gB ?_
 refine pgA ?_
 refine pO ?_
 refine dA ?_
 clear hW hL
 rintro W3 hW z4 hL
 simp only[ndR]
 intros
 repeat (rename Am _ _ _ _=>hgd;clear hgd)
 simp only[ndS]
 refine wpList_nil ?_
 obtain⟨-⟩:=hL
 go_wp2
 refine bodyPost_ret (v:= .bool ((decide (97<=(r:Int))&&decide ((r:Int)<=122))||(decide (48<=(r:Int))&&decide ((r:Int)<=57)))) (by simp[results,Tryz.results118,go_sem]) rfl ⟨?_,by exact Aa⟩
 congr 2
 unfold Ea
 rw[Bool.eq_iff_iff]
 simp only[Bool.or_eq_true,Bool.and_eq_true,decide_eq_true_eq]
 omega
theorem Ol (n lo hi:Int) (w:World):Cb 124 #[n,lo,hi] w (.bool (btw n lo hi)):=by
 unfold btw
 go_enter Tryz.func124,Tryz.ntmps124
 go_upto_region 1 with(fail)
 refine Ab w (Bz) ?_
 rintro W1 hW z2 hL
 refine Bg 9 15 hW hL ?_
 iterate 4 refine dA ?_
 iterate 3 refine gA ?_
 refine pA ?_
 refine dA ?_
 clear hW hL
 rintro W3 hW z4 hL
 simp only[ndR]
 intros
 repeat (rename Am _ _ _ _=>hgd;clear hgd)
 simp only[ndS]
 refine wpList_nil ?_
 obtain⟨-⟩:=hL
 go_wp2
 refine bodyPost_ret (by simp[results,Tryz.results124,go_sem]) rfl ⟨rfl,by exact Aa⟩
theorem c_srScl (n:Int) (w:World):Cb 144 #[n] w (.bool (btw n (-40) 40)):=by
 unfold btw
 go_enter Tryz.func144,Tryz.ntmps144
 go_upto_region 1 with(fail)
 refine Ab w (Bz) ?_
 rintro W1 hW z2 hL
 refine Bg 7 9 hW hL ?_
 iterate 3 refine dA ?_
 iterate 2 refine gA ?_
 refine pA ?_
 refine dA ?_
 clear hW hL
 rintro W3 hW z4 hL
 simp only[ndR]
 intros
 repeat (rename Am _ _ _ _=>hgd;clear hgd)
 simp only[ndS]
 refine wpList_nil ?_
 obtain⟨-⟩:=hL
 go_wp2
 refine bodyPost_ret (by simp[results,Tryz.results144,go_sem]) rfl ⟨rfl,by exact Aa⟩
theorem width_pos (s:ByteArray) (pos:Nat) (h:pos<s.size):1<=(Utf8.decode s pos).2:=by
 by_cases ha:(s[pos]'h).toNat<128
 ·rw[decode_ascii s pos h ha]
  exact Nat.le_refl _
 ·exact(decode_high s pos h (by omega)).2
def nmRel (w:World) (s:ByteArray) (ok:Bool) (a':Act) (W:World):Prop:=
 Below w.heap.size w W/\∃pos f:Nat,(∃u:Nat->Value,a'= {tmps:= #[.string s,u 1,u 2,.bool ok,u 4,u 5,u 6,u 7,u 8,u 9,u 10,u 11,u 12,u 13,u 14,.pointer (some ⟨w.heap.size,0,none⟩),u 16,u 17,u 18,u 19,u 20,u 21,u 22],defers:= []})/\W.heap[w.heap.size]? =some (.stringIter s pos)/\s.size<=pos+f/\Cv s f pos=Cv s s.size 0
theorem Vd (s:ByteArray) (w:World):Cb 73 #[.string s] w (.bool (Fq s)):=by
 go_enter Tryz.func73,Tryz.ntmps73
 go_upto_region 1 with(fail)
 refine wp_scope_straight (wp_seq ?_)
 refine Ab w (Bz) ?_
 rintro W1 hW z2 hL
 refine Bg 9 23 hW hL ?_
 iterate 4 refine dA ?_
 iterate 3 refine gA ?_
 refine pA ?_
 refine dA ?_
 clear hW hL
 rintro W3 hW z4 hL
 simp only[ndR]
 intros
 repeat (rename Am _ _ _ _=>hgd;clear hgd)
 simp only[ndS]
 refine wpList_nil ?_
 obtain⟨-⟩:=hL
 have hok:(decide (1<=(s.size:Int))&&decide ((s.size:Int)<=12))=decide (1<=s.size/\s.size<=12):=by
  rw[Bool.eq_iff_iff]
  simp only[Bool.and_eq_true,decide_eq_true_eq]
  omega
 rw[hok]
 obtain⟨ok,ho⟩:∃b,decide (1<=s.size/\s.size<=12)=b:=⟨_,rfl⟩
 rw[ho]
 replace ho:=Hd ho
 clear hok
 simp only[Exit.then]
 refine wp_seq (wp_label ?_)
 go_wp2
 refine wp_loop (nmRel W3 s ok) (fun _ W=>s.size-W.iterPos W3.heap.size) ?_ ?_
 ·unfold nmRel
  have hit:=World.iter_heap W3 s 0
  exact⟨(Below.refl _ _).alloc (Nat.le_refl _) _,0,s.size,Ac rfl,by simpa using hit,by omega,rfl⟩
 ·rintro a' W ⟨hW0,pos,f,⟨u,rfl⟩,hit,hf,hlet⟩
  have hz:=hW0.size
  have hlt:=(Array.getElem?_eq_some_iff.1 hit).1
  by_cases hp:pos<s.size
  ·have hnx:∀ty,(Instr.next (.pointer (some ⟨W3.heap.size,0,none⟩)) true ty).run Tryz.prog W=_:=fun ty=>Lib.run_next_any_at W W3.heap.size s pos ty hit hp
   have hwd:=width_pos s pos hp
   have hit2:=Lib.iterAt_heap W W3.heap.size s pos (pos+(Utf8.decode s pos).2) hit
   have hbw2:=Lib.below_iterAt hW0 (k:=W3.heap.size) (Nat.le_refl _) s (pos+(Utf8.decode s pos).2)
   obtain⟨f,rfl⟩:∃g,f=g+1:=⟨f-1,by omega⟩
   have hst:Cv s (f+1) pos=(Ea (Utf8.decode s pos).1&&Cv s f (pos+(Utf8.decode s pos).2)):=by simp[Cv,hp]
   rw[hst] at hlet
   obtain⟨r,hr⟩:∃r,(Utf8.decode s pos).1=r:=⟨_,rfl⟩
   obtain⟨d,hd⟩:∃d,(Utf8.decode s pos).2=d:=⟨_,rfl⟩
   have hm:s.size-(pos+d)<s.size-W.iterPos W3.heap.size:=by
    simp only[World.iterPos,hit];omega
   rw[hd] at hit2 hbw2 hlet hwd
   rw[hr] at hlet
   simp only[hr,hd] at hnx
   obtain⟨W4,hW4⟩:∃W4,W.iterAt W3.heap.size s (pos+d)=W4:=⟨_,rfl⟩
   rw[hW4] at hit2 hbw2
   simp only[hW4] at hnx
   have cl:=fun W=>Zw r W
   clear hst hr hd hW4 hit hlt
   replace hit2:=Hd hit2
   replace hm:=Hd hm
   cases hlb:Ea r with
   |true=>
    rw[hlb] at cl hlet
    replace cl:=Hd cl
    replace hlet:=Hd hlet
    clear hlb
    go_wp2_with fail
    refine(cl.out _).mono ?_
    rintro e w5 ⟨rfl,hb5⟩
    have hit5:=Hd ((hb5.block _ (Array.getElem?_eq_some_iff.1 hit2.out).1).trans hit2.out)
    go_wp2
    refine⟨?_,by simp only[World.iterPos,hit5.out];exact hm.out⟩
    unfold nmRel
    exact⟨hbw2.trans (hb5.mono hbw2.size),pos+d,f,Ac rfl,hit5.out,by omega,by rw[<-hlet.out];rfl⟩
   |false=>
    rw[hlb] at cl hlet
    replace cl:=Hd cl
    have hno:=Hd (show Fq s=false by unfold Fq;rw[<-hlet];simp)
    clear hlb hlet
    go_wp2_with fail
    refine(cl.out _).mono ?_
    rintro e w5 ⟨rfl,hb5⟩
    go_wp2
    simp only[Exit.noGoto]
    go_ret
    exact⟨by rw[hno.out];rfl,hW.trans ((hbw2.trans (hb5.mono hbw2.size)).mono hW.size)⟩
  ·have hnx:∀ty,(Instr.next (.pointer (some ⟨W3.heap.size,0,none⟩)) true ty).run Tryz.prog W=_:=fun ty=>Lib.run_next_end_at W W3.heap.size s pos ty hit hp
   have hall:=Hd (show Fq s=ok by
    unfold Fq
    rw[<-hlet,ho.out]
    cases f with
    |zero=>simp[Cv]
    |succ f=>simp[Cv,hp])
   clear hlet
   go_wp2
   simp only[Exit.noGoto]
   go_ret
   exact⟨by rw[hall.out];rfl,hW.trans (hW0.mono hW.size)⟩
theorem c_srNums (nm:ByteArray) (ep fl la sc:Int) (ps po:Option Addr) (ns cs no co:Nat) (w:World):
  Cb 121 #[.agg #[.string nm,ep,fl,la,sc,.slice ps ns cs,.slice po no co]] w (.bool (Fq nm&&btw ep 0 1099511627776&&btw sc (-40) 40&&btw fl 0 281474976710656&&btw la (-1) 281474976710656)):=by
 go_enter Tryz.func121,Tryz.ntmps121
 go_upto_region 1 with(fail)
 refine Ab w (Bc w.heap.size #[.string nm,ep,fl,la,sc,.slice ps ns cs,.slice po no co] 79<|Bz) ?_
 rintro W1 hW z2 hL
 refine Bg 24 26 hW hL ?_
 iterate 2 refine dA ?_
 refine cA (fun W' hC=>Vd nm W') ?_
 refine dA ?_
 iterate 2 refine gA ?_
 refine cG (fun hp hx W' hC=>Ol ep 0 1099511627776 W') ?_
 refine pA ?_
 refine dA ?_
 iterate 2 refine gA ?_
 refine cG (fun hp hx W' hC=>c_srScl sc W') ?_
 refine pA ?_
 refine dA ?_
 iterate 2 refine gA ?_
 refine cG (fun hp hx W' hC=>Ol fl 0 281474976710656 W') ?_
 refine pA ?_
 refine dA ?_
 iterate 2 refine gA ?_
 refine cG (fun hp hx W' hC=>Ol la (-1) 281474976710656 W') ?_
 refine pA ?_
 refine dA ?_
 clear hW hL
 rintro W3 hW z4 hL
 simp only[ndR]
 intros
 repeat (rename Am _ _ _ _=>hgd;clear hgd)
 simp only[ndS]
 refine wpList_nil ?_
 obtain⟨⟨b1,yb1,k1,f1⟩,-⟩:=hL
 go_wp2
 refine bodyPost_ret (by simp[results,Tryz.results121,go_sem,k1,f1,yb1]) rfl ⟨rfl,by exact Aa⟩
theorem scheck_no (K A R n d E:Int) (p q:Option Addr) (len cap m vc:Nat) (w:World)
  (c1:∀W,Below w.heap.size w W->Cb 158 #[.agg #[K,.slice p len cap,A,R,n,d,.slice q m vc,E]] W (.bool false)):
  Cb 152 #[.agg #[K,.slice p len cap,A,R,n,d,.slice q m vc,E]] w (.int .i64 210):=by
 have H_c1:=Hd c1
 clear c1
 go_enter Tryz.func152,Tryz.ntmps152
 go_upto_region 1 with(fail)
 refine Ab w (Bc w.heap.size #[K,.slice p len cap,A,R,n,d,.slice q m vc,E] 135<|Bz) ?_
 rintro W1 hW z2 ⟨⟨b1,yb1,k1,f1⟩,-⟩
 go_wp2_with fail
 refine(H_c1.out _ (Aa)).mono ?_
 rintro e w3 ⟨rfl,hb3⟩
 have z4:=hb3.size
 try simp at z4
 clear k1 f1
 refine Aj w w3 (Bc w.heap.size #[K,.slice p len cap,A,R,n,d,.slice q m vc,E] 135<|Bz) ?_
 clear b1 hW
 rintro hW z5 ⟨⟨b1,yb1,k1,f1⟩,-⟩
 clear hb3
 go_wp2
 refine bodyPost_ret (by simp[results,Tryz.results152,go_sem,k1,f1,yb1]) rfl ⟨rfl,by exact Aa⟩
theorem scheck_yes (K A R n d E:Int) (p q:Option Addr) (len cap m vc:Nat) (w:World)
  (c1:∀W,Below w.heap.size w W->Cb 158 #[.agg #[K,.slice p len cap,A,R,n,d,.slice q m vc,E]] W (.bool true)):
  Cb 152 #[.agg #[K,.slice p len cap,A,R,n,d,.slice q m vc,E]] w (.int .i64 0):=by
 have H_c1:=Hd c1
 clear c1
 go_enter Tryz.func152,Tryz.ntmps152
 go_upto_region 1 with(fail)
 refine Ab w (Bc w.heap.size #[K,.slice p len cap,A,R,n,d,.slice q m vc,E] 135<|Bz) ?_
 rintro W1 hW z2 ⟨⟨b1,yb1,k1,f1⟩,-⟩
 go_wp2_with fail
 refine(H_c1.out _ (Aa)).mono ?_
 rintro e w3 ⟨rfl,hb3⟩
 have z4:=hb3.size
 try simp at z4
 clear k1 f1
 refine Aj w w3 (Bc w.heap.size #[K,.slice p len cap,A,R,n,d,.slice q m vc,E] 135<|Bz) ?_
 clear b1 hW
 rintro hW z5 ⟨⟨b1,yb1,k1,f1⟩,-⟩
 clear hb3
 go_wp2
 refine bodyPost_ret (by simp[results,Tryz.results152,go_sem,k1,f1,yb1]) rfl ⟨rfl,by exact Aa⟩
theorem Tm (s:Aw) (p q:Option Addr) (cap vc:Nat) (w:World) (h:C0 w s p q) (hs:Cr s=true):
  Cb 152 #[.agg (C9 s p q cap vc)] w (.int .i64 0):=
 scheck_yes _ _ _ _ _ _ p q _ cap _ vc w (fun W hW=>by have:=Xb s p q cap vc W (h.below hW);rw[hs] at this;exact this)
theorem Xc (s:Aw) (p q:Option Addr) (cap vc:Nat) (w:World) (h:C0 w s p q) (hs:Cr s=false):
  Cb 152 #[.agg (C9 s p q cap vc)] w (.int .i64 210):=
 scheck_no _ _ _ _ _ _ p q _ cap _ vc w (fun W hW=>by have:=Xb s p q cap vc W (h.below hW);rw[hs] at this;exact this)
end Go.Proofs.YtdeghcgakkhbmaaGreat
namespace Go.Proofs.YtdeghcgakkhbmaaGreat
open Go.RowKit Go.Shelf
attribute [local go_sem] Oper.semAt_some
def okZ (z:(Int×Int)×(Int×Int)):Bool:=(z.2.1==z.1.1)&&Ay z.2.2
def farStep (f:Int) (z:(Int×Int)×(Int×Int)):Int:=mx (mx f (wrap64 (z.2.2-z.1.2))) (wrap64 (z.1.2-z.2.2))
def farOf (l:List ((Int×Int)×(Int×Int))):Int:=l.foldl farStep 0
structure KF (B0 n₀:Nat) (A B:World):Prop where
 below:Below B0 A B
 rest:∀(b:Nat) (cs:Array Value) (t:TypeId) (f:Nat×Nat),n₀<=b->A.heap[b]? =some (.cells cs t f)->B.heap[b]? =some (.cells cs t f)
theorem KF.refl (B0 n₀:Nat) (A:World):KF B0 n₀ A A:=⟨Below.refl _ _,fun _ _ _ _ _ h=>h⟩
theorem KF.trans {B0 n₀:Nat} {A B C:World} (h:KF B0 n₀ A B) (k:KF B0 n₀ B C):KF B0 n₀ A C:=⟨h.below.trans k.below,fun b cs t f hb ha=>k.rest b cs t f hb (h.rest b cs t f hb ha)⟩
theorem KF.alloc {B0 n₀:Nat} {A B:World} (h:KF B0 n₀ A B) (hB:B0<=B.heap.size) (o:Obj):KF B0 n₀ A (B.alloc o):=⟨h.below.alloc hB o,fun b cs t f hb ha=>(Below.heap_alloc B o b (Di (h.rest b cs t f hb ha))).trans (h.rest b cs t f hb ha)⟩
theorem KF.set {B0 n₀:Nat} {A B:World} (h:KF B0 n₀ A B) {g i:Nat} (h1:B0<=g) (h2:g<n₀) (v:Value):KF B0 n₀ A (B.setCell ⟨g,i,none⟩ v):=⟨h.below.setCell (p:=⟨g,i,none⟩) h1 v,fun b cs t f hb ha=>(Below.heap_setCell B ⟨g,i,none⟩ v b (by simp;omega)).trans (h.rest b cs t f hb ha)⟩
theorem KF.calls {B0 n₀:Nat} {A B C:World} (h:KF B0 n₀ A B) (hb:Below B.heap.size B C) (hB:B0<=B.heap.size):KF B0 n₀ A C:=⟨h.below.trans (hb.mono hB),fun b cs t f hn ha=>(hb.block b (Di (h.rest b cs t f hn ha))).trans (h.rest b cs t f hn ha)⟩
theorem KF.putObj {B0 n₀:Nat} {w:World} (hB:B0<=w.heap.size) (W:World) (l:Nat) (o o':Obj) (hl:w.heap.size<=l) (h:W.heap[l]? =some o) (h1:o.isCells=false) (h2:o.isWalk=false):KF B0 n₀ W (W.putObj l o'):=
 ⟨belowK_b hB W l o o' hl h h1 h2,fun b cs t f _ ha=>Jj o' h h1 b cs f ha⟩
theorem KeepsOthers.calls {A B C:World} (h:KeepsOthers A B) (hb:Below B.heap.size B C):KeepsOthers A C:=⟨Nat.le_trans h.size hb.size,fun k o hk ho=>by
 have e:=h.same k o hk ho
 exact(hb.block k (Di (e))).trans e⟩
def farR (s:Aw) (pts:List (Int×Int)):Int×Int:=if pts.length=(B9 s).length then (if ((B9 s).zip pts).all okZ then (farOf ((B9 s).zip pts),0) else (0,2)) else (0,2)
def FarOut (s:Aw) (pts:List (Int×Int)) (w:World) (e:Ending) (w':World):Prop:=e= .returned (.tuple #[.int .i64 (farR s pts).1,.int .i64 (farR s pts).2])/\Below w.heap.size w w'
theorem Cw {A B:World} (h:KeepsOthers A B:=by repeat (first|with_reducible (exact KeepsOthers.refl _)|with_reducible (refine KeepsOthers.trans ?_ (KeepsOthers.setCell _ _ _))|with_reducible (refine KeepsOthers.trans ?_ (KeepsOthers.alloc _ _))|with_reducible (refine KeepsOthers.calls ?_ (by assumption)))):KeepsOthers A B:=h
theorem Y8 {B0 n₀:Nat} {A B:World} (h:KF B0 n₀ A B:=by repeat (first|with_reducible (exact KF.refl _ _ _)|with_reducible (refine KF.set ?_ (by omega) (by omega) _)|with_reducible (refine KF.alloc ?_ (by omega) _)|with_reducible (refine KF.calls ?_ (by assumption) (by first|omega|(simp;omega))))):KF B0 n₀ A B:=h
end Go.Proofs.YtdeghcgakkhbmaaGreat
