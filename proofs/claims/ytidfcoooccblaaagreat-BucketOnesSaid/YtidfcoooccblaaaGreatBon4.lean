/- Parts of the proof that follows. No condition. -/
import Derived.Laws.EntriesVeiled
import Derived.Tactics
import Derived.Tactics2
import Derived.Defers
import Derived.Recover
import Derived.Laws.Pointers
import Derived.Test.YtidfcoooccblaaaGreatBon3
set_option maxRecDepth 100000
set_option maxHeartbeats 8000000
set_option linter.unusedSimpArgs false
set_option linter.unusedVariables false
namespace Go.Proofs.YtidfcoooccblaaaGreat
open Go.RowKit
attribute [local simp] Oper.looksAt Op.operands Call.operands Aj Det Ao
theorem add_w (g:Nat) (sh sl n ah al bh bl m xh xl t ph pl rh rl e1 e2:Int) (w:World) (hg:Blk w g #[sh,.int .u64 sl,n,ah,.int .u64 al,bh,.int .u64 bl,m] 311)
  (c1:∀w,Cb 241 #[.agg #[xh,.int .u64 xl],t] w (.tuple #[.agg #[ph,.int .u64 pl],e1]))
  (c2:∀w,Cb 16 #[.agg #[sh,.int .u64 sl],.agg #[ph,.int .u64 pl]] w (.tuple #[.agg #[rh,.int .u64 rl],e2])):
  Calls Tryz.prog 236 #[.pointer (some ⟨g,0,none⟩),.agg #[xh,.int .u64 xl],t] w fun e w'=>e= .returned (.tuple #[])/\Rex [g] w w'/\Blk w' g #[rh,.int .u64 rl,n,ah,.int .u64 al,bh,.int .u64 bl,m] 311:=by
 have y0:=hg.lt
 have H_c1:=Hd c1
 clear c1
 have H_c2:=Hd c2
 clear c2
 go_enter Tryz.func236,Tryz.ntmps236
 go_upto_region 1 with(fail)
 refine Cm [g] w (Bc g #[sh,.int .u64 sl,n,ah,.int .u64 al,bh,.int .u64 bl,m] 311<|Bc w.heap.size #[xh,.int .u64 xl] 36<|Bz) ?_
 rintro W1 hW z2 ⟨⟨b1,yb1,k1,f1⟩,⟨b2,yb2,k2,f2⟩,-⟩
 go_wp2_with fail
 refine(H_c1.out _).mono ?_
 rintro e w3 ⟨rfl,hb3⟩
 have z4:=hb3.size
 try simp at z4
 clear k1 f1 k2 f2
 refine K9 [g] w w3 (Bc g #[sh,.int .u64 sl,n,ah,.int .u64 al,bh,.int .u64 bl,m] 311<|Bc w.heap.size #[xh,.int .u64 xl] 36<|Bz) ?_
 clear b1 b2 hW
 rintro hW z5 ⟨⟨b1,yb1,k1,f1⟩,⟨b2,yb2,k2,f2⟩,-⟩
 clear hb3
 go_upto_region 2 with(fail)
 clear k1 f1 k2 f2
 refine Cm [g] w (Bc g #[sh,.int .u64 sl,n,ah,.int .u64 al,bh,.int .u64 bl,m] 311<|Bc w.heap.size #[ph,.int .u64 pl] 36<|Bz) ?_
 clear b1 b2 hW
 rintro W6 hW z7 ⟨⟨b1,yb1,k1,f1⟩,⟨b2,yb2,k2,f2⟩,-⟩
 clear k1 f1 k2 f2
 have c2:=H_c2.out
 refine An 12 24 [] (fun W'=>Rex [] W6 W'/\Blk W' g #[sh,.int .u64 sl,n,ah,.int .u64 al,bh,.int .u64 bl,m] 311/\Blk W' w.heap.size #[ph,.int .u64 pl] 36) Cd (by kernel_rfl) rfl ⟨(Rex.refl _ _).drew,b1,b2⟩ (fun w w' ⟨h0,h1,h2⟩ hr=>⟨h0.trans hr,h1.rex hr (by simp<;>omega),h2.rex hr (by simp<;>omega)⟩) (fun c a d v w h=>by cases d<;>exact h) ?_
 iterate 6
  apply Ag (hg:=rfl) (hal:=rfl)
  ·intro a W' hC hE
   obtain⟨_,k1,k2⟩:=hC
   have k1:=k1.cell
   have k2:=k2.cell
   first
    |(simp at hE;simp[go_sem,Act.eval,iw,hE,k1,k2];try rfl)
    |(clear hE;simp[go_sem,Act.eval,iw,k1,k2];try rfl)
 refine Bg rfl rfl (fun W' hC=>c2 W') (fun a W' hC hE=> ?_) ?_
 ·obtain⟨_,k1,k2⟩:=hC
  have k1:=k1.cell
  have k2:=k2.cell
  first
   |(simp at hE;simp[go_sem,Act.eval,iw,hE,k1,k2];try rfl)
   |(clear hE;simp[go_sem,Act.eval,iw,k1,k2];try rfl)
 iterate 5
  apply Ag (hg:=rfl) (hal:=rfl)
  ·intro a W' hC hE
   obtain⟨_,k1,k2⟩:=hC
   have k1:=k1.cell
   have k2:=k2.cell
   first
    |(simp at hE;simp[go_sem,Act.eval,iw,hE,k1,k2];try rfl)
    |(clear hE;simp[go_sem,Act.eval,iw,k1,k2];try rfl)
 rintro W8 ⟨hR,d1,d2⟩
 simp only[Ar,Det,forall_eq]
 intros
 repeat (rename Ao _ _ _ _=>hgd;clear hgd)
 simp only[nS]
 replace hW:=hW.trans (hR.more (by simp))
 clear hR
 clear c2
 try clear b1 b2
 have b1:=d1
 clear d1
 have b2:=d2
 clear d2
 have k1:=b1.cell
 have f1:=b1.frozen
 have k2:=b2.cell
 have f2:=b2.frozen
 go_wp2
 refine bodyPost_end (results_none rfl _ _ _) rfl ⟨rfl,Gt,A3⟩
def Nj (s n a b m:Int):Array Value:= #[.int .i64 (hiW s),.int .u64 (loW s),n,.int .i64 (hiW a),.int .u64 (loW a),.int .i64 (hiW b),.int .u64 (loW b),m]
theorem c_add (g:Nat) (s n a b m x t:Int) (w:World) (hg:Blk w g (Nj s n a b m) 311) (hs:Bt s) (hx:Bt x) (ht:I64 t) (h1:Bt (x*t)) (h2:Bt (s+x*t)):
  Calls Tryz.prog 236 #[.pointer (some ⟨g,0,none⟩),B4 x,t] w fun e w'=>e= .returned (.tuple #[])/\Rex [g] w w'/\Blk w' g (Nj (s+x*t) n a b m) 311:=by
 have c1:=fun w=>c_Scale x t w hx ht
 rw[Ka h1] at c1
 have c2:=fun w=>S0 s (x*t) w hs h1
 rw[Ka h2,Dv h2] at c2
 exact add_w g _ _ n _ _ _ _ m _ _ t _ _ _ _ _ _ w hg c1 c2
theorem steps_w (g:Nat) (sh sl s1h s1l s2h s2l s3h s3l n ah al bh bl m qh ql ar rh rl br p sm smh sml:Int) (w:World) (hg:Blk w g #[sh,.int .u64 sl,n,ah,.int .u64 al,bh,.int .u64 bl,m] 311)
  (c1:∀w,Cb 61 #[.agg #[ah,.int .u64 al],m] w (.tuple #[.agg #[qh,.int .u64 ql],ar,.int .i64 0]))
  (c2:∀w,Cb 243 #[n] w (p))
  (c3:∀w,Blk w g #[sh,.int .u64 sl,n,ah,.int .u64 al,bh,.int .u64 bl,m] 311->Calls Tryz.prog 236 #[.pointer (some ⟨g,0,none⟩),.agg #[qh,.int .u64 ql],p] w fun e w'=>e= .returned (.tuple #[])/\Rex [g] w w'/\Blk w' g #[s1h,.int .u64 s1l,n,ah,.int .u64 al,bh,.int .u64 bl,m] 311)
  (c4:∀w,Cb 61 #[.agg #[bh,.int .u64 bl],m] w (.tuple #[.agg #[rh,.int .u64 rl],br,.int .i64 0]))
  (c5:∀w,Blk w g #[s1h,.int .u64 s1l,n,ah,.int .u64 al,bh,.int .u64 bl,m] 311->Calls Tryz.prog 236 #[.pointer (some ⟨g,0,none⟩),.agg #[rh,.int .u64 rl],n] w fun e w'=>e= .returned (.tuple #[])/\Rex [g] w w'/\Blk w' g #[s2h,.int .u64 s2l,n,ah,.int .u64 al,bh,.int .u64 bl,m] 311)
  (c6:∀w,Cb 244 #[n,ar,br,m] w (sm))
  (c7:∀w,Cb 117 #[sm] w (.agg #[smh,.int .u64 sml]))
  (c8:∀w,Blk w g #[s2h,.int .u64 s2l,n,ah,.int .u64 al,bh,.int .u64 bl,m] 311->Calls Tryz.prog 236 #[.pointer (some ⟨g,0,none⟩),.agg #[smh,.int .u64 sml],.int .i64 1] w fun e w'=>e= .returned (.tuple #[])/\Rex [g] w w'/\Blk w' g #[s3h,.int .u64 s3l,n,ah,.int .u64 al,bh,.int .u64 bl,m] 311):
  Calls Tryz.prog 240 #[.pointer (some ⟨g,0,none⟩)] w fun e w'=>e= .returned (.tuple #[])/\Rex [g] w w'/\Blk w' g #[s3h,.int .u64 s3l,n,ah,.int .u64 al,bh,.int .u64 bl,m] 311:=by
 have y0:=hg.lt
 have hmf:∀(fn:Fn) (first cap:Array Value) (w:World),(Instr.makeFunc fn first cap).run Tryz.prog w= .ok (.func fn first cap) w:=fun _ _ _ _=>rfl
 have H_c1:=Hd c1
 clear c1
 have H_c2:=Hd c2
 clear c2
 have H_c3:=Hd c3
 clear c3
 have H_c4:=Hd c4
 clear c4
 have H_c5:=Hd c5
 clear c5
 have H_c6:=Hd c6
 clear c6
 have H_c7:=Hd c7
 clear c7
 have H_c8:=Hd c8
 clear c8
 go_enter Tryz.func240,Tryz.ntmps240
 go_upto_region 1 with(fail)
 refine Cm [g] w (Bc g #[sh,.int .u64 sl,n,ah,.int .u64 al,bh,.int .u64 bl,m] 311<|Bz) ?_
 rintro W1 hW z2 ⟨⟨b1,yb1,k1,f1⟩,-⟩
 clear k1 f1
 have c1:=H_c1.out
 refine An 14 67 [] (fun W'=>Rex [] W1 W'/\Blk W' g #[sh,.int .u64 sl,n,ah,.int .u64 al,bh,.int .u64 bl,m] 311) Cd (by kernel_rfl) rfl ⟨(Rex.refl _ _).drew,b1⟩ (fun w w' ⟨h0,h1⟩ hr=>⟨h0.trans hr,h1.rex hr (by simp<;>omega)⟩) (fun c a d v w h=>by cases d<;>exact h) ?_
 iterate 8
  apply Ag (hg:=rfl) (hal:=rfl)
  ·intro a W' hC hE
   obtain⟨_,k1⟩:=hC
   have k1:=k1.cell
   first
    |(simp at hE;simp[go_sem,Act.eval,iw,hE,k1];try rfl)
    |(clear hE;simp[go_sem,Act.eval,iw,k1];try rfl)
 refine Bg rfl rfl (fun W' hC=>c1 W') (fun a W' hC hE=> ?_) ?_
 ·obtain⟨_,k1⟩:=hC
  have k1:=k1.cell
  first
   |(simp at hE;simp[go_sem,Act.eval,iw,hE,k1];try rfl)
   |(clear hE;simp[go_sem,Act.eval,iw,k1];try rfl)
 iterate 4
  apply Ag (hg:=rfl) (hal:=rfl)
  ·intro a W' hC hE
   obtain⟨_,k1⟩:=hC
   have k1:=k1.cell
   first
    |(simp at hE;simp[go_sem,Act.eval,iw,hE,k1];try rfl)
    |(clear hE;simp[go_sem,Act.eval,iw,k1];try rfl)
 apply Db W1.heap.size #[.int .i64 0,.int .u64 0] 36 rfl rfl
 ·exact fun W' hC=>hC.1.size
 ·simp[Bl]<;>omega
 ·intro w;kernel_rfl
 rintro W3 ⟨hR,d1⟩
 simp only[Ar,Det,forall_eq]
 intros
 repeat (rename Ao _ _ _ _=>hgd;clear hgd)
 simp only[nS]
 replace hW:=hW.trans (hR.more (by simp))
 clear hR
 clear c1
 try clear b1
 have b1:=d1
 clear d1
 obtain⟨v,rfl,hg_v,b2⟩:= ‹D9 _ _ _ _ _›
 have yb2:=b2.lt
 have k1:=b1.cell
 have f1:=b1.frozen
 have k2:=b2.cell
 have f2:=b2.frozen
 go_upto_region 2 with(fail)
 clear k1 f1 k2 f2
 refine Cm [g] w (Bc g #[sh,.int .u64 sl,n,ah,.int .u64 al,bh,.int .u64 bl,m] 311<|Bc v #[qh,.int .u64 ql] 36<|Bz) ?_
 clear b1 b2 hW
 rintro W4 hW z5 ⟨⟨b1,yb1,k1,f1⟩,⟨b2,yb2,k2,f2⟩,-⟩
 clear k1 f1 k2 f2
 have c2:=H_c2.out
 refine An 7 67 [] (fun W'=>Rex [] W4 W'/\Blk W' g #[sh,.int .u64 sl,n,ah,.int .u64 al,bh,.int .u64 bl,m] 311/\Blk W' v #[qh,.int .u64 ql] 36) Cd (by kernel_rfl) rfl ⟨(Rex.refl _ _).drew,b1,b2⟩ (fun w w' ⟨h0,h1,h2⟩ hr=>⟨h0.trans hr,h1.rex hr (by simp<;>omega),h2.rex hr (by simp<;>omega)⟩) (fun c a d v w h=>by cases d<;>exact h) ?_
 iterate 6
  apply Ag (hg:=rfl) (hal:=rfl)
  ·intro a W' hC hE
   obtain⟨_,k1,k2⟩:=hC
   have k1:=k1.cell
   have k2:=k2.cell
   first
    |(simp at hE;simp[go_sem,Act.eval,iw,hE,k1,k2];try rfl)
    |(clear hE;simp[go_sem,Act.eval,iw,k1,k2];try rfl)
 refine Bg rfl rfl (fun W' hC=>c2 W') (fun a W' hC hE=> ?_) ?_
 ·obtain⟨_,k1,k2⟩:=hC
  have k1:=k1.cell
  have k2:=k2.cell
  first
   |(simp at hE;simp[go_sem,Act.eval,iw,hE,k1,k2];try rfl)
   |(clear hE;simp[go_sem,Act.eval,iw,k1,k2];try rfl)
 rintro W6 ⟨hR,d1,d2⟩
 simp only[Ar,Det,forall_eq]
 intros
 repeat (rename Ao _ _ _ _=>hgd;clear hgd)
 simp only[nS]
 replace hW:=hW.trans (hR.more (by simp))
 clear hR
 clear c2
 try clear b1 b2
 have b1:=d1
 clear d1
 have b2:=d2
 clear d2
 have k1:=b1.cell
 have f1:=b1.frozen
 have k2:=b2.cell
 have f2:=b2.frozen
 go_wp2_with fail
 refine(H_c3.out _ (A3)).mono ?_
 rintro e w7 ⟨rfl,hb7,hn7⟩
 have z8:=hb7.size
 try simp at z8
 clear k1 f1 k2 f2
 refine K9 [g] w w7 (Bc g #[s1h,.int .u64 s1l,n,ah,.int .u64 al,bh,.int .u64 bl,m] 311<|Bc v #[qh,.int .u64 ql] 36<|Bz) ?_ (hR:=(Bc.mk (by exact hn7)<|Bc.mk (by exact Ab)<|trivial))
 clear b1 b2 hW
 rintro hW z9 ⟨⟨b1,yb1,k1,f1⟩,⟨b2,yb2,k2,f2⟩,-⟩
 clear hb7 hn7
 go_upto_region 3 with(fail)
 clear k1 f1 k2 f2
 refine Cm [g] w (Bc g #[s1h,.int .u64 s1l,n,ah,.int .u64 al,bh,.int .u64 bl,m] 311<|Bc v #[qh,.int .u64 ql] 36<|Bz) ?_
 clear b1 b2 hW
 rintro W10 hW z11 ⟨⟨b1,yb1,k1,f1⟩,⟨b2,yb2,k2,f2⟩,-⟩
 clear k1 f1 k2 f2
 have c4:=H_c4.out
 refine An 13 67 [] (fun W'=>Rex [] W10 W'/\Blk W' g #[s1h,.int .u64 s1l,n,ah,.int .u64 al,bh,.int .u64 bl,m] 311/\Blk W' v #[qh,.int .u64 ql] 36) Cd (by kernel_rfl) rfl ⟨(Rex.refl _ _).drew,b1,b2⟩ (fun w w' ⟨h0,h1,h2⟩ hr=>⟨h0.trans hr,h1.rex hr (by simp<;>omega),h2.rex hr (by simp<;>omega)⟩) (fun c a d v w h=>by cases d<;>exact h) ?_
 iterate 8
  apply Ag (hg:=rfl) (hal:=rfl)
  ·intro a W' hC hE
   obtain⟨_,k1,k2⟩:=hC
   have k1:=k1.cell
   first
    |(simp at hE;simp[go_sem,Act.eval,iw,hE,k1,k2];try rfl)
    |(clear hE;simp[go_sem,Act.eval,iw,k1,k2];try rfl)
 refine Bg rfl rfl (fun W' hC=>c4 W') (fun a W' hC hE=> ?_) ?_
 ·obtain⟨_,k1,k2⟩:=hC
  have k1:=k1.cell
  first
   |(simp at hE;simp[go_sem,Act.eval,iw,hE,k1,k2];try rfl)
   |(clear hE;simp[go_sem,Act.eval,iw,k1,k2];try rfl)
 iterate 4
  apply Ag (hg:=rfl) (hal:=rfl)
  ·intro a W' hC hE
   obtain⟨_,k1,k2⟩:=hC
   have k1:=k1.cell
   first
    |(simp at hE;simp[go_sem,Act.eval,iw,hE,k1,k2];try rfl)
    |(clear hE;simp[go_sem,Act.eval,iw,k1,k2];try rfl)
 rintro W12 ⟨hR,d1,d2⟩
 simp only[Ar,Det,forall_eq]
 intros
 repeat (rename Ao _ _ _ _=>hgd;clear hgd)
 simp only[nS]
 replace hW:=hW.trans (hR.more (by simp))
 clear hR
 clear c4
 try clear b1 b2
 have b1:=d1
 clear d1
 have b2:=d2
 clear d2
 have k1:=b1.cell
 have f1:=b1.frozen
 have k2:=b2.cell
 have f2:=b2.frozen
 go_upto_region 4 with(fail)
 clear k1 f1 k2 f2
 refine Cm [g] w (Bc g #[s1h,.int .u64 s1l,n,ah,.int .u64 al,bh,.int .u64 bl,m] 311<|Bc v #[rh,.int .u64 rl] 36<|Bz) ?_
 clear b1 b2 hW
 rintro W13 hW z14 ⟨⟨b1,yb1,k1,f1⟩,⟨b2,yb2,k2,f2⟩,-⟩
 clear k1 f1 k2 f2
 refine An 6 67 [] (fun W'=>Rex [] W13 W'/\Blk W' g #[s1h,.int .u64 s1l,n,ah,.int .u64 al,bh,.int .u64 bl,m] 311/\Blk W' v #[rh,.int .u64 rl] 36) Cd (by kernel_rfl) rfl ⟨(Rex.refl _ _).drew,b1,b2⟩ (fun w w' ⟨h0,h1,h2⟩ hr=>⟨h0.trans hr,h1.rex hr (by simp<;>omega),h2.rex hr (by simp<;>omega)⟩) (fun c a d v w h=>by cases d<;>exact h) ?_
 iterate 6
  apply Ag (hg:=rfl) (hal:=rfl)
  ·intro a W' hC hE
   obtain⟨_,k1,k2⟩:=hC
   have k1:=k1.cell
   have k2:=k2.cell
   first
    |(simp at hE;simp[go_sem,Act.eval,iw,hE,k1,k2];try rfl)
    |(clear hE;simp[go_sem,Act.eval,iw,k1,k2];try rfl)
 rintro W15 ⟨hR,d1,d2⟩
 simp only[Ar,Det,forall_eq]
 intros
 repeat (rename Ao _ _ _ _=>hgd;clear hgd)
 simp only[nS]
 replace hW:=hW.trans (hR.more (by simp))
 clear hR
 try clear b1 b2
 have b1:=d1
 clear d1
 have b2:=d2
 clear d2
 have k1:=b1.cell
 have f1:=b1.frozen
 have k2:=b2.cell
 have f2:=b2.frozen
 go_wp2_with fail
 refine(H_c5.out _ (A3)).mono ?_
 rintro e w16 ⟨rfl,hb16,hn16⟩
 have z17:=hb16.size
 try simp at z17
 clear k1 f1 k2 f2
 refine K9 [g] w w16 (Bc g #[s2h,.int .u64 s2l,n,ah,.int .u64 al,bh,.int .u64 bl,m] 311<|Bc v #[rh,.int .u64 rl] 36<|Bz) ?_ (hR:=(Bc.mk (by exact hn16)<|Bc.mk (by exact Ab)<|trivial))
 clear b1 b2 hW
 rintro hW z18 ⟨⟨b1,yb1,k1,f1⟩,⟨b2,yb2,k2,f2⟩,-⟩
 clear hb16 hn16
 go_upto_region 5 with(fail)
 clear k1 f1 k2 f2
 refine Cm [g] w (Bc g #[s2h,.int .u64 s2l,n,ah,.int .u64 al,bh,.int .u64 bl,m] 311<|Bc v #[rh,.int .u64 rl] 36<|Bz) ?_
 clear b1 b2 hW
 rintro W19 hW z20 ⟨⟨b1,yb1,k1,f1⟩,⟨b2,yb2,k2,f2⟩,-⟩
 clear k1 f1 k2 f2
 have c6:=H_c6.out
 have c7:=H_c7.out
 refine An 13 67 [] (fun W'=>Rex [] W19 W'/\Blk W' g #[s2h,.int .u64 s2l,n,ah,.int .u64 al,bh,.int .u64 bl,m] 311/\Blk W' v #[rh,.int .u64 rl] 36) Cd (by kernel_rfl) rfl ⟨(Rex.refl _ _).drew,b1,b2⟩ (fun w w' ⟨h0,h1,h2⟩ hr=>⟨h0.trans hr,h1.rex hr (by simp<;>omega),h2.rex hr (by simp<;>omega)⟩) (fun c a d v w h=>by cases d<;>exact h) ?_
 iterate 11
  apply Ag (hg:=rfl) (hal:=rfl)
  ·intro a W' hC hE
   obtain⟨_,k1,k2⟩:=hC
   have k1:=k1.cell
   have k2:=k2.cell
   first
    |(simp at hE;simp[go_sem,Act.eval,iw,hE,k1,k2];try rfl)
    |(clear hE;simp[go_sem,Act.eval,iw,k1,k2];try rfl)
 refine Bg rfl rfl (fun W' hC=>c6 W') (fun a W' hC hE=> ?_) ?_
 ·obtain⟨_,k1,k2⟩:=hC
  have k1:=k1.cell
  have k2:=k2.cell
  first
   |(simp at hE;simp[go_sem,Act.eval,iw,hE,k1,k2];try rfl)
   |(clear hE;simp[go_sem,Act.eval,iw,k1,k2];try rfl)
 refine Bg rfl rfl (fun W' hC=>c7 W') (fun a W' hC hE=> ?_) ?_
 ·obtain⟨_,k1,k2⟩:=hC
  have k1:=k1.cell
  have k2:=k2.cell
  first
   |(simp at hE;simp[go_sem,Act.eval,iw,hE,k1,k2];try rfl)
   |(clear hE;simp[go_sem,Act.eval,iw,k1,k2];try rfl)
 rintro W21 ⟨hR,d1,d2⟩
 simp only[Ar,Det,forall_eq]
 intros
 repeat (rename Ao _ _ _ _=>hgd;clear hgd)
 simp only[nS]
 replace hW:=hW.trans (hR.more (by simp))
 clear hR
 clear c6
 clear c7
 try clear b1 b2
 have b1:=d1
 clear d1
 have b2:=d2
 clear d2
 have k1:=b1.cell
 have f1:=b1.frozen
 have k2:=b2.cell
 have f2:=b2.frozen
 go_wp2_with fail
 refine(H_c8.out _ (A3)).mono ?_
 rintro e w22 ⟨rfl,hb22,hn22⟩
 have z23:=hb22.size
 try simp at z23
 clear k1 f1 k2 f2
 refine K9 [g] w w22 (Bc g #[s3h,.int .u64 s3l,n,ah,.int .u64 al,bh,.int .u64 bl,m] 311<|Bc v #[rh,.int .u64 rl] 36<|Bz) ?_ (hR:=(Bc.mk (by exact hn22)<|Bc.mk (by exact Ab)<|trivial))
 clear b1 b2 hW
 rintro hW z24 ⟨⟨b1,yb1,k1,f1⟩,⟨b2,yb2,k2,f2⟩,-⟩
 clear hb22 hn22
 go_wp2
 refine bodyPost_end (results_none rfl _ _ _) rfl ⟨rfl,Gt,A3⟩
theorem line1_w (g gl:Nat) (sh sl s1h s1l n ah al bh bl m A R N d wAh wAl:Int) (w:World) (hne:gl≠g) (hg:Blk w g #[sh,.int .u64 sl,n,ah,.int .u64 al,bh,.int .u64 bl,m] 311) (hl:Blk w gl #[A,R,N,d] 95)
  (c1:∀w,Cb 117 #[A] w (.agg #[wAh,.int .u64 wAl]))
  (c2:∀w,Blk w g #[sh,.int .u64 sl,n,ah,.int .u64 al,bh,.int .u64 bl,m] 311->Calls Tryz.prog 236 #[.pointer (some ⟨g,0,none⟩),.agg #[wAh,.int .u64 wAl],n] w fun e w'=>e= .returned (.tuple #[])/\Rex [g] w w'/\Blk w' g #[s1h,.int .u64 s1l,n,ah,.int .u64 al,bh,.int .u64 bl,m] 311):
  Calls Tryz.prog 235 #[.pointer (some ⟨g,0,none⟩),.pointer (some ⟨gl,0,none⟩)] w fun e w'=>e= .returned (.agg #[s1h,.int .u64 s1l])/\Rex [g] w w'/\Blk w' g #[s1h,.int .u64 s1l,n,ah,.int .u64 al,bh,.int .u64 bl,m] 311:=by
 have y0:=hg.lt
 have y1:=hl.lt
 have H_c1:=Hd c1
 clear c1
 have H_c2:=Hd c2
 clear c2
 go_enter Tryz.func235,Tryz.ntmps235
 go_upto_region 1 with(fail)
 refine Cm [g] w (Bc g #[sh,.int .u64 sl,n,ah,.int .u64 al,bh,.int .u64 bl,m] 311<|Bc gl #[A,R,N,d] 95<|Bc w.heap.size #[.int .i64 0,.int .u64 0] 36<|Bz) ?_
 rintro W1 hW z2 ⟨⟨b1,yb1,k1,f1⟩,⟨b2,yb2,k2,f2⟩,⟨b3,yb3,k3,f3⟩,-⟩
 clear k1 f1 k2 f2 k3 f3
 have c1:=H_c1.out
 refine An 10 20 [] (fun W'=>Rex [] W1 W'/\Blk W' g #[sh,.int .u64 sl,n,ah,.int .u64 al,bh,.int .u64 bl,m] 311/\Blk W' gl #[A,R,N,d] 95/\Blk W' w.heap.size #[.int .i64 0,.int .u64 0] 36) Cd (by kernel_rfl) rfl ⟨(Rex.refl _ _).drew,b1,b2,b3⟩ (fun w w' ⟨h0,h1,h2,h3⟩ hr=>⟨h0.trans hr,h1.rex hr (by simp<;>omega),h2.rex hr (by simp<;>omega),h3.rex hr (by simp<;>omega)⟩) (fun c a d v w h=>by cases d<;>exact h) ?_
 iterate 5
  apply Ag (hg:=rfl) (hal:=rfl)
  ·intro a W' hC hE
   obtain⟨_,k1,k2,k3⟩:=hC
   have k1:=k1.cell
   have k2:=k2.cell
   first
    |(simp at hE;simp[go_sem,Act.eval,iw,hE,k1,k2,k3];try rfl)
    |(clear hE;simp[go_sem,Act.eval,iw,k1,k2,k3];try rfl)
 refine Bg rfl rfl (fun W' hC=>c1 W') (fun a W' hC hE=> ?_) ?_
 ·obtain⟨_,k1,k2,k3⟩:=hC
  have k1:=k1.cell
  have k2:=k2.cell
  first
   |(simp at hE;simp[go_sem,Act.eval,iw,hE,k1,k2,k3];try rfl)
   |(clear hE;simp[go_sem,Act.eval,iw,k1,k2,k3];try rfl)
 iterate 4
  apply Ag (hg:=rfl) (hal:=rfl)
  ·intro a W' hC hE
   obtain⟨_,k1,k2,k3⟩:=hC
   have k1:=k1.cell
   have k2:=k2.cell
   first
    |(simp at hE;simp[go_sem,Act.eval,iw,hE,k1,k2,k3];try rfl)
    |(clear hE;simp[go_sem,Act.eval,iw,k1,k2,k3];try rfl)
 rintro W3 ⟨hR,d1,d2,d3⟩
 simp only[Ar,Det,forall_eq]
 intros
 repeat (rename Ao _ _ _ _=>hgd;clear hgd)
 simp only[nS]
 replace hW:=hW.trans (hR.more (by simp))
 clear hR
 clear c1
 try clear b1 b2 b3
 have b1:=d1
 clear d1
 have b2:=d2
 clear d2
 have b3:=d3
 clear d3
 have k1:=b1.cell
 have f1:=b1.frozen
 have k2:=b2.cell
 have f2:=b2.frozen
 have k3:=b3.cell
 have f3:=b3.frozen
 go_wp2_with fail
 refine(H_c2.out _ (A3)).mono ?_
 rintro e w4 ⟨rfl,hb4,hn4⟩
 have z5:=hb4.size
 try simp at z5
 clear k1 f1 k2 f2 k3 f3
 refine K9 [g] w w4 (Bc g #[s1h,.int .u64 s1l,n,ah,.int .u64 al,bh,.int .u64 bl,m] 311<|Bc gl #[A,R,N,d] 95<|Bc w.heap.size #[.int .i64 0,.int .u64 0] 36<|Bz) ?_ (hR:=(Bc.mk (by exact hn4)<|Bc.mk (by exact Ab)<|Bc.mk (by exact Ab)<|trivial))
 clear b1 b2 b3 hW
 rintro hW z6 ⟨⟨b1,yb1,k1,f1⟩,⟨b2,yb2,k2,f2⟩,⟨b3,yb3,k3,f3⟩,-⟩
 clear hb4 hn4
 go_wp2
 refine bodyPost_ret (v:= .agg #[s1h,.int .u64 s1l]) (by simp[results,Tryz.results235,go_sem,k1,f1,k2,f2,k3,f3,yb1,yb2,yb3]) rfl ⟨rfl,Gt,A3⟩
theorem tells_w (gl:Nat) (sh sl s1h s1l n ah al bh bl m A R N d:Int) (w:World) (hl:Blk w gl #[A,R,N,d] 95) (n0:decide (n<0)=false) (n1:decide (256<n)=false) (m0:decide (m<1)=false) (m1:decide (281474976710656<m)=false)
  (c1:∀w,Cb 239 #[.agg #[ah,.int .u64 al]] w (.bool true))
  (c2:∀w,Cb 239 #[.agg #[bh,.int .u64 bl]] w (.bool true))
  (c3:∀g w,Blk w g #[.int .i64 0,.int .u64 0,n,ah,.int .u64 al,bh,.int .u64 bl,m] 311->Calls Tryz.prog 240 #[.pointer (some ⟨g,0,none⟩)] w fun e w'=>e= .returned (.tuple #[])/\Rex [g] w w'/\Blk w' g #[sh,.int .u64 sl,n,ah,.int .u64 al,bh,.int .u64 bl,m] 311)
  (c4:∀g w,gl≠g->Blk w g #[sh,.int .u64 sl,n,ah,.int .u64 al,bh,.int .u64 bl,m] 311->Blk w gl #[A,R,N,d] 95->Calls Tryz.prog 235 #[.pointer (some ⟨g,0,none⟩),.pointer (some ⟨gl,0,none⟩)] w fun e w'=>e= .returned (.agg #[s1h,.int .u64 s1l])/\Rex [g] w w'/\Blk w' g #[s1h,.int .u64 s1l,n,ah,.int .u64 al,bh,.int .u64 bl,m] 311):
  Cb 234 #[.agg #[.int .i64 0,.int .u64 0,n,ah,.int .u64 al,bh,.int .u64 bl,m],.func (.func 235) #[] #[.pointer (some ⟨gl,0,none⟩)]] w (.tuple #[.agg #[s1h,.int .u64 s1l],.int .i64 0]):=by
 have y1:=hl.lt
 have H_c1:=Hd c1
 clear c1
 have H_c2:=Hd c2
 clear c2
 have H_c3:=Hd c3
 clear c3
 have H_c4:=Hd c4
 clear c4
 go_enter Tryz.func234,Tryz.ntmps234
 go_upto_region 1 with(fail)
 refine Ad w (Bc w.heap.size #[.int .i64 0,.int .u64 0,n,ah,.int .u64 al,bh,.int .u64 bl,m] 311<|Bc (w.heap.size+1) #[.int .i64 0,.int .u64 0] 36<|Bc gl #[A,R,N,d] 95<|Bz) ?_
 rintro W1 hW z2 ⟨⟨b1,yb1,k1,f1⟩,⟨b2,yb2,k2,f2⟩,⟨b3,yb3,k3,f3⟩,-⟩
 go_wp2_with fail
 refine(H_c1.out _).mono ?_
 rintro e w3 ⟨rfl,hb3⟩
 have z4:=hb3.size
 try simp at z4
 clear k1 f1 k2 f2 k3 f3
 refine Ae w w3 (Bc w.heap.size #[.int .i64 0,.int .u64 0,n,ah,.int .u64 al,bh,.int .u64 bl,m] 311<|Bc (w.heap.size+1) #[.int .i64 0,.int .u64 0] 36<|Bc gl #[A,R,N,d] 95<|Bz) ?_
 clear b1 b2 b3 hW
 rintro hW z5 ⟨⟨b1,yb1,k1,f1⟩,⟨b2,yb2,k2,f2⟩,⟨b3,yb3,k3,f3⟩,-⟩
 clear hb3
 go_wp2_with fail
 refine(H_c2.out _).mono ?_
 rintro e w6 ⟨rfl,hb6⟩
 have z7:=hb6.size
 try simp at z7
 clear k1 f1 k2 f2 k3 f3
 refine Ae w w6 (Bc w.heap.size #[.int .i64 0,.int .u64 0,n,ah,.int .u64 al,bh,.int .u64 bl,m] 311<|Bc (w.heap.size+1) #[.int .i64 0,.int .u64 0] 36<|Bc gl #[A,R,N,d] 95<|Bz) ?_
 clear b1 b2 b3 hW
 rintro hW z8 ⟨⟨b1,yb1,k1,f1⟩,⟨b2,yb2,k2,f2⟩,⟨b3,yb3,k3,f3⟩,-⟩
 clear hb6
 go_wp2_with fail
 refine(H_c3.out _ _ (A3)).mono ?_
 rintro e w9 ⟨rfl,hb9,hn9⟩
 have z10:=hb9.size
 try simp at z10
 clear k1 f1 k2 f2 k3 f3
 refine Ae w w9 (Bc w.heap.size #[sh,.int .u64 sl,n,ah,.int .u64 al,bh,.int .u64 bl,m] 311<|Bc (w.heap.size+1) #[.int .i64 0,.int .u64 0] 36<|Bc gl #[A,R,N,d] 95<|Bz) ?_ (hR:=(Bc.mk (by exact hn9)<|Bc.mk (by exact Ab)<|Bc.mk (by exact Ab)<|trivial))
 clear b1 b2 b3 hW
 rintro hW z11 ⟨⟨b1,yb1,k1,f1⟩,⟨b2,yb2,k2,f2⟩,⟨b3,yb3,k3,f3⟩,-⟩
 clear hb9 hn9
 go_wp2_with fail
 refine(H_c4.out _ _ (by omega) (A3) (A3)).mono ?_
 rintro e w12 ⟨rfl,hb12,hn12⟩
 have z13:=hb12.size
 try simp at z13
 clear k1 f1 k2 f2 k3 f3
 refine Ae w w12 (Bc w.heap.size #[s1h,.int .u64 s1l,n,ah,.int .u64 al,bh,.int .u64 bl,m] 311<|Bc (w.heap.size+1) #[.int .i64 0,.int .u64 0] 36<|Bc gl #[A,R,N,d] 95<|Bz) ?_ (hR:=(Bc.mk (by exact hn12)<|Bc.mk (by exact Ab)<|Bc.mk (by exact Ab)<|trivial))
 clear b1 b2 b3 hW
 rintro hW z14 ⟨⟨b1,yb1,k1,f1⟩,⟨b2,yb2,k2,f2⟩,⟨b3,yb3,k3,f3⟩,-⟩
 clear hb12 hn12
 go_wp2
 refine bodyPost_ret (by simp[results,Tryz.results234,go_sem,k1,f1,k2,f2,k3,f3,yb1,yb2,yb3]) rfl ⟨rfl,by exact Aa⟩
end Go.Proofs.YtidfcoooccblaaaGreat
namespace Go.Proofs.YtidfcoooccblaaaGreat
open Go.RowKit
theorem fline_w (A R N d n from_ step n1 x y ph pl rrh rrl ah al bh bl rh rl e1:Int) (w:World)
  (k0:decide (n<0)=false) (k1':decide (256<n)=false) (k2':decide (from_<0)=false) (k3':decide (281474976710656<from_)=false) (k4':decide (step<0)=false) (k5':decide (281474976710656<step)=false)
  (k6':decide (0<n)=true) (g1:wrap64 (n-1)=n1) (g2:wrap64 (n1*step)=x) (g3:wrap64 (281474976710656-from_)=y) (k7':decide (y<x)=false)
  (c1:∀w,Cb 233 #[.agg #[A,R,N,d]] w (.int .i64 0))
  (c2:∀w,Cb 157 #[N,from_] w (.agg #[ph,.int .u64 pl]))
  (c3:∀w,Cb 117 #[R] w (.agg #[rrh,.int .u64 rrl]))
  (c4:∀w,Cb 16 #[.agg #[ph,.int .u64 pl],.agg #[rrh,.int .u64 rrl]] w (.tuple #[.agg #[bh,.int .u64 bl],e1]))
  (c5:∀w,Cb 157 #[N,step] w (.agg #[ah,.int .u64 al]))
  (c6:∀gl w,Blk w gl #[A,R,N,d] 95->Cb 234 #[.agg #[.int .i64 0,.int .u64 0,n,ah,.int .u64 al,bh,.int .u64 bl,d],.func (.func 235) #[] #[.pointer (some ⟨gl,0,none⟩)]] w (.tuple #[.agg #[rh,.int .u64 rl],.int .i64 0])):
  Cb 217 #[.agg #[A,R,N,d],from_,step,n] w (.tuple #[.agg #[rh,.int .u64 rl],.int .i64 0]):=by
 have hmf:∀(fn:Fn) (first cap:Array Value) (w:World),(Instr.makeFunc fn first cap).run Tryz.prog w= .ok (.func fn first cap) w:=fun _ _ _ _=>rfl
 have H_c1:=Hd c1
 clear c1
 have H_c2:=Hd c2
 clear c2
 have H_c3:=Hd c3
 clear c3
 have H_c4:=Hd c4
 clear c4
 have H_c5:=Hd c5
 clear c5
 have H_c6:=Hd c6
 clear c6
 go_enter Tryz.func217,Tryz.ntmps217
 go_upto_region 1 with(fail)
 refine Ad w (Bc w.heap.size #[A,R,N,d] 95<|Bc (w.heap.size+1) #[.int .i64 0,.int .u64 0] 36<|Bz) ?_
 rintro W1 hW z2 ⟨⟨b1,yb1,k1,f1⟩,⟨b2,yb2,k2,f2⟩,-⟩
 go_wp2_with fail
 refine(H_c1.out _).mono ?_
 rintro e w3 ⟨rfl,hb3⟩
 have z4:=hb3.size
 try simp at z4
 clear k1 f1 k2 f2
 refine Ae w w3 (Bc w.heap.size #[A,R,N,d] 95<|Bc (w.heap.size+1) #[.int .i64 0,.int .u64 0] 36<|Bz) ?_
 clear b1 b2 hW
 rintro hW z5 ⟨⟨b1,yb1,k1,f1⟩,⟨b2,yb2,k2,f2⟩,-⟩
 clear hb3
 go_upto_region 8 with(fail)
 clear k1 f1 k2 f2
 refine Ad w (Bc w.heap.size #[A,R,N,d] 95<|Bc (w.heap.size+1) #[.int .i64 0,.int .u64 0] 36<|Bz) ?_
 clear b1 b2 hW
 rintro W6 hW z7 hL
 obtain⟨⟨b1,yb1,k1,f1⟩,⟨b2,yb2,k2,f2⟩,-⟩:=id hL
 clear k1 f1 k2 f2
 refine Br 12 78 hW hL ?_
 iterate 3 refine dA ?_
 refine cA (fun W' hC=>H_c2.out W') ?_
 iterate 2 refine dA ?_
 refine cA (fun W' hC=>H_c3.out W') ?_
 refine cA (fun W' hC=>H_c4.out W') ?_
 iterate 3 refine dA ?_
 apply Db W6.heap.size #[.int .i64 0,.int .u64 0] 36 rfl rfl
 ·exact fun W' hC=>hC.1.size
 ·simp[Bl]<;>omega
 ·intro w;kernel_rfl
 clear hW hL b1 b2
 rintro W8 hW z9 hL
 simp only[ndR]
 intros
 simp only[ndS]
 obtain⟨⟨b1,yb1,k1,f1⟩,⟨b2,yb2,k2,f2⟩,-⟩:=hL
 obtain⟨v,rfl,hg_v,b3⟩:= ‹D9 _ _ _ _ _›
 have yb3:=b3.lt
 have k3:=b3.cell
 have f3:=b3.frozen
 go_upto_region 9 with(fail)
 clear k1 f1 k2 f2 k3 f3
 refine Ad w (Bc w.heap.size #[A,R,N,d] 95<|Bc (w.heap.size+1) #[.int .i64 0,.int .u64 0] 36<|Bc v #[bh,.int .u64 bl] 36<|Bz) ?_
 clear b1 b2 b3 hW
 rintro W10 hW z11 hL
 refine Br 13 78 hW hL ?_
 iterate 4 refine dA ?_
 refine cA (fun W' hC=>H_c5.out W') ?_
 iterate 5 refine dA ?_
 refine cA (fun W' hC=>H_c6.out _ W' hC.2.1.1) ?_
 iterate 2 refine dA ?_
 clear hW hL
 rintro W12 hW z13 hL
 simp only[ndR]
 intros
 simp only[ndS]
 obtain⟨⟨b1,yb1,k1,f1⟩,⟨b2,yb2,k2,f2⟩,⟨b3,yb3,k3,f3⟩,-⟩:=hL
 go_wp2
 refine bodyPost_ret (by simp[results,Tryz.results217,go_sem,k1,f1,k2,f2,k3,f3,yb1,yb2,yb3]) rfl ⟨rfl,by exact Aa⟩
def Gw (f:Nat->Int):Nat->Int
 |0=>0
 |n+1=>Gw f n+f n
theorem J1 {f g:Nat->Int}:∀n,(∀i,i<n->f i=g i)->Gw f n=Gw g n
 |0,_=>rfl
 |n+1,h=>by simp only[Gw];rw[J1 n fun i hi=>h i (by omega),h n (by omega)]
theorem Nf (f g:Nat->Int):∀n,Gw (fun i=>f i+g i) n=Gw f n+Gw g n
 |0=>rfl
 |n+1=>by simp only[Gw];rw[Nf f g n];omega
theorem Mo (c:Int):∀n:Nat,Gw (fun _=>c) n=c*n
 |0=>by simp[Gw]
 |n+1=>by simp only[Gw];rw[Mo c n];rw[Int.natCast_add,Int.mul_add];omega
theorem U9 (c:Int) (f:Nat->Int):∀n,Gw (fun i=>c*f i) n=c*Gw f n
 |0=>by simp[Gw]
 |n+1=>by simp only[Gw];rw[U9 c f n,Int.mul_add]
theorem Ol (f:Nat->Nat):∀n,Gw (fun i=>(f i:Int)) n=(Cn f n:Int)
 |0=>rfl
 |n+1=>by simp only[Gw,Cn];rw[Ol f n];simp
def Hn (n a b m:Int):Int:=a/m*(n*(n-1)/2)+b/m*n+Q3 n (a%m) (b%m) m
theorem Qp (n:Nat):(n:Int)*((n:Int)-1)/2=((n*(n-1)/2:Nat):Int):=by
 cases n with
 |zero=>rfl
 |succ n=>simp
theorem Xw (n:Nat) (a b m:Int) (hm:1<=m):Hn n a b m=Gw (fun i=>(a*i+b)/m) n:=by
 have r0:=Int.emod_nonneg a (show m≠0 by omega)
 have r1:=Int.emod_nonneg b (show m≠0 by omega)
 have e:∀i:Nat,(a*i+b)/m=a/m*(i:Int)+(b/m+(((a%m).toNat*i+(b%m).toNat)/m.toNat:Nat)):=by
  intro i
  have e1:=Int.emod_add_mul_ediv a m
  have e2:=Int.emod_add_mul_ediv b m
  have e3:a*i=m*(a/m*i)+a%m*i:=by
   rw[<-Int.mul_assoc,<-Int.add_mul];congr 1;omega
  have e4:a*i+b=(a%m*i+b%m)+m*(a/m*i+b/m):=by rw[Int.mul_add];omega
  rw[e4,Int.add_mul_ediv_left _ _ (by omega)]
  have e5:a%m*i+b%m=(((a%m).toNat*i+(b%m).toNat:Nat):Int):=by
   simp;rw[Int.max_eq_left r0,Int.max_eq_left r1]
  rw[e5]
  have e6:m=((m.toNat:Nat):Int):=by omega
  have e7:(((a%m).toNat*i+(b%m).toNat:Nat):Int)/m=((((a%m).toNat*i+(b%m).toNat)/m.toNat:Nat):Int):=by
   rw[Int.natCast_ediv,<-e6]
  rw[e7];omega
 rw[J1 n fun i _=>e i,Nf,U9,Nf,Mo,Ol,Ol,Qg,<-Qp]
 unfold Hn Q3 Es
 simp only[Int.toNat_natCast]
 omega
theorem C9 {a b:Int} {x y:Nat} (ha:a.natAbs<=x) (hb:b.natAbs<=y):(a*b).natAbs<=x*y:=by
 rw[Int.natAbs_mul];exact Nat.mul_le_mul ha hb
theorem Gi (s:Int) {d:Int} (hd:1<=d):(s/d).natAbs<=s.natAbs:=by have:=P6 s hd;omega
structure Ja (n a b m:Int):Prop where
 n0:0<=n
 n1:n<=256
 a1:a.natAbs<=2596148429267413814265248164610048
 b1:b.natAbs<=2596148429267413814265248164610048
 m0:1<=m
 m1:m<=281474976710656
theorem Ja.pairs {n a b m:Int} (h:Ja n a b m):0<=n*(n-1)/2/\n*(n-1)/2<=32640:=by
 have h0:=h.n0;have h1:=h.n1
 obtain⟨k,rfl⟩:=Int.eq_ofNat_of_zero_le h0
 rw[Qp]
 have:k*(k-1)<=256*255:=Nat.mul_le_mul (by omega) (by omega)
 refine⟨Int.natCast_nonneg _,Int.ofNat_le.2 (show _<=32640 by omega)⟩
theorem Ja.flo {n a b m:Int} (h:Ja n a b m):0<=Q3 n (a%m) (b%m) m/\Q3 n (a%m) (b%m) m<=65792:=by
 have h0:=h.n0;have h1:=h.n1;have m0:=h.m0
 have r0:=Int.emod_nonneg a (show m≠0 by omega)
 have r1:=Int.emod_nonneg b (show m≠0 by omega)
 have l0:=Int.emod_lt_of_pos a (show 0<m by omega)
 have l1:=Int.emod_lt_of_pos b (show 0<m by omega)
 unfold Q3
 have:=floSum_le n.toNat (a%m).toNat (b%m).toNat m.toNat (by omega) (by omega) (by omega)
 have h2:(n.toNat+1)*n.toNat<=257*256:=Nat.mul_le_mul (by omega) (by omega)
 omega
theorem Ja.small {n a b m:Int} (h:Ja n a b m):Mb (Q3 n (a%m) (b%m) m) n (a%m) (b%m) m 0:=by
 have m0:=h.m0;have m1:=h.m1
 have r0:=Int.emod_nonneg a (show m≠0 by omega)
 have r1:=Int.emod_nonneg b (show m≠0 by omega)
 have l0:=Int.emod_lt_of_pos a (show 0<m by omega)
 have l1:=Int.emod_lt_of_pos b (show 0<m by omega)
 have:=h.flo
 exact⟨h.n0,h.n1,r0,by omega,r1,by omega,m0,m1,by omega,by omega,by omega⟩
theorem c_steps (g:Nat) (n a b m:Int) (w:World) (h:Ja n a b m) (hg:Blk w g (Nj 0 n a b m) 311):
  Calls Tryz.prog 240 #[.pointer (some ⟨g,0,none⟩)] w fun e w'=>e= .returned (.tuple #[])/\Rex [g] w w'/\Blk w' g (Nj (Hn n a b m) n a b m) 311:=by
 have n0:=h.n0;have n1:=h.n1;have a1:=h.a1;have b1:=h.b1;have m0:=h.m0;have m1:=h.m1
 obtain⟨p0,p1⟩:=h.pairs
 obtain⟨f0,f1⟩:=h.flo
 have da:=Gi a m0
 have db:=Gi b m0
 have x1:(a/m*(n*(n-1)/2)).natAbs<=2596148429267413814265248164610048*32640:=C9 (by omega) (by omega)
 have x2:(b/m*n).natAbs<=2596148429267413814265248164610048*256:=C9 (by omega) (by omega)
 have wa:Bt a:=⟨by omega,by omega⟩
 have wb:Bt b:=⟨by omega,by omega⟩
 have e3:Hn n a b m=(0+a/m*(n*(n-1)/2)+b/m*n)+Q3 n (a%m) (b%m) m*1:=by unfold Hn;omega
 rw[e3]
 refine steps_w g _ _ _ _ _ _ _ _ n _ _ _ _ m _ _ (a%m) _ _ (b%m) (n*(n-1)/2) (Q3 n (a%m) (b%m) m) _ _ w hg (fun w=>Wu a m w wa m0 (by omega)) (fun w=>Um n w n0 (by omega)) (fun w hg=>c_add g 0 n a b m (a/m) (n*(n-1)/2) w hg (by decide) ⟨by omega,by omega⟩ ⟨by omega,by omega⟩ ⟨by omega,by omega⟩ ⟨by omega,by omega⟩)
  (fun w=>Wu b m w wb m0 (by omega)) (fun w hg=>c_add g _ n a b m (b/m) n w hg ⟨by omega,by omega⟩ ⟨by omega,by omega⟩ ⟨by omega,by omega⟩ ⟨by omega,by omega⟩ ⟨by omega,by omega⟩)
  (fun w=>c_small n (a%m) (b%m) m _ w h.small) (fun w=>Rt _ w ⟨by omega,by omega⟩) (fun w hg=>c_add g _ n a b m _ 1 w hg ⟨by omega,by omega⟩ ⟨by omega,by omega⟩ ⟨by omega,by omega⟩ ⟨by omega,by omega⟩ ⟨by omega,by omega⟩)
structure Uv (f s n:Int):Prop where
 f0:0<=f
 s0:0<=s
 s1:s<=281474976710656
 n0:1<=n
 n1:n<=256
 all:f+(n-1)*s<=281474976710656
theorem Uv.last {f s n:Int} (h:Uv f s n):0<=(n-1)*s:=Int.mul_nonneg (by have:=h.n0;omega) h.s0
theorem line_sum (A R N d f s:Int) (n:Nat):Gw (fun i=>(N*s*i+(N*f+R))/d) n+A*n=Gw (fun i=>Bk A R N d (f+i*s)) n:=by
 rw[<-Mo,<-Nf]
 refine J1 n fun i _=> ?_
 unfold Bk
 have:N*s*i+(N*f+R)=N*(f+i*s)+R:=by
  rw[Int.mul_add,<-Int.mul_assoc,Int.mul_comm N i,Int.mul_assoc (i:Int),Int.mul_comm (i:Int)];omega
 rw[this]
theorem c_fline (A R N d f s:Int) (n:Nat) (w:World) (h:M6 A R N d) (hf:Uv f s n):
  Calls Tryz.prog 217 #[.agg #[.int .i64 A,.int .i64 R,.int .i64 N,.int .i64 d],.int .i64 f,.int .i64 s,.int .i64 n] w fun e w'=>e= .returned (.tuple #[B4 (Gw (fun i=>Bk A R N d (f+i*s)) n),.int .i64 0])/\Below w.heap.size w w':=by
 have hA0:=h.A0;have hA1:=h.A1;have hn0:=h.n0;have hn1:=h.n1;have hd0:=h.d0;have hd1:=h.d1;have hR0:=h.R0;have hR1:=h.R1
 have f0:=hf.f0;have s0:=hf.s0;have s1:=hf.s1;have n0:=hf.n0;have n1:=hf.n1;have hall:=hf.all
 have hl:=hf.last
 have f1:f<=281474976710656:=by omega
 have p1:(N*f).natAbs<=4611688217450643456*281474976710656:=C9 (by omega) (by omega)
 have p2:(N*s).natAbs<=4611688217450643456*281474976710656:=C9 (by omega) (by omega)
 have p3:(A*(n:Int)).natAbs<=2305844108725321728*256:=C9 (by omega) (by omega)
 have zN:I64 N:=⟨by omega,by omega⟩
 have zf:I64 f:=⟨by omega,by omega⟩
 have zs:I64 s:=⟨by omega,by omega⟩
 have zR:I64 R:=⟨by omega,by omega⟩
 have zA:I64 A:=⟨by omega,by omega⟩
 have wb:Bt (N*f+R):=⟨by omega,by omega⟩
 have st:Ja n (N*s) (N*f+R) d:=⟨by omega,n1,by omega,by omega,hd0,hd1⟩
 obtain⟨q0,q1⟩:=st.pairs
 obtain⟨fl0,fl1⟩:=st.flo
 have da:=Gi (N*s) hd0
 have db:=Gi (N*f+R) hd0
 have x1:(N*s/d*((n:Int)*(n-1)/2)).natAbs<=2596148429267413814265248164610048*32640:=C9 (by omega) (by omega)
 have x2:((N*f+R)/d*(n:Int)).natAbs<=2596148429267413814265248164610048*256:=C9 (by omega) (by omega)
 have ws: -127605000000000000000000000000000000000<=Hn n (N*s) (N*f+R) d/\Hn n (N*s) (N*f+R) d<=127605000000000000000000000000000000000:=by
  unfold Hn;omega
 have c4:=fun w=>S0 (N*f) R w (Xg zN zf) zR.w
 rw[Ka wb,Dv wb] at c4
 rw[<-line_sum,<-Xw n _ _ d hd0]
 have ck:=fun w=>c_Check A R N d w
 rw[Jo.2 h] at ck
 have D:∀ {a b:Int},¬a<b->decide (a<b)=false:=fun h=>decide_eq_false h
 refine fline_w A R N d n f s (n-1) ((n-1)*s) (281474976710656-f) _ _ _ _ _ _ _ _ _ _ _ w (D (by omega)) (D (by omega)) (D (by omega)) (D (by omega)) (D (by omega)) (D (by omega)) (decide_eq_true (by omega))
  (by rw[Al];omega) (by rw[Al];omega) (by rw[Al];omega) (D (by omega)) ck (fun w=>c_Mul N f w zN zf) (fun w=>Rt R w zR) c4 (fun w=>c_Mul N s w zN zs) (fun gl w hgl=> ?_)
 refine tells_w gl _ _ _ _ n _ _ _ _ d A R N d w hgl (D (by omega)) (D (by omega)) (D (by omega)) (D (by omega)) (fun w=>c_term (N*s) w (by omega)) (fun w=>c_term (N*f+R) w (by omega)) (fun g w hg=>c_steps g n (N*s) (N*f+R) d w st hg) (fun g w hne hg hl=> ?_)
 exact line1_w g gl _ _ _ _ n _ _ _ _ d A R N d _ _ w hne hg hl (fun w=>Rt A w zA) (fun w hg=>c_add g _ n (N*s) (N*f+R) d A n w hg ⟨by omega,by omega⟩ zA.w ⟨by omega,by omega⟩ ⟨by omega,by omega⟩ ⟨by omega,by omega⟩)
theorem last_w (f s c c1 p x:Int) (w:World) (e1:wrap64 (c-1)=c1) (e2:wrap64 (s*c1)=p) (e3:wrap64 (f+p)=x):
  Cb 182 #[.agg #[f,s,c]] w (x):=by
 go_enter Tryz.func182,Tryz.ntmps182
 go_wp2
 refine bodyPost_ret (by simp[results,Tryz.results182,go_sem,e3]) rfl ⟨rfl,by exact Aa⟩
theorem sure_t (w:World):Calls Tryz.prog 181 #[.bool true] w fun e w'=>e= .returned (.tuple #[])/\w'=w:=by
 go_enter Tryz.func181,Tryz.ntmps181
 go_wp2
 go_end0
 exact⟨rfl,rfl⟩
theorem sure_f (w:World):Calls Tryz.prog 181 #[.bool false] w fun e w'=>e= .panicked [{v:= .iface 28 (.int .i64 170),recovered:=false}]/\w'=w:=by
 go_enter Tryz.func181,Tryz.ntmps181
 go_wp2
 simp[bodyPost]
theorem Px (p:Addr) (x:Bool) (u:TypeId) (pv:Value) (older:List PanicEntry) (w:World) (hc:w.cell? p=some (.bool x)) (hz:w.frozen? p=false):
  CallsD Tryz.prog 180 #[.pointer (some p)] (.panicking ({v:= .iface u pv,recovered:=false}::older)) w fun e u' w'=>
   e= .returned (.tuple #[])/\u'= .panicking ({v:= .iface u pv,recovered:=true}::older)/\w'=w.setCell p (.bool false):=by
 refine callsD_of_wpS Tryz.func180 rfl fun c₀ cs hu=> ?_
 apply wpS_seq
 apply wpS_region
 simp[wpOpsS,go_sem,recoverD,hu,Tryz.ntmps180,Exit.thenS]
 refine wpS_cond (t:=true) (by simp[Act.eval,Array.replicate]) ?_
 simp only[if_true]
 apply wpS_region
 simp[wpOpsS,go_sem,hc,hz,bodyPostS,results,Tryz.results180]
theorem Y6 (p:Addr) (w:World):
  CallsD Tryz.prog 180 #[.pointer (some p)] .returning w fun e u' w'=>e= .returned (.tuple #[])/\u'= .returning/\w'=w:=by
 refine callsD_of_wpS Tryz.func180 rfl fun c₀ cs hu=> ?_
 apply wpS_seq
 apply wpS_region
 simp[wpOpsS,go_sem,recoverD,hu,Tryz.ntmps180,Exit.thenS]
 refine wpS_cond (t:=false) (by simp[Act.eval,Array.replicate]) ?_
 simp only[Bool.false_eq_true,if_false]
 refine wpS_of_wp (wp_skip ?_)
 cases c₀
 simp_all [bodyPostS,results,Tryz.results180]
structure Ah where
 f:Int
 s:Int
 c:Int
structure Ai (w:World) (p:Option Addr) (l:List Ah):Prop where
 at':∀(i:Nat) (r:Ah),l[i]? =some r->∃b o,p=some ⟨b,o,none⟩/\w.cell? ⟨b,o+i*3,none⟩=some (r.f)/\w.cell? ⟨b,o+i*3+1,none⟩=some (r.s)/\w.cell? ⟨b,o+i*3+2,none⟩=some (r.c)
theorem A8 {w:World} {b o:Nat} {v:Value} (h:w.cell? ⟨b,o,none⟩=some v):b<w.heap.size:=by
 by_cases hlt:b<w.heap.size
 ·exact hlt
 ·have hn:w.heap[b]? =none:=by simp;omega
  simp[World.cell?,hn] at h
theorem Ai.below {w w':World} {p:Option Addr} {l:List Ah} (h:Ai w p l) (hb:Below w.heap.size w w'):Ai w' p l:=⟨fun i r hr=>by
 obtain⟨b,o,e,h1,h2,h3⟩:=h.at' i r hr
 have hB:=(Fy hb).1
 exact⟨b,o,e,(hB b _ (A8 h1)).trans h1,(hB b _ (A8 h2)).trans h2,(hB b _ (A8 h3)).trans h3⟩⟩
theorem Ai.drew {w:World} {p:Option Addr} {l:List Ah} (h:Ai w p l):Ai w.drew p l:=⟨h.at'⟩
def Da (l:List Ah):Nat->Int
 |0=>0
 |n+1=>Da l n+((l[n]?).map (·.c)).getD 0
theorem Yl (p:Option Addr) (len cap:Nat) (l:List Ah) (w:World) (hl:l.length=len) (hlen:len<=256) (h:Ai w p l) (hc:∀(i:Nat) (r:Ah),l[i]? =some r->0<=r.c/\r.c<=256):
  Cb 152 #[.slice p len cap] w (.int .i64 (Da l len)):=by
 go_enter Tryz.func152,Tryz.ntmps152
 go_wp2
 refine wp_loop (fun a' W=>Below w.heap.size w W/\∃(i:Nat) (n:Int) (u1 u4 u5 u9 u10 u11 u12 u13 u14 u15 u16 u17:Value),a'= {tmps:= #[(.slice p len cap),u1,.int .i64 0,n,u4,u5,(.slice p len cap),.int .i64 (len:Int),.int .i64 (i:Int),u9,u10,u11,u12,u13,u14,u15,u16,u17],defers:= []}/\i<=len/\n=Da l i/\0<=n/\n<=256*(i:Int)) (fun a' _=>len-(Ak (a'.tmps.getD 8 undef)).toNat) ?_ ?_
 ·exact⟨Below.refl _ _,0,0,_,_,_,_,_,_,_,_,_,_,_,_,rfl,by omega,rfl,by omega,by omega⟩
 ·rintro a' W ⟨hW,i,n,u1,u4,u5,u9,u10,u11,u12,u13,u14,u15,u16,u17,rfl,hi,hn,hn0,hn1⟩
  have hz:=hW.size
  rcases Nat.lt_or_ge i len with hlt|hge
  ·have hd:decide ((i:Int)<(len:Int))=true:=by simp;omega
   obtain⟨r,hr⟩:∃r,l[i]? =some r:=⟨l[i]'(by omega),List.getElem?_eq_getElem (by omega)⟩
   obtain⟨b,o,rfl,k0,k1,k2⟩:=(h.below hW).at' i r hr
   subst hn
   have hcr:=hc i r hr
   have e1:wrap64 (Da l i+r.c)=Da l i+r.c:=by rw[Al];omega
   have e2:wrap64 ((i:Int)+1)=((i+1:Nat):Int):=by rw[Al];omega
   have e3:Da l (i+1)=Da l i+r.c:=by simp[Da,hr]
   go_wp2
   rw[show (i:Int)+1=((i+1:Nat):Int) by omega]
   refine⟨⟨Aa,i+1,Da l i+r.c,_,_,_,_,_,_,_,_,_,_,_,_,rfl,by omega,by omega,by omega,by omega⟩,by simp[Ak];omega⟩
  ·have hd:decide ((i:Int)<(len:Int))=false:=by simp;omega
   have e:i=len:=by omega
   go_wp2
   subst e
   subst hn
   go_ret
   exact⟨rfl,hW⟩
attribute [local simp] Oper.looksAt Op.operands Call.operands Aj Det Ao
theorem Uh (b:Bool) (w:World):Calls Tryz.prog 181 #[.bool b] w fun e w'=>w'=w/\(b=true/\e= .returned (.tuple #[])∨b=false/\e= .panicked [{v:= .iface 28 (.int .i64 170),recovered:=false}]):=by
 cases b with
 |true=>exact(sure_t w).mono fun e w' ⟨h1,h2⟩=>⟨h2,.inl ⟨rfl,h1⟩⟩
 |false=>exact(sure_f w).mono fun e w' ⟨h1,h2⟩=>⟨h2,.inr ⟨rfl,h1⟩⟩
def MT:Int:=281474976710656
def Cs (r:Ah):Int:=r.f+r.s*(r.c-1)
def Qk (r:Ah):Bool:=decide (1<=r.c)&&decide (r.c<=256)&&decide (0<=r.f)&&decide (r.f<=281474976710656)&&decide (0<=r.s)&&decide (r.s<=281474976710656)
def run2 (len i:Nat) (r:Ah):Bool:=(decide (r.c=1)==decide (r.s=0))&&(decide (1<r.c)||decide ((i:Int)=(len:Int)-1))&&decide (Cs r<=281474976710656)
def run3 (q r:Ah):Bool:=decide (Cs q<r.f)&&(r.f-Cs q !=q.s)
def Mu (l:List Ah) (i:Nat):Bool:=match l[i]? with
 |some r=>Qk r&&run2 l.length i r&&(decide (i=0)||(match l[i-1]? with|some q=>run3 q r|none=>true))
 |none=>true
def Mt (l:List Ah):Nat->Bool
 |0=>true
 |i+1=>Mt l i&&Mu l i
def Fe (l:List Ah):Bool:=(decide (0<l.length)&&decide ((l.length:Int)<=256))&&Mt l l.length&&decide (Da l l.length<=256)
theorem Tf {r:Ah} (h:Qk r=true):(0<=r.f/\r.f<=281474976710656)/\(0<=r.s/\r.s<=281474976710656)/\1<=r.c/\r.c<=256:=by
 unfold Qk at h;simp at h;omega
theorem okAt_1 {l:List Ah} {i:Nat} {r:Ah} (hr:l[i]? =some r) (h:Qk r=false):Mu l i=false:=by unfold Mu;rw[hr];simp[h]
theorem okAt_2 {l:List Ah} {i:Nat} {r:Ah} (hr:l[i]? =some r) (h:run2 l.length i r=false):Mu l i=false:=by unfold Mu;rw[hr];simp[h]
theorem okAt_3 {l:List Ah} {i:Nat} {q r:Ah} (hr:l[i]? =some r) (hi:0<i) (hq:l[i-1]? =some q) (h:run3 q r=false):Mu l i=false:=by unfold Mu;rw[hr];simp[hq,h];omega
theorem Un (r:Ah) (w:World) (hf:0<=r.f/\r.f<=281474976710656) (hs:0<=r.s/\r.s<=281474976710656) (hc:1<=r.c/\r.c<=256):
  Cb 182 #[.agg #[r.f,r.s,r.c]] w (.int .i64 (Cs r)):=by
 have m:(r.s*(r.c-1)).natAbs<=281474976710656*256:=C9 (by omega) (by omega)
 exact last_w r.f r.s r.c (r.c-1) (r.s*(r.c-1)) (Cs r) w (by rw[Al];omega) (by rw[Al];omega) (by unfold Cs;rw[Al];omega)
theorem Qr {l:List Ah} {i:Nat} (h:Mu l i=false):∀n,i<n->Mt l n=false
 |0,hn=>by omega
 |n+1,hn=>by
  simp only[Mt]
  rcases Nat.lt_or_ge i n with k|k
  ·rw[Qr h n k];rfl
  ·have:i=n:=by omega
   subst this;rw[h,Bool.and_false]
theorem J3 {l:List Ah} {i:Nat} (h:Mu l i=false) (hi:i<l.length):Fe l=false:=by
 unfold Fe;rw[Qr h _ hi,Bool.and_false,Bool.false_and]
theorem Lt (w W:World) (tmps:Array Value) (d:List Deferred) (u:TypeId) (pv:Value) (hs:tmps[2]?.getD undef= .pointer (some ⟨w.heap.size,0,none⟩)) (hd:d= [{target:= .fn (.func 180) #[.pointer (some ⟨w.heap.size,0,none⟩)],args:= #[]}])
  (hW:Below w.heap.size w W) (hb:Blk W w.heap.size #[.bool false] 4) (b:Bool) (hf:b=false):
  Leaves Tryz.prog Tryz.f151 tmps (fun e w'=>e= .returned (.bool b)/\Below w.heap.size w w') d (.panicking [{v:= .iface u pv,recovered:=false}]) W:=by
 subst hd hf
 refine leaves_cons (f:=180) (args:= #[.pointer (some ⟨w.heap.size,0,none⟩)]) (by simp) (by simp[go_sem]) ?_
 have k1:=hb.cell
 have f1:=hb.frozen
 refine(Px ⟨w.heap.size,0,none⟩ false u pv [] W (by simp[k1]) (by simp[f1])).mono ?_
 rintro e u' w'' ⟨rfl,rfl,rfl⟩
 refine⟨.bool false,by simp[results,Tryz.results151,go_sem,hs,k1,f1],rfl,Aa⟩
theorem rises_ret (w W:World) (tmps:Array Value) (d:List Deferred) (hs:tmps[2]?.getD undef= .pointer (some ⟨w.heap.size,0,none⟩)) (hd:d= [{target:= .fn (.func 180) #[.pointer (some ⟨w.heap.size,0,none⟩)],args:= #[]}])
  (hW:Below w.heap.size w W) (v:Bool) (hb:Blk W w.heap.size #[.bool v] 4) (b:Bool) (hf:b=v):
  Leaves Tryz.prog Tryz.f151 tmps (fun e w'=>e= .returned (.bool b)/\Below w.heap.size w w') d .returning W:=by
 subst hd hf
 refine leaves_cons (f:=180) (args:= #[.pointer (some ⟨w.heap.size,0,none⟩)]) (by simp) (by simp[go_sem]) ?_
 have k1:=hb.cell
 have f1:=hb.frozen
 refine(Y6 ⟨w.heap.size,0,none⟩ W).mono ?_
 rintro e u' w'' ⟨rfl,rfl,rfl⟩
 refine⟨.bool b,by simp[results,Tryz.results151,go_sem,hs,k1,f1],rfl,hW⟩
theorem Se {l:List Ah} {i:Nat} {r:Ah} (hok:Mt l i=true) (hr:l[i]? =some r) (g1:Qk r=true) (g2:run2 l.length i r=true) (h:i=0∨∃q,l[i-1]? =some q/\run3 q r=true):Mt l (i+1)=true:=by
 simp only[Mt,Mu,hr,hok,g1,g2,Bool.true_and,Bool.and_true]
 rcases h with rfl|⟨q,hq,g3⟩
 ·simp
 ·simp[hq,g3]
theorem Sf {l:List Ah}:∀ {i j:Nat} {q:Ah},Mt l i=true->j<i->l[j]? =some q->Qk q=true
 |0,_,_,_,hj,_=>by omega
 |i+1,j,q,h,hj,hq=>by
  simp only[Mt,Bool.and_eq_true] at h
  rcases Nat.lt_or_ge j i with k|k
  ·exact Sf h.1 k hq
  ·have:j=i:=by omega
   subst this
   have:=h.2
   unfold Mu at this
   rw[hq] at this
   simp at this
   exact this.1.1
theorem lastI_bd {r:Ah} (hf:0<=r.f/\r.f<=281474976710656) (hs:0<=r.s/\r.s<=281474976710656) (hc:1<=r.c/\r.c<=256):0<=Cs r/\Cs r<=281474976710656*257:=by
 have m:(r.s*(r.c-1)).natAbs<=281474976710656*256:=C9 (by omega) (by omega)
 have m0:0<=r.s*(r.c-1):=Int.mul_nonneg (by omega) (by omega)
 unfold Cs;omega
theorem Ai.cells {w:World} {b o:Nat} {l:List Ah} (h:Ai w (some ⟨b,o,none⟩) l) {i:Nat} {r:Ah} (hr:l[i]? =some r):w.cell? ⟨b,o+i*3,none⟩=some (r.f)/\w.cell? ⟨b,o+i*3+1,none⟩=some (r.s)/\w.cell? ⟨b,o+i*3+2,none⟩=some (r.c):=by
 obtain⟨b',o',e,h1,h2,h3⟩:=h.at' i r hr
 cases e
 exact⟨h1,h2,h3⟩
theorem Ai.rex {L:List Nat} {w w':World} {p:Option Addr} {l:List Ah} (h:Ai w p l) (hr:Rex L w w') (hL:L= []):Ai w' p l:=by subst hL;exact h.below hr.below
theorem Yd {l:List Ah} {i:Nat} {r:Ah} (hok:Mt l i=true) (hlt:i<l.length) (hlen:l.length<=256):0<i->Qk r=true->∃q,l[i-1]? =some q/\((0<=q.f/\q.f<=281474976710656)/\(0<=q.s/\q.s<=281474976710656)/\(1<=q.c/\q.c<=256))/\wrap64 ((i:Int)-1)=((i-1:Nat):Int)/\i-1<l.length/\decide (0<(i:Int))=true/\wrap64 (r.f-Cs q)=r.f-Cs q:=by
 intro hi0 g1
 obtain⟨q,hq⟩:∃q,l[i-1]? =some q:=⟨l[i-1]'(by omega),List.getElem?_eq_getElem (by omega)⟩
 obtain⟨a1,a2,a3⟩:=Tf (Sf hok (show i-1<i by omega) hq)
 obtain⟨r1,r2,r3⟩:=Tf g1
 have hlq:=lastI_bd a1 a2 a3
 exact⟨q,hq,⟨a1,a2,a3⟩,by rw[Al];omega,by omega,by simp;omega,by rw[Al];omega⟩
theorem Ls (p:Option Addr) (cap:Nat) (l:List Ah) (w:World) (hlen:l.length<=9223372036854775807) (h:Ai w p l):
  Cb 151 #[.slice p l.length cap] w (.bool (Fe l)):=by
 have hmf:∀(fn:Fn) (first cap:Array Value) (w:World),(Instr.makeFunc fn first cap).run Tryz.prog w= .ok (.func fn first cap) w:=fun _ _ _ _=>rfl
 go_enter_defers Tryz.func151,Tryz.ntmps151
 go_upto_region 2 with(fail)
 refine Ad w (Bc w.heap.size #[.bool false] 4<|Bz) ?_
 rintro W1 hW z2 hL
 refine B3 8 109 hW hL ?_
 iterate 4 refine dA ?_
 iterate 3 refine gA ?_
 refine pA ?_
 clear hW hL
 rintro W3 hW z4 hL
 simp only[ndR]
 intros
 repeat (rename Ao _ _ _ _=>hgd;clear hgd)
 simp only[ndS]
 obtain⟨⟨b1,yb1,k1,f1⟩,-⟩:=hL
 go_wp2_with fail
 refine(Uh _ _).mono ?_
 rintro e w' ⟨rfl,hh⟩
 rcases hh with⟨hb,rfl⟩|⟨hb,rfl⟩
 ·have hlen':0<l.length/\l.length<=256:=by simp at hb;omega
  clear hlen
  go_wp2
  refine wp_loop (fun a' W=>Below w.heap.size w W/\Blk W w.heap.size #[.bool false] 4/\∃(i:Nat) (n:Int),(∃u:Nat->Value,a'= {tmps:= #[(.slice p l.length cap),u 1,.pointer (some ⟨w.heap.size,0,none⟩),n,u 4,u 5,u 6,.func (.func 180) #[] #[.pointer (some ⟨w.heap.size,0,none⟩)],u 8,u 9,u 10,u 11,u 12,u 13,u 14,u 15,u 16,(.slice p l.length cap),.int .i64 (l.length:Int),.int .i64 (i:Int),u 20,u 21,u 22,u 23,u 24,u 25,u 26,u 27,u 28,u 29,u 30,u 31,u 32,u 33,u 34,u 35,u 36,u 37,u 38,u 39,u 40,u 41,u 42,u 43,u 44,u 45,u 46,u 47,u 48,u 49,u 50,u 51,u 52,u 53,u 54,u 55,u 56,u 57,u 58,u 59,u 60,u 61,u 62,u 63,u 64,u 65,u 66,u 67,u 68,u 69,u 70,u 71,u 72,u 73,u 74,u 75,u 76,u 77,u 78,u 79,u 80,u 81,u 82,u 83,u 84,u 85,u 86,u 87,u 88,u 89,u 90,u 91,u 92,u 93,u 94,u 95,u 96,u 97,u 98,u 99,u 100,u 101,u 102,u 103,u 104,u 105,u 106,u 107,u 108],defers:= [{target:= .fn (.func 180) #[.pointer (some ⟨w.heap.size,0,none⟩)],args:= #[]}]})/\i<=l.length/\Mt l i=true/\n=Da l i/\0<=n/\n<=256*(i:Int)) (fun a' _=>l.length-(Ak (a'.tmps.getD 19 undef)).toNat) ?_ ?_
  ·exact⟨hW,b1,0,0,Ac rfl,by omega,rfl,rfl,by omega,by omega⟩
  ·rintro a' W0 ⟨hW,b1,i,n,⟨u,rfl⟩,hi,hok,hn,hn0,hn1⟩
   have hz:=hW.size
   subst hn
   rcases Nat.lt_or_ge i l.length with hlt|hge
   ·have hd:decide ((i:Int)<(l.length:Int))=true:=by simp;omega
    obtain⟨r,hr⟩:∃r,l[i]? =some r:=⟨l[i]'(by omega),List.getElem?_eq_getElem (by omega)⟩
    obtain⟨b,o,rfl,q0,q1,q2⟩:=(h.below hW).at' i r hr
    have hprev:0<i->Qk r=true->∃q,l[i-1]? =some q/\((0<=q.f/\q.f<=281474976710656)/\(0<=q.s/\q.s<=281474976710656)/\(1<=q.c/\q.c<=256))/\wrap64 ((i:Int)-1)=((i-1:Nat):Int)/\i-1<l.length/\decide (0<(i:Int))=true/\wrap64 (r.f-Cs q)=r.f-Cs q:=Yd hok hlt (by omega)
    replace hprev:=Hd hprev
    go_upto_region 7 with(fail)
    refine Ad w (Bc w.heap.size #[.bool false] 4<|Bc W0.heap.size #[r.f,r.s,r.c] 144<|Bz) ?_
    clear b1 hW
    rintro W1 hW z2 hL
    refine B3 28 109 hW hL ?_
    iterate 4 refine dA ?_
    iterate 3 refine gA ?_
    refine pA ?_
    refine dA ?_
    iterate 3 refine gA ?_
    refine pA ?_
    refine dA ?_
    iterate 3 refine gA ?_
    refine pA ?_
    refine dA ?_
    iterate 3 refine gA ?_
    refine pA ?_
    refine dA ?_
    iterate 3 refine gA ?_
    refine pA ?_
    clear hW hL
    rintro W3 hW z4 hL
    simp only[ndR]
    intros
    repeat (rename Ao _ _ _ _=>hgd;clear hgd)
    simp only[ndS]
    obtain⟨⟨b1,yb1,k1,f1⟩,⟨b2,yb2,k2,f2⟩,-⟩:=hL
    clear q0 q1 q2
    go_wp2_with fail
    refine(Uh _ _).mono ?_
    rintro e w' ⟨rfl,hh⟩
    rcases hh with⟨hb,rfl⟩|⟨hb,rfl⟩
    rotate_left
    ·exact Lt w _ _ _ _ _ rfl rfl hW b1 _ (J3 (okAt_1 hr hb) hlt)
    have g1:Qk r=true:=hb
    obtain⟨⟨rf0,rf1⟩,⟨rs0,rs1⟩,rc0,rc1⟩:=Tf g1
    have e0:=Hd (show wrap64 ((l.length:Int)-1)=(l.length:Int)-1 by rw[Al];omega)
    go_upto_region 8 with(fail)
    clear k1 f1 k2 f2
    refine Ad w (Bc w.heap.size #[.bool false] 4<|Bc W0.heap.size #[r.f,r.s,r.c] 144<|Bz) ?_
    clear b1 b2 hW
    rintro W5 hW z6 hL
    refine B3 24 109 hW hL ?_
    iterate 8 refine dE (fun W' hC=>e0.out) ?_
    iterate 4 refine gE (fun W' hC=>e0.out) ?_
    iterate 5 refine gF (fun W' hC=>e0.out) ?_
    refine pgO ?_
    refine pA ?_
    refine dE (fun W' hC=>e0.out) ?_
    refine gE (fun W' hC=>e0.out) ?_
    apply Cj (p:=true) (hg:=rfl) (hd:=rfl) (hal:=rfl)
    ·intro v W' h
     simp at h
     simp
     exact h
    ·intro hp hx W' hC
     exact Un r W' ⟨rf0,rf1⟩ ⟨rs0,rs1⟩ ⟨rc0,rc1⟩
    ·intro hp hx a W' hC hE
     obtain⟨_,⟨-,-,k1,-⟩,⟨-,-,k2,-⟩,-⟩:=hC
     first
      |(simp[hx] at hE;simp[go_sem,Act.eval,iw,hE,k1,k2,e0.out];try rfl)
      |(clear hE;simp[go_sem,Act.eval,iw,k1,k2,e0.out];try rfl)
    refine gE (fun W' hC=>e0.out) ?_
    refine pA ?_
    clear hW hL
    rintro W7 hW z8 hL
    simp only[ndR]
    intros
    repeat (rename Ao _ _ _ _=>hgd;clear hgd)
    simp only[ndS]
    obtain⟨⟨b1,yb1,k1,f1⟩,⟨b2,yb2,k2,f2⟩,-⟩:=hL
    go_wp2_with fail
    refine(Uh _ _).mono ?_
    rintro e w' ⟨rfl,hh⟩
    rcases hh with⟨hb,rfl⟩|⟨hb,rfl⟩
    rotate_left
    ·exact Lt w _ _ _ _ _ rfl rfl hW b1 _ (J3 (okAt_2 hr hb) hlt)
    have g2:run2 l.length i r=true:=hb
    have e5:=Hd (show Da l (i+1)=Da l i+r.c by simp[Da,hr])
    clear e0
    rcases Nat.eq_zero_or_pos i with hi0|hi0
    ·subst hi0
     have k1:=b1.cell
     have f1:=b1.frozen
     have k2:=b2.cell
     have f2:=b2.frozen
     go_wp2
     exact⟨⟨hW,b1,1,Da l 0+r.c,Ac rfl,by omega,Se hok hr g1 g2 (.inl rfl),e5.out.symm,by omega,by omega⟩,by simp[Ak];omega⟩
    ·obtain⟨q,hq,⟨qf,qs,qc⟩,e8,e9,hi1,e10⟩:=hprev.out hi0 g1
     replace e8:=Hd e8
     replace e10:=Hd e10
     have k1:=b1.cell
     have f1:=b1.frozen
     have k2:=b2.cell
     have f2:=b2.frozen
     go_upto_region 10 with(fail)
     clear k1 f1 k2 f2
     refine Ad w (Bc w.heap.size #[.bool false] 4<|Bc W0.heap.size #[r.f,r.s,r.c] 144<|Rc (fun W'=>Ai W' (some ⟨b,o,none⟩) l)<|Bz) ?_ (hI:=by exact Aa) (hR:=(Bc.mk (by exact Ab)<|Bc.mk (by exact Ab)<|Rc.mk (by exact h.below (Aa))<|trivial))
     clear b1 b2 hW
     rintro W9 hW z10 hL
     obtain⟨⟨b1,yb1,k1,f1⟩,⟨b2,yb2,k2,f2⟩,b3,-⟩:=id hL
     clear k1 f1 k2 f2
     refine C2 10 109 hW hL ?_
     iterate 7 refine dE (fun W' hC=>aI e8.out (aI e9 (aI e10.out (hC.2.2.2.1.cells hq)))) ?_
     refine cE (fun W' hC=>aI e8.out (aI e9 (aI e10.out (hC.2.2.2.1.cells hq)))) (fun W' hC=>Un q W' qf qs qc) ?_
     iterate 2 refine dE (fun W' hC=>aI e8.out (aI e9 (aI e10.out (hC.2.2.2.1.cells hq)))) ?_
     clear hW hL b1 b2 b3
     rintro W11 hW z12 hL
     simp only[ndR]
     intros
     simp only[ndS]
     refine wpList_nil ?_
     obtain⟨⟨b1,yb1,k1,f1⟩,⟨b2,yb2,k2,f2⟩,b3,-⟩:=hL
     go_upto_region 11 with(fail)
     clear k1 f1 k2 f2
     refine Ad w (Bc w.heap.size #[.bool false] 4<|Bc W0.heap.size #[r.f,r.s,r.c] 144<|Rc (fun W'=>Ai W' (some ⟨b,o,none⟩) l)<|Bz) ?_ (hI:=by exact Aa) (hR:=(Bc.mk (by exact Ab)<|Bc.mk (by exact Ab)<|Rc.mk (by exact h.below (Aa))<|trivial))
     clear b1 b2 b3 hW
     rintro W13 hW z14 hL
     obtain⟨⟨b1,yb1,k1,f1⟩,⟨b2,yb2,k2,f2⟩,b3,-⟩:=id hL
     clear k1 f1 k2 f2
     refine B3 12 109 hW hL ?_
     iterate 3 refine dE (fun W' hC=>aI e8.out (aI e9 (hC.2.2.2.1.cells hq))) ?_
     iterate 8 refine gE (fun W' hC=>aI e8.out (aI e9 (hC.2.2.2.1.cells hq))) ?_
     refine pA ?_
     clear hW hL b1 b2 b3
     rintro W15 hW z16 hL
     simp only[ndR]
     intros
     simp only[ndS]
     obtain⟨⟨b1,yb1,k1,f1⟩,⟨b2,yb2,k2,f2⟩,b3,-⟩:=hL
     go_wp2_with fail
     refine(Uh _ _).mono ?_
     rintro e w' ⟨rfl,hh⟩
     rcases hh with⟨hb,rfl⟩|⟨hb,rfl⟩
     rotate_left
     ·exact Lt w _ _ _ _ _ rfl rfl hW b1 _ (J3 (okAt_3 hr hi0 hq hb) hlt)
     have HB:=Hd (Se hok hr g1 g2 (.inr ⟨q,hq,hb⟩))
     clear hb hq qf qs qc e8 e9 e10 hi1 hprev b3 g1 g2 hr hok
     go_wp2
     rw[show (i:Int)+1=((i+1:Nat):Int) by omega]
     exact⟨⟨hW,b1,i+1,Da l i+r.c,Ac rfl,by omega,HB.out,e5.out.symm,by omega,by omega⟩,by simp[Ak];omega⟩
   ·have hd:decide ((i:Int)<(l.length:Int))=false:=by simp;omega
    have e:i=l.length:=by omega
    subst e
    have k1:=b1.cell
    have f1:=b1.frozen
    go_wp2
    refine rises_ret w _ _ _ rfl rfl (Aa) (decide (Da l l.length<=256)) (A3) _ ?_
    unfold Fe
    rw[hok,hb]
    rfl
 ·exact Lt w _ _ _ _ _ rfl rfl hW b1 _ (by unfold Fe;rw[hb,Bool.false_and,Bool.false_and])
end Go.Proofs.YtidfcoooccblaaaGreat
namespace Go.Proofs.YtidfcoooccblaaaGreat
open Go.RowKit
structure Fb (r:Ah):Prop where
 f0:0<=r.f
 f1:r.f<=281474976710656
 s0:0<=r.s
 s1:r.s<=281474976710656
 c0:1<=r.c
 c1:r.c<=256
 one:r.c=1↔r.s=0
 last:Cs r<=281474976710656
def cnt:List Ah->Int
 | []=>0
 |r::l=>r.c+cnt l
def B9 (r:Ah):List Int:=(List.range r.c.toNat).map fun(k:Nat)=>r.f+r.s*(k:Int)
def Af:List Ah->List Int
 | []=> []
 |r::l=>B9 r++Af l
def Next (q r:Ah):Prop:=Cs q<r.f/\r.f-Cs q≠q.s
def Jy:List Ah->Prop
 | []=>True
 |r::l=>(∀q,l.head? =some q->Next r q/\1<r.c)/\Jy l
structure Ce (l:List Ah):Prop where
 some':0<l.length
 few:l.length<=256
 each:∀r,r∈l->Fb r
 count:cnt l<=256
 chain:Jy l
theorem Ge (a b:List Ah):cnt (a++b)=cnt a+cnt b:=by
 induction a with
 |nil=>simp[cnt]
 |cons r a ih=>simp[cnt,ih];omega
theorem N6 (l:List Ah):∀n,n<=l.length->Da l n=cnt (l.take n)
 |0,_=>by simp[Da,cnt]
 |n+1,h=>by
  have hn:n<l.length:=by omega
  simp only[Da]
  rw[N6 l n (by omega),List.take_succ_eq_append_getElem hn,Ge,List.getElem?_eq_getElem hn]
  simp[cnt]
theorem Hx (l:List Ah):Da l l.length=cnt l:=by rw[N6 l _ (Nat.le_refl _),List.take_length]
theorem okTo_at {l:List Ah}:∀ {n i:Nat},Mt l n=true->i<n->Mu l i=true
 |0,_,_,h=>by omega
 |n+1,i,hk,h=>by
  simp only[Mt,Bool.and_eq_true] at hk
  rcases Nat.lt_or_ge i n with k|k
  ·exact okTo_at hk.1 k
  ·have:i=n:=by omega
   subst this;exact hk.2
theorem Z9 {l:List Ah}:∀ {n:Nat},(∀i,i<n->Mu l i=true)->Mt l n=true
 |0,_=>rfl
 |n+1,h=>by simp only[Mt,Bool.and_eq_true];exact⟨Z9 fun i hi=>h i (by omega),h n (by omega)⟩
theorem run12 {n i:Nat} {r:Ah}:(Qk r=true/\run2 n i r=true)↔Fb r/\(1<r.c∨(i:Int)=(n:Int)-1):=by
 unfold Qk run2
 constructor
 ·intro ⟨h1,h2⟩
  simp at h1 h2
  exact⟨⟨by omega,by omega,by omega,by omega,by omega,by omega,by
   have:=h2.1.1
   constructor<;>intro k
   ·simpa [k] using this
   ·simpa [k] using this,by omega⟩,h2.1.2⟩
 ·intro ⟨h,k⟩
  have a:=h.f0;have b:=h.f1;have c:=h.s0;have d:=h.s1;have e:=h.c0;have f:=h.c1;have g:=h.last
  simp
  exact⟨by omega,⟨by by_cases j:r.c=1<;>simp[j,h.one.1,<-h.one],k⟩,by omega⟩
theorem L6 :∀(l:List Ah),Jy l↔∀(i:Nat) (q r:Ah),l[i]? =some q->l[i+1]? =some r->Next q r/\1<q.c
 | []=>by simp[Jy]
 |a::l=>by
  simp only[Jy]
  constructor
  ·rintro⟨h,k⟩ i q r hq hr
   cases i with
   |zero=>
    simp at hq
    subst hq
    exact h r (by simpa [List.head?_eq_getElem?] using hr)
   |succ i=>exact(L6 l).1 k i q r (by simpa using hq) (by simpa using hr)
  ·intro h
   exact⟨fun q hq=>h 0 a q (by simp) (by simpa [List.head?_eq_getElem?] using hq),(L6 l).2 fun i q r hq hr=>h (i+1) q r (by simpa using hq) (by simpa using hr)⟩
theorem D1 (l:List Ah):Fe l=true↔Ce l:=by
 unfold Fe
 simp only[Bool.and_eq_true,decide_eq_true_eq,Hx]
 constructor
 ·rintro⟨⟨⟨h1,h2⟩,h3⟩,h4⟩
  have at':∀(i:Nat) (r:Ah),l[i]? =some r->(Fb r/\(1<r.c∨(i:Int)=(l.length:Int)-1))/\(i=0∨∀q,l[i-1]? =some q->run3 q r=true):=by
   intro i r hr
   have hi:i<l.length:=by
    rw[List.getElem?_eq_some_iff] at hr;exact hr.1
   have:=okTo_at h3 hi
   unfold Mu at this
   rw[hr] at this
   simp only[Bool.and_eq_true,Bool.or_eq_true,decide_eq_true_eq] at this
   refine⟨run12.1 ⟨this.1.1,this.1.2⟩,this.2.imp id fun h q hq=> ?_⟩
   rw[hq] at h;exact h
  refine⟨h1,by omega,fun r hr=> ?_,h4,(L6 l).2 fun i q r hq hr=> ?_⟩
  ·obtain⟨i,hi⟩:=List.getElem?_of_mem hr
   exact(at' i r hi).1.1
  ·have a:=(at' (i+1) r hr).2
   have b:=(at' i q hq).1.2
   have hi:i+1<l.length:=by
    rw[List.getElem?_eq_some_iff] at hr;exact hr.1
   rcases a with a|a
   ·omega
   ·have:=a q (by simpa using hq)
    unfold run3 at this
    simp at this
    exact⟨⟨by omega,this.2⟩,by omega⟩
 ·intro h
  refine⟨⟨⟨h.some',by have:=h.few;omega⟩,Z9 fun i hi=> ?_⟩,h.count⟩
  obtain⟨r,hr⟩:∃r,l[i]? =some r:=⟨l[i],List.getElem?_eq_getElem hi⟩
  have hm:r∈l:=List.mem_of_getElem? hr
  have hc:=(L6 l).1 h.chain
  unfold Mu
  rw[hr]
  simp only[Bool.and_eq_true,Bool.or_eq_true,decide_eq_true_eq]
  refine⟨run12.2 ⟨h.each r hm,?_⟩,?_⟩
  ·rcases Nat.lt_or_ge (i+1) l.length with k|k
   ·exact .inl (hc i r _ hr (List.getElem?_eq_getElem k)).2
   ·right;omega
  ·cases i with
   |zero=>exact .inl rfl
   |succ i=>
    right
    have hi':i<l.length:=by omega
    have:=(hc i _ r (List.getElem?_eq_getElem hi') hr).1
    have e:l[i+1-1]? =some l[i]:=by simp[hi']
    rw[e]
    unfold run3
    simp
    exact⟨this.1,this.2⟩
theorem Jn {r:Ah} (h:Fb r):r.f<=Cs r:=by
 have m0:0<=r.s*(r.c-1):=Int.mul_nonneg h.s0 (by have:=h.c0;omega)
 unfold Cs;omega
theorem G7 {r:Ah} (h:Fb r) {k:Int} (h1:k<=r.c-1):r.f+r.s*k<=Cs r:=by
 have:=Int.mul_le_mul_of_nonneg_left h1 h.s0
 unfold Cs;omega
theorem Oq {r:Ah} (h:Fb r) {k:Int} (h0:0<=k):r.f<=r.f+r.s*k:=by
 have:=Int.mul_nonneg h.s0 h0
 omega
theorem run_at_lt {r:Ah} (h:Fb r) {j k:Int} (h0:0<=j) (h1:j<k) (h2:k<r.c):r.f+r.s*j<r.f+r.s*k:=by
 have hs:0<r.s:=by
  have:=h.s0
  rcases Int.lt_or_eq_of_le this with k|k
  ·exact k
  ·have:=h.one.2 k.symm;omega
 have:=Int.mul_lt_mul_of_pos_left h1 hs
 omega
theorem Ct (r:Ah):(B9 r).length=r.c.toNat:=by simp[B9]
theorem Cu :∀(l:List Ah),(∀r,r∈l->0<=r.c)->((Af l).length:Int)=cnt l
 | [],_=>rfl
 |r::l,h=>by
  simp only[Af,List.length_append,cnt,Ct]
  have:=Cu l fun r hr=>h r (by simp[hr])
  have:=h r (by simp)
  omega
theorem Fq (r:Ah) (k:Nat) (h:(k:Int)<r.c):(B9 r)[k]? =some (r.f+r.s*(k:Int)):=by
 unfold B9
 rw[List.getElem?_map,List.getElem?_range (by omega)]
 rfl
theorem Kt (r:Ah) (l:List Ah) (k:Nat) (h:(k:Int)<r.c):(Af (r::l))[k]? =some (r.f+r.s*(k:Int)):=by
 simp only[Af]
 rw[List.getElem?_append_left (by rw[Ct];omega),Fq r k h]
theorem Nd (r:Ah) (l:List Ah) (k:Nat) (h:r.c<=(k:Int)):(Af (r::l))[k]? =(Af l)[k-r.c.toNat]? :=by
 simp only[Af]
 rw[List.getElem?_append_right (by rw[Ct];omega),Ct]
def atL:List Ah->Int->Option Int
 | [],_=>none
 |r::l,i=>if i<r.c then some (r.f+r.s*i) else atL l (i-r.c)
theorem M4 :∀(l:List Ah) (i:Nat),(∀r,r∈l->0<=r.c)->atL l (i:Int)=(Af l)[i]?
 | [],i,_=>by simp[atL,Af]
 |r::l,i,h=>by
  have hr:=h r (by simp)
  simp only[atL]
  by_cases k:(i:Int)<r.c
  ·rw[if_pos k,Kt r l i k]
  ·rw[if_neg k,Nd r l i (by omega),<-M4 l (i-r.c.toNat) fun r hr=>h r (by simp[hr])]
   congr 1;omega
def Dt:List Ah->Int->Int
 | [],_=>0
 |r::l,t=>if t<=r.f then 0 else if Cs r<t then r.c+Dt l t else (t-r.f-1)/r.s+1
theorem Jy.tail {r:Ah} {l:List Ah} (h:Jy (r::l)):Jy l:=h.2
theorem Ks :∀(l:List Ah) (x:Int),(∀r,r∈l->Fb r)->Jy l->(∀r,l.head? =some r->x<r.f)->∀t,t∈Af l->x<t
 | [],_,_,_,_,t,ht=>by simp[Af] at ht
 |r::l,x,h,hc,hx,t,ht=>by
  have hr:=h r (by simp)
  have h0:=hx r (by simp)
  simp only[Af,List.mem_append] at ht
  rcases ht with ht|ht
  ·simp only[B9,List.mem_map,List.mem_range] at ht
   obtain⟨k,hk,rfl⟩:=ht
   have:=Oq hr (show (0:Int)<=k by omega)
   omega
  ·have:=Ks l (Cs r) (fun r hr=>h r (by simp[hr])) hc.2 (fun q hq=>((hc.1 q hq).1).1) t ht
   have:=Jn hr
   omega
theorem Hc :∀(l:List Ah),(∀r,r∈l->Fb r)->Jy l->(Af l).Pairwise (·<·)
 | [],_,_=>by simp[Af]
 |r::l,h,hc=>by
  have hr:=h r (by simp)
  simp only[Af]
  rw[List.pairwise_append]
  refine⟨?_,Hc l (fun r hr=>h r (by simp[hr])) hc.2,fun a ha b hb=> ?_⟩
  ·unfold B9
   rw[List.pairwise_map]
   refine List.Pairwise.imp_of_mem ?_ (List.pairwise_lt_range)
   intro a b ha hb hab
   simp at ha hb
   exact run_at_lt hr (by omega) (by omega) (by omega)
  ·simp only[B9,List.mem_map,List.mem_range] at ha
   obtain⟨k,hk,rfl⟩:=ha
   have:=Ks l (Cs r) (fun r hr=>h r (by simp[hr])) hc.2 (fun q hq=>((hc.1 q hq).1).1) b hb
   have:=G7 hr (show (k:Int)<=r.c-1 by omega)
   omega
theorem Qe (l:List Ah) (h:Ce l):∀t,t∈Af l->0<=t/\t<=281474976710656:=by
 intro t ht
 have:∀(l:List Ah),(∀r,r∈l->Fb r)->t∈Af l->0<=t/\t<=281474976710656:=by
  intro l
  induction l with
  |nil=>intro _ h;simp[Af] at h
  |cons r l ih=>
   intro h ht
   simp only[Af,List.mem_append] at ht
   rcases ht with ht|ht
   ·simp only[B9,List.mem_map,List.mem_range] at ht
    obtain⟨k,hk,rfl⟩:=ht
    have hr:=h r (by simp)
    have:=Oq hr (show (0:Int)<=k by omega)
    have:=G7 hr (show (k:Int)<=r.c-1 by omega)
    have:=hr.f0;have:=hr.last
    omega
   ·exact ih (fun r hr=>h r (by simp[hr])) ht
 exact this l h.each ht
theorem R9 {r:Ah} (h:Fb r) {t:Int} (h1:r.f<t) (h2:t<=Cs r):1<=r.s/\0<=(t-r.f-1)/r.s/\(t-r.f-1)/r.s+1<=r.c-1/\r.f+r.s*((t-r.f-1)/r.s)<t/\t<=r.f+r.s*((t-r.f-1)/r.s+1):=by
 have hs:1<=r.s:=by
  have:=h.s0
  rcases Int.lt_or_eq_of_le this with k|k
  ·omega
  ·unfold Cs at h2;rw[<-k] at h2;simp at h2;omega
 have q0:0<=(t-r.f-1)/r.s:=Int.ediv_nonneg (by omega) (by omega)
 have e:=Int.mul_ediv_add_emod (t-r.f-1) r.s
 have m0:=Int.emod_nonneg (t-r.f-1) (show r.s≠0 by omega)
 have m1:=Int.emod_lt_of_pos (t-r.f-1) (show 0<r.s by omega)
 refine⟨hs,q0,?_,by omega,by rw[Int.mul_add];omega⟩
 have k:r.s*((t-r.f-1)/r.s)<r.s*(r.c-1):=by unfold Cs at h2;omega
 have:=Int.lt_of_mul_lt_mul_left k (by omega)
 omega
theorem Lj :∀(l:List Ah) (t:Int),(∀r,r∈l->Fb r)->Jy l->0<=Dt l t/\Dt l t<=cnt l/\∀(k:Nat) (x:Int),(Af l)[k]? =some x->(x<t↔(k:Int)<Dt l t)
 | [],t,_,_=>by simp[Dt,cnt,Af]
 |r::l,t,h,hc=>by
  have hr:=h r (by simp)
  have hl:∀r,r∈l->Fb r:=fun r hr=>h r (by simp[hr])
  have ab:=Ks l (Cs r) hl hc.2 (fun q hq=>((hc.1 q hq).1).1)
  obtain⟨i0,i1,i2⟩:=Lj l t hl hc.2
  have c0:=hr.c0
  have len:=Cu l fun r hr=>by have:=(hl r hr).c0;omega
  have split:∀(k:Nat) (x:Int),(Af (r::l))[k]? =some x->((k:Int)<r.c/\x=r.f+r.s*k)∨(r.c<=(k:Int)/\(Af l)[k-r.c.toNat]? =some x/\Cs r<x):=by
   intro k x hx
   by_cases hk:(k:Int)<r.c
   ·rw[Kt r l k hk] at hx
    exact .inl ⟨hk,by simpa using hx.symm⟩
   ·rw[Nd r l k (by omega)] at hx
    exact .inr ⟨by omega,hx,ab x (List.mem_of_getElem? hx)⟩
  have ll:=Jn hr
  simp only[Dt,cnt]
  by_cases h1:t<=r.f
  ·rw[if_pos h1]
   refine⟨by omega,by omega,fun k x hx=> ?_⟩
   rcases split k x hx with⟨hk,rfl⟩|⟨hk,hx',hlt⟩
   ·have:=Oq hr (show (0:Int)<=k by omega)
    omega
   ·omega
  ·rw[if_neg h1]
   by_cases h2:Cs r<t
   ·rw[if_pos h2]
    refine⟨by omega,by omega,fun k x hx=> ?_⟩
    rcases split k x hx with⟨hk,rfl⟩|⟨hk,hx',hlt⟩
    ·have:=G7 hr (show (k:Int)<=r.c-1 by omega)
     omega
    ·have:=i2 _ x hx'
     omega
   ·rw[if_neg h2]
    obtain⟨s1,q0,q1,q2,q3⟩:=R9 hr (show r.f<t by omega) (show t<=Cs r by omega)
    generalize hq:(t-r.f-1)/r.s=q at*
    refine⟨by omega,by omega,fun k x hx=> ?_⟩
    rcases split k x hx with⟨hk,rfl⟩|⟨hk,hx',hlt⟩
    ·constructor
     ·intro hlt
      have:r.s*(k:Int)<r.s*(q+1):=by omega
      exact Int.lt_of_mul_lt_mul_left this (by omega)
     ·intro hlt
      have:=Int.mul_le_mul_of_nonneg_left (show (k:Int)<=q by omega) (show 0<=r.s by omega)
      omega
    ·omega
theorem c_rcheck (p:Option Addr) (cap:Nat) (l:List Ah) (w:World) (hlen:l.length<=9223372036854775807) (h:Ai w p l):
  Cb 178 #[.slice p l.length cap] w (.int .i64 (if Fe l then 0 else 170)):=by
 have c1:=fun W (hW:Below w.heap.size w W)=>Ls p cap l W hlen (h.below hW)
 by_cases hb:Fe l=true
 ·rw[if_pos hb]
  rw[hb] at c1
  have H_c1:=Hd c1
  clear c1
  go_enter Tryz.func178,Tryz.ntmps178
  go_wp2_with fail
  refine(H_c1.out _ (Aa)).mono ?_
  rintro e w1 ⟨rfl,hb1⟩
  have z2:=hb1.size
  try simp at z2
  refine Ae w w1 (Bz) ?_
  rintro hW z3 ⟨-⟩
  clear hb1
  go_wp2
  refine bodyPost_ret (by simp[results,Tryz.results178,go_sem]) rfl ⟨rfl,by exact Aa⟩
 ·rw[if_neg hb]
  rw[eq_false_of_ne_true hb] at c1
  have H_c1:=Hd c1
  clear c1
  go_enter Tryz.func178,Tryz.ntmps178
  go_wp2_with fail
  refine(H_c1.out _ (Aa)).mono ?_
  rintro e w1 ⟨rfl,hb1⟩
  have z2:=hb1.size
  try simp at z2
  refine Ae w w1 (Bz) ?_
  rintro hW z3 ⟨-⟩
  clear hb1
  go_wp2
  refine bodyPost_ret (by simp[results,Tryz.results178,go_sem]) rfl ⟨rfl,by exact Aa⟩
theorem c_rcount (p:Option Addr) (cap:Nat) (l:List Ah) (w:World) (hlen:l.length<=9223372036854775807) (h:Ai w p l):
  Cb 99 #[.slice p l.length cap] w (.int .i64 (if Fe l then cnt l else 0)):=by
 have c1:=fun W (hW:Below w.heap.size w W)=>Ls p cap l W hlen (h.below hW)
 by_cases hb:Fe l=true
 ·rw[if_pos hb]
  rw[hb] at c1
  have hl:=(D1 l).1 hb
  have c2:=fun W (hW:Below w.heap.size w W)=>Yl p l.length cap l W rfl hl.few (h.below hW) (fun i r hr=>by have hh:=hl.each r (List.mem_of_getElem? hr);have:=hh.c0;have:=hh.c1;omega)
  rw[Hx] at c2
  have H_c1:=Hd c1
  clear c1
  have H_c2:=Hd c2
  clear c2
  go_enter Tryz.func99,Tryz.ntmps99
  go_wp2_with fail
  refine(H_c1.out _ (Aa)).mono ?_
  rintro e w1 ⟨rfl,hb1⟩
  have z2:=hb1.size
  try simp at z2
  refine Ae w w1 (Bz) ?_
  rintro hW z3 ⟨-⟩
  clear hb1
  go_wp2_with fail
  refine(H_c2.out _ (Aa)).mono ?_
  rintro e w4 ⟨rfl,hb4⟩
  have z5:=hb4.size
  try simp at z5
  refine Ae w w4 (Bz) ?_
  clear hW
  rintro hW z6 ⟨-⟩
  clear hb4
  go_wp2
  refine bodyPost_ret (by simp[results,Tryz.results99,go_sem]) rfl ⟨rfl,by exact Aa⟩
 ·rw[if_neg hb]
  rw[eq_false_of_ne_true hb] at c1
  have H_c1:=Hd c1
  clear c1
  go_enter Tryz.func99,Tryz.ntmps99
  go_wp2_with fail
  refine(H_c1.out _ (Aa)).mono ?_
  rintro e w1 ⟨rfl,hb1⟩
  have z2:=hb1.size
  try simp at z2
  refine Ae w w1 (Bz) ?_
  rintro hW z3 ⟨-⟩
  clear hb1
  go_wp2
  refine bodyPost_ret (by simp[results,Tryz.results99,go_sem]) rfl ⟨rfl,by exact Aa⟩
theorem Xb {l:List Ah} {i:Nat} {r:Ah} (hr:l[i]? =some r) (t:Int):Dt (l.drop i) t=if t<=r.f then 0 else if Cs r<t then r.c+Dt (l.drop (i+1)) t else (t-r.f-1)/r.s+1:=by
 rw[List.getElem?_eq_some_iff] at hr
 obtain⟨hi,rfl⟩:=hr
 rw[List.drop_eq_getElem_cons hi,Dt]
theorem cnt_drop {l:List Ah} {i:Nat} {r:Ah} (hr:l[i]? =some r):cnt (l.drop i)=r.c+cnt (l.drop (i+1)):=by
 rw[List.getElem?_eq_some_iff] at hr
 obtain⟨hi,rfl⟩:=hr
 rw[List.drop_eq_getElem_cons hi,cnt]
theorem Hi :∀(l:List Ah),(∀r,r∈l->Fb r)->0<=cnt l
 | [],_=>by simp[cnt]
 |r::l,h=>by
  have:=Hi l fun r hr=>h r (by simp[hr])
  have:=(h r (by simp)).c0
  simp only[cnt];omega
theorem below_w (p:Option Addr) (cap:Nat) (l:List Ah) (t:Int) (w:World) (hl:Ce l) (h:Ai w p l):
  Cb 208 #[.slice p l.length cap,.int .i64 t] w (.int .i64 (Dt l t)):=by
 have hlen:=hl.few
 go_enter Tryz.func208,Tryz.ntmps208
 go_wp2
 refine wp_loop (fun a' W=>Below w.heap.size w W/\∃(i:Nat) (n:Int),(∃u:Nat->Value,a'= {tmps:= #[(.slice p l.length cap),.int .i64 t,u 2,u 3,.int .i64 0,.int .i64 n,u 6,u 7,(.slice p l.length cap),.int .i64 (l.length:Int),.int .i64 (i:Int),u 11,u 12,u 13,u 14,u 15,u 16,u 17,u 18,u 19,u 20,u 21,u 22,u 23,u 24,u 25,u 26,u 27,u 28,u 29,u 30,u 31,u 32,u 33,u 34,u 35,u 36,u 37,u 38,u 39,u 40,u 41],defers:= []})/\i<=l.length/\n+Dt (l.drop i) t=Dt l t/\0<=n/\n+cnt (l.drop i)<=256) (fun a' _=>l.length-(Ak (a'.tmps.getD 10 undef)).toNat) ?_ ?_
 ·exact⟨Aa,0,0,Ac rfl,by omega,by simp,by omega,by have:=hl.count;simp;omega⟩
 ·rintro a' W ⟨hW,i,n,⟨u,rfl⟩,hi,hn,hn0,hn1⟩
  have hz:=hW.size
  rcases Nat.lt_or_ge i l.length with hlt|hge
  ·obtain⟨r,hri⟩:∃r,l[i]? =some r:=⟨l[i]'(by omega),List.getElem?_eq_getElem (by omega)⟩
   have hr:=hl.each r (List.mem_of_getElem? hri)
   obtain⟨b,o,rfl,k0,k1,k2⟩:=(h.below hW).at' i r hri
   have hd2:=Xb hri t
   have hc2:=cnt_drop hri
   have hc3:=Hi (l.drop (i+1)) fun r hr=>hl.each r (List.mem_of_mem_drop hr)
   have r1:=hr.f0;have r2:=hr.f1;have r3:=hr.s0;have r4:=hr.s1;have r5:=hr.c0;have r6:=hr.c1;have r7:=Jn hr;have r8:=hr.last
   by_cases h1:t<=r.f
   ·rw[if_pos h1] at hd2
    rw[hd2] at hn
    clear hd2
    have hd:=hn
    clear hn
    go_wp2
    go_ret
    exact⟨Lu (by omega),Aa⟩
   ·rw[if_neg h1] at hd2
    by_cases h2:Cs r<t
    ·rw[if_pos h2] at hd2
     rw[hd2] at hn
     replace hn:=Hd hn
     clear hd2
     replace hri:=Hd hri
     go_upto_region 8 with(fail)
     refine Ad w (Bc W.heap.size #[.int .i64 r.f,.int .i64 r.s,.int .i64 r.c] 144<|Bz) ?_
     clear hW
     rintro W1 hW z2 ⟨⟨b1,yb1,k1,f1⟩,-⟩
     go_wp2_with fail
     refine(Un r _ ⟨hr.f0,hr.f1⟩ ⟨hr.s0,hr.s1⟩ ⟨hr.c0,hr.c1⟩).mono ?_
     rintro e w3 ⟨rfl,hb3⟩
     have z4:=hb3.size
     try simp at z4
     clear k1 f1
     refine Ae w w3 (Bc W.heap.size #[.int .i64 r.f,.int .i64 r.s,.int .i64 r.c] 144<|Bz) ?_
     clear b1 hW
     rintro hW z5 ⟨⟨b1,yb1,k1,f1⟩,-⟩
     clear hb3
     go_wp2
     rw[show (i:Int)+1=((i+1:Nat):Int) by omega]
     exact⟨⟨hW,i+1,n+r.c,Ac rfl,by omega,by have:=hn.out;omega,by omega,by omega⟩,by simp[Ak];omega⟩
    ·rw[if_neg h2] at hd2
     rw[hd2] at hn
     obtain⟨s1,q0,q1,q2,q3⟩:=R9 hr (show r.f<t by omega) (show t<=Cs r by omega)
     replace hn:=Hd hn
     clear hd2 q2 q3
     replace hri:=Hd hri
     go_upto_region 8 with(fail)
     refine Ad w (Bc W.heap.size #[.int .i64 r.f,.int .i64 r.s,.int .i64 r.c] 144<|Bz) ?_
     clear hW
     rintro W1 hW z2 ⟨⟨b1,yb1,k1,f1⟩,-⟩
     go_wp2_with fail
     refine(Un r _ ⟨hr.f0,hr.f1⟩ ⟨hr.s0,hr.s1⟩ ⟨hr.c0,hr.c1⟩).mono ?_
     rintro e w3 ⟨rfl,hb3⟩
     have z4:=hb3.size
     try simp at z4
     clear k1 f1
     refine Ae w w3 (Bc W.heap.size #[.int .i64 r.f,.int .i64 r.s,.int .i64 r.c] 144<|Bz) ?_
     clear b1 hW
     rintro hW z5 ⟨⟨b1,yb1,k1,f1⟩,-⟩
     clear hb3
     go_wp2
     go_ret
     exact⟨Lu (by have:=hn.out;omega),Aa⟩
  ·have e:l.drop i= []:=List.drop_eq_nil_of_le hge
   rw[e] at hn
   simp[Dt] at hn
   replace hn:=Hd hn
   clear e
   go_wp2
   go_ret
   exact⟨Lu (by have:=hn.out;omega),hW⟩
def atV (l:List Ah) (i:Int):Int:=(atL l i).getD 0
def atE (l:List Ah) (i:Int):Int:=if (atL l i).isSome then 0 else 4
theorem Jv {l:List Ah} {i v:Int} (h:atL l i=some v):atV l i=v:=by simp[atV,h]
theorem Xc {l:List Ah} {i v:Int} (h:atL l i=some v):atE l i=0:=by simp[atE,h]
theorem atV_none {l:List Ah} {i:Int} (h:atL l i=none):atV l i=0:=by simp[atV,h]
theorem atE_none {l:List Ah} {i:Int} (h:atL l i=none):atE l i=4:=by simp[atE,h]
theorem atL_drop {l:List Ah} {k:Nat} {r:Ah} (hr:l[k]? =some r) (i:Int):atL (l.drop k) i=if i<r.c then some (r.f+r.s*i) else atL (l.drop (k+1)) (i-r.c):=by
 rw[List.getElem?_eq_some_iff] at hr
 obtain⟨hi,rfl⟩:=hr
 rw[List.drop_eq_getElem_cons hi,atL]
def atRel (p:Option Addr) (cap:Nat) (l:List Ah) (i:Int) (w:World) (a':Act) (W:World):Prop:=Below w.heap.size w W/\∃(k:Nat) (j:Int),(∃u:Nat->Value,a'= {tmps:= #[(.slice p l.length cap),j,u 2,u 3,u 4,u 5,u 6,u 7,u 8,u 9,u 10,u 11,u 12,(.slice p l.length cap),.int .i64 (l.length:Int),.int .i64 (k:Int),u 16,u 17,u 18,u 19,u 20,u 21,u 22,u 23,u 24,u 25,u 26,u 27,u 28,u 29,u 30,u 31,u 32,u 33,u 34],defers:= []})/\k<=l.length/\atL (l.drop k) j=atL l i/\0<=j/\j<=i
theorem at_w (p:Option Addr) (cap:Nat) (l:List Ah) (i:Int) (w:World) (hl:Ce l) (h:Ai w p l) (hi0:0<=i) (hi1:i<=9223372036854775807):
  Cb 112 #[.slice p l.length cap,i] w (.tuple #[.int .i64 (atV l i),.int .i64 (atE l i)]):=by
 have hlen:=hl.few
 have c1:=fun W (hW:Below w.heap.size w W)=>Ls p cap l W (by omega) (h.below hW)
 rw[(D1 l).2 hl] at c1
 have H_c1:=Hd c1
 clear c1
 go_enter Tryz.func112,Tryz.ntmps112
 go_wp2_with fail
 refine(H_c1.out _ (Aa)).mono ?_
 rintro e w1 ⟨rfl,hb1⟩
 have z2:=hb1.size
 try simp at z2
 refine Ae w w1 (Bz) ?_
 rintro hW z3 ⟨-⟩
 clear hb1
 go_wp2
 refine wp_loop (atRel p cap l i w) (fun a' _=>l.length-(Ak (a'.tmps.getD 15 undef)).toNat) ?_ ?_
 ·unfold atRel
  exact⟨hW,0,i,Ac rfl,by omega,by simp,by omega,by omega⟩
 ·clear hW
  rintro a' W ⟨hW,k,j,⟨u,rfl⟩,hk,hn,hj0,hj1⟩
  have hz:=hW.size
  rcases Nat.lt_or_ge k l.length with hlt|hge
  ·obtain⟨r,hri⟩:∃r,l[k]? =some r:=⟨l[k]'(by omega),List.getElem?_eq_getElem (by omega)⟩
   have hr:=hl.each r (List.mem_of_getElem? hri)
   obtain⟨b,o,rfl,k0,k1,k2⟩:=(h.below hW).at' k r hri
   have hd2:=atL_drop hri j
   have r1:=hr.f0;have r2:=hr.f1;have r3:=hr.s0;have r4:=hr.s1;have r5:=hr.c0;have r6:=hr.c1;have r7:=Jn hr;have r8:=hr.last
   by_cases h1:j<r.c
   ·rw[if_pos h1] at hd2
    rw[hd2] at hn
    have m0:0<=r.s*j:=Int.mul_nonneg r3 hj0
    have m1:r.f+r.s*j<=Cs r:=G7 hr (by omega)
    replace hn:=Hd hn
    clear hd2
    replace hri:=Hd hri
    go_wp2
    refine bodyPost_ret (v:= .tuple #[.int .i64 (r.f+r.s*j),.int .i64 (0)]) (by simp[results,Tryz.results112,go_sem]) rfl ⟨by rw[Jv hn.out.symm,Xc hn.out.symm],Aa⟩
   ·rw[if_neg h1] at hd2
    rw[hd2] at hn
    replace hn:=Hd hn
    clear hd2
    replace hri:=Hd hri
    go_wp2
    rw[show (k:Int)+1=((k+1:Nat):Int) by omega]
    refine⟨?_,by simp[Ak];omega⟩
    unfold atRel
    exact⟨Aa,k+1,j-r.c,Ac rfl,by omega,hn.out,by omega,by omega⟩
  ·have e:l.drop k= []:=List.drop_eq_nil_of_le hge
   rw[e] at hn
   simp only[atL] at hn
   replace hn:=Hd hn
   clear e
   go_wp2
   refine bodyPost_ret (v:= .tuple #[.int .i64 (0),.int .i64 (4)]) (by simp[results,Tryz.results112,go_sem]) rfl ⟨by rw[atV_none hn.out.symm,atE_none hn.out.symm],Aa⟩
def findL (l:List Ah) (t:Int):Option Int:=if atL l (Dt l t)=some t then some (Dt l t) else none
end Go.Proofs.YtidfcoooccblaaaGreat
