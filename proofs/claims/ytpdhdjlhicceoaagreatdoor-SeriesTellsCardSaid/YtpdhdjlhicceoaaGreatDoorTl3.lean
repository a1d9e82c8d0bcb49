/- Parts of the proof that follows. No condition. -/
import Derived.Laws.EntriesVeiled
import Derived.Test.YtpdhdjlhicceoaaGreatDoorTl2
set_option maxRecDepth 100000
set_option maxHeartbeats 8000000
set_option linter.unusedSimpArgs false
set_option linter.unusedVariables false
namespace Go.Proofs.YtpdhdjlhicceoaaGreatDoor
open Go.RowKit
attribute [local simp] Oper.looksAt Op.operands Call.operands envOf Det GDet
theorem over_w (A R n d t ph pl rh rl sh sl qh ql ah al oh ol rest e1 e2:Int) (w:World)
  (c1:∀w,Cb 283 #[.int .i64 n,.int .i64 t] w (.agg #[.int .i64 ph,.int .u64 pl]))
  (c2:∀w,Cb 230 #[.int .i64 R] w (.agg #[.int .i64 rh,.int .u64 rl]))
  (c3:∀w,Cb 224 #[.agg #[.int .i64 ph,.int .u64 pl],.agg #[.int .i64 rh,.int .u64 rl]] w (.tuple #[.agg #[.int .i64 sh,.int .u64 sl],.int .i64 e1]))
  (c4:∀w,Cb 291 #[.agg #[.int .i64 sh,.int .u64 sl],.int .i64 d] w (.tuple #[.agg #[.int .i64 qh,.int .u64 ql],.int .i64 rest,.int .i64 0]))
  (c5:∀w,Cb 230 #[.int .i64 A] w (.agg #[.int .i64 ah,.int .u64 al]))
  (c6:∀w,Cb 224 #[.agg #[.int .i64 qh,.int .u64 ql],.agg #[.int .i64 ah,.int .u64 al]] w (.tuple #[.agg #[.int .i64 oh,.int .u64 ol],.int .i64 e2])):
  Cb 235 #[.agg #[.int .i64 A,.int .i64 R,.int .i64 n,.int .i64 d],.int .i64 t] w (.tuple #[.agg #[.int .i64 oh,.int .u64 ol],.int .i64 rest]):=by
 have H1:=Hd c1
 have H2:=Hd c2
 have H3:=Hd c3
 have H4:=Hd c4
 have H5:=Hd c5
 have H6:=Hd c6
 clear c1 c2 c3 c4 c5 c6
 go_enter Tryz.func235,Tryz.ntmps235
 go_upto_region 1 with(fail)
 refine wp_facts (fun W=>Below w.heap.size w W/\Blk W w.heap.size #[.int .i64 A,.int .i64 R,.int .i64 n,.int .i64 d] 229/\Blk W (w.heap.size+1) #[.int .i64 0,.int .u64 0] 279) ⟨?_,(by repeat (first|(refine Blk.new' ?_;simp;done)|refine Blk.alloc ?_ _)),(by repeat (first|(refine Blk.new' ?_;simp;done)|refine Blk.alloc ?_ _))⟩ ?_
 ·exact(have hUp:=(Below.refl w.heap.size w);belowAny)
 rintro W ⟨hW,b1,b2⟩
 have c1:=H1.out
 have c2:=H2.out
 have c3:=H3.out
 refine wp_region_nd 14 46 [] (fun W'=>Rex [] W W'/\Blk W' w.heap.size #[.int .i64 A,.int .i64 R,.int .i64 n,.int .i64 d] 229/\Blk W' (w.heap.size+1) #[.int .i64 0,.int .u64 0] 279) mixed (by kernel_rfl) rfl ⟨(Rex.refl _ _).drew,b1,b2⟩ (fun w w' ⟨h0,h1,h2⟩ hr=>⟨h0.trans hr,h1.rex hr (by simp<;>omega),h2.rex hr (by simp<;>omega)⟩) (fun c a d v w h=>by cases d<;>exact h) ?_
 iterate 4
  apply nd_det (hg:=rfl) (hal:=rfl)
  ·intro a W' hC hE
   obtain⟨_,k1,k2⟩:=hC
   have k1:=k1.cell
   first
    |(simp at hE;simp[go_sem,Act.eval,iw,hE,k1,k2];try rfl)
    |(clear hE;simp[go_sem,Act.eval,iw,k1,k2];try rfl)
 refine nd_callv2 rfl rfl (fun W' hC=>c1 W') (fun a W' hC hE=> ?_) ?_
 ·obtain⟨_,k1,k2⟩:=hC
  have k1:=k1.cell
  first
   |(simp at hE;simp[go_sem,Act.eval,iw,hE,k1,k2];try rfl)
   |(clear hE;simp[go_sem,Act.eval,iw,k1,k2];try rfl)
 iterate 3
  apply nd_det (hg:=rfl) (hal:=rfl)
  ·intro a W' hC hE
   obtain⟨_,k1,k2⟩:=hC
   have k1:=k1.cell
   first
    |(simp at hE;simp[go_sem,Act.eval,iw,hE,k1,k2];try rfl)
    |(clear hE;simp[go_sem,Act.eval,iw,k1,k2];try rfl)
 refine nd_callv2 rfl rfl (fun W' hC=>c2 W') (fun a W' hC hE=> ?_) ?_
 ·obtain⟨_,k1,k2⟩:=hC
  have k1:=k1.cell
  first
   |(simp at hE;simp[go_sem,Act.eval,iw,hE,k1,k2];try rfl)
   |(clear hE;simp[go_sem,Act.eval,iw,k1,k2];try rfl)
 refine nd_callv2 rfl rfl (fun W' hC=>c3 W') (fun a W' hC hE=> ?_) ?_
 ·obtain⟨_,k1,k2⟩:=hC
  have k1:=k1.cell
  first
   |(simp at hE;simp[go_sem,Act.eval,iw,hE,k1,k2];try rfl)
   |(clear hE;simp[go_sem,Act.eval,iw,k1,k2];try rfl)
 iterate 3
  apply nd_det (hg:=rfl) (hal:=rfl)
  ·intro a W' hC hE
   obtain⟨_,k1,k2⟩:=hC
   have k1:=k1.cell
   first
    |(simp at hE;simp[go_sem,Act.eval,iw,hE,k1,k2];try rfl)
    |(clear hE;simp[go_sem,Act.eval,iw,k1,k2];try rfl)
 apply nd_alloc W.heap.size #[.int .i64 0,.int .u64 0] 279 rfl rfl
 ·exact fun W' hC=>hC.1.size
 ·simp[others]<;>omega
 ·intro w;kernel_rfl
 rintro W1 ⟨hR,c1,c2⟩
 simp only[ndFinR,Det,forall_eq]
 intros
 repeat (rename GDet _ _ _ _=>hgd;clear hgd)
 simp only[nS]
 clear c3
 obtain⟨g1,rfl,hg1,n1⟩:= ‹NewVar _ _ _ _ _›
 have kn:=n1.cell
 have fn:=n1.frozen
 go_upto_region 2 with(fail)
 clear kn fn
 have hW1:=hW.trans (hR.of_priv hW.size)
 have hz:=hW.size
 have y1:=b1.lt
 have y2:=b2.lt
 refine wp_facts (fun W=>Below w.heap.size w W/\Blk W w.heap.size #[.int .i64 A,.int .i64 R,.int .i64 n,.int .i64 d] 229/\Blk W (w.heap.size+1) #[.int .i64 0,.int .u64 0] 279/\Blk W g1 #[.int .i64 sh,.int .u64 sl] 279) ⟨?_,?_,?_,(n1.set 0 _).set 1 _⟩ ?_
 ·exact(have hUp:=hW1;belowAny)
 ·exact(have hUp:=c1;blkAny)
 ·exact(have hUp:=c2;blkAny)
 clear hW1 c1 c2 n1 hR hW b1 b2
 rintro W2 ⟨hW,b1,b2,b3⟩
 have k1:=b1.cell
 have k3:=b3.cell
 have c4:=H4.out
 go_wp2_with fail
 refine(c4 _).mono ?_
 rintro e w4 ⟨rfl,hb4⟩
 clear c4 k1 k3
 go_upto_region 3 with(fail)
 have d1:=b1.calls hb4
 have d2:=b2.calls hb4
 have z4:=hb4.size
 have z3:=hW.size
 refine wp_facts (fun W=>Below w.heap.size w W/\Blk W w.heap.size #[.int .i64 A,.int .i64 R,.int .i64 n,.int .i64 d] 229/\Blk W (w.heap.size+1) #[.int .i64 0,.int .u64 0] 279/\Blk W w4.heap.size #[.int .i64 qh,.int .u64 ql] 279) ⟨?_,?_,?_,Blk.new' rfl⟩ ?_
 ·exact(have hUp:=(hW.trans (hb4.mono (by have:=hW.size;omega)));belowAny)
 ·exact(have hUp:=d1;blkAny)
 ·exact(have hUp:=d2;blkAny)
 have y4:w.heap.size+1<w4.heap.size:=d2.lt
 clear hW b1 b2 b3 hb4 d1 d2 z4 z3
 rintro W ⟨hW,b1,b2,b3⟩
 have c5:=H5.out
 have c6:=H6.out
 refine wp_region_nd 10 46 [] (fun W'=>Rex [] W W'/\Blk W' w.heap.size #[.int .i64 A,.int .i64 R,.int .i64 n,.int .i64 d] 229/\Blk W' (w.heap.size+1) #[.int .i64 0,.int .u64 0] 279/\Blk W' w4.heap.size #[.int .i64 qh,.int .u64 ql] 279) mixed (by kernel_rfl) rfl ⟨(Rex.refl _ _).drew,b1,b2,b3⟩ (fun w w' ⟨h0,h1,h2,h3⟩ hr=>⟨h0.trans hr,h1.rex hr (by simp<;>omega),h2.rex hr (by simp<;>omega),h3.rex hr (by simp<;>omega)⟩) (fun c a d v w h=>by cases d<;>exact h) ?_
 iterate 4
  apply nd_det (hg:=rfl) (hal:=rfl)
  ·intro a W' hC hE
   obtain⟨_,k1,k2,k3⟩:=hC
   have k1:=k1.cell
   have k3:=k3.cell
   first
    |(simp at hE;simp[go_sem,Act.eval,iw,hE,k1,k2,k3];try rfl)
    |(clear hE;simp[go_sem,Act.eval,iw,k1,k2,k3];try rfl)
 refine nd_callv2 rfl rfl (fun W' hC=>c5 W') (fun a W' hC hE=> ?_) ?_
 ·obtain⟨_,k1,k2,k3⟩:=hC
  have k1:=k1.cell
  have k3:=k3.cell
  first
   |(simp at hE;simp[go_sem,Act.eval,iw,hE,k1,k2,k3];try rfl)
   |(clear hE;simp[go_sem,Act.eval,iw,k1,k2,k3];try rfl)
 refine nd_callv2 rfl rfl (fun W' hC=>c6 W') (fun a W' hC hE=> ?_) ?_
 ·obtain⟨_,k1,k2,k3⟩:=hC
  have k1:=k1.cell
  have k3:=k3.cell
  first
   |(simp at hE;simp[go_sem,Act.eval,iw,hE,k1,k2,k3];try rfl)
   |(clear hE;simp[go_sem,Act.eval,iw,k1,k2,k3];try rfl)
 iterate 3
  apply nd_det (hg:=rfl) (hal:=rfl)
  ·intro a W' hC hE
   obtain⟨_,k1,k2,k3⟩:=hC
   have k1:=k1.cell
   have k3:=k3.cell
   first
    |(simp at hE;simp[go_sem,Act.eval,iw,hE,k1,k2,k3];try rfl)
    |(clear hE;simp[go_sem,Act.eval,iw,k1,k2,k3];try rfl)
 apply nd_alloc W.heap.size #[.int .i64 0,.int .u64 0] 279 rfl rfl
 ·exact fun W' hC=>hC.1.size
 ·simp[others]<;>omega
 ·intro w;kernel_rfl
 rintro W1 ⟨hR,c1,c2,c3⟩
 simp only[ndFinR,Det,forall_eq]
 intros
 repeat (rename GDet _ _ _ _=>hgd;clear hgd)
 simp only[nS]
 obtain⟨g2,rfl,hg2,n2⟩:= ‹NewVar _ _ _ _ _›
 have kn:=n2.cell
 have fn:=n2.frozen
 have k2:=c2.cell
 have f2:=c2.frozen
 have y5:=b2.lt
 have y6:w.heap.size+1≠g2:=by omega
 clear c5 c6
 go_wp2
 refine bodyPost_ret (v:= .tuple #[.agg #[.int .i64 oh,.int .u64 ol],.int .i64 rest]) (by simp[results,Tryz.results235,go_sem,k2,f2,y6]) rfl ⟨rfl,?_⟩
 have hR':=hW.trans (hR.of_priv hW.size)
 have hz':=hW.size
 exact(have hUp:=hR';belowAny)
end Go.Proofs.YtpdhdjlhicceoaaGreatDoor
namespace Go.Proofs.YtpdhdjlhicceoaaGreatDoor
open Go.RowKit
theorem blkAny2 {w:World} {b:Nat} {cs:Array Value} {t:TypeId} (h:Blk w b cs t:=by repeat (first|with_reducible assumption|with_reducible (apply Blk.set2)|with_reducible (apply Blk.setO)|((with_reducible (show _≠_));omega)|with_reducible (refine Blk.new2 (by first|rfl|(simp;done)|(simp;omega)|omega) ?_)|with_reducible (refine Blk.alloc ?_ _)|with_reducible (refine Blk.calls ?_ (by assumption))|with_reducible (refine Blk.rex ?_ (by assumption) (by first|(simp;done)|(simp;omega)))|((with_reducible (show @Eq (Array Value) _ _));rfl)|((with_reducible (show @Eq Obj _ _));rfl))):Blk w b cs t:=h
def Bz (_:World):Prop:=True
def Bc (b:Nat) (cs:Array Value) (t:TypeId) (R:World->Prop) (w:World):Prop:=(Blk w b cs t/\b<w.heap.size/\(∀i,w.cell? ⟨b,i,none⟩=cs[i]?)/\∀i,w.frozen? ⟨b,i,none⟩=false)/\R w
def Rc (F R:World->Prop) (w:World):Prop:=F w/\R w
theorem Bc.mk {b:Nat} {cs:Array Value} {t:TypeId} {R:World->Prop} {w:World} (h:Blk w b cs t) (r:R w):Bc b cs t R w:=⟨⟨h,h.lt,h.cell,h.frozen⟩,r⟩
theorem Rc.mk {F R:World->Prop} {w:World} (h:F w) (r:R w):Rc F R w:=⟨h,r⟩
def Cl (R:World->Prop):Prop:=∀w w',R w->Rex [] w w'->R w'
theorem Cl.z :Cl Bz:=fun _ _ _ _=>trivial
theorem Cl.b {b:Nat} {cs:Array Value} {t:TypeId} {R:World->Prop} (h:Cl R):Cl (Bc b cs t R):=fun w w' hr hx=>Bc.mk (hr.1.1.rex hx (by simp)) (h _ _ hr.2 hx)
theorem Cl.r {F R:World->Prop} (hF:∀w w',F w->Rex [] w w'->F w') (h:Cl R):Cl (Rc F R):=fun w w' hr hx=>⟨hF _ _ hr.1 hx,h _ _ hr.2 hx⟩
theorem wp_cutB {P:Program} {c:Code} {Q:Exit->Act->World->Prop} {a:Act} {w:World} (w0:World) (R:World->Prop) (hr:∀W,Below w0.heap.size w0 W->w0.heap.size<=W.heap.size->R W->c.wp P Q a W)
  (hI:Below w0.heap.size w0 w:=by exact belowAny) (hR:R w:=by repeat (first|exact trivial|refine Bc.mk (by exact blkAny2) ?_)):c.wp P Q a w:=hr w hI hI.size hR
theorem wp_cutX {P:Program} {c:Code} {Q:Exit->Act->World->Prop} {a:Act} {w:World} (L:List Nat) (w0:World) (R:World->Prop) (hr:∀W,Rex L w0 W->w0.heap.size<=W.heap.size->R W->c.wp P Q a W)
  (hI:Rex L w0 w:=by exact rexAny) (hR:R w:=by repeat (first|exact trivial|refine Bc.mk (by exact blkAny2) ?_)):c.wp P Q a w:=hr w hI hI.size hR
theorem haveB {G:Prop} (w0 w:World) (R:World->Prop) (hr:Below w0.heap.size w0 w->w0.heap.size<=w.heap.size->R w->G)
  (hI:Below w0.heap.size w0 w:=by exact belowAny) (hR:R w:=by repeat (first|exact trivial|refine Bc.mk (by exact blkAny2) ?_)):G:=hr hI hI.size hR
section
variable {P:Program} {ops:Array Oper} {C:World->Prop} {X:List (Nat×Nat)} {a0:Act} {Fin:List (Option Tmp×Spec)->Prop} {i:Nat} {o:Oper} {rest:List Oper} {acc:List (Option Tmp×Spec)}
theorem dA {c:Value} (hr:ndWalk P ops C X a0 Fin (i+1) rest ((o.dst,Det c)::acc)) (hg:o.guard=none:=by exact rfl) (hal:isAlloc o=false:=by exact rfl)
  (h:∀(a:Act) (w:World),C w->(∀s∈o.looksAt ops,envOf a0 acc s (a.tmps.getD s undef) w)->(execOp a.eval o).run P w= .ok (.value c) w:=by
   intro a W' hC hE
   simp only[Bc,Bz,Rc] at hC
   first
    |(simp[Oper.looksAt,Op.operands,Call.operands,envOf,Det] at hE;simp[go_sem,Act.eval,iw,hE,hC];try rfl)
    |(clear hE;simp[go_sem,Act.eval,iw,hC];try rfl)):ndWalk P ops C X a0 Fin i (o::rest) acc:=nd_det c hg hal h hr
theorem gA {x want:Bool} {k:Nat} {d:Tmp} {c:Value} (hr:ndWalk P ops C X a0 Fin (i+1) rest ((o.dst,GDet (true&&(x==want)) c)::acc)) (hg:o.guard=some (k,want):=by exact rfl) (hd:wrOf ops k=some d:=by exact rfl) (hal:isAlloc o=false:=by exact rfl)
  (hx:∀v w,envOf a0 acc d v w->if true=true then v= .bool x else v=undef:=by
   intro v W' h
   simp[envOf,Det,GDet] at h
   simp
   exact h)
  (h:true=true->x=want->∀(a:Act) (w:World),C w->(∀s∈o.looksAt ops,envOf a0 acc s (a.tmps.getD s undef) w)->(execOp a.eval o).run P w= .ok (.value c) w:=by
   intro hp hx a W' hC hE
   simp only[Bc,Bz,Rc] at hC
   simp[Oper.looksAt,Op.operands,Call.operands,envOf,Det,GDet,hx] at hE
   simp[go_sem,Act.eval,iw,hE,hC]
   try rfl):ndWalk P ops C X a0 Fin i (o::rest) acc:=nd_detg true x want k d c hg hd hal hx h hr
theorem gB {p x want:Bool} {k:Nat} {d:Tmp} {c:Value} (hr:ndWalk P ops C X a0 Fin (i+1) rest ((o.dst,GDet (p&&(x==want)) c)::acc)) (hg:o.guard=some (k,want):=by exact rfl) (hd:wrOf ops k=some d:=by exact rfl) (hal:isAlloc o=false:=by exact rfl)
  (hx:∀v w,envOf a0 acc d v w->if p=true then v= .bool x else v=undef:=by
   intro v W' h
   exact h)
  (h:p=true->x=want->∀(a:Act) (w:World),C w->(∀s∈o.looksAt ops,envOf a0 acc s (a.tmps.getD s undef) w)->(execOp a.eval o).run P w= .ok (.value c) w:=by
   intro hp hx a W' hC hE
   simp only[Bc,Bz,Rc] at hC
   try simp at hp
   try simp at hx
   simp[Oper.looksAt,Op.operands,Call.operands,envOf,Det,GDet,hp,hx] at hE
   simp[go_sem,Act.eval,iw,hE,hC]
   try rfl):ndWalk P ops C X a0 Fin i (o::rest) acc:=nd_detg p x want k d c hg hd hal hx h hr
theorem pA {x y:Bool} {c t:Tmp} (hr:ndWalk P ops C X a0 Fin (i+1) rest ((o.dst,Det (.bool (x&&y)))::acc)) (ho:o.op= .pick (.tmp c) (.tmp t) (.const (.bool false)):=by exact rfl) (hg:o.guard=none:=by exact rfl)
  (hc:∀v w,envOf a0 acc c v w->v= .bool x:=by
   intro v W' h
   simp[envOf,Det] at h
   exact h)
  (ht:∀v w,envOf a0 acc t v w->x=true->v= .bool y:=by
   intro v W' h hx
   simp[envOf,GDet,hx] at h
   exact h):ndWalk P ops C X a0 Fin i (o::rest) acc:=nd_pick_and x y c t ho hg hc ht hr
theorem pO {x y:Bool} {c t:Tmp} (hr:ndWalk P ops C X a0 Fin (i+1) rest ((o.dst,Det (.bool (x||y)))::acc)) (ho:o.op= .pick (.tmp c) (.const (.bool true)) (.tmp t):=by exact rfl) (hg:o.guard=none:=by exact rfl)
  (hc:∀v w,envOf a0 acc c v w->v= .bool x:=by
   intro v W' h
   simp[envOf,Det] at h
   exact h)
  (ht:∀v w,envOf a0 acc t v w->x=false->v= .bool y:=by
   intro v W' h hx
   simp[envOf,GDet,hx] at h
   exact h):ndWalk P ops C X a0 Fin i (o::rest) acc:=nd_pick_or x y c t ho hg hc ht hr
theorem pgA {g want x y:Bool} {k:Nat} {d c t:Tmp} (hr:ndWalk P ops C X a0 Fin (i+1) rest ((o.dst,GDet (true&&(g==want)) (.bool (x&&y)))::acc)) (ho:o.op= .pick (.tmp c) (.tmp t) (.const (.bool false)):=by exact rfl) (hg:o.guard=some (k,want):=by exact rfl) (hd:wrOf ops k=some d:=by exact rfl)
  (hx:∀v w,envOf a0 acc d v w->if true=true then v= .bool g else v=undef:=by
   intro v W' h
   simp[envOf,Det,GDet] at h
   simp
   exact h)
  (hc:true=true->g=want->∀v w,envOf a0 acc c v w->v= .bool x:=by
   intro _ hx v W' h
   simp[envOf,Det,GDet,hx] at h
   exact h)
  (ht:true=true->g=want->∀v w,envOf a0 acc t v w->x=true->v= .bool y:=by
   intro _ hx v W' h hy
   simp[envOf,GDet,hx,hy] at h
   exact h):ndWalk P ops C X a0 Fin i (o::rest) acc:=nd_pickg_and true g want x y k d c t ho hg hd hx hc ht hr
theorem pgO {g want x y:Bool} {k:Nat} {d c t:Tmp} (hr:ndWalk P ops C X a0 Fin (i+1) rest ((o.dst,GDet (true&&(g==want)) (.bool (x||y)))::acc)) (ho:o.op= .pick (.tmp c) (.const (.bool true)) (.tmp t):=by exact rfl) (hg:o.guard=some (k,want):=by exact rfl) (hd:wrOf ops k=some d:=by exact rfl)
  (hx:∀v w,envOf a0 acc d v w->if true=true then v= .bool g else v=undef:=by
   intro v W' h
   simp[envOf,Det,GDet] at h
   simp
   exact h)
  (hc:true=true->g=want->∀v w,envOf a0 acc c v w->v= .bool x:=by
   intro _ hx v W' h
   simp[envOf,Det,GDet,hx] at h
   exact h)
  (ht:true=true->g=want->∀v w,envOf a0 acc t v w->x=false->v= .bool y:=by
   intro _ hx v W' h hy
   simp[envOf,GDet,hx,hy] at h
   exact h):ndWalk P ops C X a0 Fin i (o::rest) acc:=nd_pickg_or true g want x y k d c t ho hg hd hx hc ht hr
theorem cA {f:FuncId} {args:Array Value} {c:Value} (hc:∀w,C w->Calls P f args w fun e w'=>e= .returned c/\Below w.heap.size w w') (hr:ndWalk P ops C X a0 Fin (i+1) rest ((o.dst,Det c)::acc)) (hg:o.guard=none:=by exact rfl) (hal:isAlloc o=false:=by exact rfl)
  (h:∀(a:Act) (w:World),C w->(∀s∈o.looksAt ops,envOf a0 acc s (a.tmps.getD s undef) w)->(execOp a.eval o).run P w= .ok (.enter f args) w:=by
   intro a W' hC hE
   simp only[Bc,Bz,Rc] at hC
   first
    |(simp[Oper.looksAt,Op.operands,Call.operands,envOf,Det] at hE;simp[go_sem,Act.eval,iw,hE,hC];try rfl)
    |(clear hE;simp[go_sem,Act.eval,iw,hC];try rfl)):ndWalk P ops C X a0 Fin i (o::rest) acc:=nd_callv2 hg hal hc h hr
theorem dE {c:Value} {E:World->Prop} (e:∀w,C w->E w) (hr:ndWalk P ops C X a0 Fin (i+1) rest ((o.dst,Det c)::acc)) (hg:o.guard=none:=by exact rfl) (hal:isAlloc o=false:=by exact rfl)
  (h:∀(a:Act) (w:World),C w->E w->(∀s∈o.looksAt ops,envOf a0 acc s (a.tmps.getD s undef) w)->(execOp a.eval o).run P w= .ok (.value c) w:=by
   intro a W' hC hX hE
   simp only[Bc,Bz,Rc] at hC
   try simp only[Nat.zero_mul,Nat.one_mul,Nat.add_zero,Nat.zero_add] at hX
   first
    |(simp[Oper.looksAt,Op.operands,Call.operands,envOf,Det] at hE;simp[go_sem,Act.eval,iw,hE,hC,hX];try rfl)
    |(clear hE;simp[go_sem,Act.eval,iw,hC,hX];try rfl)):ndWalk P ops C X a0 Fin i (o::rest) acc:=nd_det c hg hal (fun a w hC hE=>h a w hC (e w hC) hE) hr
theorem gE {x want:Bool} {k:Nat} {d:Tmp} {c:Value} {E:World->Prop} (e:∀w,C w->E w) (hr:ndWalk P ops C X a0 Fin (i+1) rest ((o.dst,GDet (true&&(x==want)) c)::acc)) (hg:o.guard=some (k,want):=by exact rfl) (hd:wrOf ops k=some d:=by exact rfl) (hal:isAlloc o=false:=by exact rfl)
  (hx:∀v w,envOf a0 acc d v w->if true=true then v= .bool x else v=undef:=by
   intro v W' h
   simp[envOf,Det,GDet] at h
   simp
   exact h)
  (h:true=true->x=want->∀(a:Act) (w:World),C w->E w->(∀s∈o.looksAt ops,envOf a0 acc s (a.tmps.getD s undef) w)->(execOp a.eval o).run P w= .ok (.value c) w:=by
   intro hp hx a W' hC hX hE
   simp only[Bc,Bz,Rc] at hC
   try simp only[Nat.zero_mul,Nat.one_mul,Nat.add_zero,Nat.zero_add] at hX
   simp[Oper.looksAt,Op.operands,Call.operands,envOf,Det,GDet,hx] at hE
   simp[go_sem,Act.eval,iw,hE,hC,hX]
   try rfl):ndWalk P ops C X a0 Fin i (o::rest) acc:=nd_detg true x want k d c hg hd hal hx (fun hp hx a w hC hE=>h hp hx a w hC (e w hC) hE) hr
theorem gF {p x want:Bool} {k:Nat} {d:Tmp} {c:Value} {E:World->Prop} (e:∀w,C w->E w) (hr:ndWalk P ops C X a0 Fin (i+1) rest ((o.dst,GDet (p&&(x==want)) c)::acc)) (hg:o.guard=some (k,want):=by exact rfl) (hd:wrOf ops k=some d:=by exact rfl) (hal:isAlloc o=false:=by exact rfl)
  (hx:∀v w,envOf a0 acc d v w->if p=true then v= .bool x else v=undef:=by
   intro v W' h
   exact h)
  (h:p=true->x=want->∀(a:Act) (w:World),C w->E w->(∀s∈o.looksAt ops,envOf a0 acc s (a.tmps.getD s undef) w)->(execOp a.eval o).run P w= .ok (.value c) w:=by
   intro hp hx a W' hC hX hE
   simp only[Bc,Bz,Rc] at hC
   try simp only[Nat.zero_mul,Nat.one_mul,Nat.add_zero,Nat.zero_add] at hX
   try simp at hp
   try simp at hx
   simp[Oper.looksAt,Op.operands,Call.operands,envOf,Det,GDet,hp,hx] at hE
   simp[go_sem,Act.eval,iw,hE,hC,hX]
   try rfl):ndWalk P ops C X a0 Fin i (o::rest) acc:=nd_detg p x want k d c hg hd hal hx (fun hp hx a w hC hE=>h hp hx a w hC (e w hC) hE) hr
theorem cE {f:FuncId} {args:Array Value} {c:Value} {E:World->Prop} (e:∀w,C w->E w) (hc:∀w,C w->Calls P f args w fun e w'=>e= .returned c/\Below w.heap.size w w') (hr:ndWalk P ops C X a0 Fin (i+1) rest ((o.dst,Det c)::acc)) (hg:o.guard=none:=by exact rfl) (hal:isAlloc o=false:=by exact rfl)
  (h:∀(a:Act) (w:World),C w->E w->(∀s∈o.looksAt ops,envOf a0 acc s (a.tmps.getD s undef) w)->(execOp a.eval o).run P w= .ok (.enter f args) w:=by
   intro a W' hC hX hE
   simp only[Bc,Bz,Rc] at hC
   try simp only[Nat.zero_mul,Nat.one_mul,Nat.add_zero,Nat.zero_add] at hX
   first
    |(simp[Oper.looksAt,Op.operands,Call.operands,envOf,Det] at hE;simp[go_sem,Act.eval,iw,hE,hC,hX];try rfl)
    |(clear hE;simp[go_sem,Act.eval,iw,hC,hX];try rfl)):ndWalk P ops C X a0 Fin i (o::rest) acc:=nd_callv2 hg hal hc (fun a w hC hE=>h a w hC (e w hC) hE) hr
theorem aI {a b:Prop} (x:a) (y:b):a/\b:=⟨x,y⟩
theorem cG {f:FuncId} {args:Array Value} {c:Value} {x want:Bool} {k:Nat} {d:Tmp} (hc:true=true->x=want->∀w,C w->Calls P f args w fun e w'=>e= .returned c/\Below w.heap.size w w')
  (hr:ndWalk P ops C X a0 Fin (i+1) rest ((o.dst,GDet (true&&(x==want)) c)::acc)) (hg:o.guard=some (k,want):=by exact rfl) (hd:wrOf ops k=some d:=by exact rfl) (hal:isAlloc o=false:=by exact rfl)
  (hx:∀v w,envOf a0 acc d v w->if true=true then v= .bool x else v=undef:=by
   intro v W' h
   simp[envOf,Det,GDet] at h
   simp
   exact h)
  (h:true=true->x=want->∀(a:Act) (w:World),C w->(∀s∈o.looksAt ops,envOf a0 acc s (a.tmps.getD s undef) w)->(execOp a.eval o).run P w= .ok (.enter f args) w:=by
   intro hp hx a W' hC hE
   simp only[Bc,Bz,Rc] at hC
   first
    |(simp[Oper.looksAt,Op.operands,Call.operands,envOf,Det,GDet,hx] at hE;simp[go_sem,Act.eval,iw,hE,hC];try rfl)
    |(clear hE;simp[go_sem,Act.eval,iw,hC];try rfl)):ndWalk P ops C X a0 Fin i (o::rest) acc:=nd_callvg2 true x want k d hg hd hal hx hc h hr
end
section
variable {P:Program} {Q:Exit->Act->World->Prop} {a0:Act} {id:Nat} {l:List Oper} {w0 W:World} {R:World->Prop}
theorem wp_regD (n m:Nat) (hW:Below w0.heap.size w0 W) (hR:R W)
  (h:ndWalk P l.toArray (fun W'=>Rex [] W W'/\R W') [] a0 (fun acc=>∀w,Below w0.heap.size w0 w->w0.heap.size<=w.heap.size->R w->ndFinR w a0 acc fun a=>wpList P l.toArray Q (l.drop n) a w) 0 (l.take n) [])
  (hf:P.follows .mixedOrders=true:=by exact mixed) (hB:okB l.toArray n m=true:=by kernel_rfl) (hm:m=a0.tmps.size:=by exact rfl)
  (hcl:Cl R:=by repeat (first|exact Cl.z|refine Cl.b ?_|refine Cl.r (fun w w' h hr=>h.rex hr (by simp<;>omega)) ?_))
  (hQ:∀c a d v w,Q (.panic c) (Act.put a d v) w->Q (.panic c) a w:=by exact fun c a d v w h=>by cases d<;>exact h):(Code.region id l.toArray true).wp P Q a0 W:=
 wp_region_nd n m [] (fun W'=>Rex [] W W'/\R W') hf hB hm ⟨(Rex.refl _ _).drew,hcl _ _ hR (Rex.refl _ _).drew⟩ (fun _ _ h hr=>⟨h.1.trans hr,hcl _ _ h.2 hr⟩) hQ
  (ndWalk_mono (fun acc hacc w hc=>hacc w (hW.trans (hc.1.of_priv hW.size)) (hW.trans (hc.1.of_priv hW.size)).size hc.2) _ _ _ h)
theorem wp_regQ (n m:Nat) (hW:Below w0.heap.size w0 W) (hR:R W)
  (h:ndWalk P l.toArray (fun W'=>Rex [] W W'/\R W') [] a0 (fun acc=>∀w,Below w0.heap.size w0 w->w0.heap.size<=w.heap.size->R w->ndFinR w a0 acc fun a=>wpList P l.toArray Q (l.drop n) a w) 0 (l.take n) [])
  (hf:P.follows .mixedOrders=true:=by exact mixed) (hB:okB l.toArray n m=true:=by kernel_rfl) (hm:m=a0.tmps.size:=by exact rfl)
  (hcl:Cl R:=by repeat (first|exact Cl.z|refine Cl.b ?_|refine Cl.r (fun w w' h hr=>h.rex hr (by simp<;>omega)) ?_))
  (hn:l.drop n= []:=by exact rfl):(Code.region id l.toArray true).wp P Q a0 W:=
 wp_region_ndQ n m [] (fun W'=>Rex [] W W'/\R W') hf hB hm ⟨(Rex.refl _ _).drew,hcl _ _ hR (Rex.refl _ _).drew⟩ (fun _ _ h hr=>⟨h.1.trans hr,hcl _ _ h.2 hr⟩) hn
  (ndWalk_mono (fun acc hacc w hc=>hacc w (hW.trans (hc.1.of_priv hW.size)) (hW.trans (hc.1.of_priv hW.size)).size hc.2) _ _ _ h)
theorem wp_regS (n m:Nat) (hW:Below w0.heap.size w0 W) (hR:R W)
  (h:ndWalk P l.toArray (fun W'=>Rex [] W W'/\R W') [] a0 (fun acc=>∀w,Below w0.heap.size w0 w->w0.heap.size<=w.heap.size->R w->ndFinR w a0 acc fun a=>wpList P l.toArray Q (l.drop n) a w) 0 (l.take n) [])
  (hB:InB m l=true:=by kernel_rfl) (hm:m=a0.tmps.size:=by exact rfl)
  (hcl:Cl R:=by repeat (first|exact Cl.z|refine Cl.b ?_|refine Cl.r (fun w w' h hr=>h.rex hr (by simp<;>omega)) ?_)):(Code.region id l.toArray false).wp P Q a0 W:=
 wp_region_sq n m [] (fun W'=>Rex [] W W'/\R W') hB hm ⟨Rex.refl _ _,hR⟩ (fun _ _ h hr=>⟨h.1.trans hr,hcl _ _ h.2 hr⟩)
  (ndWalk_mono (fun acc hacc w hc=>hacc w (hW.trans (hc.1.of_priv hW.size)) (hW.trans (hc.1.of_priv hW.size)).size hc.2) _ _ _ h)
end
theorem ndR :(∀(w:World) (a0:Act) (K:Act->Prop),ndFinR w a0 [] K=K a0)/\(∀(w:World) (a0:Act) (K:Act->Prop) (d:Option Tmp) (Φ:Spec) (r:List (Option Tmp×Spec)),ndFinR w a0 ((d,Φ)::r) K=ndFinR w a0 r fun a=>∀v,Φ v w->K (a.put d v))/\
  (∀(c:Value) (w:World) (K:Value->Prop),(∀v,Det c v w->K v)↔K c):=⟨fun _ _ _=>rfl,fun _ _ _ _ _ _=>rfl,fun _ _ _=>⟨fun h=>h _ rfl,fun h _ e=>e▸h⟩⟩
theorem ndS :(∀(a:Act) (d:Tmp) (v:Value),Act.put a (some d) v= {a with tmps:=a.tmps.setIfInBounds d v})/\(∀(a:Act) (v:Value),Act.put a none v=a)/\(∀(l:List Value) (i:Nat) (a:Value),l.toArray.setIfInBounds i a=(l.set i a).toArray)/\
  (∀(a b:Value) (l:List Value),(a::l).set 0 b=b::l)/\(∀(a b:Value) (l:List Value) (i:Nat),(a::l).set (i+1) b=a::l.set i b)/\(∀(a:Oper) (l:List Oper) (i:Nat),(a::l).drop (i+1)=l.drop i)/\(∀l:List Oper,l.drop 0=l):=
 ⟨fun _ _ _=>rfl,fun _ _=>rfl,fun _ _ _=>List.setIfInBounds_toArray ..,fun _ _ _=>rfl,fun _ _ _ _=>rfl,fun _ _ _=>rfl,fun _=>rfl⟩
def lineVal (A R n d t:Int):Int:=(n*t+R)/d+A
def lineRest (R n d t:Int):Int:=(n*t+R)%d
structure LineOk (A R n d:Int):Prop where
 A0: -2305844108725321728<=A
 A1:A<=2305844108725321728
 n0: -4611688217450643456<=n
 n1:n<=4611688217450643456
 d0:1<=d
 d1:d<=281474976710656
 g:gcdI n d=1
 R0:0<=R
 R1:R<d
theorem isLine_ok {A R n d:Int}:isLine A R n d=true↔LineOk A R n d:=by
 unfold isLine isBack isSlope
 simp
 constructor
 ·rintro⟨⟨⟨⟨⟨_,_⟩,⟨⟨_,_⟩,_⟩,_⟩,_⟩,_⟩,_⟩;constructor<;>assumption
 ·rintro⟨_,_,_,_,_,_,_,_,_⟩;refine⟨⟨⟨⟨⟨?_,?_⟩,⟨⟨?_,?_⟩,?_⟩,?_⟩,?_⟩,?_⟩,?_⟩<;>assumption
theorem div_abs (s:Int) {d:Int} (hd:1<=d):(s<=s/d/\s/d<=0)∨(0<=s/d/\s/d<=s):=by
 rcases Int.lt_or_le s 0 with k|k
 ·have h1:s/d<0:=Int.ediv_neg_of_neg_of_pos k (by omega)
  have h2:s<=s/d:=Int.le_ediv_of_mul_le (by omega) (by have:=Int.mul_le_mul_of_nonneg_left (a:=1) (b:=d) (c:= -s) hd (by omega);rw[Int.neg_mul,Int.neg_mul] at this;omega)
  exact .inl ⟨h2,by omega⟩
 ·exact .inr ⟨Int.ediv_nonneg k (by omega),Int.ediv_le_self _ k⟩
theorem div_W128 {s d:Int} (h:W128 s) (hd:1<=d):W128 (s/d):=by
 obtain⟨_,_⟩:=h;have:=div_abs s hd;exact⟨by omega,by omega⟩
theorem c_over (A R n d t:Int) (w:World) (h:LineOk A R n d) (ht:0<=t) (ht':t<=281474976710656):
  Cb 235 #[.agg #[.int .i64 A,.int .i64 R,.int .i64 n,.int .i64 d],.int .i64 t] w (.tuple #[wideV (lineVal A R n d t),.int .i64 (lineRest R n d t)]):=by
 have hA0:=h.A0;have hA1:=h.A1;have hn0:=h.n0;have hn1:=h.n1;have hd0:=h.d0;have hd1:=h.d1;have hR0:=h.R0;have hR1:=h.R1
 have m0:(n*t).natAbs<=4611688217450643456*281474976710656:=by
  rw[Int.natAbs_mul];exact Nat.mul_le_mul (by omega) (by omega)
 have p1: -1298074833603726549822761531867136<=n*t/\n*t<=1298074833603726549822761531867136:=by omega
 have w1:W128 (n*t+R):=⟨by omega,by omega⟩
 have q1:=div_W128 w1 hd0
 have q2: -1298074833603726549822761531867136*1-1<=(n*t+R)/d/\(n*t+R)/d<=1298074833603726549822761531867136*2:=by
  have:=div_abs (n*t+R) hd0;omega
 have w2:W128 ((n*t+R)/d+A):=⟨by omega,by omega⟩
 have z1:I64 n:=⟨by omega,by omega⟩
 have z2:I64 t:=⟨by omega,by omega⟩
 have z3:I64 R:=⟨by omega,by omega⟩
 have z4:I64 A:=⟨by omega,by omega⟩
 have c3:=fun w=>c_Add (n*t) R w (W128_mul z1 z2) z3.w
 have c6:=fun w=>c_Add ((n*t+R)/d) A w q1 z4.w
 rw[inW_in w1,wrapW_in w1] at c3
 rw[inW_in w2,wrapW_in w2] at c6
 exact over_w A R n d t _ _ _ _ _ _ _ _ _ _ _ _ _ _ _ w (fun w=>c_Mul n t w z1 z2) (fun w=>c_Of R w z3) c3 (fun w=>c_Div (n*t+R) d w w1 hd0 (by omega)) (fun w=>c_Of A w z4) c6
theorem value_ok (A R n d t oh ol rest v:Int) (w:World)
  (c1:∀w,Cb 235 #[.agg #[.int .i64 A,.int .i64 R,.int .i64 n,.int .i64 d],.int .i64 t] w (.tuple #[.agg #[.int .i64 oh,.int .u64 ol],.int .i64 rest]))
  (c2:∀w,Cb 236 #[.agg #[.int .i64 oh,.int .u64 ol]] w (.tuple #[.int .i64 v,.int .i64 0]))
  (c3:∀w,Cb 232 #[.int .i64 v] w (.bool true)):
  Cb 189 #[.agg #[.int .i64 A,.int .i64 R,.int .i64 n,.int .i64 d],.int .i64 t] w (.tuple #[.int .i64 v,.int .i64 0]):=by
 have H_c1:=Hd c1
 clear c1
 have H_c2:=Hd c2
 clear c2
 have H_c3:=Hd c3
 clear c3
 go_enter Tryz.func189,Tryz.ntmps189
 go_upto_region 1 with(fail)
 refine wp_cutB w (Bc w.heap.size #[.int .i64 A,.int .i64 R,.int .i64 n,.int .i64 d] 229<|Bz) ?_
 rintro W1 hW z2 ⟨⟨b1,yb1,k1,f1⟩,-⟩
 go_wp2_with fail
 refine(H_c1.out _).mono ?_
 rintro e w3 ⟨rfl,hb3⟩
 have z4:=hb3.size
 try simp at z4
 clear k1 f1
 refine haveB w w3 (Bc w.heap.size #[.int .i64 A,.int .i64 R,.int .i64 n,.int .i64 d] 229<|Bz) ?_
 clear b1 hW
 rintro hW z5 ⟨⟨b1,yb1,k1,f1⟩,-⟩
 clear hb3
 go_wp2_with fail
 refine(H_c2.out _).mono ?_
 rintro e w6 ⟨rfl,hb6⟩
 have z7:=hb6.size
 try simp at z7
 clear k1 f1
 refine haveB w w6 (Bc w.heap.size #[.int .i64 A,.int .i64 R,.int .i64 n,.int .i64 d] 229<|Bz) ?_
 clear b1 hW
 rintro hW z8 ⟨⟨b1,yb1,k1,f1⟩,-⟩
 clear hb6
 go_upto_region 3 with(fail)
 clear k1 f1
 refine wp_cutB w (Bc w.heap.size #[.int .i64 A,.int .i64 R,.int .i64 n,.int .i64 d] 229<|Bz) ?_
 clear b1 hW
 rintro W9 hW z10 hL
 refine wp_regS 7 29 hW hL ?_
 iterate 3 refine dA ?_
 refine gA ?_
 refine cG (fun hp hx W' hC=>H_c3.out W') ?_
 refine gA ?_
 refine pO ?_
 clear hW hL
 rintro W11 hW z12 hL
 simp only[ndR]
 intros
 repeat (rename GDet _ _ _ _=>hgd;clear hgd)
 simp only[ndS]
 refine wpList_nil ?_
 obtain⟨⟨b1,yb1,k1,f1⟩,-⟩:=hL
 go_wp2
 refine bodyPost_ret (by simp[results,Tryz.results189,go_sem,k1,f1,yb1]) rfl ⟨rfl,by exact belowAny⟩
theorem value_over (A R n d t oh ol rest v:Int) (w:World)
  (c1:∀w,Cb 235 #[.agg #[.int .i64 A,.int .i64 R,.int .i64 n,.int .i64 d],.int .i64 t] w (.tuple #[.agg #[.int .i64 oh,.int .u64 ol],.int .i64 rest]))
  (c2:∀w,Cb 236 #[.agg #[.int .i64 oh,.int .u64 ol]] w (.tuple #[.int .i64 v,.int .i64 0]))
  (c3:∀w,Cb 232 #[.int .i64 v] w (.bool false)):
  Cb 189 #[.agg #[.int .i64 A,.int .i64 R,.int .i64 n,.int .i64 d],.int .i64 t] w (.tuple #[.int .i64 0,.int .i64 5]):=by
 have H_c1:=Hd c1
 clear c1
 have H_c2:=Hd c2
 clear c2
 have H_c3:=Hd c3
 clear c3
 go_enter Tryz.func189,Tryz.ntmps189
 go_upto_region 1 with(fail)
 refine wp_cutB w (Bc w.heap.size #[.int .i64 A,.int .i64 R,.int .i64 n,.int .i64 d] 229<|Bz) ?_
 rintro W1 hW z2 ⟨⟨b1,yb1,k1,f1⟩,-⟩
 go_wp2_with fail
 refine(H_c1.out _).mono ?_
 rintro e w3 ⟨rfl,hb3⟩
 have z4:=hb3.size
 try simp at z4
 clear k1 f1
 refine haveB w w3 (Bc w.heap.size #[.int .i64 A,.int .i64 R,.int .i64 n,.int .i64 d] 229<|Bz) ?_
 clear b1 hW
 rintro hW z5 ⟨⟨b1,yb1,k1,f1⟩,-⟩
 clear hb3
 go_wp2_with fail
 refine(H_c2.out _).mono ?_
 rintro e w6 ⟨rfl,hb6⟩
 have z7:=hb6.size
 try simp at z7
 clear k1 f1
 refine haveB w w6 (Bc w.heap.size #[.int .i64 A,.int .i64 R,.int .i64 n,.int .i64 d] 229<|Bz) ?_
 clear b1 hW
 rintro hW z8 ⟨⟨b1,yb1,k1,f1⟩,-⟩
 clear hb6
 go_upto_region 3 with(fail)
 clear k1 f1
 refine wp_cutB w (Bc w.heap.size #[.int .i64 A,.int .i64 R,.int .i64 n,.int .i64 d] 229<|Bz) ?_
 clear b1 hW
 rintro W9 hW z10 hL
 refine wp_regS 7 29 hW hL ?_
 iterate 3 refine dA ?_
 refine gA ?_
 refine cG (fun hp hx W' hC=>H_c3.out W') ?_
 refine gA ?_
 refine pO ?_
 clear hW hL
 rintro W11 hW z12 hL
 simp only[ndR]
 intros
 repeat (rename GDet _ _ _ _=>hgd;clear hgd)
 simp only[ndS]
 refine wpList_nil ?_
 obtain⟨⟨b1,yb1,k1,f1⟩,-⟩:=hL
 go_wp2
 refine bodyPost_ret (by simp[results,Tryz.results189,go_sem,k1,f1,yb1]) rfl ⟨rfl,by exact belowAny⟩
theorem value_wide (A R n d t oh ol rest v:Int) (w:World)
  (c1:∀w,Cb 235 #[.agg #[.int .i64 A,.int .i64 R,.int .i64 n,.int .i64 d],.int .i64 t] w (.tuple #[.agg #[.int .i64 oh,.int .u64 ol],.int .i64 rest]))
  (c2:∀w,Cb 236 #[.agg #[.int .i64 oh,.int .u64 ol]] w (.tuple #[.int .i64 v,.int .i64 5]))
  (c3:∀w,Cb 232 #[.int .i64 v] w (.bool true)):
  Cb 189 #[.agg #[.int .i64 A,.int .i64 R,.int .i64 n,.int .i64 d],.int .i64 t] w (.tuple #[.int .i64 0,.int .i64 5]):=by
 have H_c1:=Hd c1
 clear c1
 have H_c2:=Hd c2
 clear c2
 have H_c3:=Hd c3
 clear c3
 go_enter Tryz.func189,Tryz.ntmps189
 go_upto_region 1 with(fail)
 refine wp_cutB w (Bc w.heap.size #[.int .i64 A,.int .i64 R,.int .i64 n,.int .i64 d] 229<|Bz) ?_
 rintro W1 hW z2 ⟨⟨b1,yb1,k1,f1⟩,-⟩
 go_wp2_with fail
 refine(H_c1.out _).mono ?_
 rintro e w3 ⟨rfl,hb3⟩
 have z4:=hb3.size
 try simp at z4
 clear k1 f1
 refine haveB w w3 (Bc w.heap.size #[.int .i64 A,.int .i64 R,.int .i64 n,.int .i64 d] 229<|Bz) ?_
 clear b1 hW
 rintro hW z5 ⟨⟨b1,yb1,k1,f1⟩,-⟩
 clear hb3
 go_wp2_with fail
 refine(H_c2.out _).mono ?_
 rintro e w6 ⟨rfl,hb6⟩
 have z7:=hb6.size
 try simp at z7
 clear k1 f1
 refine haveB w w6 (Bc w.heap.size #[.int .i64 A,.int .i64 R,.int .i64 n,.int .i64 d] 229<|Bz) ?_
 clear b1 hW
 rintro hW z8 ⟨⟨b1,yb1,k1,f1⟩,-⟩
 clear hb6
 go_wp2
 refine bodyPost_ret (by simp[results,Tryz.results189,go_sem,k1,f1,yb1]) rfl ⟨rfl,by exact belowAny⟩
theorem back_in {o:Int} (h:isBack o=true):I64 o:=by unfold isBack at h;simp at h;unfold I64;omega
theorem lineVal_W128 {A R n d t:Int} (h:LineOk A R n d) (ht:0<=t) (ht':t<=281474976710656):W128 (lineVal A R n d t):=by
 have hA0:=h.A0;have hA1:=h.A1;have hn0:=h.n0;have hn1:=h.n1;have hd0:=h.d0;have hd1:=h.d1;have hR0:=h.R0;have hR1:=h.R1
 have m0:(n*t).natAbs<=4611688217450643456*281474976710656:=by
  rw[Int.natAbs_mul];exact Nat.mul_le_mul (by omega) (by omega)
 have:=div_abs (n*t+R) hd0
 unfold lineVal
 exact⟨by omega,by omega⟩
theorem c_value (A R n d t:Int) (w:World) (h:LineOk A R n d) (ht:0<=t) (ht':t<=281474976710656):
  Cb 189 #[.agg #[.int .i64 A,.int .i64 R,.int .i64 n,.int .i64 d],.int .i64 t] w (.tuple #[.int .i64 (wv (isBack (lineVal A R n d t)) (lineVal A R n d t)),.int .i64 (we (isBack (lineVal A R n d t)))]):=by
 have c1:=fun w=>c_over A R n d t w h ht ht'
 have c2:=fun w=>c_Int (lineVal A R n d t) w (lineVal_W128 h ht ht')
 have c3:=fun w=>c_back (lineVal A R n d t) w
 cases hb:isBack (lineVal A R n d t) with
 |true=>
  rw[inI_in (back_in hb)] at c2
  rw[hb] at c3
  exact value_ok A R n d t _ _ _ _ w c1 c2 c3
 |false=>
  cases hi:inI (lineVal A R n d t) with
  |true=>
   rw[hi] at c2
   rw[hb] at c3
   exact value_over A R n d t _ _ _ _ w c1 c2 c3
  |false=>
   rw[hi] at c2
   exact value_wide A R n d t _ _ _ _ w c1 c2 (fun w=>c_back 0 w)
def isTime (t:Int):Bool:=decide (0<=t)&&decide (t<=281474976710656)
theorem isTime_iff {t:Int}:isTime t=true↔0<=t/\t<=281474976710656:=by unfold isTime;simp
theorem c_timeIs (t:Int) (w:World):Cb 188 #[.int .i64 t] w (.bool (isTime t)):=by
 unfold isTime
 go_enter Tryz.func188,Tryz.ntmps188
 go_upto_region 1 with(fail)
 refine wp_cutB w (Bz) ?_
 rintro W1 hW z2 hL
 refine wp_regS 7 9 hW hL ?_
 iterate 3 refine dA ?_
 iterate 2 refine gA ?_
 refine pA ?_
 refine dA ?_
 clear hW hL
 rintro W3 hW z4 hL
 simp only[ndR]
 intros
 repeat (rename GDet _ _ _ _=>hgd;clear hgd)
 simp only[ndS]
 refine wpList_nil ?_
 obtain⟨-⟩:=hL
 go_wp2
 refine bodyPost_ret (by simp[results,Tryz.results188,go_sem]) rfl ⟨rfl,by exact belowAny⟩
def eLine (b:Bool):Int:=if b=true then 0 else 150
theorem c_ends1 (A R n d t v e:Int) (g:Nat) (w:World) (hg:Blk w g #[.func (.func 189) #[.agg #[.int .i64 A,.int .i64 R,.int .i64 n,.int .i64 d]] #[]] 230)
  (c1:∀w,Cb 189 #[.agg #[.int .i64 A,.int .i64 R,.int .i64 n,.int .i64 d],.int .i64 t] w (.tuple #[.int .i64 v,.int .i64 e])):
  Cb 279 #[.int .i64 t,.pointer (some ⟨g,0,none⟩)] w (.tuple #[.int .i64 v,.int .i64 e]):=by
 have H_c1:=Hd c1
 clear c1
 have b1:=hg
 go_enter Tryz.func279,Tryz.ntmps279
 go_upto_region 1 with(fail)
 refine wp_cutB w (Bc g #[.func (.func 189) #[.agg #[.int .i64 A,.int .i64 R,.int .i64 n,.int .i64 d]] #[]] 230<|Bz) ?_
 clear b1
 rintro W1 hW z2 ⟨⟨b1,yb1,k1,f1⟩,-⟩
 go_wp2_with fail
 refine(H_c1.out _).mono ?_
 rintro e w3 ⟨rfl,hb3⟩
 have z4:=hb3.size
 try simp at z4
 clear k1 f1
 refine haveB w w3 (Bc g #[.func (.func 189) #[.agg #[.int .i64 A,.int .i64 R,.int .i64 n,.int .i64 d]] #[]] 230<|Bz) ?_
 clear b1 hW
 rintro hW z5 ⟨⟨b1,yb1,k1,f1⟩,-⟩
 clear hb3
 go_wp2
 refine bodyPost_ret (by simp[results,Tryz.results279,go_sem,k1,f1,yb1]) rfl ⟨rfl,by exact belowAny⟩
theorem both_ok (A R n d a b va vb:Int) (g:Nat) (w:World) (hg:Blk w g #[.func (.func 189) #[.agg #[.int .i64 A,.int .i64 R,.int .i64 n,.int .i64 d]] #[]] 230)
  (c1:∀w,Blk w g #[.func (.func 189) #[.agg #[.int .i64 A,.int .i64 R,.int .i64 n,.int .i64 d]] #[]] 230->Cb 279 #[.int .i64 a,.pointer (some ⟨g,0,none⟩)] w (.tuple #[.int .i64 va,.int .i64 0]))
  (c2:∀w,Blk w g #[.func (.func 189) #[.agg #[.int .i64 A,.int .i64 R,.int .i64 n,.int .i64 d]] #[]] 230->Cb 279 #[.int .i64 b,.pointer (some ⟨g,0,none⟩)] w (.tuple #[.int .i64 vb,.int .i64 0])):
  Cb 278 #[.agg #[.int .i64 a,.int .i64 b],.func (.func 279) #[] #[.pointer (some ⟨g,0,none⟩)]] w (.tuple #[.agg #[.int .i64 va,.int .i64 vb],.int .i64 0]):=by
 have y0:=hg.lt
 have hix0:∀(x y:Int) (w:World),(Instr.index 340 (.agg #[.int .i64 x,.int .i64 y]) (.int .i64 0)).run Tryz.prog w= .ok (.int .i64 x) w:=by intros;kernel_rfl
 have hix1:∀(x y:Int) (w:World),(Instr.index 340 (.agg #[.int .i64 x,.int .i64 y]) (.int .i64 1)).run Tryz.prog w= .ok (.int .i64 y) w:=by intros;kernel_rfl
 have H_c1:=Hd c1
 clear c1
 have H_c2:=Hd c2
 clear c2
 go_enter Tryz.func278,Tryz.ntmps278
 go_wp2
 go_step3
 go_upto_region 2 with(fail)
 refine wp_cutB w (Bc w.heap.size #[.int .i64 a,.int .i64 b] 340<|Bc (w.heap.size+1) #[.int .i64 0,.int .i64 0] 340<|Bc (w.heap.size+2) #[.int .i64 0,.int .i64 0] 340<|Bc g #[.func (.func 189) #[.agg #[.int .i64 A,.int .i64 R,.int .i64 n,.int .i64 d]] #[]] 230<|Bz) ?_
 rintro W1 hW z2 ⟨⟨b1,yb1,k1,f1⟩,⟨b2,yb2,k2,f2⟩,⟨b3,yb3,k3,f3⟩,⟨b4,yb4,k4,f4⟩,-⟩
 go_wp2
 go_step3
 go_wp2
 refine wp_loop_rounds 3 ?_
 rw[rounds_succ]
 go_wp2_with fail
 refine(H_c1.out _ (blkAny)).mono ?_
 rintro e w3 ⟨rfl,hb3⟩
 have z4:=hb3.size
 try simp at z4
 clear k1 f1 k2 f2 k3 f3 k4 f4
 refine haveB w w3 (Bc w.heap.size #[.int .i64 a,.int .i64 b] 340<|Bc (w.heap.size+1) #[.int .i64 0,.int .i64 0] 340<|Bc (w.heap.size+2) #[.int .i64 0,.int .i64 0] 340<|Bc g #[.func (.func 189) #[.agg #[.int .i64 A,.int .i64 R,.int .i64 n,.int .i64 d]] #[]] 230<|Bz) ?_
 clear b1 b2 b3 b4 hW
 rintro hW z5 ⟨⟨b1,yb1,k1,f1⟩,⟨b2,yb2,k2,f2⟩,⟨b3,yb3,k3,f3⟩,⟨b4,yb4,k4,f4⟩,-⟩
 clear hb3
 go_upto_region 6 with(fail)
 clear k1 f1 k2 f2 k3 f3 k4 f4
 refine wp_cutB w (Bc w.heap.size #[.int .i64 a,.int .i64 b] 340<|Bc (w.heap.size+1) #[.int .i64 0,.int .i64 0] 340<|Bc (w.heap.size+2) #[.int .i64 0,.int .i64 0] 340<|Bc g #[.func (.func 189) #[.agg #[.int .i64 A,.int .i64 R,.int .i64 n,.int .i64 d]] #[]] 230<|Bz) ?_
 clear b1 b2 b3 b4 hW
 rintro W6 hW z7 ⟨⟨b1,yb1,k1,f1⟩,⟨b2,yb2,k2,f2⟩,⟨b3,yb3,k3,f3⟩,⟨b4,yb4,k4,f4⟩,-⟩
 go_wp2
 rw[rounds_succ]
 go_wp2_with fail
 refine(H_c2.out _ (blkAny)).mono ?_
 rintro e w8 ⟨rfl,hb8⟩
 have z9:=hb8.size
 try simp at z9
 clear k1 f1 k2 f2 k3 f3 k4 f4
 refine haveB w w8 (Bc w.heap.size #[.int .i64 a,.int .i64 b] 340<|Bc (w.heap.size+1) #[.int .i64 0,.int .i64 0] 340<|Bc (w.heap.size+2) #[.int .i64 va,.int .i64 0] 340<|Bc g #[.func (.func 189) #[.agg #[.int .i64 A,.int .i64 R,.int .i64 n,.int .i64 d]] #[]] 230<|Bz) ?_
 clear b1 b2 b3 b4 hW
 rintro hW z10 ⟨⟨b1,yb1,k1,f1⟩,⟨b2,yb2,k2,f2⟩,⟨b3,yb3,k3,f3⟩,⟨b4,yb4,k4,f4⟩,-⟩
 clear hb8
 go_wp2
 rw[rounds_succ]
 go_wp2
 rw[Exit.noGoto_ret]
 refine bodyPost_ret (by simp[results,Tryz.results278,go_sem,k1,f1,k2,f2,k3,f3,k4,f4,yb1,yb2,yb3,yb4]) rfl ⟨rfl,by exact belowAny⟩
theorem both_first (A R n d a b va vb:Int) (g:Nat) (w:World) (hg:Blk w g #[.func (.func 189) #[.agg #[.int .i64 A,.int .i64 R,.int .i64 n,.int .i64 d]] #[]] 230)
  (c1:∀w,Blk w g #[.func (.func 189) #[.agg #[.int .i64 A,.int .i64 R,.int .i64 n,.int .i64 d]] #[]] 230->Cb 279 #[.int .i64 a,.pointer (some ⟨g,0,none⟩)] w (.tuple #[.int .i64 0,.int .i64 5]))
   :
  Cb 278 #[.agg #[.int .i64 a,.int .i64 b],.func (.func 279) #[] #[.pointer (some ⟨g,0,none⟩)]] w (.tuple #[.agg #[.int .i64 0,.int .i64 0],.int .i64 5]):=by
 have y0:=hg.lt
 have hix0:∀(x y:Int) (w:World),(Instr.index 340 (.agg #[.int .i64 x,.int .i64 y]) (.int .i64 0)).run Tryz.prog w= .ok (.int .i64 x) w:=by intros;kernel_rfl
 have hix1:∀(x y:Int) (w:World),(Instr.index 340 (.agg #[.int .i64 x,.int .i64 y]) (.int .i64 1)).run Tryz.prog w= .ok (.int .i64 y) w:=by intros;kernel_rfl
 have H_c1:=Hd c1
 clear c1
 go_enter Tryz.func278,Tryz.ntmps278
 go_wp2
 go_step3
 go_upto_region 2 with(fail)
 refine wp_cutB w (Bc w.heap.size #[.int .i64 a,.int .i64 b] 340<|Bc (w.heap.size+1) #[.int .i64 0,.int .i64 0] 340<|Bc (w.heap.size+2) #[.int .i64 0,.int .i64 0] 340<|Bc g #[.func (.func 189) #[.agg #[.int .i64 A,.int .i64 R,.int .i64 n,.int .i64 d]] #[]] 230<|Bz) ?_
 rintro W1 hW z2 ⟨⟨b1,yb1,k1,f1⟩,⟨b2,yb2,k2,f2⟩,⟨b3,yb3,k3,f3⟩,⟨b4,yb4,k4,f4⟩,-⟩
 go_wp2
 go_step3
 go_wp2
 refine wp_loop_rounds 3 ?_
 rw[rounds_succ]
 go_wp2_with fail
 refine(H_c1.out _ (blkAny)).mono ?_
 rintro e w3 ⟨rfl,hb3⟩
 have z4:=hb3.size
 try simp at z4
 clear k1 f1 k2 f2 k3 f3 k4 f4
 refine haveB w w3 (Bc w.heap.size #[.int .i64 a,.int .i64 b] 340<|Bc (w.heap.size+1) #[.int .i64 0,.int .i64 0] 340<|Bc (w.heap.size+2) #[.int .i64 0,.int .i64 0] 340<|Bc g #[.func (.func 189) #[.agg #[.int .i64 A,.int .i64 R,.int .i64 n,.int .i64 d]] #[]] 230<|Bz) ?_
 clear b1 b2 b3 b4 hW
 rintro hW z5 ⟨⟨b1,yb1,k1,f1⟩,⟨b2,yb2,k2,f2⟩,⟨b3,yb3,k3,f3⟩,⟨b4,yb4,k4,f4⟩,-⟩
 clear hb3
 go_wp2
 rw[Exit.noGoto_ret]
 refine bodyPost_ret (by simp[results,Tryz.results278,go_sem,k1,f1,k2,f2,k3,f3,k4,f4,yb1,yb2,yb3,yb4]) rfl ⟨rfl,by exact belowAny⟩
theorem both_second (A R n d a b va vb:Int) (g:Nat) (w:World) (hg:Blk w g #[.func (.func 189) #[.agg #[.int .i64 A,.int .i64 R,.int .i64 n,.int .i64 d]] #[]] 230)
  (c1:∀w,Blk w g #[.func (.func 189) #[.agg #[.int .i64 A,.int .i64 R,.int .i64 n,.int .i64 d]] #[]] 230->Cb 279 #[.int .i64 a,.pointer (some ⟨g,0,none⟩)] w (.tuple #[.int .i64 va,.int .i64 0]))
  (c2:∀w,Blk w g #[.func (.func 189) #[.agg #[.int .i64 A,.int .i64 R,.int .i64 n,.int .i64 d]] #[]] 230->Cb 279 #[.int .i64 b,.pointer (some ⟨g,0,none⟩)] w (.tuple #[.int .i64 0,.int .i64 5])):
  Cb 278 #[.agg #[.int .i64 a,.int .i64 b],.func (.func 279) #[] #[.pointer (some ⟨g,0,none⟩)]] w (.tuple #[.agg #[.int .i64 0,.int .i64 0],.int .i64 5]):=by
 have y0:=hg.lt
 have hix0:∀(x y:Int) (w:World),(Instr.index 340 (.agg #[.int .i64 x,.int .i64 y]) (.int .i64 0)).run Tryz.prog w= .ok (.int .i64 x) w:=by intros;kernel_rfl
 have hix1:∀(x y:Int) (w:World),(Instr.index 340 (.agg #[.int .i64 x,.int .i64 y]) (.int .i64 1)).run Tryz.prog w= .ok (.int .i64 y) w:=by intros;kernel_rfl
 have H_c1:=Hd c1
 clear c1
 have H_c2:=Hd c2
 clear c2
 go_enter Tryz.func278,Tryz.ntmps278
 go_wp2
 go_step3
 go_upto_region 2 with(fail)
 refine wp_cutB w (Bc w.heap.size #[.int .i64 a,.int .i64 b] 340<|Bc (w.heap.size+1) #[.int .i64 0,.int .i64 0] 340<|Bc (w.heap.size+2) #[.int .i64 0,.int .i64 0] 340<|Bc g #[.func (.func 189) #[.agg #[.int .i64 A,.int .i64 R,.int .i64 n,.int .i64 d]] #[]] 230<|Bz) ?_
 rintro W1 hW z2 ⟨⟨b1,yb1,k1,f1⟩,⟨b2,yb2,k2,f2⟩,⟨b3,yb3,k3,f3⟩,⟨b4,yb4,k4,f4⟩,-⟩
 go_wp2
 go_step3
 go_wp2
 refine wp_loop_rounds 3 ?_
 rw[rounds_succ]
 go_wp2_with fail
 refine(H_c1.out _ (blkAny)).mono ?_
 rintro e w3 ⟨rfl,hb3⟩
 have z4:=hb3.size
 try simp at z4
 clear k1 f1 k2 f2 k3 f3 k4 f4
 refine haveB w w3 (Bc w.heap.size #[.int .i64 a,.int .i64 b] 340<|Bc (w.heap.size+1) #[.int .i64 0,.int .i64 0] 340<|Bc (w.heap.size+2) #[.int .i64 0,.int .i64 0] 340<|Bc g #[.func (.func 189) #[.agg #[.int .i64 A,.int .i64 R,.int .i64 n,.int .i64 d]] #[]] 230<|Bz) ?_
 clear b1 b2 b3 b4 hW
 rintro hW z5 ⟨⟨b1,yb1,k1,f1⟩,⟨b2,yb2,k2,f2⟩,⟨b3,yb3,k3,f3⟩,⟨b4,yb4,k4,f4⟩,-⟩
 clear hb3
 go_upto_region 6 with(fail)
 clear k1 f1 k2 f2 k3 f3 k4 f4
 refine wp_cutB w (Bc w.heap.size #[.int .i64 a,.int .i64 b] 340<|Bc (w.heap.size+1) #[.int .i64 0,.int .i64 0] 340<|Bc (w.heap.size+2) #[.int .i64 0,.int .i64 0] 340<|Bc g #[.func (.func 189) #[.agg #[.int .i64 A,.int .i64 R,.int .i64 n,.int .i64 d]] #[]] 230<|Bz) ?_
 clear b1 b2 b3 b4 hW
 rintro W6 hW z7 ⟨⟨b1,yb1,k1,f1⟩,⟨b2,yb2,k2,f2⟩,⟨b3,yb3,k3,f3⟩,⟨b4,yb4,k4,f4⟩,-⟩
 go_wp2
 rw[rounds_succ]
 go_wp2_with fail
 refine(H_c2.out _ (blkAny)).mono ?_
 rintro e w8 ⟨rfl,hb8⟩
 have z9:=hb8.size
 try simp at z9
 clear k1 f1 k2 f2 k3 f3 k4 f4
 refine haveB w w8 (Bc w.heap.size #[.int .i64 a,.int .i64 b] 340<|Bc (w.heap.size+1) #[.int .i64 0,.int .i64 0] 340<|Bc (w.heap.size+2) #[.int .i64 va,.int .i64 0] 340<|Bc g #[.func (.func 189) #[.agg #[.int .i64 A,.int .i64 R,.int .i64 n,.int .i64 d]] #[]] 230<|Bz) ?_
 clear b1 b2 b3 b4 hW
 rintro hW z10 ⟨⟨b1,yb1,k1,f1⟩,⟨b2,yb2,k2,f2⟩,⟨b3,yb3,k3,f3⟩,⟨b4,yb4,k4,f4⟩,-⟩
 clear hb8
 go_wp2
 rw[Exit.noGoto_ret]
 refine bodyPost_ret (by simp[results,Tryz.results278,go_sem,k1,f1,k2,f2,k3,f3,k4,f4,yb1,yb2,yb3,yb4]) rfl ⟨rfl,by exact belowAny⟩
theorem ends_no (A R n d a b va vb e:Int) (w:World)
  (c1:∀w,Cb 187 #[.agg #[.int .i64 A,.int .i64 R,.int .i64 n,.int .i64 d]] w (.bool false))
   :
  Cb 221 #[.agg #[.int .i64 A,.int .i64 R,.int .i64 n,.int .i64 d],.int .i64 a,.int .i64 b] w (.tuple #[.agg #[.int .i64 0,.int .i64 0],.int .i64 150]):=by
 have hmf:∀(fn:Fn) (first cap:Array Value) (w:World),(Instr.makeFunc fn first cap).run Tryz.prog w= .ok (.func fn first cap) w:=fun _ _ _ _=>rfl
 have H_c1:=Hd c1
 clear c1
 go_enter Tryz.func221,Tryz.ntmps221
 go_upto_region 1 with(fail)
 refine wp_cutB w (Bc w.heap.size #[.int .i64 A,.int .i64 R,.int .i64 n,.int .i64 d] 46<|Bc (w.heap.size+1) #[.int .i64 0,.int .i64 0] 191<|Bz) ?_
 rintro W1 hW z2 ⟨⟨b1,yb1,k1,f1⟩,⟨b2,yb2,k2,f2⟩,-⟩
 go_wp2_with fail
 refine(H_c1.out _).mono ?_
 rintro e w3 ⟨rfl,hb3⟩
 have z4:=hb3.size
 try simp at z4
 clear k1 f1 k2 f2
 refine haveB w w3 (Bc w.heap.size #[.int .i64 A,.int .i64 R,.int .i64 n,.int .i64 d] 46<|Bc (w.heap.size+1) #[.int .i64 0,.int .i64 0] 191<|Bc W1.heap.size #[.int .i64 A,.int .i64 R,.int .i64 n,.int .i64 d] 229<|Bz) ?_
 clear b1 b2 hW
 rintro hW z5 ⟨⟨b1,yb1,k1,f1⟩,⟨b2,yb2,k2,f2⟩,⟨b3,yb3,k3,f3⟩,-⟩
 clear hb3
 go_wp2
 refine bodyPost_ret (by simp[results,Tryz.results221,go_sem,k1,f1,k2,f2,k3,f3,yb1,yb2,yb3]) rfl ⟨rfl,by exact belowAny⟩
theorem ends_lt (A R n d a b va vb e:Int) (w:World) (hle:decide (b<a)=false) (h:va<vb)
  (c1:∀w,Cb 187 #[.agg #[.int .i64 A,.int .i64 R,.int .i64 n,.int .i64 d]] w (.bool true))
  (c2:∀w,Cb 188 #[.int .i64 a] w (.bool true))
  (c3:∀w,Cb 188 #[.int .i64 b] w (.bool true))
  (c4:∀w g,Blk w g #[.func (.func 189) #[.agg #[.int .i64 A,.int .i64 R,.int .i64 n,.int .i64 d]] #[]] 230->Cb 278 #[.agg #[.int .i64 a,.int .i64 b],.func (.func 279) #[] #[.pointer (some ⟨g,0,none⟩)]] w (.tuple #[.agg #[.int .i64 va,.int .i64 vb],.int .i64 e])):
  Cb 221 #[.agg #[.int .i64 A,.int .i64 R,.int .i64 n,.int .i64 d],.int .i64 a,.int .i64 b] w (.tuple #[.agg #[.int .i64 va,.int .i64 vb],.int .i64 e]):=by
 have hmf:∀(fn:Fn) (first cap:Array Value) (w:World),(Instr.makeFunc fn first cap).run Tryz.prog w= .ok (.func fn first cap) w:=fun _ _ _ _=>rfl
 have H_c1:=Hd c1
 clear c1
 have H_c2:=Hd c2
 clear c2
 have H_c3:=Hd c3
 clear c3
 have H_c4:=Hd c4
 clear c4
 go_enter Tryz.func221,Tryz.ntmps221
 go_upto_region 1 with(fail)
 refine wp_cutB w (Bc w.heap.size #[.int .i64 A,.int .i64 R,.int .i64 n,.int .i64 d] 46<|Bc (w.heap.size+1) #[.int .i64 0,.int .i64 0] 191<|Bz) ?_
 rintro W1 hW z2 ⟨⟨b1,yb1,k1,f1⟩,⟨b2,yb2,k2,f2⟩,-⟩
 go_wp2_with fail
 refine(H_c1.out _).mono ?_
 rintro e w3 ⟨rfl,hb3⟩
 have z4:=hb3.size
 try simp at z4
 clear k1 f1 k2 f2
 refine haveB w w3 (Bc w.heap.size #[.int .i64 A,.int .i64 R,.int .i64 n,.int .i64 d] 46<|Bc (w.heap.size+1) #[.int .i64 0,.int .i64 0] 191<|Bc W1.heap.size #[.int .i64 A,.int .i64 R,.int .i64 n,.int .i64 d] 229<|Bz) ?_
 clear b1 b2 hW
 rintro hW z5 ⟨⟨b1,yb1,k1,f1⟩,⟨b2,yb2,k2,f2⟩,⟨b3,yb3,k3,f3⟩,-⟩
 clear hb3
 go_wp2_with fail
 refine(H_c2.out _).mono ?_
 rintro e w6 ⟨rfl,hb6⟩
 have z7:=hb6.size
 try simp at z7
 clear k1 f1 k2 f2 k3 f3
 refine haveB w w6 (Bc w.heap.size #[.int .i64 A,.int .i64 R,.int .i64 n,.int .i64 d] 46<|Bc (w.heap.size+1) #[.int .i64 0,.int .i64 0] 191<|Bc W1.heap.size #[.int .i64 A,.int .i64 R,.int .i64 n,.int .i64 d] 229<|Bz) ?_
 clear b1 b2 b3 hW
 rintro hW z8 ⟨⟨b1,yb1,k1,f1⟩,⟨b2,yb2,k2,f2⟩,⟨b3,yb3,k3,f3⟩,-⟩
 clear hb6
 go_wp2_with fail
 refine(H_c3.out _).mono ?_
 rintro e w9 ⟨rfl,hb9⟩
 have z10:=hb9.size
 try simp at z10
 clear k1 f1 k2 f2 k3 f3
 refine haveB w w9 (Bc w.heap.size #[.int .i64 A,.int .i64 R,.int .i64 n,.int .i64 d] 46<|Bc (w.heap.size+1) #[.int .i64 0,.int .i64 0] 191<|Bc W1.heap.size #[.int .i64 A,.int .i64 R,.int .i64 n,.int .i64 d] 229<|Bz) ?_
 clear b1 b2 b3 hW
 rintro hW z11 ⟨⟨b1,yb1,k1,f1⟩,⟨b2,yb2,k2,f2⟩,⟨b3,yb3,k3,f3⟩,-⟩
 clear hb9
 go_upto_region 6 with(fail)
 clear k1 f1 k2 f2 k3 f3
 refine wp_cutB w (Bc w.heap.size #[.int .i64 A,.int .i64 R,.int .i64 n,.int .i64 d] 46<|Bc (w.heap.size+1) #[.int .i64 0,.int .i64 0] 191<|Bc W1.heap.size #[.int .i64 A,.int .i64 R,.int .i64 n,.int .i64 d] 229<|Bz) ?_
 clear b1 b2 b3 hW
 rintro W12 hW z13 ⟨⟨b1,yb1,k1,f1⟩,⟨b2,yb2,k2,f2⟩,⟨b3,yb3,k3,f3⟩,-⟩
 go_upto_region 7 with(fail)
 clear k1 f1 k2 f2 k3 f3
 refine wp_cutB w (Bc w.heap.size #[.int .i64 A,.int .i64 R,.int .i64 n,.int .i64 d] 46<|Bc (w.heap.size+1) #[.int .i64 0,.int .i64 0] 191<|Bc W1.heap.size #[.int .i64 A,.int .i64 R,.int .i64 n,.int .i64 d] 229<|Bc W12.heap.size #[.func (.func 189) #[.agg #[.int .i64 A,.int .i64 R,.int .i64 n,.int .i64 d]] #[]] 230<|Bz) ?_
 clear b1 b2 b3 hW
 rintro W14 hW z15 ⟨⟨b1,yb1,k1,f1⟩,⟨b2,yb2,k2,f2⟩,⟨b3,yb3,k3,f3⟩,⟨b4,yb4,k4,f4⟩,-⟩
 go_wp2_with fail
 refine(H_c4.out _ _ (blkAny)).mono ?_
 rintro e w16 ⟨rfl,hb16⟩
 have z17:=hb16.size
 try simp at z17
 clear k1 f1 k2 f2 k3 f3 k4 f4
 refine haveB w w16 (Bc w.heap.size #[.int .i64 A,.int .i64 R,.int .i64 n,.int .i64 d] 46<|Bc (w.heap.size+1) #[.int .i64 0,.int .i64 0] 191<|Bc W1.heap.size #[.int .i64 A,.int .i64 R,.int .i64 n,.int .i64 d] 229<|Bc W12.heap.size #[.func (.func 189) #[.agg #[.int .i64 A,.int .i64 R,.int .i64 n,.int .i64 d]] #[]] 230<|Bz) ?_
 clear b1 b2 b3 b4 hW
 rintro hW z18 ⟨⟨b1,yb1,k1,f1⟩,⟨b2,yb2,k2,f2⟩,⟨b3,yb3,k3,f3⟩,⟨b4,yb4,k4,f4⟩,-⟩
 clear hb16
 go_wp2
 refine bodyPost_ret (by simp[results,Tryz.results221,go_sem,k1,f1,k2,f2,k3,f3,k4,f4,yb1,yb2,yb3,yb4]) rfl ⟨rfl,by exact belowAny⟩
theorem ends_gt (A R n d a b va vb e:Int) (w:World) (hle:decide (b<a)=false) (h:vb<va)
  (c1:∀w,Cb 187 #[.agg #[.int .i64 A,.int .i64 R,.int .i64 n,.int .i64 d]] w (.bool true))
  (c2:∀w,Cb 188 #[.int .i64 a] w (.bool true))
  (c3:∀w,Cb 188 #[.int .i64 b] w (.bool true))
  (c4:∀w g,Blk w g #[.func (.func 189) #[.agg #[.int .i64 A,.int .i64 R,.int .i64 n,.int .i64 d]] #[]] 230->Cb 278 #[.agg #[.int .i64 a,.int .i64 b],.func (.func 279) #[] #[.pointer (some ⟨g,0,none⟩)]] w (.tuple #[.agg #[.int .i64 va,.int .i64 vb],.int .i64 e])):
  Cb 221 #[.agg #[.int .i64 A,.int .i64 R,.int .i64 n,.int .i64 d],.int .i64 a,.int .i64 b] w (.tuple #[.agg #[.int .i64 vb,.int .i64 va],.int .i64 e]):=by
 have hmf:∀(fn:Fn) (first cap:Array Value) (w:World),(Instr.makeFunc fn first cap).run Tryz.prog w= .ok (.func fn first cap) w:=fun _ _ _ _=>rfl
 have H_c1:=Hd c1
 clear c1
 have H_c2:=Hd c2
 clear c2
 have H_c3:=Hd c3
 clear c3
 have H_c4:=Hd c4
 clear c4
 go_enter Tryz.func221,Tryz.ntmps221
 go_upto_region 1 with(fail)
 refine wp_cutB w (Bc w.heap.size #[.int .i64 A,.int .i64 R,.int .i64 n,.int .i64 d] 46<|Bc (w.heap.size+1) #[.int .i64 0,.int .i64 0] 191<|Bz) ?_
 rintro W1 hW z2 ⟨⟨b1,yb1,k1,f1⟩,⟨b2,yb2,k2,f2⟩,-⟩
 go_wp2_with fail
 refine(H_c1.out _).mono ?_
 rintro e w3 ⟨rfl,hb3⟩
 have z4:=hb3.size
 try simp at z4
 clear k1 f1 k2 f2
 refine haveB w w3 (Bc w.heap.size #[.int .i64 A,.int .i64 R,.int .i64 n,.int .i64 d] 46<|Bc (w.heap.size+1) #[.int .i64 0,.int .i64 0] 191<|Bc W1.heap.size #[.int .i64 A,.int .i64 R,.int .i64 n,.int .i64 d] 229<|Bz) ?_
 clear b1 b2 hW
 rintro hW z5 ⟨⟨b1,yb1,k1,f1⟩,⟨b2,yb2,k2,f2⟩,⟨b3,yb3,k3,f3⟩,-⟩
 clear hb3
 go_wp2_with fail
 refine(H_c2.out _).mono ?_
 rintro e w6 ⟨rfl,hb6⟩
 have z7:=hb6.size
 try simp at z7
 clear k1 f1 k2 f2 k3 f3
 refine haveB w w6 (Bc w.heap.size #[.int .i64 A,.int .i64 R,.int .i64 n,.int .i64 d] 46<|Bc (w.heap.size+1) #[.int .i64 0,.int .i64 0] 191<|Bc W1.heap.size #[.int .i64 A,.int .i64 R,.int .i64 n,.int .i64 d] 229<|Bz) ?_
 clear b1 b2 b3 hW
 rintro hW z8 ⟨⟨b1,yb1,k1,f1⟩,⟨b2,yb2,k2,f2⟩,⟨b3,yb3,k3,f3⟩,-⟩
 clear hb6
 go_wp2_with fail
 refine(H_c3.out _).mono ?_
 rintro e w9 ⟨rfl,hb9⟩
 have z10:=hb9.size
 try simp at z10
 clear k1 f1 k2 f2 k3 f3
 refine haveB w w9 (Bc w.heap.size #[.int .i64 A,.int .i64 R,.int .i64 n,.int .i64 d] 46<|Bc (w.heap.size+1) #[.int .i64 0,.int .i64 0] 191<|Bc W1.heap.size #[.int .i64 A,.int .i64 R,.int .i64 n,.int .i64 d] 229<|Bz) ?_
 clear b1 b2 b3 hW
 rintro hW z11 ⟨⟨b1,yb1,k1,f1⟩,⟨b2,yb2,k2,f2⟩,⟨b3,yb3,k3,f3⟩,-⟩
 clear hb9
 go_upto_region 6 with(fail)
 clear k1 f1 k2 f2 k3 f3
 refine wp_cutB w (Bc w.heap.size #[.int .i64 A,.int .i64 R,.int .i64 n,.int .i64 d] 46<|Bc (w.heap.size+1) #[.int .i64 0,.int .i64 0] 191<|Bc W1.heap.size #[.int .i64 A,.int .i64 R,.int .i64 n,.int .i64 d] 229<|Bz) ?_
 clear b1 b2 b3 hW
 rintro W12 hW z13 ⟨⟨b1,yb1,k1,f1⟩,⟨b2,yb2,k2,f2⟩,⟨b3,yb3,k3,f3⟩,-⟩
 go_upto_region 7 with(fail)
 clear k1 f1 k2 f2 k3 f3
 refine wp_cutB w (Bc w.heap.size #[.int .i64 A,.int .i64 R,.int .i64 n,.int .i64 d] 46<|Bc (w.heap.size+1) #[.int .i64 0,.int .i64 0] 191<|Bc W1.heap.size #[.int .i64 A,.int .i64 R,.int .i64 n,.int .i64 d] 229<|Bc W12.heap.size #[.func (.func 189) #[.agg #[.int .i64 A,.int .i64 R,.int .i64 n,.int .i64 d]] #[]] 230<|Bz) ?_
 clear b1 b2 b3 hW
 rintro W14 hW z15 ⟨⟨b1,yb1,k1,f1⟩,⟨b2,yb2,k2,f2⟩,⟨b3,yb3,k3,f3⟩,⟨b4,yb4,k4,f4⟩,-⟩
 go_wp2_with fail
 refine(H_c4.out _ _ (blkAny)).mono ?_
 rintro e w16 ⟨rfl,hb16⟩
 have z17:=hb16.size
 try simp at z17
 clear k1 f1 k2 f2 k3 f3 k4 f4
 refine haveB w w16 (Bc w.heap.size #[.int .i64 A,.int .i64 R,.int .i64 n,.int .i64 d] 46<|Bc (w.heap.size+1) #[.int .i64 0,.int .i64 0] 191<|Bc W1.heap.size #[.int .i64 A,.int .i64 R,.int .i64 n,.int .i64 d] 229<|Bc W12.heap.size #[.func (.func 189) #[.agg #[.int .i64 A,.int .i64 R,.int .i64 n,.int .i64 d]] #[]] 230<|Bz) ?_
 clear b1 b2 b3 b4 hW
 rintro hW z18 ⟨⟨b1,yb1,k1,f1⟩,⟨b2,yb2,k2,f2⟩,⟨b3,yb3,k3,f3⟩,⟨b4,yb4,k4,f4⟩,-⟩
 clear hb16
 go_wp2
 refine bodyPost_ret (by simp[results,Tryz.results221,go_sem,k1,f1,k2,f2,k3,f3,k4,f4,yb1,yb2,yb3,yb4]) rfl ⟨rfl,by exact belowAny⟩
theorem ends_eq (A R n d a b va vb e:Int) (w:World) (hle:decide (b<a)=false)
  (c1:∀w,Cb 187 #[.agg #[.int .i64 A,.int .i64 R,.int .i64 n,.int .i64 d]] w (.bool true))
  (c2:∀w,Cb 188 #[.int .i64 a] w (.bool true))
  (c3:∀w,Cb 188 #[.int .i64 b] w (.bool true))
  (c4:∀w g,Blk w g #[.func (.func 189) #[.agg #[.int .i64 A,.int .i64 R,.int .i64 n,.int .i64 d]] #[]] 230->Cb 278 #[.agg #[.int .i64 a,.int .i64 b],.func (.func 279) #[] #[.pointer (some ⟨g,0,none⟩)]] w (.tuple #[.agg #[.int .i64 va,.int .i64 va],.int .i64 e])):
  Cb 221 #[.agg #[.int .i64 A,.int .i64 R,.int .i64 n,.int .i64 d],.int .i64 a,.int .i64 b] w (.tuple #[.agg #[.int .i64 va,.int .i64 va],.int .i64 e]):=by
 have hmf:∀(fn:Fn) (first cap:Array Value) (w:World),(Instr.makeFunc fn first cap).run Tryz.prog w= .ok (.func fn first cap) w:=fun _ _ _ _=>rfl
 have H_c1:=Hd c1
 clear c1
 have H_c2:=Hd c2
 clear c2
 have H_c3:=Hd c3
 clear c3
 have H_c4:=Hd c4
 clear c4
 go_enter Tryz.func221,Tryz.ntmps221
 go_upto_region 1 with(fail)
 refine wp_cutB w (Bc w.heap.size #[.int .i64 A,.int .i64 R,.int .i64 n,.int .i64 d] 46<|Bc (w.heap.size+1) #[.int .i64 0,.int .i64 0] 191<|Bz) ?_
 rintro W1 hW z2 ⟨⟨b1,yb1,k1,f1⟩,⟨b2,yb2,k2,f2⟩,-⟩
 go_wp2_with fail
 refine(H_c1.out _).mono ?_
 rintro e w3 ⟨rfl,hb3⟩
 have z4:=hb3.size
 try simp at z4
 clear k1 f1 k2 f2
 refine haveB w w3 (Bc w.heap.size #[.int .i64 A,.int .i64 R,.int .i64 n,.int .i64 d] 46<|Bc (w.heap.size+1) #[.int .i64 0,.int .i64 0] 191<|Bc W1.heap.size #[.int .i64 A,.int .i64 R,.int .i64 n,.int .i64 d] 229<|Bz) ?_
 clear b1 b2 hW
 rintro hW z5 ⟨⟨b1,yb1,k1,f1⟩,⟨b2,yb2,k2,f2⟩,⟨b3,yb3,k3,f3⟩,-⟩
 clear hb3
 go_wp2_with fail
 refine(H_c2.out _).mono ?_
 rintro e w6 ⟨rfl,hb6⟩
 have z7:=hb6.size
 try simp at z7
 clear k1 f1 k2 f2 k3 f3
 refine haveB w w6 (Bc w.heap.size #[.int .i64 A,.int .i64 R,.int .i64 n,.int .i64 d] 46<|Bc (w.heap.size+1) #[.int .i64 0,.int .i64 0] 191<|Bc W1.heap.size #[.int .i64 A,.int .i64 R,.int .i64 n,.int .i64 d] 229<|Bz) ?_
 clear b1 b2 b3 hW
 rintro hW z8 ⟨⟨b1,yb1,k1,f1⟩,⟨b2,yb2,k2,f2⟩,⟨b3,yb3,k3,f3⟩,-⟩
 clear hb6
 go_wp2_with fail
 refine(H_c3.out _).mono ?_
 rintro e w9 ⟨rfl,hb9⟩
 have z10:=hb9.size
 try simp at z10
 clear k1 f1 k2 f2 k3 f3
 refine haveB w w9 (Bc w.heap.size #[.int .i64 A,.int .i64 R,.int .i64 n,.int .i64 d] 46<|Bc (w.heap.size+1) #[.int .i64 0,.int .i64 0] 191<|Bc W1.heap.size #[.int .i64 A,.int .i64 R,.int .i64 n,.int .i64 d] 229<|Bz) ?_
 clear b1 b2 b3 hW
 rintro hW z11 ⟨⟨b1,yb1,k1,f1⟩,⟨b2,yb2,k2,f2⟩,⟨b3,yb3,k3,f3⟩,-⟩
 clear hb9
 go_upto_region 6 with(fail)
 clear k1 f1 k2 f2 k3 f3
 refine wp_cutB w (Bc w.heap.size #[.int .i64 A,.int .i64 R,.int .i64 n,.int .i64 d] 46<|Bc (w.heap.size+1) #[.int .i64 0,.int .i64 0] 191<|Bc W1.heap.size #[.int .i64 A,.int .i64 R,.int .i64 n,.int .i64 d] 229<|Bz) ?_
 clear b1 b2 b3 hW
 rintro W12 hW z13 ⟨⟨b1,yb1,k1,f1⟩,⟨b2,yb2,k2,f2⟩,⟨b3,yb3,k3,f3⟩,-⟩
 go_upto_region 7 with(fail)
 clear k1 f1 k2 f2 k3 f3
 refine wp_cutB w (Bc w.heap.size #[.int .i64 A,.int .i64 R,.int .i64 n,.int .i64 d] 46<|Bc (w.heap.size+1) #[.int .i64 0,.int .i64 0] 191<|Bc W1.heap.size #[.int .i64 A,.int .i64 R,.int .i64 n,.int .i64 d] 229<|Bc W12.heap.size #[.func (.func 189) #[.agg #[.int .i64 A,.int .i64 R,.int .i64 n,.int .i64 d]] #[]] 230<|Bz) ?_
 clear b1 b2 b3 hW
 rintro W14 hW z15 ⟨⟨b1,yb1,k1,f1⟩,⟨b2,yb2,k2,f2⟩,⟨b3,yb3,k3,f3⟩,⟨b4,yb4,k4,f4⟩,-⟩
 go_wp2_with fail
 refine(H_c4.out _ _ (blkAny)).mono ?_
 rintro e w16 ⟨rfl,hb16⟩
 have z17:=hb16.size
 try simp at z17
 clear k1 f1 k2 f2 k3 f3 k4 f4
 refine haveB w w16 (Bc w.heap.size #[.int .i64 A,.int .i64 R,.int .i64 n,.int .i64 d] 46<|Bc (w.heap.size+1) #[.int .i64 0,.int .i64 0] 191<|Bc W1.heap.size #[.int .i64 A,.int .i64 R,.int .i64 n,.int .i64 d] 229<|Bc W12.heap.size #[.func (.func 189) #[.agg #[.int .i64 A,.int .i64 R,.int .i64 n,.int .i64 d]] #[]] 230<|Bz) ?_
 clear b1 b2 b3 b4 hW
 rintro hW z18 ⟨⟨b1,yb1,k1,f1⟩,⟨b2,yb2,k2,f2⟩,⟨b3,yb3,k3,f3⟩,⟨b4,yb4,k4,f4⟩,-⟩
 clear hb16
 go_wp2
 refine bodyPost_ret (by simp[results,Tryz.results221,go_sem,k1,f1,k2,f2,k3,f3,k4,f4,yb1,yb2,yb3,yb4]) rfl ⟨rfl,by exact belowAny⟩
def endsOk (A R n d a b:Int):Bool:=isBack (lineVal A R n d a)&&isBack (lineVal A R n d b)
theorem c_Ends_no (A R n d a b:Int) (w:World) (h:isLine A R n d=false):
  Cb 221 #[.agg #[.int .i64 A,.int .i64 R,.int .i64 n,.int .i64 d],.int .i64 a,.int .i64 b] w (.tuple #[.agg #[.int .i64 0,.int .i64 0],.int .i64 150]):=by
 have c1:=fun w=>c_is A R n d w
 rw[h] at c1
 exact ends_no A R n d a b 0 0 0 w c1
theorem c_Ends (A R n d a b:Int) (w:World) (h:LineOk A R n d) (ha:0<=a) (hab:a<=b) (hb:b<=281474976710656):
  Cb 221 #[.agg #[.int .i64 A,.int .i64 R,.int .i64 n,.int .i64 d],.int .i64 a,.int .i64 b] w (.tuple #[.agg #[.int .i64 (wv (endsOk A R n d a b) (min (lineVal A R n d a) (lineVal A R n d b))),.int .i64 (wv (endsOk A R n d a b) (max (lineVal A R n d a) (lineVal A R n d b)))],.int .i64 (we (endsOk A R n d a b))]):=by
 have c1:=fun w=>c_is A R n d w
 rw[isLine_ok.2 h] at c1
 have c2:=fun w=>c_timeIs a w
 rw[isTime_iff.2 ⟨ha,by omega⟩] at c2
 have c3:=fun w=>c_timeIs b w
 rw[isTime_iff.2 ⟨by omega,hb⟩] at c3
 have va:=fun w=>c_value A R n d a w h ha (by omega)
 have vb:=fun w=>c_value A R n d b w h (by omega) hb
 have hle:decide (b<a)=false:=by simp;omega
 unfold endsOk
 generalize lineVal A R n d a=x at*
 generalize lineVal A R n d b=y at*
 cases hx:isBack x with
 |false=>
  rw[hx] at va
  exact ends_eq A R n d a b 0 0 5 w hle c1 c2 c3 (fun w g hg=>both_first A R n d a b 0 0 g w hg (fun w hg=>c_ends1 A R n d a 0 5 g w hg va))
 |true=>
  rw[hx] at va
  cases hy:isBack y with
  |false=>
   rw[hy] at vb
   exact ends_eq A R n d a b 0 0 5 w hle c1 c2 c3 (fun w g hg=>both_second A R n d a b x 0 g w hg (fun w hg=>c_ends1 A R n d a x 0 g w hg va) (fun w hg=>c_ends1 A R n d b 0 5 g w hg vb))
  |true=>
   rw[hy] at vb
   have c4:=fun w g hg=>both_ok A R n d a b x y g w hg (fun w hg=>c_ends1 A R n d a x 0 g w hg va) (fun w hg=>c_ends1 A R n d b y 0 g w hg vb)
   show Calls _ _ _ _ fun e' w'=>e'= .returned (.tuple #[.agg #[.int .i64 (min x y),.int .i64 (max x y)],.int .i64 0])/\Below w.heap.size w w'
   rcases Int.lt_trichotomy x y with k|k|k
   ·rw[show min x y=x by omega,show max x y=y by omega]
    exact ends_lt A R n d a b x y 0 w hle k c1 c2 c3 c4
   ·subst k
    rw[show min x x=x by omega,show max x x=x by omega]
    exact ends_eq A R n d a b x 0 0 w hle c1 c2 c3 c4
   ·rw[show min x y=y by omega,show max x y=x by omega]
    exact ends_gt A R n d a b x y 0 w hle k c1 c2 c3 c4
end Go.Proofs.YtpdhdjlhicceoaaGreatDoor
namespace Go.Proofs.YtpdhdjlhicceoaaGreatDoor
def sumTo (f:Nat->Nat):Nat->Nat
 |0=>0
 |n+1=>sumTo f n+f n
theorem sumTo_congr {f g:Nat->Nat}:∀n,(∀i,i<n->f i=g i)->sumTo f n=sumTo g n
 |0,_=>rfl
 |n+1,h=>by simp only[sumTo];rw[sumTo_congr n fun i hi=>h i (by omega),h n (by omega)]
theorem sumTo_zero :∀n,sumTo (fun _=>0) n=0
 |0=>rfl
 |n+1=>by simp only[sumTo];rw[sumTo_zero n]
theorem sumTo_add (f g:Nat->Nat):∀n,sumTo (fun i=>f i+g i) n=sumTo f n+sumTo g n
 |0=>rfl
 |n+1=>by simp only[sumTo];rw[sumTo_add f g n];omega
theorem sumTo_swap (f:Nat->Nat->Nat) (m:Nat):∀n,sumTo (fun i=>sumTo (f i) m) n=sumTo (fun j=>sumTo (fun i=>f i j) n) m
 |0=>by simp only[sumTo];rw[sumTo_zero]
 |n+1=>by simp only[sumTo];rw[sumTo_swap f m n,sumTo_add]
theorem sumTo_first (f:Nat->Nat):∀n,sumTo f (n+1)=f 0+sumTo (fun i=>f (i+1)) n
 |0=>by simp[sumTo]
 |n+1=>by rw[sumTo,sumTo_first f n,sumTo];omega
theorem sumTo_back (f:Nat->Nat):∀n,sumTo f n=sumTo (fun i=>f (n-1-i)) n
 |0=>rfl
 |n+1=>by
  rw[sumTo_first (fun i=>f (n+1-1-i)) n,sumTo,sumTo_back f n]
  rw[sumTo_congr (g:=fun i=>f (n+1-1-(i+1))) n (fun i hi=>by congr 1;omega)]
  have:f (n+1-1-0)=f n:=by congr 1
  omega
theorem sumTo_le {f g:Nat->Nat}:∀n,(∀i,i<n->f i<=g i)->sumTo f n<=sumTo g n
 |0,_=>Nat.le_refl _
 |n+1,h=>by simp only[sumTo];have:=sumTo_le n fun i hi=>h i (by omega);have:=h n (by omega);omega
theorem sumTo_id :∀n,sumTo (fun i=>i) n=n*(n-1)/2
 |0=>rfl
 |n+1=>by
  simp only[sumTo]
  rw[sumTo_id n]
  cases n with
  |zero=>rfl
  |succ n=>
   have e:(n+1+1)*(n+1+1-1)=(n+1)*(n+1-1)+2*(n+1):=by
    simp only[Nat.add_sub_cancel];rw[Nat.mul_comm (n+1+1)];exact(Nat.mul_add (n+1) n 2).trans (by rw[Nat.mul_comm (n+1) 2])
   rw[e];omega
theorem sumTo_mul (c:Nat) (f:Nat->Nat):∀n,sumTo (fun i=>c*f i) n=c*sumTo f n
 |0=>rfl
 |n+1=>by simp only[sumTo];rw[sumTo_mul c f n,Nat.mul_add]
theorem sumTo_const (c:Nat):∀n,sumTo (fun _=>c) n=c*n
 |0=>rfl
 |n+1=>by simp only[sumTo];rw[sumTo_const c n,Nat.mul_add_one]
theorem count_div (x m:Nat) (hm:0<m):∀Y,sumTo (fun j=>if m*(j+1)<=x then 1 else 0) Y=min Y (x/m)
 |0=>by simp[sumTo]
 |Y+1=>by
  simp only[sumTo]
  rw[count_div x m hm Y]
  have:m*(Y+1)<=x↔Y+1<=x/m:=by rw[Nat.le_div_iff_mul_le hm,Nat.mul_comm]
  split<;>omega
theorem count_steps (a b c:Nat) (ha:0<a) (hb:b<c):∀n,sumTo (fun i=>if c<=a*i+b then 1 else 0) n=(a*n+b-c)/a
 |0=>by simp[sumTo];rw[Nat.div_eq_of_lt];omega
 |n+1=>by
  simp only[sumTo]
  rw[count_steps a b c ha hb n,Nat.mul_add_one]
  by_cases h:c<=a*n+b
  ·rw[if_pos h,show a*n+a+b-c=(a*n+b-c)+a by omega,Nat.add_div_right _ ha]
  ·rw[if_neg h,show a*n+b-c=0 by omega,Nat.zero_div,Nat.div_eq_of_lt (by omega)]
def floSum (n a b m:Nat):Nat:=sumTo (fun i=>(a*i+b)/m) n
theorem floSum_split (n a b m:Nat) (hm:0<m):floSum n a b m=a/m*(n*(n-1)/2)+b/m*n+floSum n (a%m) (b%m) m:=by
 unfold floSum
 rw[<-sumTo_id,<-sumTo_mul,<-sumTo_const,<-sumTo_add,<-sumTo_add]
 refine sumTo_congr n fun i _=> ?_
 have e:a*i+b=m*(a/m*i+b/m)+(a%m*i+b%m):=by
  have e1:=Nat.div_add_mod a m
  have e2:=Nat.div_add_mod b m
  have e3:a*i=m*(a/m*i)+a%m*i:=by
   rw[<-Nat.mul_assoc,<-Nat.add_mul,e1]
  rw[Nat.mul_add];omega
 rw[e,Nat.mul_add_div hm]
theorem floSum_small (n a b m:Nat) (hm:0<m) (h:a*n+b<m):floSum n a b m=0:=by
 unfold floSum
 rw[<-sumTo_zero n]
 refine sumTo_congr n fun i hi=>Nat.div_eq_of_lt ?_
 have:=Nat.mul_le_mul_left a (Nat.le_of_lt hi)
 omega
theorem floSum_turn (n a b m:Nat) (ha:0<a) (hm:0<m) (hb:b<m):floSum n a b m=floSum ((a*n+b)/m) m ((a*n+b)%m) a:=by
 have hY:∀i,i<n->(a*i+b)/m<=(a*n+b)/m:=fun i hi=>Nat.div_le_div_right (by have:=Nat.mul_le_mul_left a (Nat.le_of_lt hi);omega)
 unfold floSum
 rw[sumTo_congr (g:=fun i=>sumTo (fun j=>if m*(j+1)<=a*i+b then 1 else 0) ((a*n+b)/m)) n fun i hi=>by rw[count_div _ m hm];have:=hY i hi;omega]
 rw[sumTo_swap,sumTo_back]
 refine sumTo_congr _ fun j hj=> ?_
 generalize hq:(a*n+b)/m=Y at*
 have e0:=Nat.div_add_mod (a*n+b) m
 rw[hq] at e0
 rw[count_steps a b _ ha (by rw[Nat.mul_add_one];omega)]
 congr 1
 have e1:m*(Y-1-j+1)+m*j=m*Y:=by rw[<-Nat.mul_add];congr 1;omega
 omega
theorem floSum_le (n a b m:Nat) (hm:0<m) (ha:a<m) (hb:b<m):floSum n a b m<=(n+1)*n:=by
 unfold floSum
 rw[<-sumTo_const]
 refine sumTo_le n fun i hi=> ?_
 rw[Nat.div_le_iff_le_mul_add_pred hm]
 have h1:a*i<=m*i:=Nat.mul_le_mul_right i (by omega)
 have h2:m*i<=m*n:=Nat.mul_le_mul_left m (by omega)
 rw[Nat.mul_add_one];omega
end Go.Proofs.YtpdhdjlhicceoaaGreatDoor
namespace Go.Proofs.YtpdhdjlhicceoaaGreatDoor
open Go.RowKit

def floI (n a b m:Int):Int:=(floSum n.toNat a.toNat b.toNat m.toNat:Int)
structure SmallAt (F n a b m t:Int):Prop where
 n0:0<=n
 n1:n<=256
 a0:0<=a
 a1:a<=281474976710656
 b0:0<=b
 b1:b<=281474976710656
 m0:1<=m
 m1:m<=281474976710656
 t0:0<=t
 eq:t+floI n a b m=F
 F1:F<=100000
structure SmallStep (F n a b m t:Int):Prop where
 p0:0<=n*(n-1)/2
 e1:wrap64 (a.tdiv m)=a/m
 e2:wrap64 (b.tdiv m)=b/m
 e3:wrap64 (a/m*(n*(n-1)/2))=a/m*(n*(n-1)/2)
 e4:wrap64 (b/m*n)=b/m*n
 e5:wrap64 (a/m*(n*(n-1)/2)+b/m*n)=a/m*(n*(n-1)/2)+b/m*n
 e6:wrap64 (t+(a/m*(n*(n-1)/2)+b/m*n))=t+(a/m*(n*(n-1)/2)+b/m*n)
 e7:a.tmod m=a%m
 e8:b.tmod m=b%m
 e9:wrap64 (a%m*n)=a%m*n
 e10:wrap64 (a%m*n+b%m)=a%m*n+b%m
 e11:wrap64 ((a%m*n+b%m).tdiv m)=(a%m*n+b%m)/m
 e12:(a%m*n+b%m).tmod m=(a%m*n+b%m)%m
 done:a%m*n+b%m<m->t+(a/m*(n*(n-1)/2)+b/m*n)=F
 next:m<=a%m*n+b%m->SmallAt F ((a%m*n+b%m)/m) m ((a%m*n+b%m)%m) (a%m) (t+(a/m*(n*(n-1)/2)+b/m*n))/\(a%m).toNat<m.toNat
theorem SmallAt.step {F n a b m t:Int} (h:SmallAt F n a b m t):SmallStep F n a b m t:=by
 obtain⟨n0,n1,a0,a1,b0,b1,m0,m1,t0,eq,F1⟩:=h
 obtain⟨n,rfl⟩:=Int.eq_ofNat_of_zero_le n0
 obtain⟨a,rfl⟩:=Int.eq_ofNat_of_zero_le a0
 obtain⟨b,rfl⟩:=Int.eq_ofNat_of_zero_le b0
 obtain⟨m,rfl⟩:=Int.eq_ofNat_of_zero_le (show 0<=m by omega)
 have hm:0<m:=by omega
 have hp:(n:Int)*((n:Int)-1)/2=((n*(n-1)/2:Nat):Int):=by
  cases n with
  |zero=>rfl
  |succ n=>simp
 have hs:=floSum_split n a b m hm
 have q1:(a:Int)/m=((a/m:Nat):Int):=rfl
 have q2:(b:Int)/m=((b/m:Nat):Int):=rfl
 have r1:(a:Int)%m=((a%m:Nat):Int):=rfl
 have r2:(b:Int)%m=((b%m:Nat):Int):=rfl
 have g1:=Nat.mod_lt a hm
 have g2:=Nat.mod_lt b hm
 have ef:floI n a b m=(floSum n a b m:Int):=rfl
 rw[ef,hs] at eq
 have k1:a%m*n<=m*n:=Nat.mul_le_mul_right n (by omega)
 have k2:m*n<=281474976710656*256:=Nat.mul_le_mul (by omega) (by omega)
 have l1:((a%m*n+b%m:Nat):Int)/m=(((a%m*n+b%m)/m:Nat):Int):=rfl
 have l2:((a%m*n+b%m:Nat):Int)%m=(((a%m*n+b%m)%m:Nat):Int):=rfl
 have l3:(a%m*n+b%m)/m<=n:=by
  rw[Nat.div_le_iff_le_mul_add_pred hm];omega
 have l4:=Nat.mod_lt (a%m*n+b%m) hm
 have d1:a/m<=a:=Nat.div_le_self _ _
 have d2:b/m<=b:=Nat.div_le_self _ _
 have c1:(((a%m:Nat):Int)*(n:Int)+((b%m:Nat):Int))=((a%m*n+b%m:Nat):Int):=by simp
 have c2:((a/m:Nat):Int)*((n*(n-1)/2:Nat):Int)=((a/m*(n*(n-1)/2):Nat):Int):=by simp
 have c3:((b/m:Nat):Int)*(n:Int)=((b/m*n:Nat):Int):=by simp
 have c4:((a%m:Nat):Int)*(n:Int)=((a%m*n:Nat):Int):=by simp
 have w64:∀x:Nat,x<=100000000000000000->wrap64 (x:Int)=x:=fun x h=>by rw[wrap64_eq];omega
 have c5:floSum n (a%m) (b%m) m=floSum ((a%m*n+b%m)/m) m ((a%m*n+b%m)%m) (a%m)∨a%m*n+b%m<m:=by
  rcases Nat.lt_or_ge (a%m*n+b%m) m with h|h
  ·exact .inr h
  ·refine .inl (floSum_turn n (a%m) (b%m) m ?_ hm g2)
   rcases Nat.eq_zero_or_pos (a%m) with h0|h0
   ·rw[h0] at h;omega
   ·exact h0
 have c6:a%m*n+b%m<m->floSum n (a%m) (b%m) m=0:=floSum_small n (a%m) (b%m) m hm
 constructor
 ·rw[hp];exact Int.natCast_nonneg _
 ·rw[Int.tdiv_eq_ediv_of_nonneg (by omega),q1];exact w64 _ (by omega)
 ·rw[Int.tdiv_eq_ediv_of_nonneg (by omega),q2];exact w64 _ (by omega)
 ·rw[hp,q1,c2];exact w64 _ (by omega)
 ·rw[q2,c3];exact w64 _ (by omega)
 ·rw[hp,q1,c2,q2,c3];rw[wrap64_eq];omega
 ·rw[hp,q1,c2,q2,c3];rw[wrap64_eq];omega
 ·exact Int.tmod_eq_emod_of_nonneg (by omega)
 ·exact Int.tmod_eq_emod_of_nonneg (by omega)
 ·rw[r1,c4];exact w64 _ (by omega)
 ·rw[r1,r2,c1];exact w64 _ (by omega)
 ·rw[r1,r2,c1,Int.tdiv_eq_ediv_of_nonneg (by omega),l1];exact w64 _ (by omega)
 ·rw[r1,r2,c1];exact Int.tmod_eq_emod_of_nonneg (by omega)
 ·intro h
  rw[r1,r2,c1] at h
  have:=c6 (by omega)
  rw[hp,q1,c2,q2,c3];omega
 ·intro h
  rw[r1,r2,c1] at h
  rw[hp,q1,c2,q2,c3,r1,r2,c1,l1,l2]
  refine⟨⟨Int.natCast_nonneg _,Int.ofNat_le.2 (show _<=256 by omega),Int.natCast_nonneg _,m1,Int.natCast_nonneg _,Int.ofNat_le.2 (show _<=281474976710656 by omega),?_,Int.ofNat_le.2 (show _<=281474976710656 by omega),?_,?_,F1⟩,?_⟩
  ·rcases Nat.eq_zero_or_pos (a%m) with h0|h0
   ·rw[h0] at h;omega
   ·exact Int.ofNat_le.2 (show 1<=_ from h0)
  ·have:=Int.natCast_nonneg (a/m*(n*(n-1)/2));have:=Int.natCast_nonneg (b/m*n);omega
  ·have e:floI (((a%m*n+b%m)/m:Nat):Int) (m:Int) (((a%m*n+b%m)%m:Nat):Int) ((a%m:Nat):Int)=(floSum ((a%m*n+b%m)/m) m ((a%m*n+b%m)%m) (a%m):Int):=rfl
   rw[e]
   rcases c5 with h5|h5
   ·rw[<-h5];omega
   ·omega
  ·show a%m<m;exact g1

end Go.Proofs.YtpdhdjlhicceoaaGreatDoor
