/- Parts of the proof that follows. No condition. -/
import Derived.Laws.EntriesVeiled
import Derived.Test.YtidfcoooccblaaaGreatBon2
set_option maxRecDepth 100000
set_option maxHeartbeats 8000000
set_option linter.unusedSimpArgs false
set_option linter.unusedVariables false
namespace Go.Proofs.YtidfcoooccblaaaGreat
open Go.RowKit
attribute [local simp] Oper.looksAt Op.operands Call.operands Aj Det Ao
theorem over_w (A R n d t ph pl rh rl sh sl qh ql ah al oh ol rest e1 e2:Int) (w:World)
  (c1:∀w,Cb 157 #[n,t] w (.agg #[ph,.int .u64 pl]))
  (c2:∀w,Cb 117 #[R] w (.agg #[rh,.int .u64 rl]))
  (c3:∀w,Cb 16 #[.agg #[ph,.int .u64 pl],.agg #[rh,.int .u64 rl]] w (.tuple #[.agg #[sh,.int .u64 sl],e1]))
  (c4:∀w,Cb 61 #[.agg #[sh,.int .u64 sl],d] w (.tuple #[.agg #[qh,.int .u64 ql],rest,.int .i64 0]))
  (c5:∀w,Cb 117 #[A] w (.agg #[ah,.int .u64 al]))
  (c6:∀w,Cb 16 #[.agg #[qh,.int .u64 ql],.agg #[ah,.int .u64 al]] w (.tuple #[.agg #[oh,.int .u64 ol],e2])):
  Cb 227 #[.agg #[A,R,n,d],t] w (.tuple #[.agg #[oh,.int .u64 ol],rest]):=by
 have H1:=Hd c1
 have H2:=Hd c2
 have H3:=Hd c3
 have H4:=Hd c4
 have H5:=Hd c5
 have H6:=Hd c6
 clear c1 c2 c3 c4 c5 c6
 go_enter Tryz.func227,Tryz.ntmps227
 go_upto_region 1 with(fail)
 refine A9 (fun W=>Below w.heap.size w W/\Blk W w.heap.size #[A,R,n,d] 282/\Blk W (w.heap.size+1) #[.int .i64 0,.int .u64 0] 36) ⟨?_,(by repeat (first|(refine Blk.new' ?_;simp;done)|refine Blk.alloc ?_ _)),(by repeat (first|(refine Blk.new' ?_;simp;done)|refine Blk.alloc ?_ _))⟩ ?_
 ·exact(have hUp:=(Below.refl w.heap.size w);Aa)
 rintro W ⟨hW,b1,b2⟩
 have c1:=H1.out
 have c2:=H2.out
 have c3:=H3.out
 refine An 14 46 [] (fun W'=>Rex [] W W'/\Blk W' w.heap.size #[A,R,n,d] 282/\Blk W' (w.heap.size+1) #[.int .i64 0,.int .u64 0] 36) Cd (by kernel_rfl) rfl ⟨(Rex.refl _ _).drew,b1,b2⟩ (fun w w' ⟨h0,h1,h2⟩ hr=>⟨h0.trans hr,h1.rex hr (by simp<;>omega),h2.rex hr (by simp<;>omega)⟩) (fun c a d v w h=>by cases d<;>exact h) ?_
 iterate 4
  apply Ag (hg:=rfl) (hal:=rfl)
  ·intro a W' hC hE
   obtain⟨_,k1,k2⟩:=hC
   have k1:=k1.cell
   first
    |(simp at hE;simp[go_sem,Act.eval,iw,hE,k1,k2];try rfl)
    |(clear hE;simp[go_sem,Act.eval,iw,k1,k2];try rfl)
 refine Bg rfl rfl (fun W' hC=>c1 W') (fun a W' hC hE=> ?_) ?_
 ·obtain⟨_,k1,k2⟩:=hC
  have k1:=k1.cell
  first
   |(simp at hE;simp[go_sem,Act.eval,iw,hE,k1,k2];try rfl)
   |(clear hE;simp[go_sem,Act.eval,iw,k1,k2];try rfl)
 iterate 3
  apply Ag (hg:=rfl) (hal:=rfl)
  ·intro a W' hC hE
   obtain⟨_,k1,k2⟩:=hC
   have k1:=k1.cell
   first
    |(simp at hE;simp[go_sem,Act.eval,iw,hE,k1,k2];try rfl)
    |(clear hE;simp[go_sem,Act.eval,iw,k1,k2];try rfl)
 refine Bg rfl rfl (fun W' hC=>c2 W') (fun a W' hC hE=> ?_) ?_
 ·obtain⟨_,k1,k2⟩:=hC
  have k1:=k1.cell
  first
   |(simp at hE;simp[go_sem,Act.eval,iw,hE,k1,k2];try rfl)
   |(clear hE;simp[go_sem,Act.eval,iw,k1,k2];try rfl)
 refine Bg rfl rfl (fun W' hC=>c3 W') (fun a W' hC hE=> ?_) ?_
 ·obtain⟨_,k1,k2⟩:=hC
  have k1:=k1.cell
  first
   |(simp at hE;simp[go_sem,Act.eval,iw,hE,k1,k2];try rfl)
   |(clear hE;simp[go_sem,Act.eval,iw,k1,k2];try rfl)
 iterate 3
  apply Ag (hg:=rfl) (hal:=rfl)
  ·intro a W' hC hE
   obtain⟨_,k1,k2⟩:=hC
   have k1:=k1.cell
   first
    |(simp at hE;simp[go_sem,Act.eval,iw,hE,k1,k2];try rfl)
    |(clear hE;simp[go_sem,Act.eval,iw,k1,k2];try rfl)
 apply Db W.heap.size #[.int .i64 0,.int .u64 0] 36 rfl rfl
 ·exact fun W' hC=>hC.1.size
 ·simp[Bl]<;>omega
 ·intro w;kernel_rfl
 rintro W1 ⟨hR,c1,c2⟩
 simp only[Ar,Det,forall_eq]
 intros
 repeat (rename Ao _ _ _ _=>hgd;clear hgd)
 simp only[nS]
 clear c3
 obtain⟨g1,rfl,hg1,n1⟩:= ‹D9 _ _ _ _ _›
 have kn:=n1.cell
 have fn:=n1.frozen
 go_upto_region 2 with(fail)
 clear kn fn
 have hW1:=hW.trans (hR.of_priv hW.size)
 have hz:=hW.size
 have y1:=b1.lt
 have y2:=b2.lt
 refine A9 (fun W=>Below w.heap.size w W/\Blk W w.heap.size #[A,R,n,d] 282/\Blk W (w.heap.size+1) #[.int .i64 0,.int .u64 0] 36/\Blk W g1 #[sh,.int .u64 sl] 36) ⟨?_,?_,?_,(n1.set 0 _).set 1 _⟩ ?_
 ·exact(have hUp:=hW1;Aa)
 ·exact(have hUp:=c1;A3)
 ·exact(have hUp:=c2;A3)
 clear hW1 c1 c2 n1 hR hW b1 b2
 rintro W2 ⟨hW,b1,b2,b3⟩
 have k1:=b1.cell
 have k3:=b3.cell
 have c4:=H4.out
 go_wp2_with fail
 refine(c4 _).mono ?_
 rintro e w4 ⟨rfl,hb4⟩
 clear c4 k1 k3
 go_upto_region 3 with(fail)
 have d1:=b1.calls hb4
 have d2:=b2.calls hb4
 have z4:=hb4.size
 have z3:=hW.size
 refine A9 (fun W=>Below w.heap.size w W/\Blk W w.heap.size #[A,R,n,d] 282/\Blk W (w.heap.size+1) #[.int .i64 0,.int .u64 0] 36/\Blk W w4.heap.size #[qh,.int .u64 ql] 36) ⟨?_,?_,?_,Blk.new' rfl⟩ ?_
 ·exact(have hUp:=(hW.trans (hb4.mono (by have:=hW.size;omega)));Aa)
 ·exact(have hUp:=d1;A3)
 ·exact(have hUp:=d2;A3)
 have y4:w.heap.size+1<w4.heap.size:=d2.lt
 clear hW b1 b2 b3 hb4 d1 d2 z4 z3
 rintro W ⟨hW,b1,b2,b3⟩
 have c5:=H5.out
 have c6:=H6.out
 refine An 10 46 [] (fun W'=>Rex [] W W'/\Blk W' w.heap.size #[A,R,n,d] 282/\Blk W' (w.heap.size+1) #[.int .i64 0,.int .u64 0] 36/\Blk W' w4.heap.size #[qh,.int .u64 ql] 36) Cd (by kernel_rfl) rfl ⟨(Rex.refl _ _).drew,b1,b2,b3⟩ (fun w w' ⟨h0,h1,h2,h3⟩ hr=>⟨h0.trans hr,h1.rex hr (by simp<;>omega),h2.rex hr (by simp<;>omega),h3.rex hr (by simp<;>omega)⟩) (fun c a d v w h=>by cases d<;>exact h) ?_
 iterate 4
  apply Ag (hg:=rfl) (hal:=rfl)
  ·intro a W' hC hE
   obtain⟨_,k1,k2,k3⟩:=hC
   have k1:=k1.cell
   have k3:=k3.cell
   first
    |(simp at hE;simp[go_sem,Act.eval,iw,hE,k1,k2,k3];try rfl)
    |(clear hE;simp[go_sem,Act.eval,iw,k1,k2,k3];try rfl)
 refine Bg rfl rfl (fun W' hC=>c5 W') (fun a W' hC hE=> ?_) ?_
 ·obtain⟨_,k1,k2,k3⟩:=hC
  have k1:=k1.cell
  have k3:=k3.cell
  first
   |(simp at hE;simp[go_sem,Act.eval,iw,hE,k1,k2,k3];try rfl)
   |(clear hE;simp[go_sem,Act.eval,iw,k1,k2,k3];try rfl)
 refine Bg rfl rfl (fun W' hC=>c6 W') (fun a W' hC hE=> ?_) ?_
 ·obtain⟨_,k1,k2,k3⟩:=hC
  have k1:=k1.cell
  have k3:=k3.cell
  first
   |(simp at hE;simp[go_sem,Act.eval,iw,hE,k1,k2,k3];try rfl)
   |(clear hE;simp[go_sem,Act.eval,iw,k1,k2,k3];try rfl)
 iterate 3
  apply Ag (hg:=rfl) (hal:=rfl)
  ·intro a W' hC hE
   obtain⟨_,k1,k2,k3⟩:=hC
   have k1:=k1.cell
   have k3:=k3.cell
   first
    |(simp at hE;simp[go_sem,Act.eval,iw,hE,k1,k2,k3];try rfl)
    |(clear hE;simp[go_sem,Act.eval,iw,k1,k2,k3];try rfl)
 apply Db W.heap.size #[.int .i64 0,.int .u64 0] 36 rfl rfl
 ·exact fun W' hC=>hC.1.size
 ·simp[Bl]<;>omega
 ·intro w;kernel_rfl
 rintro W1 ⟨hR,c1,c2,c3⟩
 simp only[Ar,Det,forall_eq]
 intros
 repeat (rename Ao _ _ _ _=>hgd;clear hgd)
 simp only[nS]
 obtain⟨g2,rfl,hg2,n2⟩:= ‹D9 _ _ _ _ _›
 have kn:=n2.cell
 have fn:=n2.frozen
 have k2:=c2.cell
 have f2:=c2.frozen
 have y5:=b2.lt
 have y6:w.heap.size+1≠g2:=by omega
 clear c5 c6
 go_wp2
 refine bodyPost_ret (v:= .tuple #[.agg #[oh,.int .u64 ol],rest]) (by simp[results,Tryz.results227,go_sem,k2,f2,y6]) rfl ⟨rfl,?_⟩
 have hR':=hW.trans (hR.of_priv hW.size)
 have hz':=hW.size
 exact(have hUp:=hR';Aa)
end Go.Proofs.YtidfcoooccblaaaGreat
namespace Go.Proofs.YtidfcoooccblaaaGreat
open Go.RowKit
theorem Ab {w:World} {b:Nat} {cs:Array Value} {t:TypeId} (h:Blk w b cs t:=by repeat (first|with_reducible assumption|with_reducible (apply Blk.set2)|with_reducible (apply Blk.setO)|((with_reducible (show _≠_));omega)|with_reducible (refine Blk.new2 (by first|rfl|(simp;done)|(simp;omega)|omega) ?_)|with_reducible (refine Blk.alloc ?_ _)|with_reducible (refine Blk.calls ?_ (by assumption))|with_reducible (refine Blk.rex ?_ (by assumption) (by first|(simp;done)|(simp;omega)))|((with_reducible (show @Eq (Array Value) _ _));rfl)|((with_reducible (show @Eq Obj _ _));rfl))):Blk w b cs t:=h
def Bz (_:World):Prop:=True
def Bc (b:Nat) (cs:Array Value) (t:TypeId) (R:World->Prop) (w:World):Prop:=(Blk w b cs t/\b<w.heap.size/\(∀i,w.cell? ⟨b,i,none⟩=cs[i]?)/\∀i,w.frozen? ⟨b,i,none⟩=false)/\R w
def Rc (F R:World->Prop) (w:World):Prop:=F w/\R w
theorem Bc.mk {b:Nat} {cs:Array Value} {t:TypeId} {R:World->Prop} {w:World} (h:Blk w b cs t) (r:R w):Bc b cs t R w:=⟨⟨h,h.lt,h.cell,h.frozen⟩,r⟩
theorem Rc.mk {F R:World->Prop} {w:World} (h:F w) (r:R w):Rc F R w:=⟨h,r⟩
def Cl (R:World->Prop):Prop:=∀w w',R w->Rex [] w w'->R w'
theorem Cl.z :Cl Bz:=fun _ _ _ _=>trivial
theorem Cl.b {b:Nat} {cs:Array Value} {t:TypeId} {R:World->Prop} (h:Cl R):Cl (Bc b cs t R):=fun w w' hr hx=>Bc.mk (hr.1.1.rex hx (by simp)) (h _ _ hr.2 hx)
theorem Cl.r {F R:World->Prop} (hF:∀w w',F w->Rex [] w w'->F w') (h:Cl R):Cl (Rc F R):=fun w w' hr hx=>⟨hF _ _ hr.1 hx,h _ _ hr.2 hx⟩
theorem Ad {P:Program} {c:Code} {Q:Exit->Act->World->Prop} {a:Act} {w:World} (w0:World) (R:World->Prop) (hr:∀W,Below w0.heap.size w0 W->w0.heap.size<=W.heap.size->R W->c.wp P Q a W)
  (hI:Below w0.heap.size w0 w:=by exact Aa) (hR:R w:=by repeat (first|exact trivial|refine Bc.mk (by exact Ab) ?_)):c.wp P Q a w:=hr w hI hI.size hR
theorem Cm {P:Program} {c:Code} {Q:Exit->Act->World->Prop} {a:Act} {w:World} (L:List Nat) (w0:World) (R:World->Prop) (hr:∀W,Rex L w0 W->w0.heap.size<=W.heap.size->R W->c.wp P Q a W)
  (hI:Rex L w0 w:=by exact Gt) (hR:R w:=by repeat (first|exact trivial|refine Bc.mk (by exact Ab) ?_)):c.wp P Q a w:=hr w hI hI.size hR
theorem Ae {G:Prop} (w0 w:World) (R:World->Prop) (hr:Below w0.heap.size w0 w->w0.heap.size<=w.heap.size->R w->G)
  (hI:Below w0.heap.size w0 w:=by exact Aa) (hR:R w:=by repeat (first|exact trivial|refine Bc.mk (by exact Ab) ?_)):G:=hr hI hI.size hR
theorem K9 {G:Prop} (L:List Nat) (w0 w:World) (R:World->Prop) (hr:Rex L w0 w->w0.heap.size<=w.heap.size->R w->G)
  (hI:Rex L w0 w:=by exact Gt) (hR:R w:=by repeat (first|exact trivial|refine Bc.mk (by exact Ab) ?_)):G:=hr hI hI.size hR
section
variable {P:Program} {ops:Array Oper} {C:World->Prop} {X:List (Nat×Nat)} {a0:Act} {Fin:List (Option Tmp×Bo)->Prop} {i:Nat} {o:Oper} {rest:List Oper} {acc:List (Option Tmp×Bo)}
theorem dA {c:Value} (hr:Aq P ops C X a0 Fin (i+1) rest ((o.dst,Det c)::acc)) (hg:o.guard=none:=by exact rfl) (hal:Az o=false:=by exact rfl)
  (h:∀(a:Act) (w:World),C w->(∀s∈o.looksAt ops,Aj a0 acc s (a.tmps.getD s undef) w)->(execOp a.eval o).run P w= .ok (.value c) w:=by
   intro a W' hC hE
   simp only[Bc,Bz,Rc] at hC
   first
    |(simp[Oper.looksAt,Op.operands,Call.operands,Aj,Det] at hE;simp[go_sem,Act.eval,iw,hE,hC];try rfl)
    |(clear hE;simp[go_sem,Act.eval,iw,hC];try rfl)):Aq P ops C X a0 Fin i (o::rest) acc:=Ag c hg hal h hr
theorem gA {x want:Bool} {k:Nat} {d:Tmp} {c:Value} (hr:Aq P ops C X a0 Fin (i+1) rest ((o.dst,Ao (true&&(x==want)) c)::acc)) (hg:o.guard=some (k,want):=by exact rfl) (hd:Cf ops k=some d:=by exact rfl) (hal:Az o=false:=by exact rfl)
  (hx:∀v w,Aj a0 acc d v w->if true=true then v= .bool x else v=undef:=by
   intro v W' h
   simp[Aj,Det,Ao] at h
   simp
   exact h)
  (h:true=true->x=want->∀(a:Act) (w:World),C w->(∀s∈o.looksAt ops,Aj a0 acc s (a.tmps.getD s undef) w)->(execOp a.eval o).run P w= .ok (.value c) w:=by
   intro hp hx a W' hC hE
   simp only[Bc,Bz,Rc] at hC
   simp[Oper.looksAt,Op.operands,Call.operands,Aj,Det,Ao,hx] at hE
   simp[go_sem,Act.eval,iw,hE,hC]
   try rfl):Aq P ops C X a0 Fin i (o::rest) acc:=Am true x want k d c hg hd hal hx h hr
theorem gB {p x want:Bool} {k:Nat} {d:Tmp} {c:Value} (hr:Aq P ops C X a0 Fin (i+1) rest ((o.dst,Ao (p&&(x==want)) c)::acc)) (hg:o.guard=some (k,want):=by exact rfl) (hd:Cf ops k=some d:=by exact rfl) (hal:Az o=false:=by exact rfl)
  (hx:∀v w,Aj a0 acc d v w->if p=true then v= .bool x else v=undef:=by
   intro v W' h
   exact h)
  (h:p=true->x=want->∀(a:Act) (w:World),C w->(∀s∈o.looksAt ops,Aj a0 acc s (a.tmps.getD s undef) w)->(execOp a.eval o).run P w= .ok (.value c) w:=by
   intro hp hx a W' hC hE
   simp only[Bc,Bz,Rc] at hC
   try simp at hp
   try simp at hx
   simp[Oper.looksAt,Op.operands,Call.operands,Aj,Det,Ao,hp,hx] at hE
   simp[go_sem,Act.eval,iw,hE,hC]
   try rfl):Aq P ops C X a0 Fin i (o::rest) acc:=Am p x want k d c hg hd hal hx h hr
theorem pA {x y:Bool} {c t:Tmp} (hr:Aq P ops C X a0 Fin (i+1) rest ((o.dst,Det (.bool (x&&y)))::acc)) (ho:o.op= .pick (.tmp c) (.tmp t) (.const (.bool false)):=by exact rfl) (hg:o.guard=none:=by exact rfl)
  (hc:∀v w,Aj a0 acc c v w->v= .bool x:=by
   intro v W' h
   simp[Aj,Det] at h
   exact h)
  (ht:∀v w,Aj a0 acc t v w->x=true->v= .bool y:=by
   intro v W' h hx
   simp[Aj,Ao,hx] at h
   exact h):Aq P ops C X a0 Fin i (o::rest) acc:=Ch x y c t ho hg hc ht hr
theorem pO {x y:Bool} {c t:Tmp} (hr:Aq P ops C X a0 Fin (i+1) rest ((o.dst,Det (.bool (x||y)))::acc)) (ho:o.op= .pick (.tmp c) (.const (.bool true)) (.tmp t):=by exact rfl) (hg:o.guard=none:=by exact rfl)
  (hc:∀v w,Aj a0 acc c v w->v= .bool x:=by
   intro v W' h
   simp[Aj,Det] at h
   exact h)
  (ht:∀v w,Aj a0 acc t v w->x=false->v= .bool y:=by
   intro v W' h hx
   simp[Aj,Ao,hx] at h
   exact h):Aq P ops C X a0 Fin i (o::rest) acc:=El x y c t ho hg hc ht hr
theorem pgA {g want x y:Bool} {k:Nat} {d c t:Tmp} (hr:Aq P ops C X a0 Fin (i+1) rest ((o.dst,Ao (true&&(g==want)) (.bool (x&&y)))::acc)) (ho:o.op= .pick (.tmp c) (.tmp t) (.const (.bool false)):=by exact rfl) (hg:o.guard=some (k,want):=by exact rfl) (hd:Cf ops k=some d:=by exact rfl)
  (hx:∀v w,Aj a0 acc d v w->if true=true then v= .bool g else v=undef:=by
   intro v W' h
   simp[Aj,Det,Ao] at h
   simp
   exact h)
  (hc:true=true->g=want->∀v w,Aj a0 acc c v w->v= .bool x:=by
   intro _ hx v W' h
   simp[Aj,Det,Ao,hx] at h
   exact h)
  (ht:true=true->g=want->∀v w,Aj a0 acc t v w->x=true->v= .bool y:=by
   intro _ hx v W' h hy
   simp[Aj,Ao,hx,hy] at h
   exact h):Aq P ops C X a0 Fin i (o::rest) acc:=Gy true g want x y k d c t ho hg hd hx hc ht hr
theorem pgO {g want x y:Bool} {k:Nat} {d c t:Tmp} (hr:Aq P ops C X a0 Fin (i+1) rest ((o.dst,Ao (true&&(g==want)) (.bool (x||y)))::acc)) (ho:o.op= .pick (.tmp c) (.const (.bool true)) (.tmp t):=by exact rfl) (hg:o.guard=some (k,want):=by exact rfl) (hd:Cf ops k=some d:=by exact rfl)
  (hx:∀v w,Aj a0 acc d v w->if true=true then v= .bool g else v=undef:=by
   intro v W' h
   simp[Aj,Det,Ao] at h
   simp
   exact h)
  (hc:true=true->g=want->∀v w,Aj a0 acc c v w->v= .bool x:=by
   intro _ hx v W' h
   simp[Aj,Det,Ao,hx] at h
   exact h)
  (ht:true=true->g=want->∀v w,Aj a0 acc t v w->x=false->v= .bool y:=by
   intro _ hx v W' h hy
   simp[Aj,Ao,hx,hy] at h
   exact h):Aq P ops C X a0 Fin i (o::rest) acc:=Vt true g want x y k d c t ho hg hd hx hc ht hr
theorem cA {f:FuncId} {args:Array Value} {c:Value} (hc:∀w,C w->Calls P f args w fun e w'=>e= .returned c/\Below w.heap.size w w') (hr:Aq P ops C X a0 Fin (i+1) rest ((o.dst,Det c)::acc)) (hg:o.guard=none:=by exact rfl) (hal:Az o=false:=by exact rfl)
  (h:∀(a:Act) (w:World),C w->(∀s∈o.looksAt ops,Aj a0 acc s (a.tmps.getD s undef) w)->(execOp a.eval o).run P w= .ok (.enter f args) w:=by
   intro a W' hC hE
   simp only[Bc,Bz,Rc] at hC
   first
    |(simp[Oper.looksAt,Op.operands,Call.operands,Aj,Det] at hE;simp[go_sem,Act.eval,iw,hE,hC];try rfl)
    |(clear hE;simp[go_sem,Act.eval,iw,hC];try rfl)):Aq P ops C X a0 Fin i (o::rest) acc:=Bg hg hal hc h hr
theorem dE {c:Value} {E:World->Prop} (e:∀w,C w->E w) (hr:Aq P ops C X a0 Fin (i+1) rest ((o.dst,Det c)::acc)) (hg:o.guard=none:=by exact rfl) (hal:Az o=false:=by exact rfl)
  (h:∀(a:Act) (w:World),C w->E w->(∀s∈o.looksAt ops,Aj a0 acc s (a.tmps.getD s undef) w)->(execOp a.eval o).run P w= .ok (.value c) w:=by
   intro a W' hC hX hE
   simp only[Bc,Bz,Rc] at hC
   try simp only[Nat.zero_mul,Nat.one_mul,Nat.add_zero,Nat.zero_add] at hX
   first
    |(simp[Oper.looksAt,Op.operands,Call.operands,Aj,Det] at hE;simp[go_sem,Act.eval,iw,hE,hC,hX];try rfl)
    |(clear hE;simp[go_sem,Act.eval,iw,hC,hX];try rfl)):Aq P ops C X a0 Fin i (o::rest) acc:=Ag c hg hal (fun a w hC hE=>h a w hC (e w hC) hE) hr
theorem gE {x want:Bool} {k:Nat} {d:Tmp} {c:Value} {E:World->Prop} (e:∀w,C w->E w) (hr:Aq P ops C X a0 Fin (i+1) rest ((o.dst,Ao (true&&(x==want)) c)::acc)) (hg:o.guard=some (k,want):=by exact rfl) (hd:Cf ops k=some d:=by exact rfl) (hal:Az o=false:=by exact rfl)
  (hx:∀v w,Aj a0 acc d v w->if true=true then v= .bool x else v=undef:=by
   intro v W' h
   simp[Aj,Det,Ao] at h
   simp
   exact h)
  (h:true=true->x=want->∀(a:Act) (w:World),C w->E w->(∀s∈o.looksAt ops,Aj a0 acc s (a.tmps.getD s undef) w)->(execOp a.eval o).run P w= .ok (.value c) w:=by
   intro hp hx a W' hC hX hE
   simp only[Bc,Bz,Rc] at hC
   try simp only[Nat.zero_mul,Nat.one_mul,Nat.add_zero,Nat.zero_add] at hX
   simp[Oper.looksAt,Op.operands,Call.operands,Aj,Det,Ao,hx] at hE
   simp[go_sem,Act.eval,iw,hE,hC,hX]
   try rfl):Aq P ops C X a0 Fin i (o::rest) acc:=Am true x want k d c hg hd hal hx (fun hp hx a w hC hE=>h hp hx a w hC (e w hC) hE) hr
theorem gF {p x want:Bool} {k:Nat} {d:Tmp} {c:Value} {E:World->Prop} (e:∀w,C w->E w) (hr:Aq P ops C X a0 Fin (i+1) rest ((o.dst,Ao (p&&(x==want)) c)::acc)) (hg:o.guard=some (k,want):=by exact rfl) (hd:Cf ops k=some d:=by exact rfl) (hal:Az o=false:=by exact rfl)
  (hx:∀v w,Aj a0 acc d v w->if p=true then v= .bool x else v=undef:=by
   intro v W' h
   exact h)
  (h:p=true->x=want->∀(a:Act) (w:World),C w->E w->(∀s∈o.looksAt ops,Aj a0 acc s (a.tmps.getD s undef) w)->(execOp a.eval o).run P w= .ok (.value c) w:=by
   intro hp hx a W' hC hX hE
   simp only[Bc,Bz,Rc] at hC
   try simp only[Nat.zero_mul,Nat.one_mul,Nat.add_zero,Nat.zero_add] at hX
   try simp at hp
   try simp at hx
   simp[Oper.looksAt,Op.operands,Call.operands,Aj,Det,Ao,hp,hx] at hE
   simp[go_sem,Act.eval,iw,hE,hC,hX]
   try rfl):Aq P ops C X a0 Fin i (o::rest) acc:=Am p x want k d c hg hd hal hx (fun hp hx a w hC hE=>h hp hx a w hC (e w hC) hE) hr
theorem cE {f:FuncId} {args:Array Value} {c:Value} {E:World->Prop} (e:∀w,C w->E w) (hc:∀w,C w->Calls P f args w fun e w'=>e= .returned c/\Below w.heap.size w w') (hr:Aq P ops C X a0 Fin (i+1) rest ((o.dst,Det c)::acc)) (hg:o.guard=none:=by exact rfl) (hal:Az o=false:=by exact rfl)
  (h:∀(a:Act) (w:World),C w->E w->(∀s∈o.looksAt ops,Aj a0 acc s (a.tmps.getD s undef) w)->(execOp a.eval o).run P w= .ok (.enter f args) w:=by
   intro a W' hC hX hE
   simp only[Bc,Bz,Rc] at hC
   try simp only[Nat.zero_mul,Nat.one_mul,Nat.add_zero,Nat.zero_add] at hX
   first
    |(simp[Oper.looksAt,Op.operands,Call.operands,Aj,Det] at hE;simp[go_sem,Act.eval,iw,hE,hC,hX];try rfl)
    |(clear hE;simp[go_sem,Act.eval,iw,hC,hX];try rfl)):Aq P ops C X a0 Fin i (o::rest) acc:=Bg hg hal hc (fun a w hC hE=>h a w hC (e w hC) hE) hr
theorem aI {a b:Prop} (x:a) (y:b):a/\b:=⟨x,y⟩
theorem cG {f:FuncId} {args:Array Value} {c:Value} {x want:Bool} {k:Nat} {d:Tmp} (hc:true=true->x=want->∀w,C w->Calls P f args w fun e w'=>e= .returned c/\Below w.heap.size w w')
  (hr:Aq P ops C X a0 Fin (i+1) rest ((o.dst,Ao (true&&(x==want)) c)::acc)) (hg:o.guard=some (k,want):=by exact rfl) (hd:Cf ops k=some d:=by exact rfl) (hal:Az o=false:=by exact rfl)
  (hx:∀v w,Aj a0 acc d v w->if true=true then v= .bool x else v=undef:=by
   intro v W' h
   simp[Aj,Det,Ao] at h
   simp
   exact h)
  (h:true=true->x=want->∀(a:Act) (w:World),C w->(∀s∈o.looksAt ops,Aj a0 acc s (a.tmps.getD s undef) w)->(execOp a.eval o).run P w= .ok (.enter f args) w:=by
   intro hp hx a W' hC hE
   simp only[Bc,Bz,Rc] at hC
   first
    |(simp[Oper.looksAt,Op.operands,Call.operands,Aj,Det,Ao,hx] at hE;simp[go_sem,Act.eval,iw,hE,hC];try rfl)
    |(clear hE;simp[go_sem,Act.eval,iw,hC];try rfl)):Aq P ops C X a0 Fin i (o::rest) acc:=Cj true x want k d hg hd hal hx hc h hr
end
section
variable {P:Program} {Q:Exit->Act->World->Prop} {a0:Act} {id:Nat} {l:List Oper} {w0 W:World} {R:World->Prop}
theorem Br (n m:Nat) (hW:Below w0.heap.size w0 W) (hR:R W)
  (h:Aq P l.toArray (fun W'=>Rex [] W W'/\R W') [] a0 (fun acc=>∀w,Below w0.heap.size w0 w->w0.heap.size<=w.heap.size->R w->Ar w a0 acc fun a=>wpList P l.toArray Q (l.drop n) a w) 0 (l.take n) [])
  (hf:P.follows .mixedOrders=true:=by exact Cd) (hB:okB l.toArray n m=true:=by kernel_rfl) (hm:m=a0.tmps.size:=by exact rfl)
  (hcl:Cl R:=by repeat (first|exact Cl.z|refine Cl.b ?_|refine Cl.r (fun w w' h hr=>h.rex hr (by simp<;>omega)) ?_))
  (hQ:∀c a d v w,Q (.panic c) (Act.put a d v) w->Q (.panic c) a w:=by exact fun c a d v w h=>by cases d<;>exact h):(Code.region id l.toArray true).wp P Q a0 W:=
 An n m [] (fun W'=>Rex [] W W'/\R W') hf hB hm ⟨(Rex.refl _ _).drew,hcl _ _ hR (Rex.refl _ _).drew⟩ (fun _ _ h hr=>⟨h.1.trans hr,hcl _ _ h.2 hr⟩) hQ
  (Ft (fun acc hacc w hc=>hacc w (hW.trans (hc.1.of_priv hW.size)) (hW.trans (hc.1.of_priv hW.size)).size hc.2) _ _ _ h)
theorem C2 (n m:Nat) (hW:Below w0.heap.size w0 W) (hR:R W)
  (h:Aq P l.toArray (fun W'=>Rex [] W W'/\R W') [] a0 (fun acc=>∀w,Below w0.heap.size w0 w->w0.heap.size<=w.heap.size->R w->Ar w a0 acc fun a=>wpList P l.toArray Q (l.drop n) a w) 0 (l.take n) [])
  (hf:P.follows .mixedOrders=true:=by exact Cd) (hB:okB l.toArray n m=true:=by kernel_rfl) (hm:m=a0.tmps.size:=by exact rfl)
  (hcl:Cl R:=by repeat (first|exact Cl.z|refine Cl.b ?_|refine Cl.r (fun w w' h hr=>h.rex hr (by simp<;>omega)) ?_))
  (hn:l.drop n= []:=by exact rfl):(Code.region id l.toArray true).wp P Q a0 W:=
 Ed n m [] (fun W'=>Rex [] W W'/\R W') hf hB hm ⟨(Rex.refl _ _).drew,hcl _ _ hR (Rex.refl _ _).drew⟩ (fun _ _ h hr=>⟨h.1.trans hr,hcl _ _ h.2 hr⟩) hn
  (Ft (fun acc hacc w hc=>hacc w (hW.trans (hc.1.of_priv hW.size)) (hW.trans (hc.1.of_priv hW.size)).size hc.2) _ _ _ h)
theorem B3 (n m:Nat) (hW:Below w0.heap.size w0 W) (hR:R W)
  (h:Aq P l.toArray (fun W'=>Rex [] W W'/\R W') [] a0 (fun acc=>∀w,Below w0.heap.size w0 w->w0.heap.size<=w.heap.size->R w->Ar w a0 acc fun a=>wpList P l.toArray Q (l.drop n) a w) 0 (l.take n) [])
  (hB:InB m l=true:=by kernel_rfl) (hm:m=a0.tmps.size:=by exact rfl)
  (hcl:Cl R:=by repeat (first|exact Cl.z|refine Cl.b ?_|refine Cl.r (fun w w' h hr=>h.rex hr (by simp<;>omega)) ?_)):(Code.region id l.toArray false).wp P Q a0 W:=
 Dk n m [] (fun W'=>Rex [] W W'/\R W') hB hm ⟨Rex.refl _ _,hR⟩ (fun _ _ h hr=>⟨h.1.trans hr,hcl _ _ h.2 hr⟩)
  (Ft (fun acc hacc w hc=>hacc w (hW.trans (hc.1.of_priv hW.size)) (hW.trans (hc.1.of_priv hW.size)).size hc.2) _ _ _ h)
end
theorem ndR :(∀(w:World) (a0:Act) (K:Act->Prop),Ar w a0 [] K=K a0)/\(∀(w:World) (a0:Act) (K:Act->Prop) (d:Option Tmp) (Φ:Bo) (r:List (Option Tmp×Bo)),Ar w a0 ((d,Φ)::r) K=Ar w a0 r fun a=>∀v,Φ v w->K (a.put d v))/\
  (∀(c:Value) (w:World) (K:Value->Prop),(∀v,Det c v w->K v)↔K c):=⟨fun _ _ _=>rfl,fun _ _ _ _ _ _=>rfl,fun _ _ _=>⟨fun h=>h _ rfl,fun h _ e=>e▸h⟩⟩
theorem ndS :(∀(a:Act) (d:Tmp) (v:Value),Act.put a (some d) v= {a with tmps:=a.tmps.setIfInBounds d v})/\(∀(a:Act) (v:Value),Act.put a none v=a)/\(∀(l:List Value) (i:Nat) (a:Value),l.toArray.setIfInBounds i a=(l.set i a).toArray)/\
  (∀(a b:Value) (l:List Value),(a::l).set 0 b=b::l)/\(∀(a b:Value) (l:List Value) (i:Nat),(a::l).set (i+1) b=a::l.set i b)/\(∀(a:Oper) (l:List Oper) (i:Nat),(a::l).drop (i+1)=l.drop i)/\(∀l:List Oper,l.drop 0=l):=
 ⟨fun _ _ _=>rfl,fun _ _=>rfl,fun _ _ _=>List.setIfInBounds_toArray ..,fun _ _ _=>rfl,fun _ _ _ _=>rfl,fun _ _ _=>rfl,fun _=>rfl⟩
def Bk (A R n d t:Int):Int:=(n*t+R)/d+A
def lineRest (R n d t:Int):Int:=(n*t+R)%d
structure M6 (A R n d:Int):Prop where
 A0: -2305844108725321728<=A
 A1:A<=2305844108725321728
 n0: -4611688217450643456<=n
 n1:n<=4611688217450643456
 d0:1<=d
 d1:d<=281474976710656
 g:Jh n d=1
 R0:0<=R
 R1:R<d
theorem Jo {A R n d:Int}:Cw A R n d=true↔M6 A R n d:=by
 unfold Cw A6 Fl
 simp
 constructor
 ·rintro⟨⟨⟨⟨⟨_,_⟩,⟨⟨_,_⟩,_⟩,_⟩,_⟩,_⟩,_⟩;constructor<;>assumption
 ·rintro⟨_,_,_,_,_,_,_,_,_⟩;refine⟨⟨⟨⟨⟨?_,?_⟩,⟨⟨?_,?_⟩,?_⟩,?_⟩,?_⟩,?_⟩,?_⟩<;>assumption
theorem P6 (s:Int) {d:Int} (hd:1<=d):(s<=s/d/\s/d<=0)∨(0<=s/d/\s/d<=s):=by
 rcases Int.lt_or_le s 0 with k|k
 ·have h1:s/d<0:=Int.ediv_neg_of_neg_of_pos k (by omega)
  have h2:s<=s/d:=Int.le_ediv_of_mul_le (by omega) (by have:=Int.mul_le_mul_of_nonneg_left (a:=1) (b:=d) (c:= -s) hd (by omega);rw[Int.neg_mul,Int.neg_mul] at this;omega)
  exact .inl ⟨h2,by omega⟩
 ·exact .inr ⟨Int.ediv_nonneg k (by omega),Int.ediv_le_self _ k⟩
theorem div_W128 {s d:Int} (h:Bt s) (hd:1<=d):Bt (s/d):=by
 obtain⟨_,_⟩:=h;have:=P6 s hd;exact⟨by omega,by omega⟩
theorem c_over (A R n d t:Int) (w:World) (h:M6 A R n d) (ht:0<=t) (ht':t<=281474976710656):
  Cb 227 #[.agg #[A,R,n,d],t] w (.tuple #[B4 (Bk A R n d t),.int .i64 (lineRest R n d t)]):=by
 have hA0:=h.A0;have hA1:=h.A1;have hn0:=h.n0;have hn1:=h.n1;have hd0:=h.d0;have hd1:=h.d1;have hR0:=h.R0;have hR1:=h.R1
 have m0:(n*t).natAbs<=4611688217450643456*281474976710656:=by
  rw[Int.natAbs_mul];exact Nat.mul_le_mul (by omega) (by omega)
 have p1: -1298074833603726549822761531867136<=n*t/\n*t<=1298074833603726549822761531867136:=by omega
 have w1:Bt (n*t+R):=⟨by omega,by omega⟩
 have q1:=div_W128 w1 hd0
 have q2: -1298074833603726549822761531867136*1-1<=(n*t+R)/d/\(n*t+R)/d<=1298074833603726549822761531867136*2:=by
  have:=P6 (n*t+R) hd0;omega
 have w2:Bt ((n*t+R)/d+A):=⟨by omega,by omega⟩
 have z1:I64 n:=⟨by omega,by omega⟩
 have z2:I64 t:=⟨by omega,by omega⟩
 have z3:I64 R:=⟨by omega,by omega⟩
 have z4:I64 A:=⟨by omega,by omega⟩
 have c3:=fun w=>S0 (n*t) R w (Xg z1 z2) z3.w
 have c6:=fun w=>S0 ((n*t+R)/d) A w q1 z4.w
 rw[Ka w1,Dv w1] at c3
 rw[Ka w2,Dv w2] at c6
 exact over_w A R n d t _ _ _ _ _ _ _ _ _ _ _ _ _ _ _ w (fun w=>c_Mul n t w z1 z2) (fun w=>Rt R w z3) c3 (fun w=>Wu (n*t+R) d w w1 hd0 (by omega)) (fun w=>Rt A w z4) c6
theorem value_ok (A R n d t oh ol rest v:Int) (w:World)
  (c1:∀w,Cb 227 #[.agg #[A,R,n,d],t] w (.tuple #[.agg #[oh,.int .u64 ol],rest]))
  (c2:∀w,Cb 60 #[.agg #[oh,.int .u64 ol]] w (.tuple #[v,.int .i64 0]))
  (c3:∀w,Cb 224 #[v] w (.bool true)):
  Cb 206 #[.agg #[A,R,n,d],t] w (.tuple #[v,.int .i64 0]):=by
 have H_c1:=Hd c1
 clear c1
 have H_c2:=Hd c2
 clear c2
 have H_c3:=Hd c3
 clear c3
 go_enter Tryz.func206,Tryz.ntmps206
 go_upto_region 1 with(fail)
 refine Ad w (Bc w.heap.size #[A,R,n,d] 282<|Bz) ?_
 rintro W1 hW z2 ⟨⟨b1,yb1,k1,f1⟩,-⟩
 go_wp2_with fail
 refine(H_c1.out _).mono ?_
 rintro e w3 ⟨rfl,hb3⟩
 have z4:=hb3.size
 try simp at z4
 clear k1 f1
 refine Ae w w3 (Bc w.heap.size #[A,R,n,d] 282<|Bz) ?_
 clear b1 hW
 rintro hW z5 ⟨⟨b1,yb1,k1,f1⟩,-⟩
 clear hb3
 go_wp2_with fail
 refine(H_c2.out _).mono ?_
 rintro e w6 ⟨rfl,hb6⟩
 have z7:=hb6.size
 try simp at z7
 clear k1 f1
 refine Ae w w6 (Bc w.heap.size #[A,R,n,d] 282<|Bz) ?_
 clear b1 hW
 rintro hW z8 ⟨⟨b1,yb1,k1,f1⟩,-⟩
 clear hb6
 go_upto_region 3 with(fail)
 clear k1 f1
 refine Ad w (Bc w.heap.size #[A,R,n,d] 282<|Bz) ?_
 clear b1 hW
 rintro W9 hW z10 hL
 refine B3 7 29 hW hL ?_
 iterate 3 refine dA ?_
 refine gA ?_
 refine cG (fun hp hx W' hC=>H_c3.out W') ?_
 refine gA ?_
 refine pO ?_
 clear hW hL
 rintro W11 hW z12 hL
 simp only[ndR]
 intros
 repeat (rename Ao _ _ _ _=>hgd;clear hgd)
 simp only[ndS]
 refine wpList_nil ?_
 obtain⟨⟨b1,yb1,k1,f1⟩,-⟩:=hL
 go_wp2
 refine bodyPost_ret (by simp[results,Tryz.results206,go_sem,k1,f1,yb1]) rfl ⟨rfl,by exact Aa⟩
theorem Xo (A R n d t oh ol rest v:Int) (w:World)
  (c1:∀w,Cb 227 #[.agg #[A,R,n,d],t] w (.tuple #[.agg #[oh,.int .u64 ol],rest]))
  (c2:∀w,Cb 60 #[.agg #[oh,.int .u64 ol]] w (.tuple #[v,.int .i64 0]))
  (c3:∀w,Cb 224 #[v] w (.bool false)):
  Cb 206 #[.agg #[A,R,n,d],t] w (.tuple #[.int .i64 0,.int .i64 5]):=by
 have H_c1:=Hd c1
 clear c1
 have H_c2:=Hd c2
 clear c2
 have H_c3:=Hd c3
 clear c3
 go_enter Tryz.func206,Tryz.ntmps206
 go_upto_region 1 with(fail)
 refine Ad w (Bc w.heap.size #[A,R,n,d] 282<|Bz) ?_
 rintro W1 hW z2 ⟨⟨b1,yb1,k1,f1⟩,-⟩
 go_wp2_with fail
 refine(H_c1.out _).mono ?_
 rintro e w3 ⟨rfl,hb3⟩
 have z4:=hb3.size
 try simp at z4
 clear k1 f1
 refine Ae w w3 (Bc w.heap.size #[A,R,n,d] 282<|Bz) ?_
 clear b1 hW
 rintro hW z5 ⟨⟨b1,yb1,k1,f1⟩,-⟩
 clear hb3
 go_wp2_with fail
 refine(H_c2.out _).mono ?_
 rintro e w6 ⟨rfl,hb6⟩
 have z7:=hb6.size
 try simp at z7
 clear k1 f1
 refine Ae w w6 (Bc w.heap.size #[A,R,n,d] 282<|Bz) ?_
 clear b1 hW
 rintro hW z8 ⟨⟨b1,yb1,k1,f1⟩,-⟩
 clear hb6
 go_upto_region 3 with(fail)
 clear k1 f1
 refine Ad w (Bc w.heap.size #[A,R,n,d] 282<|Bz) ?_
 clear b1 hW
 rintro W9 hW z10 hL
 refine B3 7 29 hW hL ?_
 iterate 3 refine dA ?_
 refine gA ?_
 refine cG (fun hp hx W' hC=>H_c3.out W') ?_
 refine gA ?_
 refine pO ?_
 clear hW hL
 rintro W11 hW z12 hL
 simp only[ndR]
 intros
 repeat (rename Ao _ _ _ _=>hgd;clear hgd)
 simp only[ndS]
 refine wpList_nil ?_
 obtain⟨⟨b1,yb1,k1,f1⟩,-⟩:=hL
 go_wp2
 refine bodyPost_ret (by simp[results,Tryz.results206,go_sem,k1,f1,yb1]) rfl ⟨rfl,by exact Aa⟩
theorem Xn (A R n d t oh ol rest v:Int) (w:World)
  (c1:∀w,Cb 227 #[.agg #[A,R,n,d],t] w (.tuple #[.agg #[oh,.int .u64 ol],rest]))
  (c2:∀w,Cb 60 #[.agg #[oh,.int .u64 ol]] w (.tuple #[v,.int .i64 5]))
  (c3:∀w,Cb 224 #[v] w (.bool true)):
  Cb 206 #[.agg #[A,R,n,d],t] w (.tuple #[.int .i64 0,.int .i64 5]):=by
 have H_c1:=Hd c1
 clear c1
 have H_c2:=Hd c2
 clear c2
 have H_c3:=Hd c3
 clear c3
 go_enter Tryz.func206,Tryz.ntmps206
 go_upto_region 1 with(fail)
 refine Ad w (Bc w.heap.size #[A,R,n,d] 282<|Bz) ?_
 rintro W1 hW z2 ⟨⟨b1,yb1,k1,f1⟩,-⟩
 go_wp2_with fail
 refine(H_c1.out _).mono ?_
 rintro e w3 ⟨rfl,hb3⟩
 have z4:=hb3.size
 try simp at z4
 clear k1 f1
 refine Ae w w3 (Bc w.heap.size #[A,R,n,d] 282<|Bz) ?_
 clear b1 hW
 rintro hW z5 ⟨⟨b1,yb1,k1,f1⟩,-⟩
 clear hb3
 go_wp2_with fail
 refine(H_c2.out _).mono ?_
 rintro e w6 ⟨rfl,hb6⟩
 have z7:=hb6.size
 try simp at z7
 clear k1 f1
 refine Ae w w6 (Bc w.heap.size #[A,R,n,d] 282<|Bz) ?_
 clear b1 hW
 rintro hW z8 ⟨⟨b1,yb1,k1,f1⟩,-⟩
 clear hb6
 go_wp2
 refine bodyPost_ret (by simp[results,Tryz.results206,go_sem,k1,f1,yb1]) rfl ⟨rfl,by exact Aa⟩
theorem back_in {o:Int} (h:A6 o=true):I64 o:=by unfold A6 at h;simp at h;unfold I64;omega
theorem Tt {A R n d t:Int} (h:M6 A R n d) (ht:0<=t) (ht':t<=281474976710656):Bt (Bk A R n d t):=by
 have hA0:=h.A0;have hA1:=h.A1;have hn0:=h.n0;have hn1:=h.n1;have hd0:=h.d0;have hd1:=h.d1;have hR0:=h.R0;have hR1:=h.R1
 have m0:(n*t).natAbs<=4611688217450643456*281474976710656:=by
  rw[Int.natAbs_mul];exact Nat.mul_le_mul (by omega) (by omega)
 have:=P6 (n*t+R) hd0
 unfold Bk
 exact⟨by omega,by omega⟩
theorem c_value (A R n d t:Int) (w:World) (h:M6 A R n d) (ht:0<=t) (ht':t<=281474976710656):
  Cb 206 #[.agg #[A,R,n,d],t] w (.tuple #[.int .i64 (wv (A6 (Bk A R n d t)) (Bk A R n d t)),.int .i64 (we (A6 (Bk A R n d t)))]):=by
 have c1:=fun w=>c_over A R n d t w h ht ht'
 have c2:=fun w=>Wt (Bk A R n d t) w (Tt h ht ht')
 have c3:=fun w=>Zl (Bk A R n d t) w
 cases hb:A6 (Bk A R n d t) with
 |true=>
  rw[inI_in (back_in hb)] at c2
  rw[hb] at c3
  exact value_ok A R n d t _ _ _ _ w c1 c2 c3
 |false=>
  cases hi:inI (Bk A R n d t) with
  |true=>
   rw[hi] at c2
   rw[hb] at c3
   exact Xo A R n d t _ _ _ _ w c1 c2 c3
  |false=>
   rw[hi] at c2
   exact Xn A R n d t _ _ _ _ w c1 c2 (fun w=>Zl 0 w)
def Tv (t:Int):Bool:=decide (0<=t)&&decide (t<=281474976710656)
theorem Qz {t:Int}:Tv t=true↔0<=t/\t<=281474976710656:=by unfold Tv;simp
theorem Wg (t:Int) (w:World):Cb 205 #[t] w (.bool (Tv t)):=by
 unfold Tv
 go_enter Tryz.func205,Tryz.ntmps205
 go_upto_region 1 with(fail)
 refine Ad w (Bz) ?_
 rintro W1 hW z2 hL
 refine B3 7 9 hW hL ?_
 iterate 3 refine dA ?_
 iterate 2 refine gA ?_
 refine pA ?_
 refine dA ?_
 clear hW hL
 rintro W3 hW z4 hL
 simp only[ndR]
 intros
 repeat (rename Ao _ _ _ _=>hgd;clear hgd)
 simp only[ndS]
 refine wpList_nil ?_
 obtain⟨-⟩:=hL
 go_wp2
 refine bodyPost_ret (by simp[results,Tryz.results205,go_sem]) rfl ⟨rfl,by exact Aa⟩
theorem check_ok (A R n d:Int) (w:World)
  (c1:∀w,Cb 204 #[.agg #[A,R,n,d]] w (.bool true)):
  Cb 233 #[.agg #[A,R,n,d]] w (.int .i64 0):=by
 have H_c1:=Hd c1
 clear c1
 go_enter Tryz.func233,Tryz.ntmps233
 go_wp2_with fail
 refine(H_c1.out _).mono ?_
 rintro e w1 ⟨rfl,hb1⟩
 have z2:=hb1.size
 try simp at z2
 refine Ae w w1 (Bz) ?_
 rintro hW z3 ⟨-⟩
 clear hb1
 go_wp2
 refine bodyPost_ret (by simp[results,Tryz.results233,go_sem]) rfl ⟨rfl,by exact Aa⟩
theorem check_no (A R n d:Int) (w:World)
  (c1:∀w,Cb 204 #[.agg #[A,R,n,d]] w (.bool false)):
  Cb 233 #[.agg #[A,R,n,d]] w (.int .i64 150):=by
 have H_c1:=Hd c1
 clear c1
 go_enter Tryz.func233,Tryz.ntmps233
 go_wp2_with fail
 refine(H_c1.out _).mono ?_
 rintro e w1 ⟨rfl,hb1⟩
 have z2:=hb1.size
 try simp at z2
 refine Ae w w1 (Bz) ?_
 rintro hW z3 ⟨-⟩
 clear hb1
 go_wp2
 refine bodyPost_ret (by simp[results,Tryz.results233,go_sem]) rfl ⟨rfl,by exact Aa⟩
def eLine (b:Bool):Int:=if b=true then 0 else 150
theorem c_Check (A R n d:Int) (w:World):Cb 233 #[.agg #[A,R,n,d]] w (.int .i64 (eLine (Cw A R n d))):=by
 have c1:=fun w=>c_is A R n d w
 cases h:Cw A R n d with
 |true=>rw[h] at c1;exact check_ok A R n d w c1
 |false=>rw[h] at c1;exact check_no A R n d w c1
theorem Oc (A R n d t v e:Int) (g:Nat) (w:World) (hg:Blk w g #[.func (.func 206) #[.agg #[A,R,n,d]] #[]] 283)
  (c1:∀w,Cb 206 #[.agg #[A,R,n,d],t] w (.tuple #[v,e])):
  Cb 230 #[t,.pointer (some ⟨g,0,none⟩)] w (.tuple #[v,e]):=by
 have H_c1:=Hd c1
 clear c1
 have b1:=hg
 go_enter Tryz.func230,Tryz.ntmps230
 go_upto_region 1 with(fail)
 refine Ad w (Bc g #[.func (.func 206) #[.agg #[A,R,n,d]] #[]] 283<|Bz) ?_
 clear b1
 rintro W1 hW z2 ⟨⟨b1,yb1,k1,f1⟩,-⟩
 go_wp2_with fail
 refine(H_c1.out _).mono ?_
 rintro e w3 ⟨rfl,hb3⟩
 have z4:=hb3.size
 try simp at z4
 clear k1 f1
 refine Ae w w3 (Bc g #[.func (.func 206) #[.agg #[A,R,n,d]] #[]] 283<|Bz) ?_
 clear b1 hW
 rintro hW z5 ⟨⟨b1,yb1,k1,f1⟩,-⟩
 clear hb3
 go_wp2
 refine bodyPost_ret (by simp[results,Tryz.results230,go_sem,k1,f1,yb1]) rfl ⟨rfl,by exact Aa⟩
theorem both_ok (A R n d a b va vb:Int) (g:Nat) (w:World) (hg:Blk w g #[.func (.func 206) #[.agg #[A,R,n,d]] #[]] 283)
  (c1:∀w,Blk w g #[.func (.func 206) #[.agg #[A,R,n,d]] #[]] 283->Cb 230 #[a,.pointer (some ⟨g,0,none⟩)] w (.tuple #[va,.int .i64 0]))
  (c2:∀w,Blk w g #[.func (.func 206) #[.agg #[A,R,n,d]] #[]] 283->Cb 230 #[b,.pointer (some ⟨g,0,none⟩)] w (.tuple #[vb,.int .i64 0])):
  Cb 229 #[.agg #[a,b],.func (.func 230) #[] #[.pointer (some ⟨g,0,none⟩)]] w (.tuple #[.agg #[va,vb],.int .i64 0]):=by
 have y0:=hg.lt
 have hix0:∀(x y:Int) (w:World),(Instr.index 101 (.agg #[x,y]) (.int .i64 0)).run Tryz.prog w= .ok (x) w:=by intros;kernel_rfl
 have hix1:∀(x y:Int) (w:World),(Instr.index 101 (.agg #[x,y]) (.int .i64 1)).run Tryz.prog w= .ok (y) w:=by intros;kernel_rfl
 have H_c1:=Hd c1
 clear c1
 have H_c2:=Hd c2
 clear c2
 go_enter Tryz.func229,Tryz.ntmps229
 go_wp2
 go_step3
 go_upto_region 2 with(fail)
 refine Ad w (Bc w.heap.size #[a,b] 101<|Bc (w.heap.size+1) #[.int .i64 0,.int .i64 0] 101<|Bc (w.heap.size+2) #[.int .i64 0,.int .i64 0] 101<|Bc g #[.func (.func 206) #[.agg #[A,R,n,d]] #[]] 283<|Bz) ?_
 rintro W1 hW z2 ⟨⟨b1,yb1,k1,f1⟩,⟨b2,yb2,k2,f2⟩,⟨b3,yb3,k3,f3⟩,⟨b4,yb4,k4,f4⟩,-⟩
 go_wp2
 go_step3
 go_wp2
 refine wp_loop_rounds 3 ?_
 rw[rounds_succ]
 go_wp2_with fail
 refine(H_c1.out _ (A3)).mono ?_
 rintro e w3 ⟨rfl,hb3⟩
 have z4:=hb3.size
 try simp at z4
 clear k1 f1 k2 f2 k3 f3 k4 f4
 refine Ae w w3 (Bc w.heap.size #[a,b] 101<|Bc (w.heap.size+1) #[.int .i64 0,.int .i64 0] 101<|Bc (w.heap.size+2) #[.int .i64 0,.int .i64 0] 101<|Bc g #[.func (.func 206) #[.agg #[A,R,n,d]] #[]] 283<|Bz) ?_
 clear b1 b2 b3 b4 hW
 rintro hW z5 ⟨⟨b1,yb1,k1,f1⟩,⟨b2,yb2,k2,f2⟩,⟨b3,yb3,k3,f3⟩,⟨b4,yb4,k4,f4⟩,-⟩
 clear hb3
 go_upto_region 6 with(fail)
 clear k1 f1 k2 f2 k3 f3 k4 f4
 refine Ad w (Bc w.heap.size #[a,b] 101<|Bc (w.heap.size+1) #[.int .i64 0,.int .i64 0] 101<|Bc (w.heap.size+2) #[.int .i64 0,.int .i64 0] 101<|Bc g #[.func (.func 206) #[.agg #[A,R,n,d]] #[]] 283<|Bz) ?_
 clear b1 b2 b3 b4 hW
 rintro W6 hW z7 ⟨⟨b1,yb1,k1,f1⟩,⟨b2,yb2,k2,f2⟩,⟨b3,yb3,k3,f3⟩,⟨b4,yb4,k4,f4⟩,-⟩
 go_wp2
 rw[rounds_succ]
 go_wp2_with fail
 refine(H_c2.out _ (A3)).mono ?_
 rintro e w8 ⟨rfl,hb8⟩
 have z9:=hb8.size
 try simp at z9
 clear k1 f1 k2 f2 k3 f3 k4 f4
 refine Ae w w8 (Bc w.heap.size #[a,b] 101<|Bc (w.heap.size+1) #[.int .i64 0,.int .i64 0] 101<|Bc (w.heap.size+2) #[va,.int .i64 0] 101<|Bc g #[.func (.func 206) #[.agg #[A,R,n,d]] #[]] 283<|Bz) ?_
 clear b1 b2 b3 b4 hW
 rintro hW z10 ⟨⟨b1,yb1,k1,f1⟩,⟨b2,yb2,k2,f2⟩,⟨b3,yb3,k3,f3⟩,⟨b4,yb4,k4,f4⟩,-⟩
 clear hb8
 go_wp2
 rw[rounds_succ]
 go_wp2
 rw[Exit.noGoto_ret]
 refine bodyPost_ret (by simp[results,Tryz.results229,go_sem,k1,f1,k2,f2,k3,f3,k4,f4,yb1,yb2,yb3,yb4]) rfl ⟨rfl,by exact Aa⟩
theorem Zo (A R n d a b va vb:Int) (g:Nat) (w:World) (hg:Blk w g #[.func (.func 206) #[.agg #[A,R,n,d]] #[]] 283)
  (c1:∀w,Blk w g #[.func (.func 206) #[.agg #[A,R,n,d]] #[]] 283->Cb 230 #[a,.pointer (some ⟨g,0,none⟩)] w (.tuple #[.int .i64 0,.int .i64 5]))
   :
  Cb 229 #[.agg #[a,b],.func (.func 230) #[] #[.pointer (some ⟨g,0,none⟩)]] w (.tuple #[.agg #[.int .i64 0,.int .i64 0],.int .i64 5]):=by
 have y0:=hg.lt
 have hix0:∀(x y:Int) (w:World),(Instr.index 101 (.agg #[x,y]) (.int .i64 0)).run Tryz.prog w= .ok (x) w:=by intros;kernel_rfl
 have hix1:∀(x y:Int) (w:World),(Instr.index 101 (.agg #[x,y]) (.int .i64 1)).run Tryz.prog w= .ok (y) w:=by intros;kernel_rfl
 have H_c1:=Hd c1
 clear c1
 go_enter Tryz.func229,Tryz.ntmps229
 go_wp2
 go_step3
 go_upto_region 2 with(fail)
 refine Ad w (Bc w.heap.size #[a,b] 101<|Bc (w.heap.size+1) #[.int .i64 0,.int .i64 0] 101<|Bc (w.heap.size+2) #[.int .i64 0,.int .i64 0] 101<|Bc g #[.func (.func 206) #[.agg #[A,R,n,d]] #[]] 283<|Bz) ?_
 rintro W1 hW z2 ⟨⟨b1,yb1,k1,f1⟩,⟨b2,yb2,k2,f2⟩,⟨b3,yb3,k3,f3⟩,⟨b4,yb4,k4,f4⟩,-⟩
 go_wp2
 go_step3
 go_wp2
 refine wp_loop_rounds 3 ?_
 rw[rounds_succ]
 go_wp2_with fail
 refine(H_c1.out _ (A3)).mono ?_
 rintro e w3 ⟨rfl,hb3⟩
 have z4:=hb3.size
 try simp at z4
 clear k1 f1 k2 f2 k3 f3 k4 f4
 refine Ae w w3 (Bc w.heap.size #[a,b] 101<|Bc (w.heap.size+1) #[.int .i64 0,.int .i64 0] 101<|Bc (w.heap.size+2) #[.int .i64 0,.int .i64 0] 101<|Bc g #[.func (.func 206) #[.agg #[A,R,n,d]] #[]] 283<|Bz) ?_
 clear b1 b2 b3 b4 hW
 rintro hW z5 ⟨⟨b1,yb1,k1,f1⟩,⟨b2,yb2,k2,f2⟩,⟨b3,yb3,k3,f3⟩,⟨b4,yb4,k4,f4⟩,-⟩
 clear hb3
 go_wp2
 rw[Exit.noGoto_ret]
 refine bodyPost_ret (by simp[results,Tryz.results229,go_sem,k1,f1,k2,f2,k3,f3,k4,f4,yb1,yb2,yb3,yb4]) rfl ⟨rfl,by exact Aa⟩
theorem Wz (A R n d a b va vb:Int) (g:Nat) (w:World) (hg:Blk w g #[.func (.func 206) #[.agg #[A,R,n,d]] #[]] 283)
  (c1:∀w,Blk w g #[.func (.func 206) #[.agg #[A,R,n,d]] #[]] 283->Cb 230 #[a,.pointer (some ⟨g,0,none⟩)] w (.tuple #[va,.int .i64 0]))
  (c2:∀w,Blk w g #[.func (.func 206) #[.agg #[A,R,n,d]] #[]] 283->Cb 230 #[b,.pointer (some ⟨g,0,none⟩)] w (.tuple #[.int .i64 0,.int .i64 5])):
  Cb 229 #[.agg #[a,b],.func (.func 230) #[] #[.pointer (some ⟨g,0,none⟩)]] w (.tuple #[.agg #[.int .i64 0,.int .i64 0],.int .i64 5]):=by
 have y0:=hg.lt
 have hix0:∀(x y:Int) (w:World),(Instr.index 101 (.agg #[x,y]) (.int .i64 0)).run Tryz.prog w= .ok (x) w:=by intros;kernel_rfl
 have hix1:∀(x y:Int) (w:World),(Instr.index 101 (.agg #[x,y]) (.int .i64 1)).run Tryz.prog w= .ok (y) w:=by intros;kernel_rfl
 have H_c1:=Hd c1
 clear c1
 have H_c2:=Hd c2
 clear c2
 go_enter Tryz.func229,Tryz.ntmps229
 go_wp2
 go_step3
 go_upto_region 2 with(fail)
 refine Ad w (Bc w.heap.size #[a,b] 101<|Bc (w.heap.size+1) #[.int .i64 0,.int .i64 0] 101<|Bc (w.heap.size+2) #[.int .i64 0,.int .i64 0] 101<|Bc g #[.func (.func 206) #[.agg #[A,R,n,d]] #[]] 283<|Bz) ?_
 rintro W1 hW z2 ⟨⟨b1,yb1,k1,f1⟩,⟨b2,yb2,k2,f2⟩,⟨b3,yb3,k3,f3⟩,⟨b4,yb4,k4,f4⟩,-⟩
 go_wp2
 go_step3
 go_wp2
 refine wp_loop_rounds 3 ?_
 rw[rounds_succ]
 go_wp2_with fail
 refine(H_c1.out _ (A3)).mono ?_
 rintro e w3 ⟨rfl,hb3⟩
 have z4:=hb3.size
 try simp at z4
 clear k1 f1 k2 f2 k3 f3 k4 f4
 refine Ae w w3 (Bc w.heap.size #[a,b] 101<|Bc (w.heap.size+1) #[.int .i64 0,.int .i64 0] 101<|Bc (w.heap.size+2) #[.int .i64 0,.int .i64 0] 101<|Bc g #[.func (.func 206) #[.agg #[A,R,n,d]] #[]] 283<|Bz) ?_
 clear b1 b2 b3 b4 hW
 rintro hW z5 ⟨⟨b1,yb1,k1,f1⟩,⟨b2,yb2,k2,f2⟩,⟨b3,yb3,k3,f3⟩,⟨b4,yb4,k4,f4⟩,-⟩
 clear hb3
 go_upto_region 6 with(fail)
 clear k1 f1 k2 f2 k3 f3 k4 f4
 refine Ad w (Bc w.heap.size #[a,b] 101<|Bc (w.heap.size+1) #[.int .i64 0,.int .i64 0] 101<|Bc (w.heap.size+2) #[.int .i64 0,.int .i64 0] 101<|Bc g #[.func (.func 206) #[.agg #[A,R,n,d]] #[]] 283<|Bz) ?_
 clear b1 b2 b3 b4 hW
 rintro W6 hW z7 ⟨⟨b1,yb1,k1,f1⟩,⟨b2,yb2,k2,f2⟩,⟨b3,yb3,k3,f3⟩,⟨b4,yb4,k4,f4⟩,-⟩
 go_wp2
 rw[rounds_succ]
 go_wp2_with fail
 refine(H_c2.out _ (A3)).mono ?_
 rintro e w8 ⟨rfl,hb8⟩
 have z9:=hb8.size
 try simp at z9
 clear k1 f1 k2 f2 k3 f3 k4 f4
 refine Ae w w8 (Bc w.heap.size #[a,b] 101<|Bc (w.heap.size+1) #[.int .i64 0,.int .i64 0] 101<|Bc (w.heap.size+2) #[va,.int .i64 0] 101<|Bc g #[.func (.func 206) #[.agg #[A,R,n,d]] #[]] 283<|Bz) ?_
 clear b1 b2 b3 b4 hW
 rintro hW z10 ⟨⟨b1,yb1,k1,f1⟩,⟨b2,yb2,k2,f2⟩,⟨b3,yb3,k3,f3⟩,⟨b4,yb4,k4,f4⟩,-⟩
 clear hb8
 go_wp2
 rw[Exit.noGoto_ret]
 refine bodyPost_ret (by simp[results,Tryz.results229,go_sem,k1,f1,k2,f2,k3,f3,k4,f4,yb1,yb2,yb3,yb4]) rfl ⟨rfl,by exact Aa⟩
theorem ends_no (A R n d a b va vb e:Int) (w:World)
  (c1:∀w,Cb 204 #[.agg #[A,R,n,d]] w (.bool false))
   :
  Cb 215 #[.agg #[A,R,n,d],a,b] w (.tuple #[.agg #[.int .i64 0,.int .i64 0],.int .i64 150]):=by
 have hmf:∀(fn:Fn) (first cap:Array Value) (w:World),(Instr.makeFunc fn first cap).run Tryz.prog w= .ok (.func fn first cap) w:=fun _ _ _ _=>rfl
 have H_c1:=Hd c1
 clear c1
 go_enter Tryz.func215,Tryz.ntmps215
 go_upto_region 1 with(fail)
 refine Ad w (Bc w.heap.size #[A,R,n,d] 95<|Bc (w.heap.size+1) #[.int .i64 0,.int .i64 0] 33<|Bz) ?_
 rintro W1 hW z2 ⟨⟨b1,yb1,k1,f1⟩,⟨b2,yb2,k2,f2⟩,-⟩
 go_wp2_with fail
 refine(H_c1.out _).mono ?_
 rintro e w3 ⟨rfl,hb3⟩
 have z4:=hb3.size
 try simp at z4
 clear k1 f1 k2 f2
 refine Ae w w3 (Bc w.heap.size #[A,R,n,d] 95<|Bc (w.heap.size+1) #[.int .i64 0,.int .i64 0] 33<|Bc W1.heap.size #[A,R,n,d] 282<|Bz) ?_
 clear b1 b2 hW
 rintro hW z5 ⟨⟨b1,yb1,k1,f1⟩,⟨b2,yb2,k2,f2⟩,⟨b3,yb3,k3,f3⟩,-⟩
 clear hb3
 go_wp2
 refine bodyPost_ret (by simp[results,Tryz.results215,go_sem,k1,f1,k2,f2,k3,f3,yb1,yb2,yb3]) rfl ⟨rfl,by exact Aa⟩
theorem ends_lt (A R n d a b va vb e:Int) (w:World) (hle:decide (b<a)=false) (h:va<vb)
  (c1:∀w,Cb 204 #[.agg #[A,R,n,d]] w (.bool true))
  (c2:∀w,Cb 205 #[a] w (.bool true))
  (c3:∀w,Cb 205 #[b] w (.bool true))
  (c4:∀w g,Blk w g #[.func (.func 206) #[.agg #[A,R,n,d]] #[]] 283->Cb 229 #[.agg #[a,b],.func (.func 230) #[] #[.pointer (some ⟨g,0,none⟩)]] w (.tuple #[.agg #[va,vb],e])):
  Cb 215 #[.agg #[A,R,n,d],a,b] w (.tuple #[.agg #[va,vb],e]):=by
 have hmf:∀(fn:Fn) (first cap:Array Value) (w:World),(Instr.makeFunc fn first cap).run Tryz.prog w= .ok (.func fn first cap) w:=fun _ _ _ _=>rfl
 have H_c1:=Hd c1
 clear c1
 have H_c2:=Hd c2
 clear c2
 have H_c3:=Hd c3
 clear c3
 have H_c4:=Hd c4
 clear c4
 go_enter Tryz.func215,Tryz.ntmps215
 go_upto_region 1 with(fail)
 refine Ad w (Bc w.heap.size #[A,R,n,d] 95<|Bc (w.heap.size+1) #[.int .i64 0,.int .i64 0] 33<|Bz) ?_
 rintro W1 hW z2 ⟨⟨b1,yb1,k1,f1⟩,⟨b2,yb2,k2,f2⟩,-⟩
 go_wp2_with fail
 refine(H_c1.out _).mono ?_
 rintro e w3 ⟨rfl,hb3⟩
 have z4:=hb3.size
 try simp at z4
 clear k1 f1 k2 f2
 refine Ae w w3 (Bc w.heap.size #[A,R,n,d] 95<|Bc (w.heap.size+1) #[.int .i64 0,.int .i64 0] 33<|Bc W1.heap.size #[A,R,n,d] 282<|Bz) ?_
 clear b1 b2 hW
 rintro hW z5 ⟨⟨b1,yb1,k1,f1⟩,⟨b2,yb2,k2,f2⟩,⟨b3,yb3,k3,f3⟩,-⟩
 clear hb3
 go_wp2_with fail
 refine(H_c2.out _).mono ?_
 rintro e w6 ⟨rfl,hb6⟩
 have z7:=hb6.size
 try simp at z7
 clear k1 f1 k2 f2 k3 f3
 refine Ae w w6 (Bc w.heap.size #[A,R,n,d] 95<|Bc (w.heap.size+1) #[.int .i64 0,.int .i64 0] 33<|Bc W1.heap.size #[A,R,n,d] 282<|Bz) ?_
 clear b1 b2 b3 hW
 rintro hW z8 ⟨⟨b1,yb1,k1,f1⟩,⟨b2,yb2,k2,f2⟩,⟨b3,yb3,k3,f3⟩,-⟩
 clear hb6
 go_wp2_with fail
 refine(H_c3.out _).mono ?_
 rintro e w9 ⟨rfl,hb9⟩
 have z10:=hb9.size
 try simp at z10
 clear k1 f1 k2 f2 k3 f3
 refine Ae w w9 (Bc w.heap.size #[A,R,n,d] 95<|Bc (w.heap.size+1) #[.int .i64 0,.int .i64 0] 33<|Bc W1.heap.size #[A,R,n,d] 282<|Bz) ?_
 clear b1 b2 b3 hW
 rintro hW z11 ⟨⟨b1,yb1,k1,f1⟩,⟨b2,yb2,k2,f2⟩,⟨b3,yb3,k3,f3⟩,-⟩
 clear hb9
 go_upto_region 6 with(fail)
 clear k1 f1 k2 f2 k3 f3
 refine Ad w (Bc w.heap.size #[A,R,n,d] 95<|Bc (w.heap.size+1) #[.int .i64 0,.int .i64 0] 33<|Bc W1.heap.size #[A,R,n,d] 282<|Bz) ?_
 clear b1 b2 b3 hW
 rintro W12 hW z13 ⟨⟨b1,yb1,k1,f1⟩,⟨b2,yb2,k2,f2⟩,⟨b3,yb3,k3,f3⟩,-⟩
 go_upto_region 7 with(fail)
 clear k1 f1 k2 f2 k3 f3
 refine Ad w (Bc w.heap.size #[A,R,n,d] 95<|Bc (w.heap.size+1) #[.int .i64 0,.int .i64 0] 33<|Bc W1.heap.size #[A,R,n,d] 282<|Bc W12.heap.size #[.func (.func 206) #[.agg #[A,R,n,d]] #[]] 283<|Bz) ?_
 clear b1 b2 b3 hW
 rintro W14 hW z15 ⟨⟨b1,yb1,k1,f1⟩,⟨b2,yb2,k2,f2⟩,⟨b3,yb3,k3,f3⟩,⟨b4,yb4,k4,f4⟩,-⟩
 go_wp2_with fail
 refine(H_c4.out _ _ (A3)).mono ?_
 rintro e w16 ⟨rfl,hb16⟩
 have z17:=hb16.size
 try simp at z17
 clear k1 f1 k2 f2 k3 f3 k4 f4
 refine Ae w w16 (Bc w.heap.size #[A,R,n,d] 95<|Bc (w.heap.size+1) #[.int .i64 0,.int .i64 0] 33<|Bc W1.heap.size #[A,R,n,d] 282<|Bc W12.heap.size #[.func (.func 206) #[.agg #[A,R,n,d]] #[]] 283<|Bz) ?_
 clear b1 b2 b3 b4 hW
 rintro hW z18 ⟨⟨b1,yb1,k1,f1⟩,⟨b2,yb2,k2,f2⟩,⟨b3,yb3,k3,f3⟩,⟨b4,yb4,k4,f4⟩,-⟩
 clear hb16
 go_wp2
 refine bodyPost_ret (by simp[results,Tryz.results215,go_sem,k1,f1,k2,f2,k3,f3,k4,f4,yb1,yb2,yb3,yb4]) rfl ⟨rfl,by exact Aa⟩
theorem ends_gt (A R n d a b va vb e:Int) (w:World) (hle:decide (b<a)=false) (h:vb<va)
  (c1:∀w,Cb 204 #[.agg #[A,R,n,d]] w (.bool true))
  (c2:∀w,Cb 205 #[a] w (.bool true))
  (c3:∀w,Cb 205 #[b] w (.bool true))
  (c4:∀w g,Blk w g #[.func (.func 206) #[.agg #[A,R,n,d]] #[]] 283->Cb 229 #[.agg #[a,b],.func (.func 230) #[] #[.pointer (some ⟨g,0,none⟩)]] w (.tuple #[.agg #[va,vb],e])):
  Cb 215 #[.agg #[A,R,n,d],a,b] w (.tuple #[.agg #[vb,va],e]):=by
 have hmf:∀(fn:Fn) (first cap:Array Value) (w:World),(Instr.makeFunc fn first cap).run Tryz.prog w= .ok (.func fn first cap) w:=fun _ _ _ _=>rfl
 have H_c1:=Hd c1
 clear c1
 have H_c2:=Hd c2
 clear c2
 have H_c3:=Hd c3
 clear c3
 have H_c4:=Hd c4
 clear c4
 go_enter Tryz.func215,Tryz.ntmps215
 go_upto_region 1 with(fail)
 refine Ad w (Bc w.heap.size #[A,R,n,d] 95<|Bc (w.heap.size+1) #[.int .i64 0,.int .i64 0] 33<|Bz) ?_
 rintro W1 hW z2 ⟨⟨b1,yb1,k1,f1⟩,⟨b2,yb2,k2,f2⟩,-⟩
 go_wp2_with fail
 refine(H_c1.out _).mono ?_
 rintro e w3 ⟨rfl,hb3⟩
 have z4:=hb3.size
 try simp at z4
 clear k1 f1 k2 f2
 refine Ae w w3 (Bc w.heap.size #[A,R,n,d] 95<|Bc (w.heap.size+1) #[.int .i64 0,.int .i64 0] 33<|Bc W1.heap.size #[A,R,n,d] 282<|Bz) ?_
 clear b1 b2 hW
 rintro hW z5 ⟨⟨b1,yb1,k1,f1⟩,⟨b2,yb2,k2,f2⟩,⟨b3,yb3,k3,f3⟩,-⟩
 clear hb3
 go_wp2_with fail
 refine(H_c2.out _).mono ?_
 rintro e w6 ⟨rfl,hb6⟩
 have z7:=hb6.size
 try simp at z7
 clear k1 f1 k2 f2 k3 f3
 refine Ae w w6 (Bc w.heap.size #[A,R,n,d] 95<|Bc (w.heap.size+1) #[.int .i64 0,.int .i64 0] 33<|Bc W1.heap.size #[A,R,n,d] 282<|Bz) ?_
 clear b1 b2 b3 hW
 rintro hW z8 ⟨⟨b1,yb1,k1,f1⟩,⟨b2,yb2,k2,f2⟩,⟨b3,yb3,k3,f3⟩,-⟩
 clear hb6
 go_wp2_with fail
 refine(H_c3.out _).mono ?_
 rintro e w9 ⟨rfl,hb9⟩
 have z10:=hb9.size
 try simp at z10
 clear k1 f1 k2 f2 k3 f3
 refine Ae w w9 (Bc w.heap.size #[A,R,n,d] 95<|Bc (w.heap.size+1) #[.int .i64 0,.int .i64 0] 33<|Bc W1.heap.size #[A,R,n,d] 282<|Bz) ?_
 clear b1 b2 b3 hW
 rintro hW z11 ⟨⟨b1,yb1,k1,f1⟩,⟨b2,yb2,k2,f2⟩,⟨b3,yb3,k3,f3⟩,-⟩
 clear hb9
 go_upto_region 6 with(fail)
 clear k1 f1 k2 f2 k3 f3
 refine Ad w (Bc w.heap.size #[A,R,n,d] 95<|Bc (w.heap.size+1) #[.int .i64 0,.int .i64 0] 33<|Bc W1.heap.size #[A,R,n,d] 282<|Bz) ?_
 clear b1 b2 b3 hW
 rintro W12 hW z13 ⟨⟨b1,yb1,k1,f1⟩,⟨b2,yb2,k2,f2⟩,⟨b3,yb3,k3,f3⟩,-⟩
 go_upto_region 7 with(fail)
 clear k1 f1 k2 f2 k3 f3
 refine Ad w (Bc w.heap.size #[A,R,n,d] 95<|Bc (w.heap.size+1) #[.int .i64 0,.int .i64 0] 33<|Bc W1.heap.size #[A,R,n,d] 282<|Bc W12.heap.size #[.func (.func 206) #[.agg #[A,R,n,d]] #[]] 283<|Bz) ?_
 clear b1 b2 b3 hW
 rintro W14 hW z15 ⟨⟨b1,yb1,k1,f1⟩,⟨b2,yb2,k2,f2⟩,⟨b3,yb3,k3,f3⟩,⟨b4,yb4,k4,f4⟩,-⟩
 go_wp2_with fail
 refine(H_c4.out _ _ (A3)).mono ?_
 rintro e w16 ⟨rfl,hb16⟩
 have z17:=hb16.size
 try simp at z17
 clear k1 f1 k2 f2 k3 f3 k4 f4
 refine Ae w w16 (Bc w.heap.size #[A,R,n,d] 95<|Bc (w.heap.size+1) #[.int .i64 0,.int .i64 0] 33<|Bc W1.heap.size #[A,R,n,d] 282<|Bc W12.heap.size #[.func (.func 206) #[.agg #[A,R,n,d]] #[]] 283<|Bz) ?_
 clear b1 b2 b3 b4 hW
 rintro hW z18 ⟨⟨b1,yb1,k1,f1⟩,⟨b2,yb2,k2,f2⟩,⟨b3,yb3,k3,f3⟩,⟨b4,yb4,k4,f4⟩,-⟩
 clear hb16
 go_wp2
 refine bodyPost_ret (by simp[results,Tryz.results215,go_sem,k1,f1,k2,f2,k3,f3,k4,f4,yb1,yb2,yb3,yb4]) rfl ⟨rfl,by exact Aa⟩
theorem Ua (A R n d a b va vb e:Int) (w:World) (hle:decide (b<a)=false)
  (c1:∀w,Cb 204 #[.agg #[A,R,n,d]] w (.bool true))
  (c2:∀w,Cb 205 #[a] w (.bool true))
  (c3:∀w,Cb 205 #[b] w (.bool true))
  (c4:∀w g,Blk w g #[.func (.func 206) #[.agg #[A,R,n,d]] #[]] 283->Cb 229 #[.agg #[a,b],.func (.func 230) #[] #[.pointer (some ⟨g,0,none⟩)]] w (.tuple #[.agg #[va,va],e])):
  Cb 215 #[.agg #[A,R,n,d],a,b] w (.tuple #[.agg #[va,va],e]):=by
 have hmf:∀(fn:Fn) (first cap:Array Value) (w:World),(Instr.makeFunc fn first cap).run Tryz.prog w= .ok (.func fn first cap) w:=fun _ _ _ _=>rfl
 have H_c1:=Hd c1
 clear c1
 have H_c2:=Hd c2
 clear c2
 have H_c3:=Hd c3
 clear c3
 have H_c4:=Hd c4
 clear c4
 go_enter Tryz.func215,Tryz.ntmps215
 go_upto_region 1 with(fail)
 refine Ad w (Bc w.heap.size #[A,R,n,d] 95<|Bc (w.heap.size+1) #[.int .i64 0,.int .i64 0] 33<|Bz) ?_
 rintro W1 hW z2 ⟨⟨b1,yb1,k1,f1⟩,⟨b2,yb2,k2,f2⟩,-⟩
 go_wp2_with fail
 refine(H_c1.out _).mono ?_
 rintro e w3 ⟨rfl,hb3⟩
 have z4:=hb3.size
 try simp at z4
 clear k1 f1 k2 f2
 refine Ae w w3 (Bc w.heap.size #[A,R,n,d] 95<|Bc (w.heap.size+1) #[.int .i64 0,.int .i64 0] 33<|Bc W1.heap.size #[A,R,n,d] 282<|Bz) ?_
 clear b1 b2 hW
 rintro hW z5 ⟨⟨b1,yb1,k1,f1⟩,⟨b2,yb2,k2,f2⟩,⟨b3,yb3,k3,f3⟩,-⟩
 clear hb3
 go_wp2_with fail
 refine(H_c2.out _).mono ?_
 rintro e w6 ⟨rfl,hb6⟩
 have z7:=hb6.size
 try simp at z7
 clear k1 f1 k2 f2 k3 f3
 refine Ae w w6 (Bc w.heap.size #[A,R,n,d] 95<|Bc (w.heap.size+1) #[.int .i64 0,.int .i64 0] 33<|Bc W1.heap.size #[A,R,n,d] 282<|Bz) ?_
 clear b1 b2 b3 hW
 rintro hW z8 ⟨⟨b1,yb1,k1,f1⟩,⟨b2,yb2,k2,f2⟩,⟨b3,yb3,k3,f3⟩,-⟩
 clear hb6
 go_wp2_with fail
 refine(H_c3.out _).mono ?_
 rintro e w9 ⟨rfl,hb9⟩
 have z10:=hb9.size
 try simp at z10
 clear k1 f1 k2 f2 k3 f3
 refine Ae w w9 (Bc w.heap.size #[A,R,n,d] 95<|Bc (w.heap.size+1) #[.int .i64 0,.int .i64 0] 33<|Bc W1.heap.size #[A,R,n,d] 282<|Bz) ?_
 clear b1 b2 b3 hW
 rintro hW z11 ⟨⟨b1,yb1,k1,f1⟩,⟨b2,yb2,k2,f2⟩,⟨b3,yb3,k3,f3⟩,-⟩
 clear hb9
 go_upto_region 6 with(fail)
 clear k1 f1 k2 f2 k3 f3
 refine Ad w (Bc w.heap.size #[A,R,n,d] 95<|Bc (w.heap.size+1) #[.int .i64 0,.int .i64 0] 33<|Bc W1.heap.size #[A,R,n,d] 282<|Bz) ?_
 clear b1 b2 b3 hW
 rintro W12 hW z13 ⟨⟨b1,yb1,k1,f1⟩,⟨b2,yb2,k2,f2⟩,⟨b3,yb3,k3,f3⟩,-⟩
 go_upto_region 7 with(fail)
 clear k1 f1 k2 f2 k3 f3
 refine Ad w (Bc w.heap.size #[A,R,n,d] 95<|Bc (w.heap.size+1) #[.int .i64 0,.int .i64 0] 33<|Bc W1.heap.size #[A,R,n,d] 282<|Bc W12.heap.size #[.func (.func 206) #[.agg #[A,R,n,d]] #[]] 283<|Bz) ?_
 clear b1 b2 b3 hW
 rintro W14 hW z15 ⟨⟨b1,yb1,k1,f1⟩,⟨b2,yb2,k2,f2⟩,⟨b3,yb3,k3,f3⟩,⟨b4,yb4,k4,f4⟩,-⟩
 go_wp2_with fail
 refine(H_c4.out _ _ (A3)).mono ?_
 rintro e w16 ⟨rfl,hb16⟩
 have z17:=hb16.size
 try simp at z17
 clear k1 f1 k2 f2 k3 f3 k4 f4
 refine Ae w w16 (Bc w.heap.size #[A,R,n,d] 95<|Bc (w.heap.size+1) #[.int .i64 0,.int .i64 0] 33<|Bc W1.heap.size #[A,R,n,d] 282<|Bc W12.heap.size #[.func (.func 206) #[.agg #[A,R,n,d]] #[]] 283<|Bz) ?_
 clear b1 b2 b3 b4 hW
 rintro hW z18 ⟨⟨b1,yb1,k1,f1⟩,⟨b2,yb2,k2,f2⟩,⟨b3,yb3,k3,f3⟩,⟨b4,yb4,k4,f4⟩,-⟩
 clear hb16
 go_wp2
 refine bodyPost_ret (by simp[results,Tryz.results215,go_sem,k1,f1,k2,f2,k3,f3,k4,f4,yb1,yb2,yb3,yb4]) rfl ⟨rfl,by exact Aa⟩
def Gd (A R n d a b:Int):Bool:=A6 (Bk A R n d a)&&A6 (Bk A R n d b)
theorem c_Ends_no (A R n d a b:Int) (w:World) (h:Cw A R n d=false):
  Cb 215 #[.agg #[A,R,n,d],a,b] w (.tuple #[.agg #[.int .i64 0,.int .i64 0],.int .i64 150]):=by
 have c1:=fun w=>c_is A R n d w
 rw[h] at c1
 exact ends_no A R n d a b 0 0 0 w c1
theorem c_Ends (A R n d a b:Int) (w:World) (h:M6 A R n d) (ha:0<=a) (hab:a<=b) (hb:b<=281474976710656):
  Cb 215 #[.agg #[A,R,n,d],a,b] w (.tuple #[.agg #[.int .i64 (wv (Gd A R n d a b) (min (Bk A R n d a) (Bk A R n d b))),.int .i64 (wv (Gd A R n d a b) (max (Bk A R n d a) (Bk A R n d b)))],.int .i64 (we (Gd A R n d a b))]):=by
 have c1:=fun w=>c_is A R n d w
 rw[Jo.2 h] at c1
 have c2:=fun w=>Wg a w
 rw[Qz.2 ⟨ha,by omega⟩] at c2
 have c3:=fun w=>Wg b w
 rw[Qz.2 ⟨by omega,hb⟩] at c3
 have va:=fun w=>c_value A R n d a w h ha (by omega)
 have vb:=fun w=>c_value A R n d b w h (by omega) hb
 have hle:decide (b<a)=false:=by simp;omega
 unfold Gd
 generalize Bk A R n d a=x at*
 generalize Bk A R n d b=y at*
 cases hx:A6 x with
 |false=>
  rw[hx] at va
  exact Ua A R n d a b 0 0 5 w hle c1 c2 c3 (fun w g hg=>Zo A R n d a b 0 0 g w hg (fun w hg=>Oc A R n d a 0 5 g w hg va))
 |true=>
  rw[hx] at va
  cases hy:A6 y with
  |false=>
   rw[hy] at vb
   exact Ua A R n d a b 0 0 5 w hle c1 c2 c3 (fun w g hg=>Wz A R n d a b x 0 g w hg (fun w hg=>Oc A R n d a x 0 g w hg va) (fun w hg=>Oc A R n d b 0 5 g w hg vb))
  |true=>
   rw[hy] at vb
   have c4:=fun w g hg=>both_ok A R n d a b x y g w hg (fun w hg=>Oc A R n d a x 0 g w hg va) (fun w hg=>Oc A R n d b y 0 g w hg vb)
   show Calls _ _ _ _ fun e' w'=>e'= .returned (.tuple #[.agg #[.int .i64 (min x y),.int .i64 (max x y)],.int .i64 0])/\Below w.heap.size w w'
   rcases Int.lt_trichotomy x y with k|k|k
   ·rw[show min x y=x by omega,show max x y=y by omega]
    exact ends_lt A R n d a b x y 0 w hle k c1 c2 c3 c4
   ·subst k
    rw[show min x x=x by omega,show max x x=x by omega]
    exact Ua A R n d a b x 0 0 w hle c1 c2 c3 c4
   ·rw[show min x y=y by omega,show max x y=x by omega]
    exact ends_gt A R n d a b x y 0 w hle k c1 c2 c3 c4
end Go.Proofs.YtidfcoooccblaaaGreat
namespace Go.Proofs.YtidfcoooccblaaaGreat
def Cn (f:Nat->Nat):Nat->Nat
 |0=>0
 |n+1=>Cn f n+f n
theorem Fr {f g:Nat->Nat}:∀n,(∀i,i<n->f i=g i)->Cn f n=Cn g n
 |0,_=>rfl
 |n+1,h=>by simp only[Cn];rw[Fr n fun i hi=>h i (by omega),h n (by omega)]
theorem Mn :∀n,Cn (fun _=>0) n=0
 |0=>rfl
 |n+1=>by simp only[Cn];rw[Mn n]
theorem Lr (f g:Nat->Nat):∀n,Cn (fun i=>f i+g i) n=Cn f n+Cn g n
 |0=>rfl
 |n+1=>by simp only[Cn];rw[Lr f g n];omega
theorem Qf (f:Nat->Nat->Nat) (m:Nat):∀n,Cn (fun i=>Cn (f i) m) n=Cn (fun j=>Cn (fun i=>f i j) n) m
 |0=>by simp only[Cn];rw[Mn]
 |n+1=>by simp only[Cn];rw[Qf f m n,Lr]
theorem Pb (f:Nat->Nat):∀n,Cn f (n+1)=f 0+Cn (fun i=>f (i+1)) n
 |0=>by simp[Cn]
 |n+1=>by rw[Cn,Pb f n,Cn];omega
theorem Qh (f:Nat->Nat):∀n,Cn f n=Cn (fun i=>f (n-1-i)) n
 |0=>rfl
 |n+1=>by
  rw[Pb (fun i=>f (n+1-1-i)) n,Cn,Qh f n]
  rw[Fr (g:=fun i=>f (n+1-1-(i+1))) n (fun i hi=>by congr 1;omega)]
  have:f (n+1-1-0)=f n:=by congr 1
  omega
theorem U7 {f g:Nat->Nat}:∀n,(∀i,i<n->f i<=g i)->Cn f n<=Cn g n
 |0,_=>Nat.le_refl _
 |n+1,h=>by simp only[Cn];have:=U7 n fun i hi=>h i (by omega);have:=h n (by omega);omega
theorem Qg :∀n,Cn (fun i=>i) n=n*(n-1)/2
 |0=>rfl
 |n+1=>by
  simp only[Cn]
  rw[Qg n]
  cases n with
  |zero=>rfl
  |succ n=>
   have e:(n+1+1)*(n+1+1-1)=(n+1)*(n+1-1)+2*(n+1):=by
    simp only[Nat.add_sub_cancel];rw[Nat.mul_comm (n+1+1)];exact(Nat.mul_add (n+1) n 2).trans (by rw[Nat.mul_comm (n+1) 2])
   rw[e];omega
theorem Ry (c:Nat) (f:Nat->Nat):∀n,Cn (fun i=>c*f i) n=c*Cn f n
 |0=>rfl
 |n+1=>by simp only[Cn];rw[Ry c f n,Nat.mul_add]
theorem Ku (c:Nat):∀n,Cn (fun _=>c) n=c*n
 |0=>rfl
 |n+1=>by simp only[Cn];rw[Ku c n,Nat.mul_add_one]
theorem Sr (x m:Nat) (hm:0<m):∀Y,Cn (fun j=>if m*(j+1)<=x then 1 else 0) Y=min Y (x/m)
 |0=>by simp[Cn]
 |Y+1=>by
  simp only[Cn]
  rw[Sr x m hm Y]
  have:m*(Y+1)<=x↔Y+1<=x/m:=by rw[Nat.le_div_iff_mul_le hm,Nat.mul_comm]
  split<;>omega
theorem Pj (a b c:Nat) (ha:0<a) (hb:b<c):∀n,Cn (fun i=>if c<=a*i+b then 1 else 0) n=(a*n+b-c)/a
 |0=>by simp[Cn];rw[Nat.div_eq_of_lt];omega
 |n+1=>by
  simp only[Cn]
  rw[Pj a b c ha hb n,Nat.mul_add_one]
  by_cases h:c<=a*n+b
  ·rw[if_pos h,show a*n+a+b-c=(a*n+b-c)+a by omega,Nat.add_div_right _ ha]
  ·rw[if_neg h,show a*n+b-c=0 by omega,Nat.zero_div,Nat.div_eq_of_lt (by omega)]
def Es (n a b m:Nat):Nat:=Cn (fun i=>(a*i+b)/m) n
theorem Tw (n a b m:Nat) (hm:0<m):Es n a b m=a/m*(n*(n-1)/2)+b/m*n+Es n (a%m) (b%m) m:=by
 unfold Es
 rw[<-Qg,<-Ry,<-Ku,<-Lr,<-Lr]
 refine Fr n fun i _=> ?_
 have e:a*i+b=m*(a/m*i+b/m)+(a%m*i+b%m):=by
  have e1:=Nat.div_add_mod a m
  have e2:=Nat.div_add_mod b m
  have e3:a*i=m*(a/m*i)+a%m*i:=by
   rw[<-Nat.mul_assoc,<-Nat.add_mul,e1]
  rw[Nat.mul_add];omega
 rw[e,Nat.mul_add_div hm]
theorem Tx (n a b m:Nat) (hm:0<m) (h:a*n+b<m):Es n a b m=0:=by
 unfold Es
 rw[<-Mn n]
 refine Fr n fun i hi=>Nat.div_eq_of_lt ?_
 have:=Nat.mul_le_mul_left a (Nat.le_of_lt hi)
 omega
theorem V5 (n a b m:Nat) (ha:0<a) (hm:0<m) (hb:b<m):Es n a b m=Es ((a*n+b)/m) m ((a*n+b)%m) a:=by
 have hY:∀i,i<n->(a*i+b)/m<=(a*n+b)/m:=fun i hi=>Nat.div_le_div_right (by have:=Nat.mul_le_mul_left a (Nat.le_of_lt hi);omega)
 unfold Es
 rw[Fr (g:=fun i=>Cn (fun j=>if m*(j+1)<=a*i+b then 1 else 0) ((a*n+b)/m)) n fun i hi=>by rw[Sr _ m hm];have:=hY i hi;omega]
 rw[Qf,Qh]
 refine Fr _ fun j hj=> ?_
 generalize hq:(a*n+b)/m=Y at*
 have e0:=Nat.div_add_mod (a*n+b) m
 rw[hq] at e0
 rw[Pj a b _ ha (by rw[Nat.mul_add_one];omega)]
 congr 1
 have e1:m*(Y-1-j+1)+m*j=m*Y:=by rw[<-Nat.mul_add];congr 1;omega
 omega
theorem floSum_le (n a b m:Nat) (hm:0<m) (ha:a<m) (hb:b<m):Es n a b m<=(n+1)*n:=by
 unfold Es
 rw[<-Ku]
 refine U7 n fun i hi=> ?_
 rw[Nat.div_le_iff_le_mul_add_pred hm]
 have h1:a*i<=m*i:=Nat.mul_le_mul_right i (by omega)
 have h2:m*i<=m*n:=Nat.mul_le_mul_left m (by omega)
 rw[Nat.mul_add_one];omega
end Go.Proofs.YtidfcoooccblaaaGreat
namespace Go.Proofs.YtidfcoooccblaaaGreat
open Go.RowKit
theorem Um (n:Int) (w:World) (h0:0<=n) (h1:n<=1000000):Cb 243 #[n] w (.int .i64 (n*(n-1)/2)):=by
 have m0:(n*(n-1)).natAbs<=1000000*1000000:=by rw[Int.natAbs_mul];exact Nat.mul_le_mul (by omega) (by omega)
 have m1:0<=n*(n-1):=by
  rcases Int.lt_or_le 0 n with h|h
  ·exact Int.mul_nonneg h0 (by omega)
  ·have:n=0:=by omega
   subst this;decide
 have e1:wrap64 (n-1)=n-1:=by rw[Al];omega
 have e2:wrap64 (n*(n-1))=n*(n-1):=by rw[Al];omega
 have e3:wrap64 ((n*(n-1)).tdiv 2)=n*(n-1)/2:=by rw[Int.tdiv_eq_ediv_of_nonneg m1,Al];omega
 clear m0 m1 h0 h1
 go_enter Tryz.func243,Tryz.ntmps243
 go_wp2
 refine bodyPost_ret (by simp[results,Tryz.results243,go_sem,e3]) rfl ⟨rfl,by exact Aa⟩
theorem term_ok (ah al e1 e2:Int) (w:World) (he1:decide (e1<=0)=true) (he2:decide (0<=e2)=true)
  (c1:∀w,Cb 242 #[.agg #[ah,.int .u64 al],.agg #[.int .i64 140737488355328,.int .u64 0]] w (e1))
  (c2:∀w,Cb 242 #[.agg #[ah,.int .u64 al],.agg #[.int .i64 (-140737488355328),.int .u64 0]] w (e2)):
  Cb 239 #[.agg #[ah,.int .u64 al]] w (.bool true):=by
 have H_c1:=Hd c1
 clear c1
 have H_c2:=Hd c2
 clear c2
 go_enter Tryz.func239,Tryz.ntmps239
 go_upto_region 1 with(fail)
 refine Ad w (Bc w.heap.size #[ah,.int .u64 al] 36<|Bz) ?_
 rintro W1 hW z2 ⟨⟨b1,yb1,k1,f1⟩,-⟩
 go_wp2_with fail
 refine(H_c1.out _).mono ?_
 rintro e w3 ⟨rfl,hb3⟩
 have z4:=hb3.size
 try simp at z4
 clear k1 f1
 refine Ae w w3 (Bc w.heap.size #[ah,.int .u64 al] 36<|Bz) ?_
 clear b1 hW
 rintro hW z5 ⟨⟨b1,yb1,k1,f1⟩,-⟩
 clear hb3
 go_wp2_with fail
 refine(H_c2.out _).mono ?_
 rintro e w6 ⟨rfl,hb6⟩
 have z7:=hb6.size
 try simp at z7
 clear k1 f1
 refine Ae w w6 (Bc w.heap.size #[ah,.int .u64 al] 36<|Bz) ?_
 clear b1 hW
 rintro hW z8 ⟨⟨b1,yb1,k1,f1⟩,-⟩
 clear hb6
 go_wp2
 refine bodyPost_ret (by simp[results,Tryz.results239,go_sem,k1,f1,yb1]) rfl ⟨rfl,by exact Aa⟩
theorem c_term (a:Int) (w:World) (h: -2596148429267413814265248164610048<=a/\a<=2596148429267413814265248164610048):Cb 239 #[B4 a] w (.bool true):=by
 refine term_ok (hiW a) (loW a) (Q8 a 2596148429267413814265248164610048) (Q8 a (-2596148429267413814265248164610048)) w ?_ ?_ (fun w=>Sz a 2596148429267413814265248164610048 w) (fun w=>Sz a (-2596148429267413814265248164610048) w)
 ·rw[decide_eq_true_eq];unfold Q8;split<;>(try split)<;>omega
 ·rw[decide_eq_true_eq];unfold Q8;split<;>(try split)<;>omega
def Q3 (n a b m:Int):Int:=(Es n.toNat a.toNat b.toNat m.toNat:Int)
structure Mb (F n a b m t:Int):Prop where
 n0:0<=n
 n1:n<=256
 a0:0<=a
 a1:a<=281474976710656
 b0:0<=b
 b1:b<=281474976710656
 m0:1<=m
 m1:m<=281474976710656
 t0:0<=t
 eq:t+Q3 n a b m=F
 F1:F<=100000
structure SmallStep (F n a b m t:Int):Prop where
 p0:0<=n*(n-1)/2
 e1:wrap64 (a.tdiv m)=a/m
 e2:wrap64 (b.tdiv m)=b/m
 e3:wrap64 (a/m*(n*(n-1)/2))=a/m*(n*(n-1)/2)
 e4:wrap64 (b/m*n)=b/m*n
 e5:wrap64 (a/m*(n*(n-1)/2)+b/m*n)=a/m*(n*(n-1)/2)+b/m*n
 e6:wrap64 (t+(a/m*(n*(n-1)/2)+b/m*n))=t+(a/m*(n*(n-1)/2)+b/m*n)
 e7:a.tmod m=a%m
 e8:b.tmod m=b%m
 e9:wrap64 (a%m*n)=a%m*n
 e10:wrap64 (a%m*n+b%m)=a%m*n+b%m
 e11:wrap64 ((a%m*n+b%m).tdiv m)=(a%m*n+b%m)/m
 e12:(a%m*n+b%m).tmod m=(a%m*n+b%m)%m
 done:a%m*n+b%m<m->t+(a/m*(n*(n-1)/2)+b/m*n)=F
 next:m<=a%m*n+b%m->Mb F ((a%m*n+b%m)/m) m ((a%m*n+b%m)%m) (a%m) (t+(a/m*(n*(n-1)/2)+b/m*n))/\(a%m).toNat<m.toNat
theorem Mb.step {F n a b m t:Int} (h:Mb F n a b m t):SmallStep F n a b m t:=by
 obtain⟨n0,n1,a0,a1,b0,b1,m0,m1,t0,eq,F1⟩:=h
 obtain⟨n,rfl⟩:=Int.eq_ofNat_of_zero_le n0
 obtain⟨a,rfl⟩:=Int.eq_ofNat_of_zero_le a0
 obtain⟨b,rfl⟩:=Int.eq_ofNat_of_zero_le b0
 obtain⟨m,rfl⟩:=Int.eq_ofNat_of_zero_le (show 0<=m by omega)
 have hm:0<m:=by omega
 have hp:(n:Int)*((n:Int)-1)/2=((n*(n-1)/2:Nat):Int):=by
  cases n with
  |zero=>rfl
  |succ n=>simp
 have hs:=Tw n a b m hm
 have q1:(a:Int)/m=((a/m:Nat):Int):=rfl
 have q2:(b:Int)/m=((b/m:Nat):Int):=rfl
 have r1:(a:Int)%m=((a%m:Nat):Int):=rfl
 have r2:(b:Int)%m=((b%m:Nat):Int):=rfl
 have g1:=Nat.mod_lt a hm
 have g2:=Nat.mod_lt b hm
 have ef:Q3 n a b m=(Es n a b m:Int):=rfl
 rw[ef,hs] at eq
 have k1:a%m*n<=m*n:=Nat.mul_le_mul_right n (by omega)
 have k2:m*n<=281474976710656*256:=Nat.mul_le_mul (by omega) (by omega)
 have l1:((a%m*n+b%m:Nat):Int)/m=(((a%m*n+b%m)/m:Nat):Int):=rfl
 have l2:((a%m*n+b%m:Nat):Int)%m=(((a%m*n+b%m)%m:Nat):Int):=rfl
 have l3:(a%m*n+b%m)/m<=n:=by
  rw[Nat.div_le_iff_le_mul_add_pred hm];omega
 have l4:=Nat.mod_lt (a%m*n+b%m) hm
 have d1:a/m<=a:=Nat.div_le_self _ _
 have d2:b/m<=b:=Nat.div_le_self _ _
 have c1:(((a%m:Nat):Int)*(n:Int)+((b%m:Nat):Int))=((a%m*n+b%m:Nat):Int):=by simp
 have c2:((a/m:Nat):Int)*((n*(n-1)/2:Nat):Int)=((a/m*(n*(n-1)/2):Nat):Int):=by simp
 have c3:((b/m:Nat):Int)*(n:Int)=((b/m*n:Nat):Int):=by simp
 have c4:((a%m:Nat):Int)*(n:Int)=((a%m*n:Nat):Int):=by simp
 have w64:∀x:Nat,x<=100000000000000000->wrap64 (x:Int)=x:=fun x h=>by rw[Al];omega
 have c5:Es n (a%m) (b%m) m=Es ((a%m*n+b%m)/m) m ((a%m*n+b%m)%m) (a%m)∨a%m*n+b%m<m:=by
  rcases Nat.lt_or_ge (a%m*n+b%m) m with h|h
  ·exact .inr h
  ·refine .inl (V5 n (a%m) (b%m) m ?_ hm g2)
   rcases Nat.eq_zero_or_pos (a%m) with h0|h0
   ·rw[h0] at h;omega
   ·exact h0
 have c6:a%m*n+b%m<m->Es n (a%m) (b%m) m=0:=Tx n (a%m) (b%m) m hm
 constructor
 ·rw[hp];exact Int.natCast_nonneg _
 ·rw[Int.tdiv_eq_ediv_of_nonneg (by omega),q1];exact w64 _ (by omega)
 ·rw[Int.tdiv_eq_ediv_of_nonneg (by omega),q2];exact w64 _ (by omega)
 ·rw[hp,q1,c2];exact w64 _ (by omega)
 ·rw[q2,c3];exact w64 _ (by omega)
 ·rw[hp,q1,c2,q2,c3];rw[Al];omega
 ·rw[hp,q1,c2,q2,c3];rw[Al];omega
 ·exact Int.tmod_eq_emod_of_nonneg (by omega)
 ·exact Int.tmod_eq_emod_of_nonneg (by omega)
 ·rw[r1,c4];exact w64 _ (by omega)
 ·rw[r1,r2,c1];exact w64 _ (by omega)
 ·rw[r1,r2,c1,Int.tdiv_eq_ediv_of_nonneg (by omega),l1];exact w64 _ (by omega)
 ·rw[r1,r2,c1];exact Int.tmod_eq_emod_of_nonneg (by omega)
 ·intro h
  rw[r1,r2,c1] at h
  have:=c6 (by omega)
  rw[hp,q1,c2,q2,c3];omega
 ·intro h
  rw[r1,r2,c1] at h
  rw[hp,q1,c2,q2,c3,r1,r2,c1,l1,l2]
  refine⟨⟨Int.natCast_nonneg _,Int.ofNat_le.2 (show _<=256 by omega),Int.natCast_nonneg _,m1,Int.natCast_nonneg _,Int.ofNat_le.2 (show _<=281474976710656 by omega),?_,Int.ofNat_le.2 (show _<=281474976710656 by omega),?_,?_,F1⟩,?_⟩
  ·rcases Nat.eq_zero_or_pos (a%m) with h0|h0
   ·rw[h0] at h;omega
   ·exact Int.ofNat_le.2 (show 1<=_ from h0)
  ·have:=Int.natCast_nonneg (a/m*(n*(n-1)/2));have:=Int.natCast_nonneg (b/m*n);omega
  ·have e:Q3 (((a%m*n+b%m)/m:Nat):Int) (m:Int) (((a%m*n+b%m)%m:Nat):Int) ((a%m:Nat):Int)=(Es ((a%m*n+b%m)/m) m ((a%m*n+b%m)%m) (a%m):Int):=rfl
   rw[e]
   rcases c5 with h5|h5
   ·rw[<-h5];omega
   ·omega
  ·show a%m<m;exact g1
theorem c_small (n0 a0 b0 m0 F:Int) (w:World) (h:Mb F n0 a0 b0 m0 0):Cb 244 #[n0,a0,b0,m0] w (F):=by
 go_enter Tryz.func244,Tryz.ntmps244
 go_wp2
 refine Ps 0 (fun a' W'=>Below w.heap.size w W'/\∃(n a b m t:Int) (u4 u5 u6 u7 u10 u11 u12 u13 u14 u15 u16 u17 u18 u19 u20 u21 u22 u23 u24 u25 u26 u27 u28 u29 u30 u31 u32 u33 u34 u35 u36 u37 u38 u39 u40 u41 u42 u43 u44 u45 u46 u47:Value),a'= {tmps:= #[n,a,b,m,u4,u5,u6,u7,.int .i64 0,t,u10,u11,u12,u13,u14,u15,u16,u17,u18,u19,u20,u21,u22,u23,u24,u25,u26,u27,u28,u29,u30,u31,u32,u33,u34,u35,u36,u37,u38,u39,u40,u41,u42,u43,u44,u45,u46,u47],defers:= []}/\Mb F n a b m t) (fun a' _=>(Ak (a'.tmps.getD 3 undef)).toNat) rfl ?_ ?_
 ·intro hpass
  go_wp2
  go_step3
  rename_i hK
  refine hK _ _ (hpass _ _ ⟨Below.refl _ _,n0,a0,b0,m0,0,_,_,_,_,_,_,_,_,_,_,_,_,_,_,_,_,_,_,_,_,_,_,_,_,_,_,_,_,_,_,_,_,_,_,_,_,_,_,_,_,_,_,rfl,h⟩)
 ·rintro a' W0 ⟨hW,n,a,b,m,t,u4,u5,u6,u7,u10,u11,u12,u13,u14,u15,u16,u17,u18,u19,u20,u21,u22,u23,u24,u25,u26,u27,u28,u29,u30,u31,u32,u33,u34,u35,u36,u37,u38,u39,u40,u41,u42,u43,u44,u45,u46,u47,rfl,hs⟩
  obtain⟨p0,e1,e2,e3,e4,e5,e6,e7,e8,e9,e10,e11,e12,hd,hx⟩:=hs.step
  have hn0:=hs.n0
  have hn1:n<=1000000:=by have:=hs.n1;omega
  have hm:¬m=0:=by have:=hs.m0;omega
  clear hs
  rcases Int.lt_or_le (a%m*n+b%m) m with hl|hl
  ·have hd:=hd hl
   have hl':decide (m<=a%m*n+b%m)=false:=by simp;omega
   clear hx
   go_upto_region 2 with(fail)
   refine Ad w (Bz) ?_
   clear hW
   rintro W1 hW z2 hL
   refine Br 15 48 hW hL ?_
   iterate 5 refine dE (fun W' hC=>aI e1 (aI e2 (aI e3 (aI e4 (aI e5 (aI e6 (aI e7 (aI e8 (aI e9 (aI e10 hm)))))))))) ?_
   refine cE (fun W' hC=>aI e1 (aI e2 (aI e3 (aI e4 (aI e5 (aI e6 (aI e7 (aI e8 (aI e9 (aI e10 hm)))))))))) (fun W' hC=>Um n W' hn0 hn1) ?_
   iterate 9 refine dE (fun W' hC=>aI e1 (aI e2 (aI e3 (aI e4 (aI e5 (aI e6 (aI e7 (aI e8 (aI e9 (aI e10 hm)))))))))) ?_
   clear hW hL
   rintro W3 hW z4 hL
   simp only[ndR]
   intros
   simp only[ndS]
   refine wpList_nil ?_
   obtain⟨-⟩:=hL
   go_upto_region 3 with(fail)
   refine Ad w (Bz) ?_
   clear hW
   rintro W5 hW z6 hL
   refine Br 8 48 hW hL ?_
   iterate 8 refine dE (fun W' hC=>aI e1 (aI e2 (aI e3 (aI e4 (aI e5 (aI e6 (aI e7 (aI e8 (aI e9 (aI e10 hm)))))))))) ?_
   clear hW hL
   rintro W7 hW z8 hL
   simp only[ndR]
   intros
   simp only[ndS]
   refine wpList_nil ?_
   obtain⟨-⟩:=hL
   go_upto_region 4 with(fail)
   refine Ad w (Bz) ?_
   clear hW
   rintro W9 hW z10 ⟨-⟩
   go_wp2
   simp only[Exit.jump]
   go_ret
   exact⟨rfl,hW⟩
  ·have hx:=hx hl
   have hl':decide (m<=a%m*n+b%m)=true:=by simp;omega
   clear hd
   go_upto_region 2 with(fail)
   refine Ad w (Bz) ?_
   clear hW
   rintro W1 hW z2 hL
   refine Br 15 48 hW hL ?_
   iterate 5 refine dE (fun W' hC=>aI e1 (aI e2 (aI e3 (aI e4 (aI e5 (aI e6 (aI e7 (aI e8 (aI e9 (aI e10 hm)))))))))) ?_
   refine cE (fun W' hC=>aI e1 (aI e2 (aI e3 (aI e4 (aI e5 (aI e6 (aI e7 (aI e8 (aI e9 (aI e10 hm)))))))))) (fun W' hC=>Um n W' hn0 hn1) ?_
   iterate 9 refine dE (fun W' hC=>aI e1 (aI e2 (aI e3 (aI e4 (aI e5 (aI e6 (aI e7 (aI e8 (aI e9 (aI e10 hm)))))))))) ?_
   clear hW hL
   rintro W3 hW z4 hL
   simp only[ndR]
   intros
   simp only[ndS]
   refine wpList_nil ?_
   obtain⟨-⟩:=hL
   go_upto_region 3 with(fail)
   refine Ad w (Bz) ?_
   clear hW
   rintro W5 hW z6 hL
   refine Br 8 48 hW hL ?_
   iterate 8 refine dE (fun W' hC=>aI e1 (aI e2 (aI e3 (aI e4 (aI e5 (aI e6 (aI e7 (aI e8 (aI e9 (aI e10 hm)))))))))) ?_
   clear hW hL
   rintro W7 hW z8 hL
   simp only[ndR]
   intros
   simp only[ndS]
   refine wpList_nil ?_
   obtain⟨-⟩:=hL
   go_upto_region 4 with(fail)
   refine Ad w (Bz) ?_
   clear hW
   rintro W9 hW z10 ⟨-⟩
   go_upto_region 6 with(fail)
   refine Ad w (Bz) ?_
   clear hW
   rintro W11 hW z12 hL
   refine Br 8 48 hW hL ?_
   iterate 8 refine dE (fun W' hC=>aI e11 (aI e12 hm)) ?_
   clear hW hL
   rintro W13 hW z14 hL
   simp only[ndR]
   intros
   simp only[ndS]
   refine wpList_nil ?_
   obtain⟨-⟩:=hL
   go_wp2
   go_step3
   simp only[e10,e11,e12]
   exact⟨rfl,⟨hW,_,_,_,_,_,_,_,_,_,_,_,_,_,_,_,_,_,_,_,_,_,_,_,_,_,_,_,_,_,_,_,_,_,_,_,_,_,_,_,_,_,_,_,_,_,_,_,rfl,hx.1⟩,by simpa [Ak] using hx.2⟩
end Go.Proofs.YtidfcoooccblaaaGreat
