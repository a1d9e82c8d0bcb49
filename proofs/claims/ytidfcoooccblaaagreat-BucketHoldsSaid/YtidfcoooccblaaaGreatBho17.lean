/- Parts of the proof that follows. No condition. -/
import Derived.Test.YtidfcoooccblaaaGreatBho16
set_option maxRecDepth 100000
set_option maxHeartbeats 8000000
set_option linter.unusedSimpArgs false
set_option linter.unusedVariables false
namespace Go.Proofs.YtidfcoooccblaaaGreat
open Go.RowKit Go.Shelf
attribute [local go_sem] Oper.semAt_some
theorem Xk (s:A3) (a b:Int) (k:Nat):(Fs s a b k).length<=k:=by
 induction k with
 |zero=>simp[Fs]
 |succ k ih=>
  unfold Fs at ih⊢
  rw[List.range_succ,List.flatMap_append,List.length_append,List.flatMap_cons,List.flatMap_nil,List.append_nil]
  have:(Vw s a b k).length<=1:=by
   unfold Vw
   split
   ·unfold K8;split<;>simp
   ·simp
  omega
theorem Xi (s:A3) (a b:Int):(Eg s a b).length<=s.segs.length+1:=by
 have:=Xk s a b s.segs.length
 unfold Eg
 rw[List.length_append]
 have h2:(Pd s a b).length<=1:=by unfold Pd;split<;>simp
 omega
theorem Tryz.infoPiece :(Tryz.prog.info? 75).map (fun i=>(i.zero,i.size,i.bytes))=some (some (.agg #[.int .i64 0,.int .i64 0,.int .i64 0]),3,24):=by kernel_rfl
def Fy (L:List Af) (er:Int) (w:World) (e:Ending) (w':World):Prop:=
 ∃p k,e= .returned (.tuple #[.slice p L.length k,.int .i64 er])/\Ai w' p L/\Below w.heap.size w w'
theorem Zn (s:A3) (ps po:Option Addr) (cs co:Nat) (a b:Int) (gs ga gb:Nat) (w:World) (hin:A9 w s ps po) (hv:∀x,x∈s.segs->Cw x=true)
  (b1:Blk w gs #[.string s.name,.int .i64 s.eps,.int .i64 s.floor,.int .i64 s.last,.int .i64 s.scale,.slice ps s.segs.length cs,.slice po s.opn.length co] 25) (b2:Blk w ga #[.int .i64 a] 2) (b3:Blk w gb #[.int .i64 b] 2):
  CallsIn Fence.wide 4 Tryz.prog 83 #[.pointer (some ⟨gs,0,none⟩),.pointer (some ⟨ga,0,none⟩),.pointer (some ⟨gb,0,none⟩)] w (Fy (Eg s a b) 0 w):=by
 obtain⟨i0,hi,hz0,hz1,hz2⟩:=info_parts Tryz.infoPiece
 have hfew:(Eg s a b).length<=101:=by have:=Xi s a b;have:=hin.fewS;omega
 refine callsIn_of_wp_marks Tryz.func83 rfl trivial ?_ rfl
 simp only[Tryz.ntmps83,List.size_toArray,List.length_cons,List.length_nil,Nat.reduceAdd,Nat.reduceSub,Array.replicate_succ,Array.replicate_zero,List.push_toArray,List.append_toArray,List.nil_append,List.cons_append]
 refine wpIn_wide.2 ?_
 have y1:=b1.lt
 have y2:=b2.lt
 have y3:=b3.lt
 have k1:=b1.cell
 have f1:=b1.frozen
 have k2:=b2.cell
 have f2:=b2.frozen
 have k3:=b3.cell
 have f3:=b3.frozen
 go_upto_region 3 with(fail)
 clear k1 f1 k2 f2 k3 f3
 refine Ac w (Bc gs #[.string s.name,.int .i64 s.eps,.int .i64 s.floor,.int .i64 s.last,.int .i64 s.scale,.slice ps s.segs.length cs,.slice po s.opn.length co] 25<|Bc ga #[.int .i64 a] 2<|Bc gb #[.int .i64 b] 2<|Bc w.heap.size #[.string s.name,.int .i64 s.eps,.int .i64 s.floor,.int .i64 s.last,.int .i64 s.scale,.slice ps s.segs.length cs,.slice po s.opn.length co,.int .i64 a,.int .i64 b] 157<|Bc (w.heap.size+1) #[.slice none 0 0] 70<|Bz) ?_
 clear b1 b2 b3
 rintro W1 hW z2 ⟨⟨b1,yb1,k1,f1⟩,⟨b2,yb2,k2,f2⟩,⟨b3,yb3,k3,f3⟩,⟨b4,yb4,k4,f4⟩,⟨b5,yb5,k5,f5⟩,-⟩
 go_wp2_with fail
 refine(U6 _ _).mono ?_
 rintro e w' ⟨rfl,rfl⟩
 have c1:Below w.heap.size w ((W1.alloc (.cells #[.pointer (some ⟨w.heap.size,0,none⟩)] 155)).alloc (.cells #[.func (.func 143) #[.pointer (some ⟨w.heap.size,0,none⟩)] #[]] 228)):=Aa
 have d1:Blk ((W1.alloc (.cells #[.pointer (some ⟨w.heap.size,0,none⟩)] 155)).alloc (.cells #[.func (.func 143) #[.pointer (some ⟨w.heap.size,0,none⟩)] #[]] 228)) w.heap.size #[.string s.name,.int .i64 s.eps,.int .i64 s.floor,.int .i64 s.last,.int .i64 s.scale,.slice ps s.segs.length cs,.slice po s.opn.length co,.int .i64 a,.int .i64 b] 157:=Ab
 have d2:Blk ((W1.alloc (.cells #[.pointer (some ⟨w.heap.size,0,none⟩)] 155)).alloc (.cells #[.func (.func 143) #[.pointer (some ⟨w.heap.size,0,none⟩)] #[]] 228)) (w.heap.size+1) #[.slice none 0 0] 70:=Ab
 have d3:Blk ((W1.alloc (.cells #[.pointer (some ⟨w.heap.size,0,none⟩)] 155)).alloc (.cells #[.func (.func 143) #[.pointer (some ⟨w.heap.size,0,none⟩)] #[]] 228)) W1.heap.size #[.pointer (some ⟨w.heap.size,0,none⟩)] 155:=Ab
 have d4:Blk ((W1.alloc (.cells #[.pointer (some ⟨w.heap.size,0,none⟩)] 155)).alloc (.cells #[.func (.func 143) #[.pointer (some ⟨w.heap.size,0,none⟩)] #[]] 228)) (W1.heap.size+1) #[.func (.func 143) #[.pointer (some ⟨w.heap.size,0,none⟩)] #[]] 228:=Ab
 have hsz:((W1.alloc (.cells #[.pointer (some ⟨w.heap.size,0,none⟩)] 155)).alloc (.cells #[.func (.func 143) #[.pointer (some ⟨w.heap.size,0,none⟩)] #[]] 228)).heap.size=W1.heap.size+1+1:=by simp
 obtain⟨W0,hWe⟩:∃W0,W0=((W1.alloc (.cells #[.pointer (some ⟨w.heap.size,0,none⟩)] 155)).alloc (.cells #[.func (.func 143) #[.pointer (some ⟨w.heap.size,0,none⟩)] #[]] 228)):=⟨_,rfl⟩
 rw[<-hWe] at c1 d1 d2 d3 d4 hsz⊢
 have zV:=hW.size
 have zO:=b5.lt
 clear hWe b1 b2 b3 b4 b5 k1 k2 k3 k4 k5 f1 f2 f3 f4 f5
 go_wp2
 refine(wpIn_wide (n:=4)).1 ?_
 refine wpIn_rangeFunc_ownH rfl (by omega) (gf:=144) (lb:= #[.pointer (some ⟨W1.heap.size,0,none⟩),.pointer (some ⟨W1.heap.size+1,0,none⟩)]) rfl trivial (enters_of Tryz.func144 (by kernel_rfl) rfl)
  (encs:=fun x:Af=> #[Value.agg #[.int .i64 x.f,.int .i64 x.s,.int .i64 x.c]]) (Kp:=fun A B=>Below w.heap.size A B/\∀T,T≠70->T≠75->Dg T A B) (S:=fun ys=>ys=Eg s a b) (Sp:=fun pre=>pre<+:Eg s a b) (N:=(Eg s a b).length) (w0:=W0)
  (fun lr J Jx W hWW hJ _ hY h0=>Qg 3 (by omega) lr W1.heap.size (W1.heap.size+1) w.heap.size s ps po cs co a b w hin hv _ (fun h=>h) J Jx W hJ (fun pre x W1 h1 h2=>hY pre x W1 h1 (by have:=h2.length_le;simp at this;omega)) (c1.trans (hWW.mono c1.size)) (d3.below hWW) (d4.below hWW) (d1.below hWW) h0)
  (fun h k=>⟨h.1.trans k.1,fun T e1 e2=>(h.2 T e1 e2).trans (k.2 T e1 e2)⟩) (fun W k o o' hk ho h1 h2=>⟨belowK_b (w:=w) (Nat.le_refl _) W k o o' (by omega) ho h1 h2,fun T _ _=>E7 o' ho h1⟩) (Below.refl _ _) (fun _=>rfl)
  (fun pre W=>(∃v,Boxed W (w.heap.size+1) 70 v/\W.ownsRow w.heap.size 75 3 v pre.length (As pre)/\True)/\Below w.heap.size w W)
  (fun _ _ _=>False)
  (OwnFrom.and (Own.from (holdsRow_own w.heap.size (w.heap.size+1) 70 75 3 (fun pre:List Af=>pre.length) (fun pre=>As pre) (fun _ _=>True)) _) (ownFrom_below (Nat.le_refl _) (by omega)))
  (fun _ _ _ _ _ hs _ _=>hs)
  ⟨⟨_,d2,World.ownsRow_nil _ _ _ _,trivial⟩,c1⟩
  (fun x a' W=>∃Bx,w.heap.size+1<Bx/\Blk W Bx #[.int .i64 x.f,.int .i64 x.s,.int .i64 x.c] 75/\a'= {tmps:= #[.pointer (some ⟨gs,0,none⟩),.pointer (some ⟨ga,0,none⟩),.pointer (some ⟨gb,0,none⟩),.slice none 0 0,.int .i64 0,.pointer (some ⟨w.heap.size,0,none⟩),.pointer (some ⟨w.heap.size+1,0,none⟩),.pointer (some ⟨Bx,0,none⟩),.agg #[.string s.name,.int .i64 s.eps,.int .i64 s.floor,.int .i64 s.last,.int .i64 s.scale,.slice ps s.segs.length cs,.slice po s.opn.length co],.int .i64 a,.int .i64 b,.agg #[.string s.name,.int .i64 s.eps,.int .i64 s.floor,.int .i64 s.last,.int .i64 s.scale,.slice ps s.segs.length cs,.slice po s.opn.length co,.int .i64 a,.int .i64 b],.pointer (some ⟨w.heap.size,0,none⟩),.pointer (some ⟨w.heap.size,0,none⟩),.func (.func 144) #[] #[.pointer (some ⟨W1.heap.size,0,none⟩),.pointer (some ⟨W1.heap.size+1,0,none⟩)],.agg #[.int .i64 x.f,.int .i64 x.s,.int .i64 x.c],undef,undef,undef,undef,undef],defers:= []})
  (fun x a' _ X Y row hs hg hr=>by obtain⟨Bx,h1,h2,h3⟩:=hs;exact⟨Bx,h1,D0 Bx 75 (fun(_:Unit)=> #[Value.int .i64 x.f,Value.int .i64 x.s,Value.int .i64 x.c]) () X Y row h2 hg (fun r e=>(hr r e).2),h3⟩) ?assign ?body ?done ?stop
 case assign=>
  rintro l pre x W K ⟨⟨v,hv1,hrow,_⟩,hB⟩ hK
  have hlt:=hv1.lt
  have hz:=hB.size
  gi_wp2
  exact hK _ _ ((KeepsOthers.alloc _ _).from _) ⟨(Below.refl _ _).alloc hz _,fun T _ _=>Hq ((Below.refl _ _).alloc (Nat.le_refl _) _)⟩ ⟨⟨v,hv1.alloc _,hrow.alloc _,trivial⟩,hB.alloc hz _⟩ ⟨W.heap.size,hlt,Blk.new' rfl,rfl⟩
 case body=>
  rintro l pre x a' W hl' ⟨r,hr⟩ ⟨⟨v,hv1,hrow,_⟩,hB⟩ ⟨Bx,hBx,bX,rfl⟩ hlt
  have hc:=hv1.cell
  have kx:=bX.cell
  have yx:=bX.lt
  have hp9:pre.length<=101:=by omega
  have hcat:=Hd (Oe pre x)
  clear hr
  gi_wp2_with (gi_at_builtin;refine wpListIn_append_own _ rfl _ _ 70 rfl w.heap.size 75 i0 (.agg #[.int .i64 0,.int .i64 0,.int .i64 0]) 3 24 (by kernel_rfl) hi hz0 hz1 hz2 rfl (by decide) _ _ _ rfl (hrow.alloc _) ⟨W.heap.size,0,none⟩ 1 1 [.int .i64 x.f,.int .i64 x.s,.int .i64 x.c] rfl rfl (Oi _ _ _ _ _) (by simp[Value.oneCell']) (by simp[maxLen];omega) (by omega) (by have:=hB.size;simp;omega) ?_;intro v' w1 hown' hgrow _;obtain⟨g',cap',rfl⟩:=ownsRow_succ hown';obtain⟨hv2,hv3,hr2,hk2,hb2⟩:=hv1.appended (by decide) hrow hB.size (by omega) hown' hgrow;have hkt:=fun T h1 h2=>Ff (v':= .slice (some ⟨g',0,none⟩) (pre.length+1) cap') (T:=T) hv1 hrow hgrow h1 h2;have hc1:=hv2.cell;have hf1:=hv2.frozen)
  exact⟨hk2.from _,⟨hb2,hkt⟩,⟨_,hv3,N3 hr2 (by simp) hcat.out.symm,trivial⟩,hB.trans hb2⟩
 case done=>
  rintro D ys W hD rfl ⟨⟨v,hv1,hrow,_⟩,hB⟩ hK
  have hc:=hv1.cell
  obtain⟨p,cap,rfl,-,-,-,-⟩:=(Ca.mk hrow).form
  have hrow':=ownsRow_putObj hrow (.deferred none) hK rfl
  have hR9:=Hd (Ca.mk hrow').runs
  have hB9:=Hd (hB.trans (belowK_b (w:=w) (Nat.le_refl _) W D _ (.deferred none) (by omega) hK rfl rfl))
  clear hrow hrow'
  simp only[Exit.inBlock,Exit.then]
  go_wp2
  simp only[bodyPostM]
  refine⟨by simp,.inl ⟨_,_,rfl,run_takeDeferred hK,?_⟩⟩
  refine⟨.tuple #[.slice p (Eg s a b).length cap,.int .i64 0],by simp[results,Tryz.f83,go_sem],p,cap,rfl,hR9.out,hB9.out⟩
 case stop=>
  rintro D c pre W _ _ h _
  exact h.elim
theorem Wk (nm:ByteArray) (ep fl la sc:Int) (ps po:Option Addr) (ns cs no co:Nat) (gs ga gb:Nat) (w:World)
  (c1:∀W,Below w.heap.size w W->Cb 14 #[.agg #[.string nm,.int .i64 ep,.int .i64 fl,.int .i64 la,.int .i64 sc,.slice ps ns cs,.slice po no co]] W (.int .i64 340)):
  Calls Tryz.prog 82 #[.agg #[.string nm,.int .i64 ep,.int .i64 fl,.int .i64 la,.int .i64 sc,.slice ps ns cs,.slice po no co],.func (.func 83) #[] #[.pointer (some ⟨gs,0,none⟩),.pointer (some ⟨ga,0,none⟩),.pointer (some ⟨gb,0,none⟩)]] w (Fy [] 340 w):=by
 have H_c1:=Hd c1
 clear c1
 go_enter Tryz.func82,Tryz.ntmps82
 go_wp2_with fail
 refine(H_c1.out _ Aa).mono ?_
 rintro e w1 ⟨rfl,hb1⟩
 have z2:=hb1.size
 try simp at z2
 refine Ad w w1 (Bc w.heap.size #[.string nm,.int .i64 ep,.int .i64 fl,.int .i64 la,.int .i64 sc,.slice ps ns cs,.slice po no co] 25<|Bz) ?_
 rintro hW z3 ⟨⟨b1,yb1,k1,f1⟩,-⟩
 clear hb1
 go_wp2
 refine bodyPost_ret (v:= .tuple #[.slice none 0 0,.int .i64 340]) (by simp[results,Tryz.results82,go_sem]) rfl ⟨none,0,rfl,⟨fun i r hr=>by simp at hr⟩,Aa⟩
theorem Y4 (nm:ByteArray) (ep fl la sc:Int) (ps po:Option Addr) (ns cs no co:Nat) (gs ga gb:Nat) (L:List Af) (er:Int) (w:World)
  (c1:∀W,Below w.heap.size w W->Cb 14 #[.agg #[.string nm,.int .i64 ep,.int .i64 fl,.int .i64 la,.int .i64 sc,.slice ps ns cs,.slice po no co]] W (.int .i64 0))
  (c2:∀W,Below w.heap.size w W->Calls Tryz.prog 83 #[.pointer (some ⟨gs,0,none⟩),.pointer (some ⟨ga,0,none⟩),.pointer (some ⟨gb,0,none⟩)] W (Fy L er W)):
  Calls Tryz.prog 82 #[.agg #[.string nm,.int .i64 ep,.int .i64 fl,.int .i64 la,.int .i64 sc,.slice ps ns cs,.slice po no co],.func (.func 83) #[] #[.pointer (some ⟨gs,0,none⟩),.pointer (some ⟨ga,0,none⟩),.pointer (some ⟨gb,0,none⟩)]] w (Fy L er w):=by
 have H_c1:=Hd c1
 clear c1
 have H_c2:=Hd c2
 clear c2
 go_enter Tryz.func82,Tryz.ntmps82
 go_wp2_with fail
 refine(H_c1.out _ Aa).mono ?_
 rintro e w1 ⟨rfl,hb1⟩
 have z2:=hb1.size
 try simp at z2
 refine Ad w w1 (Bc w.heap.size #[.string nm,.int .i64 ep,.int .i64 fl,.int .i64 la,.int .i64 sc,.slice ps ns cs,.slice po no co] 25<|Bz) ?_
 rintro hW z3 ⟨⟨b1,yb1,k1,f1⟩,-⟩
 clear hb1
 go_wp2_with fail
 refine(H_c2.out _ Aa).mono ?_
 rintro e w4 ⟨p,k,rfl,hR,hb4⟩
 have z5:=hb4.size
 try simp at z5
 clear k1 f1
 refine Ad w w4 (Bc w.heap.size #[.string nm,.int .i64 ep,.int .i64 fl,.int .i64 la,.int .i64 sc,.slice ps ns cs,.slice po no co] 25<|Bz) ?_
 clear b1 hW
 rintro hW z6 ⟨⟨b1,yb1,k1,f1⟩,-⟩
 replace hR:=Hd hR
 go_wp2
 refine bodyPost_ret (v:= .tuple #[.slice p L.length k,.int .i64 er]) (by simp[results,Tryz.results82,go_sem]) rfl ⟨p,k,rfl,hR.out,Aa⟩
theorem plan_w (nm:ByteArray) (ep fl la sc:Int) (ps po:Option Addr) (ns cs no co:Nat) (a b:Int) (L:List Af) (er:Int) (w:World)
  (c1:∀W,Below w.heap.size w W->Blk W w.heap.size #[.string nm,.int .i64 ep,.int .i64 fl,.int .i64 la,.int .i64 sc,.slice ps ns cs,.slice po no co] 25->Blk W (w.heap.size+1) #[.int .i64 a] 2->Blk W (w.heap.size+1+1) #[.int .i64 b] 2->Calls Tryz.prog 82 #[.agg #[.string nm,.int .i64 ep,.int .i64 fl,.int .i64 la,.int .i64 sc,.slice ps ns cs,.slice po no co],.func (.func 83) #[] #[.pointer (some ⟨w.heap.size,0,none⟩),.pointer (some ⟨w.heap.size+1,0,none⟩),.pointer (some ⟨w.heap.size+1+1,0,none⟩)]] W (Fy L er W)):
  Calls Tryz.prog 34 #[.agg #[.string nm,.int .i64 ep,.int .i64 fl,.int .i64 la,.int .i64 sc,.slice ps ns cs,.slice po no co],.int .i64 a,.int .i64 b] w (Fy L er w):=by
 have H_c1:=Hd c1
 clear c1
 go_enter Tryz.func34,Tryz.ntmps34
 have hmf:∀(fn:Fn) (first cap:Array Value) (w:World),(Instr.makeFunc fn first cap).run Tryz.prog w= .ok (.func fn first cap) w:=fun _ _ _ _=>rfl
 go_upto_region 1 with(fail)
 refine Ac w (Bc w.heap.size #[.string nm,.int .i64 ep,.int .i64 fl,.int .i64 la,.int .i64 sc,.slice ps ns cs,.slice po no co] 25<|Bc (w.heap.size+1) #[.int .i64 a] 2<|Bc (w.heap.size+1+1) #[.int .i64 b] 2<|Bz) ?_
 rintro W1 hW z2 ⟨⟨b1,yb1,k1,f1⟩,⟨b2,yb2,k2,f2⟩,⟨b3,yb3,k3,f3⟩,-⟩
 go_wp2_with fail
 refine(H_c1.out W1 hW b1 b2 b3).mono ?_
 rintro e w3 ⟨p,k,rfl,hR,hb3⟩
 have z4:=hb3.size
 try simp at z4
 clear k1 f1 k2 f2 k3 f3
 refine Ad w w3 (Bc w.heap.size #[.string nm,.int .i64 ep,.int .i64 fl,.int .i64 la,.int .i64 sc,.slice ps ns cs,.slice po no co] 25<|Bc (w.heap.size+1) #[.int .i64 a] 2<|Bc (w.heap.size+1+1) #[.int .i64 b] 2<|Bz) ?_
 clear b1 b2 b3 hW
 rintro hW z5 ⟨⟨b1,yb1,k1,f1⟩,⟨b2,yb2,k2,f2⟩,⟨b3,yb3,k3,f3⟩,-⟩
 replace hR:=Hd hR
 go_wp2
 refine bodyPost_ret (v:= .tuple #[.slice p L.length k,.int .i64 er]) (by simp[results,Tryz.results34,go_sem]) rfl ⟨p,k,rfl,hR.out,Aa⟩
def plL (s:A3) (a b:Int):List Af:=if Bv s then Eg s a b else []
theorem c_bkPlan (s:A3) (ps po:Option Addr) (cs co:Nat) (a b:Int) (w:World) (hin:A9 w s ps po):
  Calls Tryz.prog 34 #[.agg (Cd s ps cs po co),.int .i64 a,.int .i64 b] w (Fy (plL s a b) (if Bv s then 0 else 340) w):=by
 unfold Cd
 refine plan_w _ _ _ _ _ _ _ _ _ _ _ a b _ _ w fun W hW k1 k2 k3=> ?_
 have hin':=hin.below hW
 have ck:=Gv s ps po cs co
 unfold Cd Du at ck
 unfold plL
 cases hc:Bv s with
 |false=>
  rw[hc] at ck
  exact Wk s.name s.eps s.floor s.last s.scale ps po s.segs.length cs s.opn.length co _ _ _ W (fun W' hW'=>ck W' (hin'.below hW'))
 |true=>
  rw[hc] at ck
  simp only[if_true]
  exact Y4 s.name s.eps s.floor s.last s.scale ps po s.segs.length cs s.opn.length co _ _ _ _ _ W (fun W' hW'=>ck W' (hin'.below hW')) fun W' hW'=>callsIn_wide.1 (Zn s ps po cs co a b _ _ _ W' (hin'.below hW') (El hc) (k1.below hW') (k2.below hW') (k3.below hW'))
end Go.Proofs.YtidfcoooccblaaaGreat
namespace Go.Proofs.YtidfcoooccblaaaGreat
open Go.RowKit
theorem c_plain (w:World):
  Calls Tryz.prog 72 #[] w fun e w'=>∃ps po,e= .returned (.agg (Cd Cz ps 1 po 2))/\Below w.heap.size w w'/\A9 w' Cz ps po:=by
 go_enter Tryz.func72,Tryz.ntmps72
 go_wp2
 obtain⟨W9,hW9⟩:∃W9,W9=((((w.alloc (.cells #[.string {data:= #[97]},.int .i64 2,.int .i64 3,.int .i64 12,.int .i64 0,.slice (some ⟨w.heap.size+1+1,0,none⟩) 1 1,.slice (some ⟨w.heap.size+1+1+1,0,none⟩) 2 2] 25)).alloc (.cells #[.int .i64 0,.int .i64 2,.int .i64 4] 144)).alloc (.cells #[.int .i64 1,.slice (some ⟨w.heap.size+1,0,none⟩) 1 1,.int .i64 10,.int .i64 0,.int .i64 0,.int .i64 1,.slice none 0 0,.int .i64 1] 98)).alloc (.cells #[.int .i64 9,.int .i64 20,.int .i64 12,.int .i64 5] 91)):=⟨_,rfl⟩
 have b1:Blk ((((w.alloc (.cells #[.string {data:= #[97]},.int .i64 2,.int .i64 3,.int .i64 12,.int .i64 0,.slice (some ⟨w.heap.size+1+1,0,none⟩) 1 1,.slice (some ⟨w.heap.size+1+1+1,0,none⟩) 2 2] 25)).alloc (.cells #[.int .i64 0,.int .i64 2,.int .i64 4] 144)).alloc (.cells #[.int .i64 1,.slice (some ⟨w.heap.size+1,0,none⟩) 1 1,.int .i64 10,.int .i64 0,.int .i64 0,.int .i64 1,.slice none 0 0,.int .i64 1] 98)).alloc (.cells #[.int .i64 9,.int .i64 20,.int .i64 12,.int .i64 5] 91)) w.heap.size #[.string {data:= #[97]},.int .i64 2,.int .i64 3,.int .i64 12,.int .i64 0,.slice (some ⟨w.heap.size+1+1,0,none⟩) 1 1,.slice (some ⟨w.heap.size+1+1+1,0,none⟩) 2 2] 25:=Ab
 have b2:Blk ((((w.alloc (.cells #[.string {data:= #[97]},.int .i64 2,.int .i64 3,.int .i64 12,.int .i64 0,.slice (some ⟨w.heap.size+1+1,0,none⟩) 1 1,.slice (some ⟨w.heap.size+1+1+1,0,none⟩) 2 2] 25)).alloc (.cells #[.int .i64 0,.int .i64 2,.int .i64 4] 144)).alloc (.cells #[.int .i64 1,.slice (some ⟨w.heap.size+1,0,none⟩) 1 1,.int .i64 10,.int .i64 0,.int .i64 0,.int .i64 1,.slice none 0 0,.int .i64 1] 98)).alloc (.cells #[.int .i64 9,.int .i64 20,.int .i64 12,.int .i64 5] 91)) (w.heap.size+1) (B1 [⟨0,2,4⟩]) 144:=(Ab:Blk _ (w.heap.size+1) #[.int .i64 0,.int .i64 2,.int .i64 4] 144)
 have b3:Blk ((((w.alloc (.cells #[.string {data:= #[97]},.int .i64 2,.int .i64 3,.int .i64 12,.int .i64 0,.slice (some ⟨w.heap.size+1+1,0,none⟩) 1 1,.slice (some ⟨w.heap.size+1+1+1,0,none⟩) 2 2] 25)).alloc (.cells #[.int .i64 0,.int .i64 2,.int .i64 4] 144)).alloc (.cells #[.int .i64 1,.slice (some ⟨w.heap.size+1,0,none⟩) 1 1,.int .i64 10,.int .i64 0,.int .i64 0,.int .i64 1,.slice none 0 0,.int .i64 1] 98)).alloc (.cells #[.int .i64 9,.int .i64 20,.int .i64 12,.int .i64 5] 91)) (w.heap.size+1+1) #[.int .i64 1,.slice (some ⟨w.heap.size+1,0,none⟩) 1 1,.int .i64 10,.int .i64 0,.int .i64 0,.int .i64 1,.slice none 0 0,.int .i64 1] 98:=Ab
 have b4:Blk ((((w.alloc (.cells #[.string {data:= #[97]},.int .i64 2,.int .i64 3,.int .i64 12,.int .i64 0,.slice (some ⟨w.heap.size+1+1,0,none⟩) 1 1,.slice (some ⟨w.heap.size+1+1+1,0,none⟩) 2 2] 25)).alloc (.cells #[.int .i64 0,.int .i64 2,.int .i64 4] 144)).alloc (.cells #[.int .i64 1,.slice (some ⟨w.heap.size+1,0,none⟩) 1 1,.int .i64 10,.int .i64 0,.int .i64 0,.int .i64 1,.slice none 0 0,.int .i64 1] 98)).alloc (.cells #[.int .i64 9,.int .i64 20,.int .i64 12,.int .i64 5] 91)) (w.heap.size+1+1+1) #[.int .i64 9,.int .i64 20,.int .i64 12,.int .i64 5] 91:=Ab
 have hB:Below w.heap.size w ((((w.alloc (.cells #[.string {data:= #[97]},.int .i64 2,.int .i64 3,.int .i64 12,.int .i64 0,.slice (some ⟨w.heap.size+1+1,0,none⟩) 1 1,.slice (some ⟨w.heap.size+1+1+1,0,none⟩) 2 2] 25)).alloc (.cells #[.int .i64 0,.int .i64 2,.int .i64 4] 144)).alloc (.cells #[.int .i64 1,.slice (some ⟨w.heap.size+1,0,none⟩) 1 1,.int .i64 10,.int .i64 0,.int .i64 0,.int .i64 1,.slice none 0 0,.int .i64 1] 98)).alloc (.cells #[.int .i64 9,.int .i64 20,.int .i64 12,.int .i64 5] 91)):=Aa
 rw[<-hW9] at b1 b2 b3 b4 hB⊢
 clear hW9
 have k1:=b1.cell
 have y1:=b1.lt
 refine bodyPost_ret (v:= .agg #[.string {data:= #[97]},.int .i64 2,.int .i64 3,.int .i64 12,.int .i64 0,.slice (some ⟨w.heap.size+1+1,0,none⟩) 1 1,.slice (some ⟨w.heap.size+1+1+1,0,none⟩) 2 2]) (by simp[results,Tryz.results72,go_sem,k1,y1]) rfl ⟨some ⟨w.heap.size+1+1,0,none⟩,some ⟨w.heap.size+1+1+1,0,none⟩,rfl,hB,⟨⟨fun i s hs=> ?_⟩,Kn (n:=4) b4 rfl,by decide,by decide⟩⟩
 have hi:i=0:=by
  have:=(List.getElem?_eq_some_iff.1 hs).1
  simp[Cz] at this
  exact this
 subst hi
 have e:s=⟨1,[⟨0,2,4⟩],10,0,0,1,[],1⟩:=(Option.some.inj hs).symm
 subst e
 refine⟨w.heap.size+1+1,0,some ⟨w.heap.size+1,0,none⟩,none,1,0,rfl,fun j v hv=> ?_,⟨Ai.of_blk b2 _ [] rfl,ints_nil _ _,by decide,by decide⟩,Nat.le_refl _⟩
 rw[show 0+0*8+j=j by omega,b3.cell]
 exact hv
theorem Wi (nm:ByteArray) (L1 L3:List Dl) (P:List Af) (r1 r0:Dl) (w:World) (h1:Hid (L1[1]? =some r1)) (h0:Hid (L3[0]? =some r0)) (e1:Hid (r1.n=2)) (e2:Hid (r0.x=9)) (e3:Hid (r0.y=11))
  (cP:∀W,Calls Tryz.prog 72 #[] W fun e w'=>∃ps po,e= .returned (.agg #[.string nm,.int .i64 2,.int .i64 3,.int .i64 12,.int .i64 0,.slice ps 1 1,.slice po 2 2])/\Below W.heap.size W w'/\A9 w' Cz ps po)
  (cB1:∀W ps po,A9 W Cz ps po->Calls Tryz.prog 38 #[.agg #[.string nm,.int .i64 2,.int .i64 3,.int .i64 12,.int .i64 0,.slice ps 1 1,.slice po 2 2],.int .i64 1,.int .i64 0,.int .i64 5,.int .i64 3] W fun e w'=>∃p k,e= .returned (.tuple #[.slice p 3 k,.int .i64 0])/\Cm w' p L1/\Below W.heap.size W w')
  (cB3:∀W ps po,A9 W Cz ps po->Calls Tryz.prog 38 #[.agg #[.string nm,.int .i64 2,.int .i64 3,.int .i64 12,.int .i64 0,.slice ps 1 1,.slice po 2 2],.int .i64 3,.int .i64 0,.int .i64 5,.int .i64 3] W fun e w'=>∃p k,e= .returned (.tuple #[.slice p 3 k,.int .i64 0])/\Cm w' p L3/\Below W.heap.size W w')
  (cL:∀W ps po,A9 W Cz ps po->Calls Tryz.prog 34 #[.agg #[.string nm,.int .i64 2,.int .i64 3,.int .i64 12,.int .i64 0,.slice ps 1 1,.slice po 2 2],.int .i64 0,.int .i64 9] W fun e w'=>∃p k,e= .returned (.tuple #[.slice p 2 k,.int .i64 0])/\Ai w' p P/\Below W.heap.size W w')
  (cO:∀W ps po,A9 W Cz ps po->Cb 33 #[.agg #[.string nm,.int .i64 2,.int .i64 3,.int .i64 12,.int .i64 0,.slice ps 1 1,.slice po 2 2],.int .i64 4,.int .i64 4,.int .i64 9] W (.agg #[.int .i64 0,.int .i64 0,.int .i64 38,.int .i64 42,.int .i64 0,.int .i64 0,.int .i64 0,.int .i64 0,.int .i64 0]))
  (cB4:∀W ps po,A9 W Cz ps po->Calls Tryz.prog 38 #[.agg #[.string nm,.int .i64 2,.int .i64 3,.int .i64 12,.int .i64 0,.slice ps 1 1,.slice po 2 2],.int .i64 4,.int .i64 0,.int .i64 0,.int .i64 1] W fun e w'=>∃p k,e= .returned (.tuple #[.slice p 0 k,.int .i64 2])/\Below W.heap.size W w')
  (cE:∀W p k g,Ai W p P->Blk W g #[.int .i64 2,.int .i64 0,.int .i64 2,.int .i64 3,.int .i64 0,.int .i64 1] 75->Cb 35 #[.slice p 2 k,.slice (some ⟨g,0,none⟩) 2 2] W (.bool true))
  (cO6:∀W ps po,A9 W Cz ps po->Cb 33 #[.agg #[.string nm,.int .i64 2,.int .i64 3,.int .i64 12,.int .i64 0,.slice ps 1 1,.slice po 2 2],.int .i64 6,.int .i64 0,.int .i64 9] W (.agg #[.int .i64 2,.int .i64 0,.int .i64 0,.int .i64 0,.int .i64 0,.int .i64 0,.int .i64 0,.int .i64 0,.int .i64 0])):
  Cb 28 #[] w (.bool true):=by
 have H_cP:=Hd cP
 clear cP
 have H_cB1:=Hd cB1
 clear cB1
 have H_cB3:=Hd cB3
 clear cB3
 have H_cL:=Hd cL
 clear cL
 have H_cO:=Hd cO
 clear cO
 have H_cB4:=Hd cB4
 clear cB4
 have H_cE:=Hd cE
 clear cE
 have H_cO6:=Hd cO6
 clear cO6
 go_enter Tryz.func28,Tryz.ntmps28
 go_wp2_with fail
 refine(H_cP.out _).mono ?_
 rintro e w1 ⟨ps1,po1,rfl,hb1,hs1⟩
 have z2:=hb1.size
 try simp at z2
 refine Ad w w1 (Bz) ?_
 rintro hW z3 ⟨-⟩
 go_wp2_with fail
 refine(H_cB1.out _ ps1 po1 hs1).mono ?_
 rintro e w4 ⟨p1,q1,rfl,hA,hb4⟩
 have z5:=hb4.size
 try simp at z5
 refine Ad w w4 (Bz) ?_
 clear hW
 rintro hW z6 ⟨-⟩
 clear hs1
 have b1:=hA
 clear hA
 go_wp2_with fail
 refine(H_cP.out _).mono ?_
 rintro e w7 ⟨ps2,po2,rfl,hb7,hs2⟩
 have z8:=hb7.size
 try simp at z8
 refine Ad w w7 (Rc (fun W'=>Cm W' p1 L1)<|Bz) ?_ (hR:=(Rc.mk (by first|exact b1|exact b1.below (by assumption)|exact b1.below Aa)<|trivial))
 clear b1 hW
 rintro hW z9 ⟨b1,-⟩
 go_wp2_with fail
 refine(H_cB3.out _ ps2 po2 hs2).mono ?_
 rintro e w10 ⟨p2,q2,rfl,hA,hb10⟩
 have z11:=hb10.size
 try simp at z11
 refine Ad w w10 (Rc (fun W'=>Cm W' p1 L1)<|Bz) ?_ (hR:=(Rc.mk (by first|exact b1|exact b1.below (by assumption)|exact b1.below Aa)<|trivial))
 clear b1 hW
 rintro hW z12 ⟨b1,-⟩
 clear hs2
 have b2:=hA
 clear hA
 go_wp2_with fail
 refine(H_cP.out _).mono ?_
 rintro e w13 ⟨ps3,po3,rfl,hb13,hs3⟩
 have z14:=hb13.size
 try simp at z14
 refine Ad w w13 (Rc (fun W'=>Cm W' p1 L1)<|Rc (fun W'=>Cm W' p2 L3)<|Bz) ?_ (hR:=(Rc.mk (by first|exact b1|exact b1.below (by assumption)|exact b1.below Aa)<|Rc.mk (by first|exact b2|exact b2.below (by assumption)|exact b2.below Aa)<|trivial))
 clear b1 b2 hW
 rintro hW z15 ⟨b1,b2,-⟩
 go_wp2_with fail
 refine(H_cL.out _ ps3 po3 hs3).mono ?_
 rintro e w16 ⟨p3,q3,rfl,hA,hb16⟩
 have z17:=hb16.size
 try simp at z17
 refine Ad w w16 (Rc (fun W'=>Cm W' p1 L1)<|Rc (fun W'=>Cm W' p2 L3)<|Bz) ?_ (hR:=(Rc.mk (by first|exact b1|exact b1.below (by assumption)|exact b1.below Aa)<|Rc.mk (by first|exact b2|exact b2.below (by assumption)|exact b2.below Aa)<|trivial))
 clear b1 b2 hW
 rintro hW z18 ⟨b1,b2,-⟩
 clear hs3
 have b3:=hA
 clear hA
 go_wp2_with fail
 refine(H_cP.out _).mono ?_
 rintro e w19 ⟨ps4,po4,rfl,hb19,hs4⟩
 have z20:=hb19.size
 try simp at z20
 refine Ad w w19 (Rc (fun W'=>Cm W' p1 L1)<|Rc (fun W'=>Cm W' p2 L3)<|Rc (fun W'=>Ai W' p3 P)<|Bz) ?_ (hR:=(Rc.mk (by first|exact b1|exact b1.below (by assumption)|exact b1.below Aa)<|Rc.mk (by first|exact b2|exact b2.below (by assumption)|exact b2.below Aa)<|Rc.mk (by first|exact b3|exact b3.below (by assumption)|exact b3.below Aa)<|trivial))
 clear b1 b2 b3 hW
 rintro hW z21 ⟨b1,b2,b3,-⟩
 go_wp2_with fail
 refine(H_cO.out _ ps4 po4 hs4).mono ?_
 rintro e w22 ⟨rfl,hb22⟩
 have z23:=hb22.size
 try simp at z23
 refine Ad w w22 (Rc (fun W'=>Cm W' p1 L1)<|Rc (fun W'=>Cm W' p2 L3)<|Rc (fun W'=>Ai W' p3 P)<|Bz) ?_ (hR:=(Rc.mk (by first|exact b1|exact b1.below (by assumption)|exact b1.below Aa)<|Rc.mk (by first|exact b2|exact b2.below (by assumption)|exact b2.below Aa)<|Rc.mk (by first|exact b3|exact b3.below (by assumption)|exact b3.below Aa)<|trivial))
 clear b1 b2 b3 hW
 rintro hW z24 ⟨b1,b2,b3,-⟩
 clear hb22
 clear hs4
 go_wp2_with fail
 refine(H_cP.out _).mono ?_
 rintro e w25 ⟨ps5,po5,rfl,hb25,hs5⟩
 have z26:=hb25.size
 try simp at z26
 refine Ad w w25 (Rc (fun W'=>Cm W' p1 L1)<|Rc (fun W'=>Cm W' p2 L3)<|Rc (fun W'=>Ai W' p3 P)<|Bc w22.heap.size #[.int .i64 0,.int .i64 0,.int .i64 38,.int .i64 42,.int .i64 0,.int .i64 0,.int .i64 0,.int .i64 0,.int .i64 0] 67<|Bz) ?_ (hR:=(Rc.mk (by first|exact b1|exact b1.below (by assumption)|exact b1.below Aa)<|Rc.mk (by first|exact b2|exact b2.below (by assumption)|exact b2.below Aa)<|Rc.mk (by first|exact b3|exact b3.below (by assumption)|exact b3.below Aa)<|Bc.mk (by exact Ab)<|trivial))
 clear b1 b2 b3 hW
 rintro hW z27 ⟨b1,b2,b3,⟨b4,yb4,k4,f4⟩,-⟩
 go_wp2_with fail
 refine(H_cB4.out _ ps5 po5 hs5).mono ?_
 rintro e w28 ⟨p5,q5,rfl,hb28⟩
 have z29:=hb28.size
 try simp at z29
 clear k4 f4
 refine Ad w w28 (Rc (fun W'=>Cm W' p1 L1)<|Rc (fun W'=>Cm W' p2 L3)<|Rc (fun W'=>Ai W' p3 P)<|Bc w22.heap.size #[.int .i64 0,.int .i64 0,.int .i64 38,.int .i64 42,.int .i64 0,.int .i64 0,.int .i64 0,.int .i64 0,.int .i64 0] 67<|Bz) ?_ (hR:=(Rc.mk (by first|exact b1|exact b1.below (by assumption)|exact b1.below Aa)<|Rc.mk (by first|exact b2|exact b2.below (by assumption)|exact b2.below Aa)<|Rc.mk (by first|exact b3|exact b3.below (by assumption)|exact b3.below Aa)<|Bc.mk (by exact Ab)<|trivial))
 clear b1 b2 b3 b4 hW
 rintro hW z30 ⟨b1,b2,b3,⟨b4,yb4,k4,f4⟩,-⟩
 clear hs5
 obtain⟨bc,oc,rfl,hc1⟩:=b1.at' 1 r1 h1.out
 obtain⟨bm,om,rfl,hm1⟩:=b2.at' 0 r0 h0.out
 have u1:=hc1 1 _ rfl
 have u2:=hm1 2 _ rfl
 have u3:=hm1 3 _ rfl
 rw[e1.out] at u1
 rw[e2.out] at u2
 rw[e3.out] at u3
 simp only[Nat.one_mul,Nat.zero_mul,Nat.add_zero] at u1 u2 u3
 have v1:=Br u1
 have v2:=Br u2
 try simp only at v1 v2
 clear hc1 hm1
 clear b1 b2
 have b1:=b3
 clear b3
 have b2:=b4
 clear b4 k4 f4
 have k2:=b2.cell
 have f2:=b2.frozen
 go_wp2_with fail
 refine(H_cE.out _ p3 q3 _ (Ai.alloc b1 _) (Blk.new' rfl)).mono ?_
 rintro e w31 ⟨rfl,hb31⟩
 have z32:=hb31.size
 try simp at z32
 clear k2 f2
 refine Ad w w31 (Rc (fun W'=>Ai W' p3 P)<|Bc w22.heap.size #[.int .i64 0,.int .i64 0,.int .i64 38,.int .i64 42,.int .i64 0,.int .i64 0,.int .i64 0,.int .i64 0,.int .i64 0] 67<|Bc w28.heap.size #[.int .i64 2,.int .i64 0,.int .i64 2,.int .i64 3,.int .i64 0,.int .i64 1] 75<|Bz) ?_ (hR:=(Rc.mk (by first|exact b1|exact b1.below (by assumption)|exact b1.below Aa)<|Bc.mk (by exact Ab)<|Bc.mk (by exact Ab)<|trivial))
 clear b1 b2 hW
 rintro hW z33 ⟨b1,⟨b2,yb2,k2,f2⟩,⟨b3,yb3,k3,f3⟩,-⟩
 clear hb31
 go_wp2_with fail
 refine(H_cP.out _).mono ?_
 rintro e w34 ⟨ps6,po6,rfl,hb34,hs6⟩
 have z35:=hb34.size
 try simp at z35
 clear k2 f2 k3 f3
 refine Ad w w34 (Rc (fun W'=>Ai W' p3 P)<|Bc w22.heap.size #[.int .i64 0,.int .i64 0,.int .i64 38,.int .i64 42,.int .i64 0,.int .i64 0,.int .i64 0,.int .i64 0,.int .i64 0] 67<|Bc w28.heap.size #[.int .i64 2,.int .i64 0,.int .i64 2,.int .i64 3,.int .i64 0,.int .i64 1] 75<|Bz) ?_ (hR:=(Rc.mk (by first|exact b1|exact b1.below (by assumption)|exact b1.below Aa)<|Bc.mk (by exact Ab)<|Bc.mk (by exact Ab)<|trivial))
 clear b1 b2 b3 hW
 rintro hW z36 ⟨b1,⟨b2,yb2,k2,f2⟩,⟨b3,yb3,k3,f3⟩,-⟩
 go_wp2_with fail
 refine(H_cO6.out _ ps6 po6 hs6).mono ?_
 rintro e w37 ⟨rfl,hb37⟩
 have z38:=hb37.size
 try simp at z38
 clear k2 f2 k3 f3
 refine Ad w w37 (Rc (fun W'=>Ai W' p3 P)<|Bc w22.heap.size #[.int .i64 0,.int .i64 0,.int .i64 38,.int .i64 42,.int .i64 0,.int .i64 0,.int .i64 0,.int .i64 0,.int .i64 0] 67<|Bc w28.heap.size #[.int .i64 2,.int .i64 0,.int .i64 2,.int .i64 3,.int .i64 0,.int .i64 1] 75<|Bz) ?_ (hR:=(Rc.mk (by first|exact b1|exact b1.below (by assumption)|exact b1.below Aa)<|Bc.mk (by exact Ab)<|Bc.mk (by exact Ab)<|trivial))
 clear b1 b2 b3 hW
 rintro hW z39 ⟨b1,⟨b2,yb2,k2,f2⟩,⟨b3,yb3,k3,f3⟩,-⟩
 clear hb37
 go_wp2
 refine bodyPost_ret (by simp[results,Tryz.results28,go_sem,k2,f2,k3,f3,yb2,yb3]) rfl ⟨rfl,by exact Aa⟩
theorem Ub {w:World} {g:Nat} {t:TypeId} (h:Blk w g #[.int .i64 2,.int .i64 0,.int .i64 2,.int .i64 3,.int .i64 0,.int .i64 1] t):Ai w (some ⟨g,0,none⟩) [⟨2,0,2⟩,⟨3,0,1⟩]:=Ai.of_blk (l:= [⟨2,0,2⟩,⟨3,0,1⟩]) h _ [] rfl
theorem Wq :Bv Cz=true/\Eg Cz 0 9= [⟨2,0,2⟩,⟨3,0,1⟩]/\(Dk Cz 1 0 5 3)[1]? =some (M8 Cz 1 5 9)/\(M8 Cz 1 5 9).n=2/\(Dk Cz 3 0 5 3)[0]? =some (M8 Cz 3 0 4)/\(M8 Cz 3 0 4).x=9/\(M8 Cz 3 0 4).y=11/\oneA Cz 4 4 9= #[.int .i64 0,.int .i64 0,.int .i64 38,.int .i64 42,.int .i64 0,.int .i64 0,.int .i64 0,.int .i64 0,.int .i64 0]/\oneA Cz 6 0 9= #[.int .i64 2,.int .i64 0,.int .i64 0,.int .i64 0,.int .i64 0,.int .i64 0,.int .i64 0,.int .i64 0,.int .i64 0]:=by
 refine⟨?_,?_,?_,?_,?_,?_,?_,?_,?_⟩<;>kernel_rfl
theorem X6 (w:World):Cb 28 #[] w (.bool true):=by
 obtain⟨x1,x2,x3,x4,x5,x6,x7,x8,x9⟩:=Wq
 have a1:Gl 1 0 5 3=true:=by decide
 have a3:Gl 3 0 5 3=true:=by decide
 have a4:Gl 4 0 0 1=false:=by decide
 refine Wi ⟨#[97]⟩ (Dk Cz 1 0 5 3) (Dk Cz 3 0 5 3) [⟨2,0,2⟩,⟨3,0,1⟩] _ _ w (Hd x3) (Hd x5) (Hd x4) (Hd x6) (Hd x7) (fun W=>c_plain W) (fun W ps po h=> ?_) (fun W ps po h=> ?_) (fun W ps po h=> ?_) (fun W ps po h=> ?_) (fun W ps po h=> ?_) (fun W p k g h1 h2=> ?_) (fun W ps po h=> ?_)
 ·have t:=Ge Cz ps po 1 2 1 0 5 3 W h
  unfold bkL bkE at t
  rw[x1,a1] at t
  exact t
 ·have t:=Ge Cz ps po 1 2 3 0 5 3 W h
  unfold bkL bkE at t
  rw[x1,a3] at t
  exact t
 ·have t:=c_bkPlan Cz ps po 1 2 0 9 W h
  unfold plL at t
  rw[x1,if_pos rfl,if_pos rfl,x2] at t
  exact t
 ·have t:=Wb Cz ps po 1 2 4 4 9 W h (by decide)
  rw[x8] at t
  exact t
 ·have t:=Ge Cz ps po 1 2 4 0 0 1 W h
  unfold bkL bkE at t
  rw[x1,a4] at t
  refine t.mono ?_
  rintro e w' ⟨p,k,he,_,hB⟩
  exact⟨p,k,he,hB⟩
 ·have t:=Yf p k (some ⟨g,0,none⟩) 2 [⟨2,0,2⟩,⟨3,0,1⟩] [⟨2,0,2⟩,⟨3,0,1⟩] W (by decide) h1 (Ub h2)
  rw[show decide (([⟨2,0,2⟩,⟨3,0,1⟩]:List Af)= [⟨2,0,2⟩,⟨3,0,1⟩])=true from decide_eq_true rfl] at t
  exact t
 ·have t:=Wb Cz ps po 1 2 6 0 9 W h (by decide)
  rw[x9] at t
  exact t
theorem Tryz.infoSeg :(Tryz.prog.info? 98).map (fun i=>(i.zero,i.size,i.bytes))=some (some (.agg #[.int .i64 0,.slice none 0 0,.int .i64 0,.int .i64 0,.int .i64 0,.int .i64 0,.slice none 0 0,.int .i64 0]),8,96):=by kernel_rfl
theorem Eo (p:Option Addr):(Option.map (fun x:Addr=>x) p)=p:=by cases p<;>rfl
theorem Qw (l:List Cu):(Dt l).length=l.length*8:=by
 unfold Dt
 induction l with
 |nil=>rfl
 |cons x l ih=>rw[List.flatMap_cons,List.length_append,ih,Lw,List.length_cons];omega
theorem Qv {l:List Cu} (u:Value) (h:u∈Dt l):u.oneCell'=true:=by
 unfold Dt at h
 obtain⟨r,_,hu⟩:=List.mem_flatMap.1 h
 unfold Fb C7 at hu
 simp at hu
 rcases hu with rfl|rfl|rfl|rfl|rfl|rfl|rfl|rfl<;>rfl
def ownG (s:A4):A4:=⟨s.K,s.runs.take 300,s.A,s.R,s.n,s.d,s.raw.take 300,s.E⟩
theorem Ai.rex1 {w w':World} {p:Option Addr} {l:List Af} {g:Nat} {L:List Nat} (h:Ai w p l) (hL:∀x,x∈L->x<=g) (hg:∀a,p=some a->g<a.block) (hr:Rex L w w'):Ai w' p l:=⟨fun i r hi=>by
 obtain⟨b,o,e,h1,h2,h3⟩:=h.at' i r hi
 have hb:=hg _ e
 have key:∀z v,w.cell? ⟨b,z,none⟩=some v->w'.cell? ⟨b,z,none⟩=some v:=fun z v hv=>(World.cell?_of_block (hr.block b (Br hv) (fun hx=>by have:=hL _ hx;simp at hb;omega))).trans hv
 exact⟨b,o,e,key _ _ h1,key _ _ h2,key _ _ h3⟩⟩
theorem Au.rex1 {w w':World} {p:Option Addr} {l:List Int} {g:Nat} {L:List Nat} (h:Au w p l) (hL:∀x,x∈L->x<=g) (hg:∀a,p=some a->g<a.block) (hr:Rex L w w'):Au w' p l:=⟨fun i r hi=>by
 obtain⟨b,o,e,h1⟩:=h.at' i r hi
 have hb:=hg _ e
 exact⟨b,o,e,(World.cell?_of_block (hr.block b (Br h1) (fun hx=>by have:=hL _ hx;simp at hb;omega))).trans h1⟩⟩
structure Oq (W:World) (g:Nat) (r0 r:Cu):Prop where
 says:r.s=ownG r0.s
 runs:Ai W r.p r.s.runs
 raw:Au W r.q r.s.raw
 capV:r.s.raw.length<=r.vc
 farR:∀a,r.p=some a->g<a.block
 farV:∀a,r.q=some a->g<a.block
theorem Oq.rex {W W':World} {g:Nat} {r0 r:Cu} {L:List Nat} (h:Oq W g r0 r) (hL:∀x,x∈L->x<=g) (hr:Rex L W W'):Oq W' g r0 r:=⟨h.says,h.runs.rex1 hL h.farR hr,h.raw.rex1 hL h.farV hr,h.capV,h.farR,h.farV⟩
structure Lq (W:World) (g:Nat) (rows R:List Cu) (i:Nat):Prop where
 len:R.length=rows.length
 rest:∀k,i<=k->R[k]? =rows[k]?
 own:∀k,k<i->∀r,R[k]? =some r->∃r0,rows[k]? =some r0/\Oq W g r0 r
theorem Lq.start (W:World) (g:Nat) (rows:List Cu):Lq W g rows rows 0:=⟨rfl,fun _ _=>rfl,fun k h=>by omega⟩
theorem Lq.rex {W W':World} {g i:Nat} {rows R:List Cu} {L:List Nat} (h:Lq W g rows R i) (hL:∀x,x∈L->x<=g) (hr:Rex L W W'):Lq W' g rows R i:=⟨h.len,h.rest,fun k hk r hR=>by
 obtain⟨r0,h1,h2⟩:=h.own k hk r hR
 exact⟨r0,h1,h2.rex hL hr⟩⟩
theorem Lq.step {W:World} {g i:Nat} {rows R:List Cu} {r0 r1:Cu} (h:Lq W g rows R i) (h0:rows[i]? =some r0) (h1:Oq W g r0 r1):Lq W g rows (R.set i r1) (i+1):=⟨by rw[List.length_set];exact h.len,fun k hk=>by rw[List.getElem?_set_ne (by omega)];exact h.rest k (by omega),fun k hk r hR=>by
 rw[List.getElem?_set] at hR
 split at hR
 ·rename_i e
  subst e
  split at hR
  ·injection hR with hR
   subst hR
   exact⟨r0,h0,h1⟩
  ·cases hR
 ·exact h.own k (by omega) r hR⟩
theorem T4 (r:Cu) (l:List Af) (p:Option Addr) (c:Nat):Fb ⟨⟨r.s.K,l,r.s.A,r.s.R,r.s.n,r.s.d,r.s.raw,r.s.E⟩,p,r.q,c,r.vc⟩=(Fb r).setIfInBounds 1 (.slice p l.length c):=rfl
theorem Wv (r:Cu) (l:List Int) (q:Option Addr) (c:Nat):Fb ⟨⟨r.s.K,r.s.runs,r.s.A,r.s.R,r.s.n,r.s.d,l,r.s.E⟩,r.p,q,r.cap,c⟩=(Fb r).setIfInBounds 6 (.slice q l.length c):=rfl
theorem Tryz.infoPt :(Tryz.prog.info? 91).map (fun i=>(i.zero,i.size,i.bytes))=some (some (.agg #[.int .i64 0,.int .i64 0]),2,16):=by kernel_rfl
theorem Hi :∀l:List (Int×Int),(Ar l).length=l.length*2
 | []=>rfl
 |x::l=>by
  rw[show Ar (x::l)= [.int .i64 x.1,.int .i64 x.2]++Ar l from rfl,List.length_append,Hi l]
  simp only[List.length_cons,List.length_nil]
  omega
theorem Hh :∀(l:List (Int×Int)) (u:Value),u∈Ar l->u.oneCell'=true
 | [],u,h=>by simp[Ar] at h
 |x::l,u,h=>by
  rw[show Ar (x::l)= [.int .i64 x.1,.int .i64 x.2]++Ar l from rfl] at h
  simp only[List.mem_append,List.mem_cons,List.not_mem_nil,or_false] at h
  rcases h with(rfl|rfl)|h
  ·rfl
  ·rfl
  ·exact Hh l u h
theorem Lj :∀l:List (Int×Int),Ar l=l.flatMap fun x=> [.int .i64 x.1,.int .i64 x.2]
 | []=>rfl
 |x::l=>by rw[List.flatMap_cons,<-Lj l];rfl
theorem Pc {w:World} {a:Addr} {l:List (Int×Int)} (h:A5 w (some a) l) (j:Nat) (u:Value) (hu:(Ar l)[j]? =some u):w.cell? (a.add j)=some u:=by
 rw[Lj] at hu
 obtain⟨i,x,k,h1,h2,rfl,h3⟩:=Qu _ 2 (by omega) (fun _=>rfl) l j u hu
 obtain⟨b,o,e,c0,c1⟩:=h.at' i x h1
 injection e with e
 subst e
 rw[show (⟨b,o,none⟩:Addr).add (i*2+k)=⟨b,o+i*2+k,none⟩ by unfold Addr.add;split<;>simp_all<;>omega]
 match k,h2,h3 with
 |0,_,h3=>simp at h3;subst h3;exact c0
 |1,_,h3=>simp at h3;subst h3;exact c1
theorem A5.take9 {w:World} {p:Option Addr} {l:List (Int×Int)} (h:A5 w p l) (k:Nat):A5 w p (l.take k):=⟨fun i r hr=>h.at' i r (by
 rw[List.getElem?_take] at hr
 split at hr
 ·exact hr
 ·cases hr)⟩
def ownRel (w:World) (nm:ByteArray) (ep fl la sc:Int) (po:Option Addr) (co np:Nat) (rows:List Cu) (M gS capS:Nat) (a':Act) (W:World):Prop:=
 Below w.heap.size w W/\Blk W w.heap.size #[.string nm,.int .i64 ep,.int .i64 fl,.int .i64 la,.int .i64 sc,.slice (some ⟨gS,0,none⟩) M capS,.slice po np co] 25/\Blk W (w.heap.size+1) #[.string .empty,.int .i64 0,.int .i64 0,.int .i64 0,.int .i64 0,.slice none 0 0,.slice none 0 0] 25/\∃(i:Nat) (cur:Array Value) (R:List Cu),Blk W gS cur 98/\Fw cur R/\Lq W gS rows R i/\(∃u:Nat->Value,a'= {tmps:= #[u 0,.pointer (some ⟨w.heap.size,0,none⟩),.pointer (some ⟨w.heap.size+1,0,none⟩),u 3,u 4,u 5,u 6,u 7,u 8,u 9,u 10,u 11,u 12,u 13,u 14,u 15,.slice (some ⟨gS,0,none⟩) M capS,.int .i64 (M:Int),.int .i64 (i:Int),u 19,u 20,u 21,u 22,u 23,u 24,u 25,u 26,u 27,u 28,u 29,u 30,u 31,u 32,u 33,u 34,u 35,u 36,u 37,u 38,u 39,u 40,u 41,u 42,u 43,u 44,u 45,u 46,u 47,u 48,u 49,u 50,u 51,u 52,u 53,u 54,u 55,u 56,u 57,u 58,u 59,u 60,u 61,u 62],defers:= []})/\i<=M
def RowOwn (w:World) (e:TypeId) (n k:Nat) (news:List Value) (v:Value) (w':World):Prop:=∃g cap' cur,v= .slice (some ⟨g,0,none⟩) n cap'/\w.heap.size<=g/\Blk w' g cur e/\n<=cap'/\cur.toList.take k=news
theorem Oz (a:Addr) (cap:Nat) (rows:List Cu) (w:World) (hl:rows.length<=100) (h:Dj w (some a) rows):Calls Tryz.prog 73 #[.slice (some a) rows.length cap] w fun e w'=>∃v,e= .returned v/\Below w.heap.size w w'/\RowOwn w 98 rows.length (rows.length*8) (Dt rows) v w':=by
 have hnil:∀W,(binOp .eql 22 (.slice (some a) rows.length cap) (.slice none 0 0)).run Tryz.prog W= .ok (.bool false) W:=fun W=>Lib.run_eql_slice_nil W 22 98 _ _ _ _ _ (by kernel_rfl)
 go_enter Tryz.func73,Tryz.ntmps73
 go_upto_region 3 with(fail)
 clear hnil
 have hmk:∀W,(Instr.buildSlice 22 0 #[]).run Tryz.prog W= .ok (.slice (some ⟨W.heap.size,0,none⟩) 0 0) (W.alloc (.cells #[] 98)):=fun W=>by kernel_rfl
 obtain⟨i,hi,hz0,hz1,hz2⟩:=info_parts Tryz.infoSeg
 have hW:Below w.heap.size w (w.alloc (.cells #[] 98)):=Aa
 have hown0:=World.ownsRow_made (e:=98) (size:=8) (base:=w.heap.size) w #[] 0 (Nat.le_refl _) (by simp[maxLen]) (by simp)
 go_wp2_with (at_builtin;refine wpList_append_own _ rfl (.tmp 5) (.tmp 6) 22 rfl w.heap.size 98 i _ 8 96 (by kernel_rfl) hi hz0 hz1 hz2 rfl (by omega) _ 0 [] rfl hown0 a rows.length cap (Dt rows) rfl (by rw[Qw]) (fun j u hu=>(h.below hW).flat a rfl j u hu) (fun v hv=>Qv v hv) (by simp[maxLen];omega) (by omega) (by simp) ?_)
 intro v' w' hown hgr hvn
 have hB:=Hd (Gd hgr)
 replace hown:=Hd hown
 replace hvn:=Hd hvn
 clear hgr
 go_wp2
 go_ret
 obtain⟨_,h2|⟨g,cap',cur,rfl,hg,hb,hn,_,hc,ht⟩⟩:=hown.out
 ·exact(hvn.out h2.1).elim
 ·exact⟨_,rfl,hB.out,g,cap',cur,by simp,hg,hb,by omega,by simpa using ht⟩
theorem Ll (a:Addr) (cap:Nat) (l:List (Int×Int)) (w:World) (hl:l.length<=100) (h:A5 w (some a) l):Calls Tryz.prog 74 #[.slice (some a) l.length cap] w fun e w'=>∃v,e= .returned v/\Below w.heap.size w w'/\RowOwn w 91 l.length (l.length*2) (Ar l) v w':=by
 have hnil:∀W,(binOp .eql 23 (.slice (some a) l.length cap) (.slice none 0 0)).run Tryz.prog W= .ok (.bool false) W:=fun W=>Lib.run_eql_slice_nil W 23 91 _ _ _ _ _ (by kernel_rfl)
 go_enter Tryz.func74,Tryz.ntmps74
 go_upto_region 3 with(fail)
 clear hnil
 have hmk:∀W,(Instr.buildSlice 23 0 #[]).run Tryz.prog W= .ok (.slice (some ⟨W.heap.size,0,none⟩) 0 0) (W.alloc (.cells #[] 91)):=fun W=>by kernel_rfl
 obtain⟨i,hi,hz0,hz1,hz2⟩:=info_parts Tryz.infoPt
 have hW:Below w.heap.size w (w.alloc (.cells #[] 91)):=Aa
 have hown0:=World.ownsRow_made (e:=91) (size:=2) (base:=w.heap.size) w #[] 0 (Nat.le_refl _) (by simp[maxLen]) (by simp)
 go_wp2_with (at_builtin;refine wpList_append_own _ rfl (.tmp 5) (.tmp 6) 23 rfl w.heap.size 91 i _ 2 16 (by kernel_rfl) hi hz0 hz1 hz2 rfl (by omega) _ 0 [] rfl hown0 a l.length cap (Ar l) rfl (by rw[Hi]) (fun j u hu=>Pc (h.below hW) j u hu) (fun v hv=>Hh l v hv) (by simp[maxLen];omega) (by omega) (by simp) ?_)
 intro v' w' hown hgr hvn
 have hB:=Hd (Gd hgr)
 replace hown:=Hd hown
 replace hvn:=Hd hvn
 clear hgr
 go_wp2
 go_ret
 obtain⟨_,h2|⟨g,cap',cur,rfl,hg,hb,hn,_,hc,ht⟩⟩:=hown.out
 ·exact(hvn.out h2.1).elim
 ·exact⟨_,rfl,hB.out,g,cap',cur,by simp,hg,hb,by omega,by simpa using ht⟩
theorem Q1 (w:World):Cb 73 #[.slice none 0 0] w (.slice none 0 0):=by
 go_enter Tryz.func73,Tryz.ntmps73
 have hnil:∀W,(binOp .eql 22 (.slice none 0 0) (.slice none 0 0)).run Tryz.prog W= .ok (.bool true) W:=fun W=>by kernel_rfl
 go_wp2
 go_ret
 exact⟨rfl,Aa⟩
theorem My (w:World):Cb 74 #[.slice none 0 0] w (.slice none 0 0):=by
 go_enter Tryz.func74,Tryz.ntmps74
 have hnil:∀W,(binOp .eql 23 (.slice none 0 0) (.slice none 0 0)).run Tryz.prog W= .ok (.bool true) W:=fun W=>by kernel_rfl
 go_wp2
 go_ret
 exact⟨rfl,Aa⟩
theorem S8 (p:Option Addr) (cap:Nat) (l:List Af) (w:World) (hl:l.length<=300) (h:Ai w p l) (hn:p=none->l.length=0/\cap=0):
  Calls Tryz.prog 75 #[.slice p l.length cap] w (Vj w p l):=by
 cases p with
 |none=>
  obtain⟨h1,rfl⟩:=hn rfl
  have e:l= []:=List.length_eq_zero_iff.1 h1
  subst e
  exact Q3 w
 |some a=>exact O0 a cap l w hl h
theorem S9 (p:Option Addr) (cap:Nat) (l:List Int) (w:World) (hl:l.length<=300) (h:Au w p l) (hn:p=none->l.length=0/\cap=0):
  Calls Tryz.prog 76 #[.slice p l.length cap] w (Vk w p l):=by
 cases p with
 |none=>
  obtain⟨h1,rfl⟩:=hn rfl
  have e:l= []:=List.length_eq_zero_iff.1 h1
  subst e
  exact Q4 w
 |some a=>exact O1 a cap l w hl h
section
variable {P:Program} {ops:Array Oper} {C:World->Prop} {X:List (Nat×Nat)} {a0:Act} {n:Nat} {Q:Exit->Act->World->Prop}
theorem Gs {m i:Nat} {o:Oper} {Ψ:Nat->Bg} {listed:Array Bool} {a:Act} {w w':World} {u:Value} (hok:Ok ops n m) (hm:m=a0.tmps.size) (hC:∀i,i<n->∀u w w',C w->Rex (D3 X i) w w'->Ψ i u w'->C w')
  (hcl:∀i,i<n->A8 (Bl X i) (Ψ i)) (inv:Inv ops C a0 n Ψ listed a w) (hr:i∈Region.ready .any ops listed) (hi:i<n) (ho:ops[i]? =some o)
  (hR:Rex (D3 X i) w w') (hΨ:Ψ i u w') (hnew:A2 o=true->u=undef∨Vi w w' u):Inv ops C a0 n Ψ (listed.setIfInBounds i true) (a.put o.dst u) w':=by
 obtain⟨hun,o',ho',hall⟩:=mem_ready.1 hr
 obtain rfl:o'=o:=by rw[ho] at ho';injection ho' with h;exact h.symm
 have hil:i<listed.size:=by rw[inv.lsize];exact(Array.getElem?_eq_some_iff.1 ho).1
 have hwi:Bo ops i=o'.dst:=by simp[Bo,ho]
 have hset:∀j,(listed.setIfInBounds i true).getD j false=true->j=i∨listed.getD j false=true:=by
  intro j hj
  by_cases hji:j=i
  ·exact .inl hji
  ·exact .inr (by rwa [getD_set_ne false (Ne.symm hji)] at hj)
 have hdsz:∀d,o'.dst=some d->d<a.tmps.size:=fun d hd=>by rw[inv.size,<-hm];exact hok.dst i d hi (by rw[hwi,hd])
 have hkeep:∀s,o'.dst≠some s->(a.put o'.dst u).tmps.getD s undef=a.tmps.getD s undef:=by
  intro s hs
  cases hd:o'.dst with
  |none=>rfl
  |some d=>exact Fe (fun e=>hs (by rw[hd,e]))
 have hput:∀d,o'.dst=some d->(a.put o'.dst u).tmps.getD d undef=u:=by
  intro d hd
  rw[hd]
  exact Gb (hdsz d hd)
 have hclosed:∀j,j<n->j≠i->∀v,Ψ j v w->Ψ j v w':=fun j hj hji v hv=>hcl j hj v w w' (hR.more (N0 (Ne.symm hji))) hv
 have hother:∀j,j<n->j≠i->∀d,Bo ops j=some d->o'.dst≠some d:=fun j hj hji d hd e=>hji (hok.uniq j i d hj hi hd (by rw[hwi,e]))
 refine⟨hC i hi u _ _ inv.c hR hΨ,?_,?_,by simp[inv.lsize],?_,?_,?_,?_,?_,?_⟩
 ·cases hd:o'.dst<;>simp[Act.put,inv.size]
 ·cases hd:o'.dst<;>simp[Act.put,inv.defers]
 ·intro j oj hj hl e he hb
  rcases hset j hl with rfl|hl
  ·have:oj=o':=by rw[ho] at hj;injection hj with h;exact h.symm
   subst this
   exact getD_set_true (hall e he hb)
  ·exact getD_set_true (inv.down j oj hj hl e he hb)
 ·intro j hj hl d hd
  by_cases hji:j=i
  ·subst hji
   rw[hput d (by rw[<-hwi,hd])]
   exact hΨ
  ·rw[hkeep d (hother j hj hji d hd)]
   exact hclosed j hj hji _ (inv.val j hj ((hset j hl).resolve_left hji) d hd)
 ·intro j hj hl hd
  by_cases hji:j=i
  ·subst hji;exact⟨u,hΨ⟩
  ·obtain⟨u',hu'⟩:=inv.eff j hj ((hset j hl).resolve_left hji) hd
   exact⟨u',hclosed j hj hji _ hu'⟩
 ·intro s hs
  have h1:o'.dst≠some s:=by
   have:=hs i hi (by simp[hil])
   rwa [hwi] at this
  rw[hkeep s h1]
  exact inv.old s fun j hj hl=>hs j hj (getD_set_true hl)
 ·intro j oj d hj hl hoj hal hd x hx
  by_cases hji:j=i
  ·subst hji
   have:oj=o':=by rw[ho] at hoj;injection hoj with h;exact h.symm
   subst this
   rw[hput d hd] at hx
   rcases hnew hal with h|⟨b,h,_,hb⟩
   ·rw[h] at hx;simp[undef] at hx
   ·rw[h] at hx;injection hx with hx;injection hx with hx;subst hx;exact hb
  ·have hne:=hother j hj hji d (by simp[Bo,hoj,hd])
   rw[hkeep d hne] at hx
   exact Nat.lt_of_lt_of_le (inv.new j oj d hj ((hset j hl).resolve_left hji) hoj hal hd x hx) hR.size
 ·intro j oj d k ok d' hj hk hjk hlj hlk hoj hok' haj hak hd hd' x hx hx'
  by_cases hji:j=i
  ·subst hji
   have:oj=o':=by rw[ho] at hoj;injection hoj with h;exact h.symm
   subst this
   rw[hput d hd] at hx
   have hne:=hother k hk (Ne.symm hjk) d' (by simp[Bo,hok',hd'])
   rw[hkeep d' hne] at hx'
   have h2:=inv.new k ok d' hk ((hset k hlk).resolve_left (Ne.symm hjk)) hok' hak hd' x hx'
   rcases hnew haj with h|⟨b,h,hb,_⟩
   ·rw[h] at hx;simp[undef] at hx
   ·rw[h] at hx;injection hx with hx;injection hx with hx;subst hx;simp at h2;omega
  ·by_cases hki:k=i
   ·subst hki
    have:ok=o':=by rw[ho] at hok';injection hok' with h;exact h.symm
    subst this
    rw[hput d' hd'] at hx'
    have hne:=hother j hj hji d (by simp[Bo,hoj,hd])
    rw[hkeep d hne] at hx
    have h2:=inv.new j oj d hj ((hset j hlj).resolve_left hji) hoj haj hd x hx
    rcases hnew hak with h|⟨b,h,hb,_⟩
    ·rw[h] at hx';simp[undef] at hx'
    ·rw[h] at hx';injection hx' with hx';injection hx' with hx';subst hx';simp at h2;omega
   ·have hne:=hother j hj hji d (by simp[Bo,hoj,hd])
    have hne':=hother k hk hki d' (by simp[Bo,hok',hd'])
    rw[hkeep d hne] at hx
    rw[hkeep d' hne'] at hx'
    exact inv.apart j oj d k ok d' hj hk hjk ((hset j hlj).resolve_left hji) ((hset k hlk).resolve_left hki) hoj hok' haj hak hd hd' x hx hx'
theorem Xy {m i:Nat} {Ψ:Nat->Bg} {listed:Array Bool} {a:Act} {w:World} (hok:Ok ops n m) (hm:m=a0.tmps.size) (hC:∀i,i<n->∀u w w',C w->Rex (D3 X i) w w'->Ψ i u w'->C w')
  (hcl:∀i,i<n->A8 (Bl X i) (Ψ i)) (hop:∀i o,i<n->ops[i]? =some o->L4 P ops C (D3 X i) (Al a0 (Cr ops Ψ i)) o (Ψ i))
  (inv:Inv ops C a0 n Ψ listed a w) (hr:i∈Region.ready .any ops listed) (hi:i<n):
  wpOp P ops Q i (Inv ops C a0 n Ψ (listed.setIfInBounds i true)) a w:=by
 obtain⟨_,o,ho,_⟩:=mem_ready.1 hr
 obtain⟨h1,h2⟩:=hop i o hi ho a w inv.c (Lh hok inv hr hi ho)
 unfold wpOp
 simp only[ho]
 by_cases hw:Region.wanted o (yielded ops a.tmps)=true
 ·simp only[hw,if_true]
  refine .inl ?_
  have h1:=h1 hw
  unfold Oper.wp
  generalize (execOp a.eval o).run P w=r at h1
  cases r with
  |ok x w'=>
   cases x<;>simp only[Kf] at h1<;>simp only[Oper.upon]
   case value u=>exact Gs hok hm hC hcl inv hr hi ho h1.1 h1.2.1 fun ha=> .inr (h1.2.2 ha)
   case skip=>exact Gs hok hm hC hcl inv hr hi ho h1.1 h1.2.1 fun ha=>by rw[h1.2.2] at ha;cases ha
   case enter f args=>
    obtain⟨rfl,hna,hc⟩:=h1
    refine hc.mono fun e w'' ⟨u,he,hR,hΦ⟩=> ?_
    subst he
    exact Gs hok hm hC hcl inv hr hi ho hR hΦ fun ha=>by rw[hna] at ha;cases ha
  |halt x w'=>simp only[Kf] at h1
 ·have hw':Region.wanted o (yielded ops a.tmps)=false:=by simpa using hw
  simp only[hw',Bool.false_eq_true,if_false]
  exact Gs hok hm hC hcl inv hr hi ho (Rex.refl _ _) (h2 hw') fun _=> .inl rfl
theorem Si {m:Nat} {Ψ:Nat->Bg} (hok:Ok ops n m) (hm:m=a0.tmps.size) (hC:∀i,i<n->∀u w w',C w->Rex (D3 X i) w w'->Ψ i u w'->C w')
  (hcl:∀i,i<n->A8 (Bl X i) (Ψ i)) (hop:∀i o,i<n->ops[i]? =some o->L4 P ops C (D3 X i) (Al a0 (Cr ops Ψ i)) o (Ψ i))
  (hQ:∀c a d v w,Q (.panic c) (Act.put a d v) w->Q (.panic c) a w)
  (hFin:∀a w,(∃listed,Inv ops C a0 n Ψ listed a w/\∀i,i<n->listed.getD i false=true)->wpList P ops Q (ops.toList.drop n) a w):
  ∀(f:Nat) (listed:Array Bool) (a:Act) (w:World),Inv ops C a0 n Ψ listed a w->listed.toList.count false=f->
   (∀i o,i<n->ops[i]? =some o->Ef o=false->listed.getD i false=true)->(∀t,n<=t->listed.getD t false=false)->wpAny P .any ops Q f listed a w:=by
 intro f
 induction f with
 |zero=>
  intro listed a w inv hcnt hnp htl
  have hall:∀i,i<ops.size->listed.getD i false=true:=by
   intro i hi
   have h0:¬false∈listed.toList:=by rw[<-List.count_eq_zero];exact hcnt
   have hi':i<listed.size:=by rw[inv.lsize];exact hi
   cases hb:listed[i] with
   |true=>simp[hi',hb]
   |false=>exact absurd (by rw[<-hb];exact Array.mem_toList_iff.2 (Array.getElem_mem hi')) h0
  have hn:n=ops.size:=by
   rcases Nat.lt_or_ge n ops.size with h|h
   ·have:=htl n (Nat.le_refl _);rw[hall n h] at this;cases this
   ·exact Nat.le_antisymm hok.le h
  have hready:Region.ready .any ops listed= []:=by
   apply List.eq_nil_iff_forall_not_mem.2
   intro k hk
   obtain⟨h1,o,ho,_⟩:=mem_ready.1 hk
   have hk':=(Array.getElem?_eq_some_iff.1 ho).1
   have h2:=hall k hk'
   simp[inv.lsize,hk'] at h1 h2
   rw[h1] at h2;cases h2
  have:=hFin a w ⟨listed,inv,fun i hi=>hall i (by omega)⟩
  rw[hn,List.drop_eq_nil_of_le (by simp)] at this
  exact⟨hready,this⟩
 |succ f ih=>
  intro listed a w inv hcnt hnp htl
  by_cases hbody:∀i,i<n->listed.getD i false=true
  ·--only the tail is left
   have hl:listed=(Array.replicate n true)++Array.replicate (ops.size-n) false:=by
    have hle:=hok.le
    apply Array.ext
    ·simp[inv.lsize];omega
    ·intro i h1 h2
     by_cases hi:i<n
     ·have:=hbody i hi
      simp[h1] at this
      simp[hi,this]
     ·have:=htl i (by omega)
      simp[h1] at this
      simp[Array.getElem_append,hi,this]
   have hc:listed.toList.count false=ops.size-n:=by
    rw[hl];simp[List.count_replicate]
   have hseq:=hok.seq
   unfold H9 at hseq
   rw[<-hl] at hseq
   have hlen:(ops.toList.drop n).length=ops.size-n:=by simp
   have:=wpAny_of_seq (P:=P) (md:= .any) (Q':=Q) (ops.toList.drop n) n listed a w (fun j=>by rw[List.getElem?_drop];simp) (by rw[hlen];exact hseq) (hFin a w ⟨listed,inv,hbody⟩)
   rw[hlen] at this
   have he:ops.size-n=f+1:=by omega
   rwa [he] at this
  ·obtain⟨i0,hi0⟩:=Classical.not_forall.1 hbody
   obtain⟨hi0n,hi0l⟩:=Classical.not_imp.1 hi0
   have hle:=hok.le
   obtain⟨k,hk1,hk2,hk3⟩:=Fd hok inv.lsize i0 (by omega) (by simpa using hi0l)
   obtain⟨hun,o,ho,_⟩:=mem_ready.1 hk2
   have hks:k<listed.size:=by rw[inv.lsize];exact(Array.getElem?_eq_some_iff.1 ho).1
   have hunf:=Cq hks hun
   have hp:Ef o=true:=by
    cases h:Ef o with
    |true=>rfl
    |false=>have:=hnp k o (by omega) ho h;rw[hunf] at this;cases this
   obtain⟨h1,h2⟩:=hop k o (by omega) ho a w inv.c (Lh hok inv hk2 (by omega) ho)
   have hapart:∀j oj,ops[j]? =some oj->j≠k->listed.getD j true=false->(∀e∈oj.after,Region.binds .any e=true->e.on≠k)->o.apart ops oj=true:=by
    intro j oj hj hjk hjl hno
    have hjs:j<listed.size:=by rw[inv.lsize];exact(Array.getElem?_eq_some_iff.1 hj).1
    have hkj:k<j:=by
     rcases Nat.lt_or_ge j k with h|h
     ·have:=hk3 j h;rw[Cq hjs hjl] at this;cases this
     ·omega
    rcases hok.late k o (by omega) ho with⟨_,h⟩|⟨h,_⟩
    ·refine h j oj hj hkj ?_
     cases hd:M6 ops j k with
     |false=>rfl
     |true=>
      simp only[M6,hj] at hd
      obtain⟨e,hem,hb⟩:=Array.any_eq_true'.1 hd
      simp only[Bool.and_eq_true,beq_iff_eq] at hb
      exact absurd hb.2 (hno e hem hb.1)
    ·rw[hp] at h;cases h
   have hcnt':(listed.setIfInBounds k true).toList.count false=f:=by
    have hg:listed.toList[k]? =some false:=by simp[hks] at hunf;simp[hks,hunf]
    have:=Fr listed.toList k hg
    rw[Array.toList_setIfInBounds];omega
   have hrest:∀v,Inv ops C a0 n Ψ (listed.setIfInBounds k true) (a.put o.dst v) w->wpAny P .any ops Q f (listed.setIfInBounds k true) (a.put o.dst v) w:=fun v hinv=>
    ih _ _ _ hinv hcnt' (fun i oi hi hoi hpi=>getD_set_true (hnp i oi hi hoi hpi)) (fun t ht=>by rw[getD_set_ne false (by omega)];exact htl t ht)
   by_cases hw:Region.wanted o (yielded ops a.tmps)=true
   ·obtain⟨v,hv,hrun⟩:=Ml hp (h1 hw)
    refine wpAny_first ho (Region.noSelect_spec hok.nosel) (fun c a w h=>hQ c a _ _ w h) f listed a w hapart hk2 (.inl ⟨hw,hrun⟩) (hrest v ?_)
    exact Gs hok hm hC hcl inv hk2 (by omega) ho (Rex.refl _ _) hv fun ha=>by
     unfold A2 at ha;unfold Ef at hp;cases hop:o.op<;>rw[hop] at ha hp<;>simp at ha hp
   ·have hw':Region.wanted o (yielded ops a.tmps)=false:=by simpa using hw
    refine wpAny_first ho (Region.noSelect_spec hok.nosel) (fun c a w h=>hQ c a _ _ w h) f listed a w hapart hk2 (.inr ⟨hw',rfl⟩) (hrest undef ?_)
    exact Gs hok hm hC hcl inv hk2 (by omega) ho (Rex.refl _ _) (h2 hw') fun _=> .inl rfl
theorem nd_anyS {m:Nat} {Ψ:Nat->Bg} (hok:Ok ops n m) (hm:m=a0.tmps.size) (hC:∀i,i<n->∀u w w',C w->Rex (D3 X i) w w'->Ψ i u w'->C w')
  (hcl:∀i,i<n->A8 (Bl X i) (Ψ i)) (hop:∀i o,i<n->ops[i]? =some o->L4 P ops C (D3 X i) (Al a0 (Cr ops Ψ i)) o (Ψ i))
  (hQ:∀c a d v w,Q (.panic c) (Act.put a d v) w->Q (.panic c) a w)
  (hFin:∀a w,(∃listed,Inv ops C a0 n Ψ listed a w/\∀i,i<n->listed.getD i false=true)->wpList P ops Q (ops.toList.drop n) a w):
  ∀(f:Nat) (listed:Array Bool) (a:Act) (w:World),Inv ops C a0 n Ψ listed a w->listed.toList.count false=f->(∀t,n<=t->listed.getD t false=false)->wpAny P .any ops Q f listed a w:=by
 intro f
 induction f with
 |zero=>exact fun listed a w inv hcnt htl=>Si hok hm hC hcl hop hQ hFin 0 listed a w inv hcnt (fun i o hi ho _=>by
   have h0:¬false∈listed.toList:=by rw[<-List.count_eq_zero];exact hcnt
   have hi':i<listed.size:=by rw[inv.lsize];exact(Array.getElem?_eq_some_iff.1 ho).1
   cases hb:listed[i] with
   |true=>simp[hi',hb]
   |false=>exact absurd (by rw[<-hb];exact Array.mem_toList_iff.2 (Array.getElem_mem hi')) h0) htl
 |succ f ih=>
  intro listed a w inv hcnt htl
  by_cases hnp:∀i o,i<n->ops[i]? =some o->Ef o=false->listed.getD i false=true
  ·exact Si hok hm hC hcl hop hQ hFin (f+1) listed a w inv hcnt hnp htl
  ·have:∃i o,i<n/\ops[i]? =some o/\Ef o=false/\listed.getD i false=false:=by
    apply Classical.byContradiction
    intro hno
    exact hnp fun i o hi ho hp=>by
     cases h:listed.getD i false with
     |true=>rfl
     |false=>exact absurd ⟨i,o,hi,ho,hp,h⟩ hno
   obtain⟨i0,o0,hi0,ho0,hp0,hl0⟩:=this
   have hle:=hok.le
   obtain⟨k,hk1,hk2,hk3⟩:=Fd hok inv.lsize i0 (by omega) hl0
   refine⟨fun h=>(by rw[h] at hk2;cases hk2),fun i hi=> ?_⟩
   have hin:i<n:=by
    rcases Nat.lt_or_ge i n with h|h
    ·exact h
    ·obtain⟨_,o,ho,hall⟩:=mem_ready.1 hi
     rcases hok.late i0 o0 hi0 ho0 with⟨h',_⟩|⟨_,h'⟩
     ·rw[hp0] at h';cases h'
     ·have:=Ky inv 8 i i0 o ho hall (h' i h (Array.getElem?_eq_some_iff.1 ho).1)
      rw[hl0] at this;cases this
   refine wpOp_mono (fun a' w' hinv=>ih _ a' w' hinv ?_ fun t ht=>by rw[getD_set_ne false (by omega)];exact htl t ht) (Xy hok hm hC hcl hop inv hi hin)
   obtain⟨hun,o,ho,_⟩:=mem_ready.1 hi
   have his:i<listed.size:=by rw[inv.lsize];exact(Array.getElem?_eq_some_iff.1 ho).1
   have hunf:=Cq his hun
   have hg:listed.toList[i]? =some false:=by simp[his] at hunf;simp[his,hunf]
   have:=Fr listed.toList i hg
   rw[Array.toList_setIfInBounds];omega
theorem Ou {id:Nat} {l:List Oper} {w0:World} (n m b:Nat) (C:World->Prop) (hf:P.follows .mixedOrders=true) (hB:okB l.toArray (n+1) m=true) (hm:m=a0.tmps.size)
  (h0:C w0.drew) (hC:∀w w',C w->Rex [] w w'->C w') (hQ:∀c a d v w,Q (.panic c) (Act.put a d v) w->Q (.panic c) a w) (o:Oper) (ho:l.toArray[n]? =some o)
  (h:An P l.toArray C [(n,b)] a0 (fun acc=>∃Φ:Bg,A8 [] Φ/\L4 P l.toArray C [b] (Al a0 acc) o Φ/\(∀u w,Φ u w->C w)/\∀w,C w->Av w a0 ((o.dst,Φ)::acc) fun a=>wpList P l.toArray Q (l.drop (n+1)) a w) 0 (l.take n) []):
  (Code.region id l.toArray true).wp P Q a0 w0:=by
 have hok:=L0 hB
 have hle:n+1<=l.length:=by have:=hok.le;simpa using this
 obtain⟨Ψ0,_,h2,h3⟩:=Jr (ops:=l.toArray) (l.take n) 0 [] (fun _ _ _=>True) (fun j hj=>by simp at hj;simp[hj]) rfl h
 have hlen:0+(l.take n).length=n:=by simp;omega
 rw[hlen] at h3
 obtain⟨Φ,hc1,ho1,hΦC,hfin0⟩:=h3
 have pn:D3 [(n,b)] n= [b]:=by simp[D3]
 have on:Bl [(n,b)] n= []:=by simp[Bl]
 have pi:∀i,i≠n->D3 [(n,b)] i= []:=fun i hi=>by simp[D3];omega
 obtain⟨Ψ,hΨ⟩:∃Ψ:Nat->Bg,Ψ=fun i=>if i=n then Φ else Ψ0 i:=⟨_,rfl⟩
 have hΨn:Ψ n=Φ:=by rw[hΨ];simp
 have hΨi:∀i,i<n->Ψ i=Ψ0 i:=fun i hi=>by rw[hΨ];simp;omega
 have hacc:∀k,k<=n->Cr l.toArray Ψ k=Cr l.toArray Ψ0 k:=fun k hk=>Gf k fun i hi=>hΨi i (by omega)
 have hcl:∀i,i<n+1->A8 (Bl [(n,b)] i) (Ψ i):=fun i hi=>by
  by_cases hin:i=n
  ·subst hin;rw[hΨn,on];exact hc1
  ·rw[hΨi i (by omega)];exact(h2 i (by omega) (by omega)).1
 have hop:∀i o,i<n+1->l.toArray[i]? =some o->L4 P l.toArray C (D3 [(n,b)] i) (Al a0 (Cr l.toArray Ψ i)) o (Ψ i):=fun i o1 hi ho'=>by
  by_cases hin:i=n
  ·subst hin
   rw[ho] at ho';injection ho' with e;subst e
   rw[hΨn,pn,hacc i (Nat.le_refl _)];exact ho1
  ·obtain⟨_,o',ho'',h⟩:=h2 i (by omega) (by omega)
   rw[ho''] at ho';injection ho' with e;subst e
   rw[hΨi i (by omega),hacc i (by omega)];exact h
 have hCC:∀i,i<n+1->∀u w w',C w->Rex (D3 [(n,b)] i) w w'->Ψ i u w'->C w':=fun i hi u w w' hw hR hu=>by
  by_cases hin:i=n
  ·subst hin;rw[hΨn] at hu;exact hΦC u w' hu
  ·rw[pi i hin] at hR;exact hC w w' hw hR
 refine wp_region_any hf ?_
 refine nd_anyS (X:= [(n,b)]) hok hm hCC hcl hop hQ ?_ _ _ _ _ ⟨h0,rfl,rfl,by simp,?_,?_,?_,?_,?_,?_⟩ (by simp) (fun t _=>getD_replicate_false _ t)
 ·rintro a w ⟨listed,inv,hall⟩
  have hex:∀i,∃v,i<n+1->Ψ i v w/\∀d,Bo l.toArray i=some d->v=a.tmps.getD d undef:=by
   intro i
   by_cases hi:i<n+1
   ·cases hd:Bo l.toArray i with
    |none=>
     obtain⟨u,hu⟩:=inv.eff i hi (hall i hi) hd
     exact⟨u,fun _=>⟨hu,fun d h=>by cases h⟩⟩
    |some d=>exact⟨a.tmps.getD d undef,fun _=>⟨inv.val i hi (hall i hi) d hd,fun d' h=>by injection h with h;rw[h]⟩⟩
   ·exact⟨undef,fun h=>absurd h hi⟩
  let val:Nat->Value:=fun i=>(hex i).choose
  have hval:∀i,i<n+1->Ψ i (val i) w/\∀d,Bo l.toArray i=some d->val i=a.tmps.getD d undef:=fun i hi=>(hex i).choose_spec hi
  have ha:a=Es l.toArray val a0 (n+1):=by
   have ht:a.tmps=(Es l.toArray val a0 (n+1)).tmps:=by
    apply Array.ext
    ·rw[Gn,inv.size]
    ·intro s h1 h2
     have hg:a.tmps.getD s undef=(Es l.toArray val a0 (n+1)).tmps.getD s undef:=by
      by_cases hw:∃i,i<n+1/\Bo l.toArray i=some s
      ·obtain⟨i,hi,hw⟩:=hw
       rw[Jy hok hm val s (n+1) (Nat.le_refl _) i hi hw,(hval i hi).2 s hw]
      ·rw[Jz val s (n+1) fun i hi hwi=>hw ⟨i,hi,hwi⟩]
       exact inv.old s fun i hi _ hwi=>hw ⟨i,hi,hwi⟩
     simpa [h1,h2] using hg
   have hd:a.defers=(Es l.toArray val a0 (n+1)).defers:=by rw[F5,inv.defers]
   cases a;cases hp:Es l.toArray val a0 (n+1);rw[hp] at ht hd;simp at ht hd;subst ht;subst hd;rfl
  have hlast:Cr l.toArray Ψ (n+1)=(o.dst,Φ)::Cr l.toArray Ψ0 n:=by
   show (Bo l.toArray n,Ψ n)::Cr l.toArray Ψ n=_
   rw[hΨn,hacc n (Nat.le_refl _)]
   simp[Bo,ho]
  have hfin1:=hfin0 w inv.c
  rw[<-hlast] at hfin1
  have hfin:=Qx (ops:=l.toArray) (a0:=a0) (val:=val) (n+1) _ (fun i hi=>(hval i hi).1) hfin1
  rw[<-ha] at hfin
  simpa using hfin
 ·intro i o ho hl;rw[getD_replicate_false] at hl;cases hl
 ·intro i hi hl;rw[getD_replicate_false] at hl;cases hl
 ·intro i hi hl;rw[getD_replicate_false] at hl;cases hl
 ·intro s _;rfl
 ·intro i o d hi hl;rw[getD_replicate_false] at hl;cases hl
 ·intro i o d j o' d' hi hj hij hl;rw[getD_replicate_false] at hl;cases hl
end
end Go.Proofs.YtidfcoooccblaaaGreat
