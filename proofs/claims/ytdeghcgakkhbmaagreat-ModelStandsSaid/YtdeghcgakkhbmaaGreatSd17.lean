/- Parts of the proof that follows. No condition. -/
import Derived.Test.YtdeghcgakkhbmaaGreatSd16
set_option maxRecDepth 100000
set_option maxHeartbeats 8000000
set_option linter.unusedSimpArgs false
set_option linter.unusedVariables false
namespace Go.Proofs.YtdeghcgakkhbmaaGreat
open Go.ChangeShapes Go.WideShapes Go.ChangeAt Go.RowKit Go.Deep
section
variable {H:Type} {enc:TypeId×Value->H} {w:World} {base:Nat} {spare:Nat->Bool} {held:Bool}
theorem Tryz.fieldsRaw :Db Tryz.prog 35= #[(9,0),(2,1),(2,2),(2,3),(3,4),(33,5)]:=by kernel_rfl
theorem Te {fuel:Nat} {cs:List Value} {x:DataW H×List MemPlace} (hf:DataW.trod enc Tryz.prog w base spare held fuel 35 cs=some x):
  ∃r p cap,cs=(Dw r p cap).toList/\Jh w r p cap:=by
 have hC:Tryz.prog.cellsOf 35=6:=by kernel_rfl
 have hV:Tryz.prog.cellsOf 33=1:=by kernel_rfl
 have hS:Tryz.prog.cellsOf 9=1:=by kernel_rfl
 obtain⟨hsz,hat⟩:=Fo Tryz.fieldsRaw (by simp) hf
 rw[hC] at hsz
 match cs,hsz with
 | [c0,c1,c2,c3,c4,c5],_=>
  obtain⟨n0,y0,h0⟩:=hat 0 _ _ rfl
  obtain⟨n1,y1,h1⟩:=hat 1 _ _ rfl
  obtain⟨n2,y2,h2⟩:=hat 2 _ _ rfl
  obtain⟨n3,y3,h3⟩:=hat 3 _ _ rfl
  obtain⟨n4,y4,h4⟩:=hat 4 _ _ rfl
  obtain⟨n5,y5,h5⟩:=hat 5 _ _ rfl
  rw[hS] at h0
  rw[Tryz.isInt64.2] at h1 h2 h3
  rw[Tryz.isInt.2] at h4
  rw[hV] at h5
  obtain⟨nm,e0,_⟩:=DataW.trod_string (by kernel_rfl) h0
  obtain⟨ep,e1,_,_⟩:=DataW.trod_int Tryz.isInt64.1 h1
  obtain⟨fl,e2,_,_⟩:=DataW.trod_int Tryz.isInt64.1 h2
  obtain⟨la,e3,_,_⟩:=DataW.trod_int Tryz.isInt64.1 h3
  obtain⟨sc,e4,_,_⟩:=DataW.trod_int Tryz.isInt.1 h4
  obtain⟨q,pts,co,e5,s1,s2,s3⟩:=Yr h5
  simp[Value.cells] at e0 e1 e2 e3 e4 e5
  subst e0;subst e1;subst e2;subst e3;subst e4;subst e5
  exact⟨⟨nm,ep,fl,la,sc,pts⟩,q,co,rfl,⟨s3,s1,s2⟩⟩
structure Gd (w:World) (p:Option Addr) (l:List (Int×Int×Int)):Prop where
 at':∀(i:Nat) (r:Int×Int×Int),l[i]? =some r->∃b o,p=some ⟨b,o,none⟩/\w.cell? ⟨b,o+i*3,none⟩=some (r.1)/\w.cell? ⟨b,o+i*3+1,none⟩=some (r.2.1)/\w.cell? ⟨b,o+i*3+2,none⟩=some (r.2.2)
end
end Go.Proofs.YtdeghcgakkhbmaaGreat
namespace Go.Proofs.YtdeghcgakkhbmaaGreat
open Go.RowKit Go.Shelf
attribute [local go_sem] Oper.semAt_some
def Z9 (eps:Int) (P:List (Int×Int)) (l:List (Int×Int×Int)):Bool:=(P.zip l).all fun q=>Ev eps q.1 q.2
def Rr (ol scap k:Nat):Nat:=if scap<=k/\0<k then ol+(k-1)*3 else ol+k*3
theorem offS_zero (ol scap:Nat):Rr ol scap 0=ol:=by unfold Rr;rw[if_neg (by omega)];omega
theorem Gd.below {w w':World} {p:Option Addr} {l:List (Int×Int×Int)} (h:Gd w p l) (hb:Below w.heap.size w w'):Gd w' p l:=⟨fun i r hr=>by
 obtain⟨b,o,e,q0,q1,q2⟩:=h.at' i r hr
 exact⟨b,o,e,((Dc hb).1 b _ (Ap q0)).trans q0,((Dc hb).1 b _ (Ap q1)).trans q1,((Dc hb).1 b _ (Ap q2)).trans q2⟩⟩
theorem Gd.rex {L:List Nat} {w w':World} {p:Option Addr} {l:List (Int×Int×Int)} (h:Gd w p l) (hr:Rex L w w') (hL:L= []):Gd w' p l:=by subst hL;exact h.below hr.below
theorem Gd.drew {w:World} {p:Option Addr} {l:List (Int×Int×Int)} (h:Gd w p l):Gd w.drew p l:=⟨h.at'⟩
theorem R6 (r:At) (p:Option Addr) (cap:Nat) (a b e:Int) (bl ol:Nat) (l:List (Int×Int×Int)) (scap:Nat) (w:World) (hp:Ar w p r.pts) (hl:r.pts.length<=2000) (hv:∀x,x∈r.pts->ptB x=true) (hB:Gd w (some ⟨bl,ol,none⟩) l) (hl1:0<l.length) (hl2:l.length<=scap) (hl3:l.length<=2000) (hlv:∀x,x∈l->I64 x.1/\I64 x.2.1/\I64 x.2.2)
  (c1:∀W,Below w.heap.size w W->Cb 32 #[.agg #[.string r.name,r.eps,r.floor,r.last,r.scale,.slice p r.pts.length cap]] W (.int .i64 0)):
  CallsIn Fence.wide 4 Tryz.prog 27 #[.agg #[.string r.name,r.eps,r.floor,r.last,r.scale,.slice p r.pts.length cap],a,b,.slice (some ⟨bl,ol,none⟩) l.length scap,e] w fun e' w'=>e'= .returned (.bool (Jb r.eps e (B4 a b r.pts) l))/\Below w.heap.size w w':=by
 have hmf:∀(fn:Fn) (first cap:Array Value) (w:World),(Instr.makeFunc fn first cap).run Tryz.prog w= .ok (.func fn first cap) w:=fun _ _ _ _=>rfl
 have c9x:l.length<=scap:=hl2
 have hl8:((l.length:Int)==0)=false:=beq_eq_false_iff_ne.2 (by omega)
 refine callsIn_of_wp_marks Tryz.func27 rfl trivial ?_ rfl
 simp only[Tryz.ntmps27,List.size_toArray,List.length_cons,List.length_nil,Nat.reduceAdd,Nat.reduceSub,Array.replicate_succ,Array.replicate_zero,List.push_toArray,List.append_toArray,List.nil_append,List.cons_append]
 refine wpIn_wide.2 ?_
 replace c1:=Hd c1
 go_upto_region 1 with(fail)
 refine Ab w (Bc w.heap.size #[.string r.name,r.eps,r.floor,r.last,r.scale,.slice p r.pts.length cap] 35<|Bc (w.heap.size+1) #[.bool false] 4<|Bz) ?_
 rintro W1 hW z2 ⟨⟨b1,yb1,k1,f1⟩,⟨b2,yb2,k2,f2⟩,-⟩
 go_wp2_with fail
 refine(c1.out _ Aa).mono ?_
 rintro e w3 ⟨rfl,hb3⟩
 have z4:=hb3.size
 try simp at z4
 clear k1 f1 k2 f2
 refine Aj w w3 (Bc w.heap.size #[.string r.name,r.eps,r.floor,r.last,r.scale,.slice p r.pts.length cap] 35<|Bc (w.heap.size+1) #[.bool false] 4<|Bz) ?_
 clear b1 b2 hW
 rintro hW z5 ⟨⟨b1,yb1,k1,f1⟩,⟨b2,yb2,k2,f2⟩,-⟩
 clear hb3
 go_wp2_with fail
 refine(some_w r p cap a b _).mono ?_
 rintro e w' ⟨rfl,rfl⟩
 have c9:Below w.heap.size w ((((w3.alloc (.cells #[.slice (some ⟨bl,ol,none⟩) l.length scap] 45)).alloc (.cells #[.string r.name,r.eps,r.floor,r.last,r.scale,.slice p r.pts.length cap] 35)).alloc (.cells #[a] 2)).alloc (.cells #[b] 2)):=Aa
 have d1:Blk ((((w3.alloc (.cells #[.slice (some ⟨bl,ol,none⟩) l.length scap] 45)).alloc (.cells #[.string r.name,r.eps,r.floor,r.last,r.scale,.slice p r.pts.length cap] 35)).alloc (.cells #[a] 2)).alloc (.cells #[b] 2)) w.heap.size #[.string r.name,r.eps,r.floor,r.last,r.scale,.slice p r.pts.length cap] 35:=Ad
 have d2:Blk ((((w3.alloc (.cells #[.slice (some ⟨bl,ol,none⟩) l.length scap] 45)).alloc (.cells #[.string r.name,r.eps,r.floor,r.last,r.scale,.slice p r.pts.length cap] 35)).alloc (.cells #[a] 2)).alloc (.cells #[b] 2)) (w.heap.size+1) #[.bool false] 4:=Ad
 have d3:Blk ((((w3.alloc (.cells #[.slice (some ⟨bl,ol,none⟩) l.length scap] 45)).alloc (.cells #[.string r.name,r.eps,r.floor,r.last,r.scale,.slice p r.pts.length cap] 35)).alloc (.cells #[a] 2)).alloc (.cells #[b] 2)) w3.heap.size #[.slice (some ⟨bl,ol,none⟩) l.length scap] 45:=Ad
 have s1:Blk ((((w3.alloc (.cells #[.slice (some ⟨bl,ol,none⟩) l.length scap] 45)).alloc (.cells #[.string r.name,r.eps,r.floor,r.last,r.scale,.slice p r.pts.length cap] 35)).alloc (.cells #[a] 2)).alloc (.cells #[b] 2)) (w3.heap.size+1) #[.string r.name,r.eps,r.floor,r.last,r.scale,.slice p r.pts.length cap] 35:=Ad
 have s2:Blk ((((w3.alloc (.cells #[.slice (some ⟨bl,ol,none⟩) l.length scap] 45)).alloc (.cells #[.string r.name,r.eps,r.floor,r.last,r.scale,.slice p r.pts.length cap] 35)).alloc (.cells #[a] 2)).alloc (.cells #[b] 2)) (w3.heap.size+1+1) #[a] 2:=Ad
 have s3:Blk ((((w3.alloc (.cells #[.slice (some ⟨bl,ol,none⟩) l.length scap] 45)).alloc (.cells #[.string r.name,r.eps,r.floor,r.last,r.scale,.slice p r.pts.length cap] 35)).alloc (.cells #[a] 2)).alloc (.cells #[b] 2)) (w3.heap.size+1+1+1) #[b] 2:=Ad
 have hsz:((((w3.alloc (.cells #[.slice (some ⟨bl,ol,none⟩) l.length scap] 45)).alloc (.cells #[.string r.name,r.eps,r.floor,r.last,r.scale,.slice p r.pts.length cap] 35)).alloc (.cells #[a] 2)).alloc (.cells #[b] 2)).heap.size=w3.heap.size+1+1+1+1:=by simp
 simp only[World.size_alloc]
 obtain⟨W0,hWe⟩:∃W0,W0=((((w3.alloc (.cells #[.slice (some ⟨bl,ol,none⟩) l.length scap] 45)).alloc (.cells #[.string r.name,r.eps,r.floor,r.last,r.scale,.slice p r.pts.length cap] 35)).alloc (.cells #[a] 2)).alloc (.cells #[b] 2)):=⟨_,rfl⟩
 rw[<-hWe] at c9 d1 d2 d3 s1 s2 s3 hsz⊢
 have hn0:w.heap.size+1<w3.heap.size:=b2.lt
 clear hWe b1 b2 hW k1 f1 k2 f2
 go_wp2
 refine(wpIn_wide (n:=4)).1 ?_
 have hlt:=Nq a b r.pts
 have hQ:∀x,x∈B4 a b r.pts->ptB x=true:=fun x hx=>hv x (O5 hx)
 refine wpIn_rangeFunc_ownH rfl (by omega) (gf:=116) (lb:= #[.pointer (some ⟨w3.heap.size+1,0,none⟩),.pointer (some ⟨w3.heap.size+1+1,0,none⟩),.pointer (some ⟨w3.heap.size+1+1+1,0,none⟩)]) rfl trivial (enters_of Tryz.func116 (by kernel_rfl) rfl)
  (encs:=fun x: {x:Int×Int//ptB x=true}=> #[Value.agg #[x.1.1,x.1.2]]) (Kp:=KF w.heap.size (w3.heap.size+1)) (S:=fun ys=>ys.map (·.1)=B4 a b r.pts) (Sp:=fun pre=>pre.map (·.1)<+:B4 a b r.pts) (N:=(B4 a b r.pts).length) (w0:=W0)
  (fun lr J Jx W hWW hJ _ hY h0=>X5 3 (by omega) lr (w3.heap.size+1) (w3.heap.size+1+1) (w3.heap.size+1+1+1) r p cap a b (fun x=>ptB x=true) hQ hl (KF w.heap.size (w3.heap.size+1)) (fun hk=>⟨hk.below.size,fun ha=>hp.keep hk.below ha,fun ha=>hk.rest _ _ _ _ (by omega) ha,fun ha=>hk.rest _ _ _ _ (by omega) ha,fun ha=>hk.rest _ _ _ _ (by omega) ha⟩) J Jx _ hJ hY W (s1.below hWW) (s2.below hWW) (s3.below hWW) ((hp.below c9).below hWW) h0)
  (fun h k=>h.trans k) (KF.putObj (by omega)) (Below.refl _ _) (fun _=>rfl)
  (fun pre W=>((Blk W w.heap.size #[.string r.name,r.eps,r.floor,r.last,r.scale,.slice p r.pts.length cap] 35/\Blk W (w.heap.size+1) #[.bool false] 4)/\Blk W w3.heap.size #[.slice (some ⟨bl,Rr ol scap pre.length,none⟩) (l.length-pre.length) (scap-pre.length)] 45)/\(pre.length<=l.length/\Z9 r.eps (pre.map (·.1)) l=true)/\Below w.heap.size w W)
  (fun c pre W=>Blk W (w.heap.size+1) #[.bool false] 4/\(c= .ret/\(l.length<pre.length∨Z9 r.eps (pre.map (·.1)) l=false))/\Below w.heap.size w W)
  (OwnFrom.and (OwnFrom.and (OwnFrom.and (Own.from (Dr _ _ _) _) (Own.from (Dr _ _ _) _)) (Own.from (Dr _ _ (fun pre:List {x:Int×Int//ptB x=true}=> #[.slice (some ⟨bl,Rr ol scap pre.length,none⟩) (l.length-pre.length) (scap-pre.length)])) _)) (OwnFrom.and (ownFrom_pure _ _) (ownFrom_below (Nat.le_refl _) (by omega))))
  (fun c=>OwnFrom.and (Own.from (Dr _ _ _) _) (OwnFrom.and (ownFrom_pure _ _) (ownFrom_below (Nat.le_refl _) (by omega))))
  ⟨⟨⟨d1,d2⟩,by simpa [offS_zero] using d3⟩,?start,c9⟩
  (fun x a' W=>∃Bx,w3.heap.size<Bx/\Blk W Bx #[x.1.1,x.1.2] 58/\∃u:Nat->Value,a'= {tmps:= #[u 0,u 1,u 2,.slice (some ⟨bl,ol,none⟩) l.length scap,e,.pointer (some ⟨w.heap.size,0,none⟩),u 6,u 7,u 8,u 9,.pointer (some ⟨(w.heap.size+1),0,none⟩),.pointer (some ⟨w3.heap.size,0,none⟩),.pointer (some ⟨Bx,0,none⟩),u 13,u 14,u 15,u 16,u 17,u 18,u 19,u 20,u 21,u 22,u 23,u 24,u 25,u 26,u 27,u 28,u 29,u 30,u 31,u 32,u 33,u 34,u 35,u 36,u 37,u 38,u 39,u 40,u 41,u 42,u 43,u 44,u 45,u 46,u 47,u 48,u 49,u 50,u 51,u 52,u 53,u 54,u 55,u 56,u 57,u 58,u 59,u 60,u 61,u 62],defers:= []})
  (fun x a' _ X Y row hs hg hr=>by obtain⟨Bx,h1,h2,h3⟩:=hs;exact⟨Bx,h1,Dr Bx 58 (fun(_:Unit)=> #[Value.int .i64 x.1.1,Value.int .i64 x.1.2]) () X Y row h2 hg (fun r e=>(hr r e).2),h3⟩) ?assign ?body ?done ?stop
 case start=>exact⟨Nat.zero_le _,rfl⟩
 case assign=>
  rintro l9 pre x W K ⟨⟨⟨i1,i2⟩,i3⟩,i5,i6⟩ hK
  have hlt4:=i3.lt
  gi_wp2
  exact hK _ _ ((KeepsOthers.alloc _ _).from _) ((KF.refl _ _ _).alloc i6.size _) ⟨⟨⟨i1.alloc _,i2.alloc _⟩,i3.alloc _⟩,i5,i6.alloc i6.size _⟩ ⟨W.heap.size,hlt4,Blk.new' rfl,Ac rfl⟩
 case body=>
  rintro l9 pre ⟨⟨t,v⟩,hx⟩ a' W hl' ⟨r',hr⟩ ⟨⟨⟨i1,i2⟩,i3⟩,i5,i6⟩ ⟨Bx,hBx,bX,u,rfl⟩ hlt3
  have k1:=i1.cell
  have k2:=i2.cell
  have f2:=i2.frozen
  have kx:=bX.cell
  have yx:=bX.lt
  have hz6:=i6.size
  have y1:=i1.lt
  have y2:=i2.lt
  have y3:=i3.lt
  have k3:=i3.cell
  obtain⟨i5,i7⟩:=i5
  obtain⟨m,hm⟩:∃m,l.length-pre.length=m:=⟨_,rfl⟩
  obtain⟨c9,hc9⟩:∃c,scap-pre.length=c:=⟨_,rfl⟩
  obtain⟨o9,ho9⟩:∃o,Rr ol scap pre.length=o:=⟨_,rfl⟩
  rw[hm,hc9,ho9] at i3 k3
  cases m with
  |zero=>
   replace hm:=Hd hm
   clear hc9 ho9 c9x i7
   gi_wp2
   exact⟨KeepsOthers.from (Cw) _,⟨Ad,⟨rfl,.inl (by have:=hm.out;simp;omega)⟩,Aa⟩⟩
  |succ m=>
   obtain⟨c9,rfl⟩:∃c,c9=c+1:=⟨c9-1,by omega⟩
   obtain⟨⟨xt,xv,xe⟩,tx⟩:∃x,l[pre.length]? =some x:=⟨l[pre.length]'(by omega),List.getElem?_eq_getElem (by omega)⟩
   have hxb:=hlv _ (List.mem_of_getElem? tx)
   obtain⟨b8,o8,e8,q0,q1,q2⟩:=(hB.below i6).at' _ _ tx
   injection e8 with e8
   injection e8 with e8 e7
   subst e8;subst e7
   replace ho9:ol+pre.length*3=o9:=by rw[<-ho9];unfold Rr;rw[if_neg (by omega)]
   rw[ho9] at q0 q1 q2
   simp only at q0 q1 q2 hxb
   have zq:=Ap q0
   try simp only at zq
   have hsn:=Hd (show Z9 r.eps ((pre++ [(⟨(t,v),hx⟩: {x:Int×Int//ptB x=true})]).map (·.1)) l=Ev r.eps (t,v) (xt,xv,xe) by unfold Z9 at*;rw[List.map_append,List.map_cons,List.map_nil,all_snoc (by rw[List.length_map];exact tx),i7,Bool.true_and])
   have hL1:=Hd (show (pre++ [(⟨(t,v),hx⟩: {x:Int×Int//ptB x=true})]).length=pre.length+1 by simp)
   have hvb:=hx
   simp only[ptB,btw,Bool.and_eq_true,decide_eq_true_eq] at hvb
   have cb:=Hd (fun W=>Ki xe 0 r.eps W)
   have cn:=Hd (fun W=>c_mdNear xt xv xe v W hxb.2.1 hxb.2.2 (by unfold I64;omega))
   clear hvb hxb i7 tx
   replace ho9:=Hd ho9
   replace hm:=Hd hm
   replace hc9:=Hd hc9
   by_cases hne:xt=t
   ·subst hne
    obtain⟨B1,hB1⟩:∃B,btw xe 0 r.eps=B:=⟨_,rfl⟩
    obtain⟨B2,hB2'⟩:∃B,nearB xv xe v=B:=⟨_,rfl⟩
    rw[hB1] at cb
    rw[hB2'] at cn
    have hok:=Hd (show Ev r.eps (xt,v) (xt,xv,xe)=(B1&&B2) by unfold Ev;rw[<-hB1,<-hB2'];simp)
    clear hB1 hB2'
    cases B1 with
    |false=>
     gi_wp2_with (refine⟨trivial,?_⟩;gi_at_call 69;refine(CallsIn.inRound l9 (callsIn_wide.2 (cb.out _))).mono ?_;rintro e1 w2 ⟨rfl,hB2⟩;have j2:=(i2.alloc _).below hB2;have j3:=(i3.alloc _).below hB2;have jX:=(bX.alloc _).below hB2;have jY:Blk w2 W.heap.size #[xt,xv,xe] 64:=(Blk.new' rfl:Blk (W.alloc (.cells #[xt,xv,xe] 64)) W.heap.size #[xt,xv,xe] 64).below hB2;have y2':=j2.lt;have y3':=j3.lt;have yX':=jX.lt;have yY':=jY.lt;have k2':=j2.cell;have f2':=j2.frozen;have k3':=j3.cell;have f3':=j3.frozen;have kX':=jX.cell;have kY':=jY.cell;clear k1 k2 f2 kx k3 q0 q1 q2)
     refine⟨trivial,?_⟩
     gi_wp2
     exact⟨KeepsOthers.from (Cw) _,⟨Ad,⟨rfl,.inr (by rw[hsn.out,hok.out];rfl)⟩,Aa⟩⟩
    |true=>
     gi_wp2_with (refine⟨trivial,?_⟩;gi_at_call 69;refine(CallsIn.inRound l9 (callsIn_wide.2 (cb.out _))).mono ?_;rintro e1 w2 ⟨rfl,hB2⟩;have j2:=(i2.alloc _).below hB2;have j3:=(i3.alloc _).below hB2;have jX:=(bX.alloc _).below hB2;have jY:Blk w2 W.heap.size #[xt,xv,xe] 64:=(Blk.new' rfl:Blk (W.alloc (.cells #[xt,xv,xe] 64)) W.heap.size #[xt,xv,xe] 64).below hB2;have y2':=j2.lt;have y3':=j3.lt;have yX':=jX.lt;have yY':=jY.lt;have k2':=j2.cell;have f2':=j2.frozen;have k3':=j3.cell;have f3':=j3.frozen;have kX':=jX.cell;have kY':=jY.cell;clear k1 k2 f2 kx k3 q0 q1 q2)
     cases B2 with
     |false=>
      gi_wp2_with (refine⟨trivial,?_⟩;gi_at_call 70;refine(CallsIn.inRound l9 (callsIn_wide.2 (cn.out _))).mono ?_;rintro e3 w4 ⟨rfl,hB3⟩;have p2:=j2.below hB3;have p3:=j3.below hB3;have yp2:=p2.lt;have yp3:=p3.lt;have kp2:=p2.cell;have fp2:=p2.frozen;have kp3:=p3.cell;have fp3:=p3.frozen;clear k2' f2' k3' f3' kX' kY')
      exact⟨KeepsOthers.from (Cw) _,⟨Ad,⟨rfl,.inr (by rw[hsn.out,hok.out];rfl)⟩,Aa⟩⟩
     |true=>
      rcases Nat.eq_zero_or_pos c9 with rfl|h9
      ·gi_wp2_with (refine⟨trivial,?_⟩;gi_at_call 70;refine(CallsIn.inRound l9 (callsIn_wide.2 (cn.out _))).mono ?_;rintro e3 w4 ⟨rfl,hB3⟩;have p2:=j2.below hB3;have p3:=j3.below hB3;have yp2:=p2.lt;have yp3:=p3.lt;have kp2:=p2.cell;have fp2:=p2.frozen;have kp3:=p3.cell;have fp3:=p3.frozen;clear k2' f2' k3' f3' kX' kY')
       exact⟨KeepsOthers.from (Cw) _,Y8,⟨⟨⟨Blk.setO (by exact Ad) (by omega) _ _,Blk.setO p2 (by omega) _ _⟩,by rw[hL1.out,show Rr ol scap (pre.length+1)=o9 by(have:=ho9.out;have:=hc9.out;unfold Rr;rw[if_pos (by omega)];omega),show l.length-(pre.length+1)=m by have:=hm.out;omega,show scap-(pre.length+1)=0 by have:=hc9.out;omega];exact Ad⟩,⟨by rw[hL1.out];have:=hm.out;omega,by rw[hsn.out,hok.out];rfl⟩,Aa⟩⟩
      ·gi_wp2_with (refine⟨trivial,?_⟩;gi_at_call 70;refine(CallsIn.inRound l9 (callsIn_wide.2 (cn.out _))).mono ?_;rintro e3 w4 ⟨rfl,hB3⟩;have p2:=j2.below hB3;have p3:=j3.below hB3;have yp2:=p2.lt;have yp3:=p3.lt;have kp2:=p2.cell;have fp2:=p2.frozen;have kp3:=p3.cell;have fp3:=p3.frozen;clear k2' f2' k3' f3' kX' kY')
       exact⟨KeepsOthers.from (Cw) _,Y8,⟨⟨⟨Blk.setO (by exact Ad) (by omega) _ _,Blk.setO p2 (by omega) _ _⟩,by rw[hL1.out,show Rr ol scap (pre.length+1)=o9+3 by(have:=ho9.out;have:=hc9.out;unfold Rr;rw[if_neg (by omega)];omega),show l.length-(pre.length+1)=m by have:=hm.out;omega,show scap-(pre.length+1)=c9 by have:=hc9.out;omega];exact Ad⟩,⟨by rw[hL1.out];have:=hm.out;omega,by rw[hsn.out,hok.out];rfl⟩,Aa⟩⟩
   ·have hne':(xt !=t)=true:=by simpa using hne
    have hok:=Hd (show Ev r.eps (t,v) (xt,xv,xe)=false by unfold Ev;rw[show ((xt==t)=false) by simpa using hne];rfl)
    clear hne
    gi_wp2
    refine⟨trivial,?_⟩
    gi_wp2
    refine⟨trivial,?_⟩
    gi_wp2
    exact⟨KeepsOthers.from (Cw) _,⟨Ad,⟨rfl,.inr (by rw[hsn.out,hok.out])⟩,Aa⟩⟩
 case done=>
  rintro D ys W hD hys ⟨⟨⟨i1,i2⟩,i3⟩,i5,i6⟩ hK
  have hz6:=i6.size
  have y1:=i1.lt
  have y2:=i2.lt
  have y3:=i3.lt
  have f2:=i2.frozen
  simp only[Exit.inBlock,Exit.then]
  have hKX:=Hd (show Tv D W from hK)
  clear hK d1 d2 d3 s1 s2 s3 c9 hp hv
  obtain⟨i5,i7⟩:=i5
  obtain⟨m,hm⟩:∃m,l.length-ys.length=m:=⟨_,rfl⟩
  obtain⟨c9,hc9⟩:∃c,scap-ys.length=c:=⟨_,rfl⟩
  obtain⟨o9,ho9⟩:∃o,Rr ol scap ys.length=o:=⟨_,rfl⟩
  have hT:=Hd (show Jb r.eps e (B4 a b r.pts) l=(((m:Int)==0)&&(e==0)) by
   unfold Z9 at i7
   rw[hys] at i7
   have hlen:(B4 a b r.pts).length=ys.length:=by rw[<-hys,List.length_map]
   unfold Jb
   rw[if_neg (by omega),i7,Bool.and_true,hlen]
   congr 1
   rw[Bool.eq_iff_iff,decide_eq_true_eq,beq_iff_eq]
   omega)
  rw[hm,hc9,ho9] at i3
  clear hm hc9 ho9 hys i5 i7 hB hlv c9x
  have b1:=i1
  have b2:=i2
  have b3:=i3
  have hW:=i6
  clear i1 i2 i3 i6
  have k1:=b1.cell
  have f1:=b1.frozen
  have k2:=b2.cell
  have f2:=b2.frozen
  have k3:=b3.cell
  have f3:=b3.frozen
  go_upto_region 14 with(fail)
  clear k1 f1 k2 f2 k3 f3
  refine Ab w (Bc w.heap.size #[.string r.name,r.eps,r.floor,r.last,r.scale,.slice p r.pts.length cap] 35<|Bc (w.heap.size+1) #[.bool false] 4<|Bc w3.heap.size #[.slice (some ⟨bl,o9,none⟩) m c9] 45<|Rc (fun W'=>Tv D W')<|Bz) ?_ (hI:=by exact Aa) (hR:=(Bc.mk (by exact Ad)<|Bc.mk (by exact Ad)<|Bc.mk (by exact Ad)<|Rc.mk (by exact hKX.out)<|trivial))
  clear b1 b2 b3 hW
  rintro W41 hW z42 hL
  obtain⟨⟨b1,yb1,k1,f1⟩,⟨b2,yb2,k2,f2⟩,⟨b3,yb3,k3,f3⟩,b4,-⟩:=id hL
  clear k1 f1 k2 f2 k3 f3
  refine Bg 7 63 hW hL ?_
  iterate 4 refine dA ?_
  iterate 2 refine gA ?_
  refine pA ?_
  clear hW hL b1 b2 b3 b4
  rintro W43 hW z44 hL
  simp only[ndR]
  intros
  repeat (rename Am _ _ _ _=>hgd;clear hgd)
  simp only[ndS]
  obtain⟨⟨b1,yb1,k1,f1⟩,⟨b2,yb2,k2,f2⟩,⟨b3,yb3,k3,f3⟩,b4,-⟩:=hL
  go_wp2
  have b9:Blk (W43.setCell ⟨w.heap.size+1,0,none⟩ (.bool (((m:Int)==0)&&(e==0)))) (w.heap.size+1) #[.bool (((m:Int)==0)&&(e==0))] 4:=Ad
  have hK9:(W43.setCell ⟨w.heap.size+1,0,none⟩ (.bool (((m:Int)==0)&&(e==0)))).heap[D]? =some (.deferred (some [])):=(Cw:KeepsOthers _ (W43.setCell ⟨w.heap.size+1,0,none⟩ (.bool (((m:Int)==0)&&(e==0))))).same D _ b4 rfl
  simp only[bodyPostM]
  have hB9:Below w.heap.size w (W43.setCell ⟨w.heap.size+1,0,none⟩ (.bool (((m:Int)==0)&&(e==0)))):=Aa
  refine⟨by simp,.inl ⟨_,_,rfl,run_takeDeferred hK9,?_⟩⟩
  have hc9:=cell_kept (by simpa using b9.cell 0) (grownBy_putObj' (W43.setCell ⟨w.heap.size+1,0,none⟩ (.bool (((m:Int)==0)&&(e==0)))) D (.deferred none)) (fun r e=>by cases e;exact⟨_,hK9,rfl⟩)
  refine⟨.bool (((m:Int)==0)&&(e==0)),by simp[results,Tryz.f27,go_sem,hc9],?_,hB9.trans (belowK_b (w:=w) (Nat.le_refl _) (W43.setCell ⟨w.heap.size+1,0,none⟩ (.bool (((m:Int)==0)&&(e==0)))) D _ _ (by omega) hK9 rfl rfl)⟩
  rw[hT.out]
 case stop=>
  rintro D c pre W hD hpre ⟨i4,⟨rfl,i5⟩,i6⟩ hK
  have hz6:=i6.size
  have y4:=i4.lt
  have hT:=Hd (show Jb r.eps e (B4 a b r.pts) l=false by unfold Jb;rw[if_neg (by omega)];have hle:=hpre.length_le;rw[List.length_map] at hle;rcases i5 with h|h;rw[decide_eq_false (by omega)];rfl;rw[all_pre hpre h,Bool.and_false];rfl)
  clear i5 hpre
  gi_wp2
  have b9:=i4
  have hK9:=hK
  have hB9:Below w.heap.size w W:=Aa
  refine⟨by simp,.inl ⟨_,_,rfl,run_takeDeferred hK9,?_⟩⟩
  have hc9:=cell_kept (by simpa using b9.cell 0) (grownBy_putObj' W D (.deferred none)) (fun r e=>by cases e;exact⟨_,hK9,rfl⟩)
  refine⟨.bool false,by simp[results,Tryz.f27,go_sem,hc9],?_,hB9.trans (belowK_b (w:=w) (Nat.le_refl _) W D _ _ (by omega) hK9 rfl rfl)⟩
  rw[hT.out]
theorem Tq (r:At) (p:Option Addr) (cap:Nat) (a b e:Int) (sp:Option Addr) (l:List (Int×Int×Int)) (scap:Nat) (w:World) (hp:Ar w p r.pts) (hl:r.pts.length<=2000) (hB:Gd w sp l) (hl2:l.length<=scap) (hl3:l.length<=2000) (hlv:∀x,x∈l->I64 x.1/\I64 x.2.1/\I64 x.2.2):
  Cb 27 #[.agg (Dw r p cap),a,b,.slice sp l.length scap,e] w (.bool (G5 r&&Jb r.eps e (B4 a b r.pts) l)):=by
 have c1:=fun W (hW:Below w.heap.size w W)=>Oo r p cap W (hp.below hW) hl
 unfold Dw at c1⊢
 cases hR:G5 r with
 |false=>
  rw[hR] at c1
  exact callsIn_wide.1 (Wl r p cap a b e sp l.length scap w c1)
 |true=>
  rw[hR,if_pos rfl] at c1
  obtain⟨_,hlen,hpt⟩:=Hq hR
  cases l with
  |nil=>exact callsIn_wide.1 (Tg r p cap a b e sp scap w hp hl hpt c1)
  |cons x l=>
   obtain⟨b0,o0,rfl,_⟩:=hB.at' 0 x rfl
   exact callsIn_wide.1 (R6 r p cap a b e b0 o0 (x::l) scap w hp hl hpt hB (by simp) hl2 hl3 hlv c1)
end Go.Proofs.YtdeghcgakkhbmaaGreat
namespace Go.Proofs.YtdeghcgakkhbmaaGreat
open Go.RowKit
attribute [local simp] Oper.looksAt Op.operands Call.operands Af Det Am
def Mm (eps:Int) (p:Int×Int) (x:Int×Int×Int):Bool:= !(((((x.1 !=p.1)||decide (x.2.2<0))||decide (eps<x.2.2))||decide (x.2.1+x.2.2<p.2))||decide (p.2<x.2.1-x.2.2))
theorem zip_snoc3 {pre:List (Int×Int)} {l:List (Int×Int×Int)} {x:Int×Int} {y:Int×Int×Int} (hy:l[pre.length]? =some y):(pre++ [x]).zip l=pre.zip l++ [(x,y)]:=by
 induction pre generalizing l with
 |nil=>
  cases l with
  |nil=>simp at hy
  |cons z l=>simp at hy;subst hy;simp
 |cons q pre ih=>
  cases l with
  |nil=>simp at hy
  |cons z l=>simp only[List.cons_append,List.zip_cons_cons];rw[ih (by simpa using hy)]
theorem zip_cut3 {L:List (Int×Int)} {l:List (Int×Int×Int)} {k:Nat} {f:(Int×Int)×(Int×Int×Int)->Bool} (h:((L.take k).zip l).all f=false):(L.zip l).all f=false:=by
 induction L generalizing k l with
 |nil=>simp at h
 |cons x L ih=>
  cases k with
  |zero=>simp at h
  |succ k=>
   cases l with
   |nil=>simp at h
   |cons y l=>
    simp only[List.take_succ_cons,List.zip_cons_cons,List.all_cons] at h⊢
    cases h1:f (x,y) with
    |false=>rfl
    |true=>rw[h1,Bool.true_and] at h;rw[Bool.true_and];exact ih h
def mrsRel (w:World) (r:At) (p:Option Addr) (cap:Nat) (a b:Int) (L:List (Int×Int)) (q:Option Addr) (c:Nat) (sp:Option Addr) (scap:Nat) (l:List (Int×Int×Int)) (a':Act) (W:World):Prop:=
 Below w.heap.size w W/\Blk W w.heap.size #[.string r.name,r.eps,r.floor,r.last,r.scale,.slice p r.pts.length cap] 35/\Ar W q L/\∃i:Nat,(∃u:Nat->Value,a'= {tmps:= #[u 0,a,b,.slice sp l.length scap,.int .i64 0,.pointer (some ⟨w.heap.size,0,none⟩),u 6,u 7,u 8,u 9,.bool false,.slice q L.length c,u 12,u 13,u 14,u 15,u 16,u 17,u 18,u 19,u 20,u 21,u 22,u 23,u 24,u 25,u 26,u 27,u 28,u 29,u 30,u 31,u 32,u 33,u 34,u 35,u 36,u 37,u 38,u 39,.slice sp l.length scap,.int .i64 (l.length:Int),.int .i64 (i:Int),u 43,u 44,u 45,u 46,u 47,u 48,u 49,u 50,u 51,u 52,u 53,u 54,u 55,u 56,u 57,u 58,u 59,u 60,u 61,u 62,u 63,u 64,u 65,u 66,u 67,u 68,u 69,u 70,u 71,u 72,u 73,u 74,u 75,u 76,u 77,u 78,u 79,u 80,u 81,u 82,u 83,u 84,u 85,u 86,u 87,u 88,u 89,u 90,u 91,u 92,u 93],defers:= []})/\((L.take i).zip l).all (fun q=>Mm r.eps q.1 q.2)=true/\i<=l.length
theorem V3 (r:At) (p:Option Addr) (cap:Nat) (a b:Int) (L:List (Int×Int)) (sp:Option Addr) (l:List (Int×Int×Int)) (scap:Nat) (w:World) (hp:Ar w p r.pts) (er:Int) (hn:((L.length:Int)==0)=true)
  (cS:∀W,Ar W p r.pts->Calls Tryz.prog 60 #[.agg #[.string r.name,r.eps,r.floor,r.last,r.scale,.slice p r.pts.length cap],a,b] W fun e w'=>∃q c,e= .returned (.slice q L.length c)/\Ar w' q L/\Below W.heap.size W w'):
  Cb 25 #[.agg #[.string r.name,r.eps,r.floor,r.last,r.scale,.slice p r.pts.length cap],a,b,.slice sp l.length scap,er] w (.bool ((er==9)&&((l.length:Int)==0))):=by
 go_enter Tryz.func25,Tryz.ntmps25
 replace cS:=Hd cS
 go_upto_region 1 with(fail)
 refine Ab w (Bc w.heap.size #[.string r.name,r.eps,r.floor,r.last,r.scale,.slice p r.pts.length cap] 35<|Bz) ?_
 rintro W1 hW z2 ⟨⟨b1,yb1,k1,f1⟩,-⟩
 go_wp2_with fail
 refine(cS.out _ (Ar.below hp (by exact Aa))).mono ?_
 rintro e w3 ⟨q,c,rfl,hq1,hb3⟩
 have z4:=hb3.size
 try simp at z4
 clear k1 f1
 refine Aj w w3 (Bc w.heap.size #[.string r.name,r.eps,r.floor,r.last,r.scale,.slice p r.pts.length cap] 35<|Bz) ?_
 clear b1 hW
 rintro hW z5 ⟨⟨b1,yb1,k1,f1⟩,-⟩
 have b2:=hq1
 clear hq1
 go_upto_region 3 with(fail)
 clear k1 f1
 refine Ab w (Bc w.heap.size #[.string r.name,r.eps,r.floor,r.last,r.scale,.slice p r.pts.length cap] 35<|Rc (fun W'=>Ar W' q L)<|Bz) ?_ (hI:=by exact Aa) (hR:=(Bc.mk (by exact Ad)<|Rc.mk (by first|exact b2|exact Ar.below (Ar.below b2 (by exact Aa)) hW|exact Ar.below b2 (by exact Aa))<|trivial))
 clear b1 b2 hW
 rintro W6 hW z7 hL
 obtain⟨⟨b1,yb1,k1,f1⟩,b2,-⟩:=id hL
 clear k1 f1
 refine Bg 8 94 hW hL ?_
 iterate 3 refine dA ?_
 iterate 3 refine gA ?_
 refine pA ?_
 refine dA ?_
 clear hW hL b1 b2
 rintro W8 hW z9 hL
 simp only[ndR]
 intros
 repeat (rename Am _ _ _ _=>hgd;clear hgd)
 simp only[ndS]
 refine wpList_nil ?_
 obtain⟨⟨b1,yb1,k1,f1⟩,b2,-⟩:=hL
 go_wp2
 refine bodyPost_ret (by simp[results,Tryz.results25,go_sem,k1,f1,yb1]) rfl ⟨rfl,by exact Aa⟩
theorem refScan_er (r:At) (p:Option Addr) (cap:Nat) (a b:Int) (L:List (Int×Int)) (sp:Option Addr) (l:List (Int×Int×Int)) (scap:Nat) (w:World) (hp:Ar w p r.pts) (er:Int) (hn:((L.length:Int)==0)=false) (he:(er !=0)=true)
  (cS:∀W,Ar W p r.pts->Calls Tryz.prog 60 #[.agg #[.string r.name,r.eps,r.floor,r.last,r.scale,.slice p r.pts.length cap],a,b] W fun e w'=>∃q c,e= .returned (.slice q L.length c)/\Ar w' q L/\Below W.heap.size W w'):
  Cb 25 #[.agg #[.string r.name,r.eps,r.floor,r.last,r.scale,.slice p r.pts.length cap],a,b,.slice sp l.length scap,er] w (.bool false):=by
 go_enter Tryz.func25,Tryz.ntmps25
 replace cS:=Hd cS
 go_upto_region 1 with(fail)
 refine Ab w (Bc w.heap.size #[.string r.name,r.eps,r.floor,r.last,r.scale,.slice p r.pts.length cap] 35<|Bz) ?_
 rintro W1 hW z2 ⟨⟨b1,yb1,k1,f1⟩,-⟩
 go_wp2_with fail
 refine(cS.out _ (Ar.below hp (by exact Aa))).mono ?_
 rintro e w3 ⟨q,c,rfl,hq1,hb3⟩
 have z4:=hb3.size
 try simp at z4
 clear k1 f1
 refine Aj w w3 (Bc w.heap.size #[.string r.name,r.eps,r.floor,r.last,r.scale,.slice p r.pts.length cap] 35<|Bz) ?_
 clear b1 hW
 rintro hW z5 ⟨⟨b1,yb1,k1,f1⟩,-⟩
 have b2:=hq1
 clear hq1
 go_wp2
 refine bodyPost_ret (by simp[results,Tryz.results25,go_sem,k1,f1,yb1]) rfl ⟨rfl,by exact Aa⟩
theorem Yh (r:At) (p:Option Addr) (cap:Nat) (a b:Int) (L:List (Int×Int)) (sp:Option Addr) (l:List (Int×Int×Int)) (scap:Nat) (w:World) (hp:Ar w p r.pts) (hn:((L.length:Int)==0)=false) (he:((l.length:Int) !=(L.length:Int))=true)
  (cS:∀W,Ar W p r.pts->Calls Tryz.prog 60 #[.agg #[.string r.name,r.eps,r.floor,r.last,r.scale,.slice p r.pts.length cap],a,b] W fun e w'=>∃q c,e= .returned (.slice q L.length c)/\Ar w' q L/\Below W.heap.size W w'):
  Cb 25 #[.agg #[.string r.name,r.eps,r.floor,r.last,r.scale,.slice p r.pts.length cap],a,b,.slice sp l.length scap,.int .i64 0] w (.bool false):=by
 go_enter Tryz.func25,Tryz.ntmps25
 replace cS:=Hd cS
 go_upto_region 1 with(fail)
 refine Ab w (Bc w.heap.size #[.string r.name,r.eps,r.floor,r.last,r.scale,.slice p r.pts.length cap] 35<|Bz) ?_
 rintro W1 hW z2 ⟨⟨b1,yb1,k1,f1⟩,-⟩
 go_wp2_with fail
 refine(cS.out _ (Ar.below hp (by exact Aa))).mono ?_
 rintro e w3 ⟨q,c,rfl,hq1,hb3⟩
 have z4:=hb3.size
 try simp at z4
 clear k1 f1
 refine Aj w w3 (Bc w.heap.size #[.string r.name,r.eps,r.floor,r.last,r.scale,.slice p r.pts.length cap] 35<|Bz) ?_
 clear b1 hW
 rintro hW z5 ⟨⟨b1,yb1,k1,f1⟩,-⟩
 have b2:=hq1
 clear hq1
 go_wp2
 refine bodyPost_ret (by simp[results,Tryz.results25,go_sem,k1,f1,yb1]) rfl ⟨rfl,by exact Aa⟩
theorem V4 (r:At) (p:Option Addr) (cap:Nat) (a b:Int) (L:List (Int×Int)) (sp:Option Addr) (l:List (Int×Int×Int)) (scap:Nat) (w:World) (hp:Ar w p r.pts) (hn:((L.length:Int)==0)=false) (he:((l.length:Int) !=(L.length:Int))=false) (hl:l.length=L.length) (hl3:l.length<=2000) (hB:Gd w sp l) (hlv:∀x,x∈l->I64 x.1/\I64 x.2.1/\I64 x.2.2) (hLv:∀x,x∈L->I64 x.2)
  (cS:∀W,Ar W p r.pts->Calls Tryz.prog 60 #[.agg #[.string r.name,r.eps,r.floor,r.last,r.scale,.slice p r.pts.length cap],a,b] W fun e w'=>∃q c,e= .returned (.slice q L.length c)/\Ar w' q L/\Below W.heap.size W w'):
  Calls Tryz.prog 25 #[.agg #[.string r.name,r.eps,r.floor,r.last,r.scale,.slice p r.pts.length cap],a,b,.slice sp l.length scap,.int .i64 0] w fun e w'=>e= .returned (.bool ((L.zip l).all fun q=>Mm r.eps q.1 q.2))/\Below w.heap.size w w':=by
 obtain⟨RES,hRES⟩:∃B,((L.zip l).all fun q=>Mm r.eps q.1 q.2)=B:=⟨_,rfl⟩
 rw[hRES]
 replace hRES:=Hd hRES
 replace hl:=Hd hl
 go_enter Tryz.func25,Tryz.ntmps25
 replace cS:=Hd cS
 go_upto_region 1 with(fail)
 refine Ab w (Bc w.heap.size #[.string r.name,r.eps,r.floor,r.last,r.scale,.slice p r.pts.length cap] 35<|Bz) ?_
 rintro W1 hW z2 ⟨⟨b1,yb1,k1,f1⟩,-⟩
 go_wp2_with fail
 refine(cS.out _ (Ar.below hp (by exact Aa))).mono ?_
 rintro e w3 ⟨q,c,rfl,hq1,hb3⟩
 have z4:=hb3.size
 try simp at z4
 clear k1 f1
 refine Aj w w3 (Bc w.heap.size #[.string r.name,r.eps,r.floor,r.last,r.scale,.slice p r.pts.length cap] 35<|Bz) ?_
 clear b1 hW
 rintro hW z5 ⟨⟨b1,yb1,k1,f1⟩,-⟩
 have b2:=hq1
 clear hq1
 go_wp2
 clear k1 f1
 refine wp_loop (mrsRel w r p cap a b L q c sp scap l) (fun a' _=>l.length-(Ag (a'.tmps.getD 42 undef)).toNat) ?_ ?_
 ·unfold mrsRel
  exact⟨hW,b1,b2,0,Ac rfl,rfl,Nat.zero_le _⟩
 clear b1 b2 hW
 rintro a' W ⟨hW,b1,b2,i,⟨u,rfl⟩,hall,hi⟩
 have hz:=hW.size
 have yb1:=b1.lt
 rcases Nat.lt_or_ge i l.length with hlt|hge
 ·have hL9:i<L.length:=by have:=hl.out;omega
  obtain⟨⟨t,v⟩,tr⟩:∃x,L[i]? =some x:=⟨L[i]'(by omega),List.getElem?_eq_getElem (by omega)⟩
  obtain⟨⟨xt,xv,xe⟩,tx⟩:∃x,l[i]? =some x:=⟨l[i]'(by omega),List.getElem?_eq_getElem (by omega)⟩
  have hv9:=hLv _ (List.mem_of_getElem? tr)
  have hx9:=hlv _ (List.mem_of_getElem? tx)
  simp only at hv9 hx9
  obtain⟨b8,o8,rfl,q0,q1,q2⟩:=(hB.below hW).at' i _ tx
  obtain⟨bq,oq,rfl,-,-⟩:=b2.at' i _ tr
  simp only at q0 q1 q2
  have zq:=Ap q0
  try simp only at zq
  have hL8:=Hd b2
  have hst:((L.take (i+1)).zip l).all (fun q=>Mm r.eps q.1 q.2)=Mm r.eps (t,v) (xt,xv,xe):=by
   rw[List.take_add_one,tr]
   have e:=zip_snoc3 (x:=(t,v)) (y:=(xt,xv,xe)) (pre:=L.take i) (l:=l) (by rw[List.length_take,Nat.min_eq_left (by omega)];exact tx)
   rw[Option.toList_some,e,List.all_append,hall,Bool.true_and]
   simp
  obtain⟨F,hF⟩:∃F,Mm r.eps (t,v) (xt,xv,xe)=F:=⟨_,rfl⟩
  rw[hF] at hst
  have hno:=Hd (fun(e:F=false)=>(show RES=false by
   rw[<-hRES.out]
   rw[e] at hst
   exact zip_cut3 hst))
  have hb1:=Hd (show v.natAbs<2^900 from C1 64 900 (show v.natAbs<2^64 by unfold I64 at hv9;omega) (by omega))
  have hb2:=Hd (show xv.natAbs<2^900 from C1 64 900 (show xv.natAbs<2^64 by unfold I64 at hx9;omega) (by omega))
  have hb3:=Hd (show xe.natAbs<2^900 from C1 64 900 (show xe.natAbs<2^64 by unfold I64 at hx9;omega) (by omega))
  have hb4:=Hd (show (xv+xe).natAbs<2^900 from C1 66 900 (show (xv+xe).natAbs<2^66 by unfold I64 at hx9;omega) (by omega))
  have hb5:=Hd (show (xv-xe).natAbs<2^900 from C1 66 900 (show (xv-xe).natAbs<2^66 by unfold I64 at hx9;omega) (by omega))
  have hv:=Hd (show (((((xt !=t)||decide (xe<0))||decide (r.eps<xe))||decide (xv+xe<v))||decide (v<xv-xe))= !F by rw[<-hF];unfold Mm;rw[Bool.not_not])
  replace tr:=Hd tr
  replace hst:=Hd hst
  clear hF hall hRES tx
  have k1:=b1.cell
  have f1:=b1.frozen
  go_upto_region 9 with(fail)
  clear k1 f1
  refine Ab w (Bc w.heap.size #[.string r.name,r.eps,r.floor,r.last,r.scale,.slice p r.pts.length cap] 35<|Bc W.heap.size #[xt,xv,xe] 64<|Rc (fun W'=>Ja W' bq oq L)<|Bz) ?_ (hI:=by exact Aa) (hR:=(Bc.mk (by exact Ad)<|Bc.mk (by exact Ad)<|Rc.mk (by first|exact⟨b2⟩|exact(Ja.mk b2).below (by exact Aa))<|trivial))
  clear b1 hW
  rintro W21 hW z22 ⟨⟨b1,yb1,k1,f1⟩,⟨b2,yb2,k2,f2⟩,b3,-⟩
  clear k1 f1 k2 f2
  refine E8 15 94 [] (fun W'=>Rex [] W21 W'/\Blk W' w.heap.size #[.string r.name,r.eps,r.floor,r.last,r.scale,.slice p r.pts.length cap] 35/\Blk W' W.heap.size #[xt,xv,xe] 64/\Ja W' bq oq L) Cu (by kernel_rfl) rfl ⟨(Rex.refl _ _).drew,b1,b2,b3.drew⟩ (fun w w' ⟨h0,h1,h2,h3⟩ hr=>⟨h0.trans hr,h1.rex hr (by simp<;>omega),h2.rex hr (by simp<;>omega),h3.rex hr (by simp<;>omega)⟩) (fun c a d v w h=>by cases d<;>exact h) ?_
  iterate 5
   apply An (hg:=rfl) (hal:=rfl)
   ·intro a W' hC hE
    obtain⟨_,k1,k2,k3⟩:=hC
    have k1:=k1.cell
    have k2:=k2.cell
    obtain⟨t0,t1⟩:=k3.cellAt tr.out
    first
     |(simp at hE;simp[go_sem,Act.eval,iw,hE,k1,k2,k3,t0,t1,hL9];try rfl)
     |(clear hE;simp[go_sem,Act.eval,iw,k1,k2,k3,t0,t1,hL9];try rfl)
  apply A5 (NI (v)) (hg:=rfl) (hal:=rfl)
  ·exact NI.closed _
  ·intro a' W' hC hE
   obtain⟨_,k1,k2,k3⟩:=hC
   simp at hE
   refine⟨_,_,?_,(En v W' hv9.1 hv9.2).mono ?_⟩
   ·simp[go_sem,Act.eval,hE]
    try rfl
   ·rintro e w' ⟨v,rfl,hB,hR⟩
    exact⟨_,rfl,hR,hB⟩
  iterate 2
   apply An (hg:=rfl) (hal:=rfl)
   ·intro a W' hC hE
    obtain⟨_,k1,k2,k3⟩:=hC
    have k1:=k1.cell
    have k2:=k2.cell
    obtain⟨t0,t1⟩:=k3.cellAt tr.out
    first
     |(simp at hE;simp[go_sem,Act.eval,iw,hE,k1,k2,k3,t0,t1,hL9];try rfl)
     |(clear hE;simp[go_sem,Act.eval,iw,k1,k2,k3,t0,t1,hL9];try rfl)
  apply A5 (NI (xv)) (hg:=rfl) (hal:=rfl)
  ·exact NI.closed _
  ·intro a' W' hC hE
   obtain⟨_,k1,k2,k3⟩:=hC
   simp at hE
   refine⟨_,_,?_,(En xv W' hx9.2.1.1 hx9.2.1.2).mono ?_⟩
   ·simp[go_sem,Act.eval,hE]
    try rfl
   ·rintro e w' ⟨v,rfl,hB,hR⟩
    exact⟨_,rfl,hR,hB⟩
  iterate 2
   apply An (hg:=rfl) (hal:=rfl)
   ·intro a W' hC hE
    obtain⟨_,k1,k2,k3⟩:=hC
    have k1:=k1.cell
    have k2:=k2.cell
    obtain⟨t0,t1⟩:=k3.cellAt tr.out
    first
     |(simp at hE;simp[go_sem,Act.eval,iw,hE,k1,k2,k3,t0,t1,hL9];try rfl)
     |(clear hE;simp[go_sem,Act.eval,iw,k1,k2,k3,t0,t1,hL9];try rfl)
  apply A5 (NI (xe)) (hg:=rfl) (hal:=rfl)
  ·exact NI.closed _
  ·intro a' W' hC hE
   obtain⟨_,k1,k2,k3⟩:=hC
   simp at hE
   refine⟨_,_,?_,(En xe W' hx9.2.2.1 hx9.2.2.2).mono ?_⟩
   ·simp[go_sem,Act.eval,hE]
    try rfl
   ·rintro e w' ⟨v,rfl,hB,hR⟩
    exact⟨_,rfl,hR,hB⟩
  apply Dx W21.heap.size #[.bool false,.slice none 0 0] 115 rfl rfl
  ·exact fun W' hC=>hC.1.size
  ·simp[Bn]<;>omega
  ·intro w;kernel_rfl
  apply Dx W21.heap.size #[.bool false,.slice none 0 0] 115 rfl rfl
  ·exact fun W' hC=>hC.1.size
  ·simp[Bn]<;>omega
  ·intro w;kernel_rfl
  apply Dx W21.heap.size #[.bool false,.slice none 0 0] 115 rfl rfl
  ·exact fun W' hC=>hC.1.size
  ·simp[Bn]<;>omega
  ·intro w;kernel_rfl
  rintro W2 ⟨hR,d1,d2,d3⟩
  simp only[A6,Det,forall_eq]
  intros
  repeat (rename Am _ _ _ _=>hgd;clear hgd)
  simp only[nS]
  have hP0:=Hd b3
  have hB20:=hR.of_priv (Nat.le_refl _)
  clear b1 b2 b3
  have b1:=d1
  have b2:=d2
  have b3:=d3
  clear d1 d2 d3
  replace hW:=hW.trans (hR.of_priv hW.size)
  clear hR
  rename Gs _ _=>hap
  rename Ex _ _ _ _ _=>hn
  obtain⟨o16,rfl,hg16,b6⟩:=hn
  rename Ex _ _ _ _ _=>hn
  obtain⟨o15,rfl,hg15,b5⟩:=hn
  rename Ex _ _ _ _ _=>hn
  obtain⟨o14,rfl,hg14,b4⟩:=hn
  have h1415:o14≠o15:=fun e=>hap 14 15 (by simp[Cz,Au]) (by simp[Cz,Au]) (by decide) ⟨o14,0,none⟩ (by simp[Act.put]) (by simp[Act.put,e])
  have h1416:o14≠o16:=fun e=>hap 14 16 (by simp[Cz,Au]) (by simp[Cz,Au]) (by decide) ⟨o14,0,none⟩ (by simp[Act.put]) (by simp[Act.put,e])
  have h1516:o15≠o16:=fun e=>hap 15 16 (by simp[Cz,Au]) (by simp[Cz,Au]) (by decide) ⟨o15,0,none⟩ (by simp[Act.put]) (by simp[Act.put,e])
  clear hap
  rename NI v _ _=>hi1
  rename NI xv _ _=>hi2
  rename NI xe _ _=>hi3
  obtain⟨p1,l1,c1,rfl,hq1⟩:=Bm hi1
  obtain⟨p2,l2,c2,rfl,hq2⟩:=Bm hi2
  obtain⟨p3,l3,c3,rfl,hq3⟩:=Bm hi3
  clear hi1 hi2 hi3
  have e5:=(Blk.setO (g:=o14) (Blk.setO (g:=o14) b5 (by omega) 0 (.bool (decide (v<0)))) (by omega) 1 (.slice p1 l1 c1))
  have e6:=(Blk.setO (g:=o15) (Blk.setO (g:=o15) ((Blk.setO (g:=o14) (Blk.setO (g:=o14) b6 (by omega) 0 (.bool (decide (v<0)))) (by omega) 1 (.slice p1 l1 c1))) (by omega) 0 (.bool (decide (xv<0)))) (by omega) 1 (.slice p2 l2 c2))
  have hS1:=Hd (((hq1.store b4 (.bool (decide (v<0))) (.slice p1 l1 c1)).store e5 (.bool (decide (xv<0))) (.slice p2 l2 c2)).store e6 (.bool (decide (xe<0))) (.slice p3 l3 c3))
  have hS2:=Hd (((hq2.store b4 (.bool (decide (v<0))) (.slice p1 l1 c1)).store e5 (.bool (decide (xv<0))) (.slice p2 l2 c2)).store e6 (.bool (decide (xe<0))) (.slice p3 l3 c3))
  have hS3:=Hd (((hq3.store b4 (.bool (decide (v<0))) (.slice p1 l1 c1)).store e5 (.bool (decide (xv<0))) (.slice p2 l2 c2)).store e6 (.bool (decide (xe<0))) (.slice p3 l3 c3))
  clear hq1 hq2 hq3 e5 e6
  have yb1:=b1.lt
  have yb2:=b2.lt
  have yb4:=b4.lt
  have yb5:=b5.lt
  have yb6:=b6.lt
  have zz9:=hW.size
  have k1:=b1.cell
  have f1:=b1.frozen
  have k2:=b2.cell
  have f2:=b2.frozen
  have k4:=b4.cell
  have f4:=b4.frozen
  have k5:=b5.cell
  have f5:=b5.frozen
  have k6:=b6.cell
  have f6:=b6.frozen
  have hP9:=Hd b3
  go_upto_region 10 with(fail)
  clear k1 f1 k2 f2 k4 f4 k5 f5 k6 f6
  refine Ab w (Bc w.heap.size #[.string r.name,r.eps,r.floor,r.last,r.scale,.slice p r.pts.length cap] 35<|Bc W.heap.size #[xt,xv,xe] 64<|Rc (fun W'=>Ja W' bq oq L)<|Bc o14 #[.bool (decide (v<0)),.slice p1 l1 c1] 115<|Bc o15 #[.bool (decide (xv<0)),.slice p2 l2 c2] 115<|Bc o16 #[.bool (decide (xe<0)),.slice p3 l3 c3] 115<|Rc (fun W'=>Av W' (.slice p1 l1 c1) (v).natAbs)<|Rc (fun W'=>Av W' (.slice p2 l2 c2) (xv).natAbs)<|Rc (fun W'=>Av W' (.slice p3 l3 c3) (xe).natAbs)<|Bz) ?_ (hI:=by exact Aa) (hR:=(Bc.mk (by exact Ad)<|Bc.mk (by exact Ad)<|Rc.mk (by exact hP0.out.below (by exact Aa))<|Bc.mk (by exact Ad)<|Bc.mk (by exact Ad)<|Bc.mk (by exact Ad)<|Rc.mk (by exact hS1.out)<|Rc.mk (by exact hS2.out)<|Rc.mk (by exact hS3.out)<|trivial))
  clear b1 b2 b3 b4 b5 b6 hW
  rintro W23 hW z24 hL
  obtain⟨⟨b1,yb1,k1,f1⟩,⟨b2,yb2,k2,f2⟩,b3,⟨b4,yb4,k4,f4⟩,⟨b5,yb5,k5,f5⟩,⟨b6,yb6,k6,f6⟩,b7,b8,b9,-⟩:=id hL
  clear k1 f1 k2 f2 k4 f4 k5 f5 k6 f6
  refine Bw 34 94 hW hL ?_
  iterate 9 refine dE (fun W' hC=>aI (hC.2.2.2.1.cellAt tr.out) hL9) ?_
  iterate 3 refine gE (fun W' hC=>aI (hC.2.2.2.1.cellAt tr.out) hL9) ?_
  refine pO ?_
  refine dE (fun W' hC=>aI (hC.2.2.2.1.cellAt tr.out) hL9) ?_
  iterate 5 refine gE (fun W' hC=>aI (hC.2.2.2.1.cellAt tr.out) hL9) ?_
  refine pO ?_
  refine dE (fun W' hC=>aI (hC.2.2.2.1.cellAt tr.out) hL9) ?_
  iterate 2 refine gE (fun W' hC=>aI (hC.2.2.2.1.cellAt tr.out) hL9) ?_
  apply Rt (NI (xv+xe)) (p:=true) (hg:=rfl) (hd:=rfl) (hal:=rfl)
  ·exact NI.closed _
  ·intro v W' h
   simp at h
   simp
   exact h
  ·intro hp hx a' W' hC hE
   obtain⟨_,⟨-,-,k1,-⟩,⟨-,-,k2,-⟩,k3,⟨-,-,k4,-⟩,⟨-,-,k5,-⟩,⟨-,-,k6,-⟩,k7,k8,k9,-⟩:=hC
   simp[GS,hx] at hE
   refine⟨_,_,?_,(Om (.agg #[.bool (decide (xv<0)),.slice p2 l2 c2]) (.agg #[.bool (decide (xe<0)),.slice p3 l3 c3]) _ _ W' ⟨_,rfl,k8⟩ ⟨_,rfl,k9⟩ hb2.out hb3.out).mono ?_⟩
   ·simp[go_sem,Act.eval,hE]
    try rfl
   ·rintro e w' ⟨v,rfl,hB,hR⟩
    exact⟨_,rfl,hR,hB⟩
  refine gE (fun W' hC=>aI (hC.2.2.2.1.cellAt tr.out) hL9) ?_
  apply L8 (p:=true) (c:= .bool (decide (xv+xe<v))) (hg:=rfl) (hd:=rfl) (hal:=rfl)
  ·intro v W' h
   simp at h
   simp
   exact h
  ·intro hp hx a' W' hC hE
   obtain⟨_,⟨-,-,k1,-⟩,⟨-,-,k2,-⟩,k3,⟨-,-,k4,-⟩,⟨-,-,k5,-⟩,⟨-,-,k6,-⟩,k7,k8,k9,-⟩:=hC
   simp[GS,hx] at hE
   refine⟨_,_,?_,(Vc _ (.agg #[.bool (decide (v<0)),.slice p1 l1 c1]) _ _ W' hE.1 ⟨_,rfl,k7⟩ hb4.out hb1.out)⟩
   simp[go_sem,Act.eval,hE.2]
   try rfl
  refine pO ?_
  refine dE (fun W' hC=>aI (hC.2.2.2.1.cellAt tr.out) hL9) ?_
  iterate 3 refine gE (fun W' hC=>aI (hC.2.2.2.1.cellAt tr.out) hL9) ?_
  apply Rt (NI (xv-xe)) (p:=true) (hg:=rfl) (hd:=rfl) (hal:=rfl)
  ·exact NI.closed _
  ·intro v W' h
   simp at h
   simp
   exact h
  ·intro hp hx a' W' hC hE
   obtain⟨_,⟨-,-,k1,-⟩,⟨-,-,k2,-⟩,k3,⟨-,-,k4,-⟩,⟨-,-,k5,-⟩,⟨-,-,k6,-⟩,k7,k8,k9,-⟩:=hC
   simp[GS,hx] at hE
   refine⟨_,_,?_,(c_refSub (.agg #[.bool (decide (xv<0)),.slice p2 l2 c2]) (.agg #[.bool (decide (xe<0)),.slice p3 l3 c3]) _ _ W' ⟨_,rfl,k8⟩ ⟨_,rfl,k9⟩ hb2.out hb3.out).mono ?_⟩
   ·simp[go_sem,Act.eval,hE]
    try rfl
   ·rintro e w' ⟨v,rfl,hB,hR⟩
    exact⟨_,rfl,hR,hB⟩
  apply L8 (p:=true) (c:= .bool (decide (v<xv-xe))) (hg:=rfl) (hd:=rfl) (hal:=rfl)
  ·intro v W' h
   simp at h
   simp
   exact h
  ·intro hp hx a' W' hC hE
   obtain⟨_,⟨-,-,k1,-⟩,⟨-,-,k2,-⟩,k3,⟨-,-,k4,-⟩,⟨-,-,k5,-⟩,⟨-,-,k6,-⟩,k7,k8,k9,-⟩:=hC
   simp[GS,hx] at hE
   refine⟨_,_,?_,(Vc (.agg #[.bool (decide (v<0)),.slice p1 l1 c1]) _ _ _ W' ⟨_,rfl,k7⟩ hE.2.1 hb1.out hb5.out)⟩
   simp[go_sem,Act.eval,hE.1]
   try rfl
  refine pO ?_
  clear hW hL b1 b2 b3 b4 b5 b6 b7 b8 b9
  rintro W25 hW z26 hL
  simp only[ndR]
  intros
  repeat (rename Am _ _ _ _=>hgd;clear hgd)
  simp only[ndS]
  refine wpList_nil ?_
  obtain⟨⟨b1,yb1,k1,f1⟩,⟨b2,yb2,k2,f2⟩,b3,⟨b4,yb4,k4,f4⟩,⟨b5,yb5,k5,f5⟩,⟨b6,yb6,k6,f6⟩,b7,b8,b9,-⟩:=hL
  rw[hv.out]
  cases F with
  |false=>
   go_wp2
   go_ret
   exact⟨by rw[hno.out (by trivial)];rfl,by exact Aa⟩
  |true=>
   go_wp2
   rw[show (i:Int)+1=((i+1:Nat):Int) by omega]
   refine⟨?_,by simp[Ag];omega⟩
   unfold mrsRel
   exact⟨hW,b1,b3.1,i+1,Ac rfl,hst.out,by omega⟩
 ·obtain rfl:i=l.length:=by omega
  rw[hl.out,List.take_of_length_le (Nat.le_refl _)] at hall
  have hres:=Hd (show RES=true by rw[<-hRES.out];exact hall)
  clear hall hRES
  go_wp2
  go_ret
  exact⟨by rw[hres.out];rfl,by exact Aa⟩
end Go.Proofs.YtdeghcgakkhbmaaGreat
namespace Go.Proofs.YtdeghcgakkhbmaaGreat
open Go.RowKit
theorem Pv (fl a b:Int):∀(l:List (Int×Int)) (c:Int),Ct fl c l=true->(l.filter fun p=>decide (a<=p.1)&&decide (p.1<=b))=B4 a b l
 | [],_,_=>rfl
 |x::l,c,h=>by
  have hm:=Lb fl l x.1
  simp only[Ct,Bool.and_eq_true,decide_eq_true_eq] at h
  have ih:=Pv fl a b l x.1 h.2
  unfold B4 at ih⊢
  rw[List.takeWhile_cons]
  by_cases hg:Od a b x=true
  ·rw[if_pos hg]
   unfold Od at hg
   simp only[Bool.or_eq_true,decide_eq_true_eq] at hg
   rw[List.filter_cons,List.filter_cons,ih]
   by_cases h1:a<=x.1
   ·rw[if_pos (by simp;omega),if_pos (by simpa using h1)]
   ·rw[if_neg (by simp;omega),if_neg (by simpa using h1)]
  ·rw[if_neg hg]
   unfold Od at hg
   simp only[Bool.or_eq_true,decide_eq_true_eq] at hg
   rw[List.filter_nil,List.filter_eq_nil_iff]
   intro p hp
   rcases List.mem_cons.1 hp with rfl|hp
   ·simp;omega
   ·have:=(hm h.2 p hp).2.2
    simp;omega
theorem some_tell {r:At} (h:G5 r=true) (a b:Int):X4 r a b=B4 a b r.pts:=by
 unfold G5 at h
 simp only[Bool.and_eq_true] at h
 exact Pv r.floor a b r.pts (-1) h.2.1
theorem cmp_le (x y:Int):decide (Oi x y<=0)= !decide (y<x):=by
 unfold Oi
 by_cases h1:x=y
 ·rw[if_pos h1];subst h1;simp
 ·rw[if_neg h1]
  by_cases h2:x<y
  ·rw[if_pos h2,decide_eq_false (show¬y<x by omega)];rfl
  ·rw[if_neg h2,decide_eq_true (show y<x by omega)];rfl
theorem back_ref (eps:Int) (p:Int×Int) (x:Int×Int×Int):Mm eps p x=Ev eps p x:=by
 unfold Mm Ev nearB btw
 rw[cmp_le,cmp_le,Bool.eq_iff_iff]
 simp only[Bool.not_eq_true',Bool.or_eq_false_iff,bne_eq_false_iff_eq,decide_eq_false_iff_not,Bool.and_eq_true,beq_iff_eq,decide_eq_true_eq]
 constructor
 ·rintro⟨⟨⟨⟨h1,h2⟩,h3⟩,h4⟩,h5⟩;exact⟨h1,⟨by omega,by omega⟩,by omega,by omega⟩
 ·rintro⟨h1,⟨h2,h3⟩,h4,h5⟩;exact⟨⟨⟨⟨h1,by omega⟩,by omega⟩,by omega⟩,by omega⟩
theorem zip_ref (eps:Int) (L:List (Int×Int)) (l:List (Int×Int×Int)):((L.zip l).all fun q=>Mm eps q.1 q.2)=((L.zip l).all fun q=>Ev eps q.1 q.2):=by
 congr 1
 funext q
 exact back_ref eps q.1 q.2
section
variable {r:At} {p:Option Addr} {cap:Nat} {w:World}
theorem Zt (hR:G5 r=true) (hp:Ar w p r.pts) (a b:Int) (W:World) (hW:Ar W p r.pts):Calls Tryz.prog 60 #[.agg (Dw r p cap),a,b] W fun e w'=>∃q c,e= .returned (.slice q (B4 a b r.pts).length c)/\Ar w' q (B4 a b r.pts)/\Below W.heap.size W w':=by
 have:=c_refSome r p cap a b W hW (by have:=(Hq hR).2.1;omega)
 rw[some_tell hR] at this
 exact this
theorem tell_vals (hR:G5 r=true) (a b:Int):∀x,x∈B4 a b r.pts->I64 x.2:=fun x hx=>by
 have:=(Hq hR).2.2 x (O5 hx)
 unfold ptB btw at this
 simp only[Bool.and_eq_true,decide_eq_true_eq] at this
 unfold I64
 omega
theorem Zu (hR:G5 r=true) (a b er:Int) (sp:Option Addr) (l:List (Int×Int×Int)) (scap:Nat) (hp:Ar w p r.pts) (hB:Gd w sp l) (hl3:l.length<=2000) (hlv:∀x,x∈l->I64 x.1/\I64 x.2.1/\I64 x.2.2):
  Cb 25 #[.agg (Dw r p cap),a,b,.slice sp l.length scap,er] w (.bool (Jb r.eps er (B4 a b r.pts) l)):=by
 have cS:=Zt (cap:=cap) hR hp a b
 have hv:=tell_vals hR a b
 obtain⟨L,hL⟩:∃L,B4 a b r.pts=L:=⟨_,rfl⟩
 rw[hL] at cS hv⊢
 unfold Dw at cS⊢
 unfold Jb
 by_cases h0:L.length=0
 ·have t:=V3 r p cap a b L sp l scap w hp er (by rw[h0];rfl) cS
  refine t.mono fun e w' h=>⟨?_,h.2⟩
  rw[h.1]
  congr 2
  by_cases h1:l.length=0
  ·rw[if_pos h1,h1,h0];simp
  ·rw[if_neg h1,show ((l.length:Int)==0)=false from beq_eq_false_iff_ne.2 (by omega),decide_eq_false (show¬L.length=l.length by omega)];simp
 ·have hn:((L.length:Int)==0)=false:=beq_eq_false_iff_ne.2 (by omega)
  by_cases he:er=0
  ·subst he
   by_cases hl:l.length=L.length
   ·rw[if_neg (by omega),decide_eq_true (show L.length=l.length from hl.symm),<-zip_ref]
    have t:=V4 r p cap a b L sp l scap w hp hn (by rw[hl];simp) hl hl3 hB hlv hv cS
    refine t.mono fun e w' h=>⟨?_,h.2⟩
    rw[h.1]
    simp
   ·have t:=Yh r p cap a b L sp l scap w hp hn (by simp;omega) cS
    refine t.mono fun e w' h=>⟨?_,h.2⟩
    rw[h.1]
    congr 2
    by_cases h1:l.length=0
    ·rw[if_pos h1,decide_eq_false h0];rfl
    ·rw[if_neg h1,decide_eq_false (show¬L.length=l.length by omega)];rfl
  ·have t:=refScan_er r p cap a b L sp l scap w hp er hn (by simpa using he) cS
   refine t.mono fun e w' h=>⟨?_,h.2⟩
   rw[h.1]
   congr 2
   have he':(er==0)=false:=by simpa using he
   by_cases h1:l.length=0
   ·rw[if_pos h1,decide_eq_false h0];rfl
   ·rw[if_neg h1,he',Bool.and_false]
end
def bkR (x:Int×Int×Int):Ah:=⟨x.1,x.2.1,x.2.2⟩
structure S5 (w:World) (b o:Nat) (l:List (Int×Int×Int)):Prop where
 bks:Gd w (some ⟨b,o,none⟩) l
theorem S5.below {w w':World} {b o:Nat} {l:List (Int×Int×Int)} (h:S5 w b o l) (hb:Below w.heap.size w w'):S5 w' b o l:=⟨h.bks.below hb⟩
theorem S5.rex {L:List Nat} {w w':World} {b o:Nat} {l:List (Int×Int×Int)} (h:S5 w b o l) (hr:Rex L w w') (hL:L= []):S5 w' b o l:=by subst hL;exact h.below hr.below
theorem S5.drew {w:World} {b o:Nat} {l:List (Int×Int×Int)} (h:S5 w b o l):S5 w.drew b o l:=⟨h.bks.drew⟩
theorem S5.cellAt {w:World} {b o i:Nat} {l:List (Int×Int×Int)} {x:Int×Int×Int} (h:S5 w b o l) (hx:l[i]? =some x):w.cell? ⟨b,o+i*3,none⟩=some (x.1)/\w.cell? ⟨b,o+i*3+1,none⟩=some (x.2.1)/\w.cell? ⟨b,o+i*3+2,none⟩=some (x.2.2):=by
 obtain⟨b',o',e,h1⟩:=h.bks.at' i x hx
 injection e with e
 injection e with e1 e2
 subst e1;subst e2
 exact h1
def eqkRel (w:World) (p:Option Addr) (cap:Nat) (p':Option Addr) (cap':Nat) (A:List (Int×Int×Int)) (a':Act) (W:World):Prop:=
 Below w.heap.size w W/\∃(i:Nat),(∃u:Nat->Value,a'= {tmps:= #[.slice p A.length cap,.slice p' A.length cap',u 2,u 3,.bool false,u 5,u 6,u 7,u 8,u 9,u 10,u 11,.int .i64 (A.length:Int),.int .i64 (i:Int),u 14,u 15,u 16,u 17,u 18,u 19,u 20,u 21,u 22,u 23,u 24,u 25],defers:= []})/\i<=A.length
theorem own_ne {w:World} {B g:Nat} {cs:Array Value} {t e:TypeId} {s n:Nat} {v:Value} {xs:List Value} (hown:w.ownsRow B e s v n xs) (h:Blk w g cs t) (ht:t≠e):∀k,v.ownBlock=some k->k≠g:=by
 intro k hk e1
 rcases hown.2 with⟨rfl,_⟩|⟨g',cap,cur,rfl,_,hb,_⟩
 ·simp[Value.ownBlock] at hk
 ·have:g'=k:=by simpa [Value.ownBlock] using hk
  subst this
  subst e1
  unfold Blk at h
  rw[h] at hb
  injection hb with hb
  injection hb with _ h2 _
  exact ht h2
def PutPost (B gO:Nat) (L:List (Int×Int×Int)) (w:World) (e:Ending) (w':World):Prop:=
 e= .returned (.tuple #[])/\Below B w w'/\(∀g cs t,g≠gO->t≠64->Blk w g cs t->Blk w' g cs t)/\∃v,Blk w' gO #[v] 45/\Bj w' B 64 3 v L.length (As (L.map bkT))
def Ta (fr b t y far:Int) (L:List (Int×Int×Int)):List (Int×Int×Int):=if Gf fr b (t,y) then L++ [(t,y,far)] else L
theorem c_put (gF gB gO B:Nat) (fr b t y far:Int) (L:List (Int×Int×Int)) (v:Value) (w:World) (b1:Blk w gF #[.int .i64 fr] 2) (b2:Blk w gB #[.int .i64 b] 2) (b3:Blk w gO #[v] 45)
  (hown:Bj w B 64 3 v L.length (As (L.map bkT))) (hBO:B<=gO) (hBw:B<=w.heap.size) (hf:L.length<=100000):
  Calls Tryz.prog 79 #[.agg #[.int .i64 t,.int .i64 y],.int .i64 far,.pointer (some ⟨gF,0,none⟩),.pointer (some ⟨gB,0,none⟩),.pointer (some ⟨gO,0,none⟩)] w (PutPost B gO (Ta fr b t y far L) w):=by
 obtain⟨i0,hi,hz0,hz1,hz2⟩:=info_parts Tryz.infoBack
 have y1:=b1.lt
 have y2:=b2.lt
 have y3:=b3.lt
 unfold Ta Gf PutPost
 by_cases g1:fr<=t
 ·by_cases g2:t<=b
  ·rw[decide_eq_true g1,decide_eq_true g2,Bool.and_self,if_pos rfl]
   go_enter Tryz.func79,Tryz.ntmps79
   have k1:=b1.cell
   have f1:=b1.frozen
   have k2:=b2.cell
   have f2:=b2.frozen
   have k3:=b3.cell
   have f3:=b3.frozen
   go_upto_region 2 with(fail)
   clear k1 f1 k2 f2 k3 f3
   refine Ab w (Bc gF #[.int .i64 fr] 2<|Bc gB #[.int .i64 b] 2<|Bc gO #[v] 45<|Bc w.heap.size #[.int .i64 t,.int .i64 y] 58<|Bz) ?_
   clear b1 b2 b3
   rintro W1 hW z2 ⟨⟨b1,yb1,k1,f1⟩,⟨b2,yb2,k2,f2⟩,⟨b3,yb3,k3,f3⟩,⟨b4,yb4,k4,f4⟩,-⟩
   have hO:=hown.below hW
   have zz:=hW.size
   clear hown
   go_wp2_with (at_builtin;refine wpList_append_own _ rfl (.tmp 17) (.tmp 24) 45 rfl B 64 i0 (.agg #[.int .i64 0,.int .i64 0,.int .i64 0]) 3 24 (by kernel_rfl) hi hz0 hz1 hz2 rfl (by decide) _ _ _ rfl (hO.own.alloc _) ⟨W1.heap.size,0,none⟩ 1 1 [.int .i64 t,.int .i64 y,.int .i64 far] rfl rfl (Em _ _ _ _ _) (by simp[Value.oneCell']) (by simp[maxLen];omega) (by omega) (by simp;omega) ?_)
   intro v' w9 hown2 hgr _
   have hB:=Hd (A7 (hW.mono hBw) (by omega) hO.own hgr)
   have d3:=b3.grown hO.own (by decide) hgr
   have hoth:=Hd (show∀g cs t,g≠gO->t≠64->Blk w g cs t->Blk w9 g cs t from fun g cs t _ ht hb=>(hb.below hW).grown hO.own ht hgr)
   obtain⟨pv,cv,rfl,-,-,-,-⟩:=(Bj.mk hown2).form
   have hne:=own_ne hown2 d3 (by decide)
   have y3:=d3.lt
   have k3:=d3.cell
   have f3:=d3.frozen
   replace hown2:=Hd hown2
   replace hne:=Hd hne
   clear hgr hO b1 b2 b4 hW k1 f1 k2 f2 k4 f4
   go_wp2
   refine bodyPost_end (results_none rfl _ _ _) rfl ⟨rfl,?_,?_,.slice pv (L.length+1) cv,?_,?_⟩
   ·exact hB.out.setCell (p:=⟨gO,0,none⟩) (by simpa using hBO) _
   ·intro g cs t hg ht hb
    exact(hoth.out g cs t hg ht hb).setO hg 0 _
   ·exact Ad
   ·rw[List.length_append]
    exact⟨Ha (Ld hown2.out rfl (by rw[Xg])) hne.out 0 _⟩
  ·rw[decide_eq_false g2,Bool.and_false,if_neg (by decide)]
   go_enter Tryz.func79,Tryz.ntmps79
   have k1:=b1.cell
   have f1:=b1.frozen
   have k2:=b2.cell
   have f2:=b2.frozen
   have k3:=b3.cell
   have f3:=b3.frozen
   go_wp2
   have hA:Below w.heap.size w (w.alloc (.cells #[.int .i64 t,.int .i64 y] 58)):=Aa
   refine bodyPost_end (results_none rfl _ _ _) rfl ⟨rfl,hA.mono hBw,fun g cs t _ _ hb=>hb.below hA,v,b3.below hA,hown.below hA⟩
 ·rw[decide_eq_false g1,Bool.false_and,if_neg (by decide)]
  go_enter Tryz.func79,Tryz.ntmps79
  have k1:=b1.cell
  have f1:=b1.frozen
  have k2:=b2.cell
  have f2:=b2.frozen
  have k3:=b3.cell
  have f3:=b3.frozen
  go_wp2
  have hA:Below w.heap.size w (w.alloc (.cells #[.int .i64 t,.int .i64 y] 58)):=Aa
  refine bodyPost_end (results_none rfl _ _ _) rfl ⟨rfl,hA.mono hBw,fun g cs t _ _ hb=>hb.below hA,v,b3.below hA,hown.below hA⟩
def sc1Rel (w:World) (s:A8) (ps:Option Addr) (cs:Nat) (po:Option Addr) (co:Nat) (a b:Int) (gs ga gb:Nat) (a':Act) (W:World):Prop:=
 Below w.heap.size w W/\Blk W gb #[.int .i64 b] 2/\Blk W (w.heap.size+1) #[.int .i64 (mx a s.floor)] 2/\∃(k:Nat) (L:List (Int×Int×Int)) (v:Value),(∃u:Nat->Value,a'= {tmps:= #[.pointer (some ⟨ga,0,none⟩),.pointer (some ⟨gs,0,none⟩),.pointer (some ⟨gb,0,none⟩),.slice none 0 0,.int .i64 0,.pointer (some ⟨w.heap.size,0,none⟩),.pointer (some ⟨w.heap.size+1,0,none⟩),.func (.func 79) #[] #[.pointer (some ⟨w.heap.size+1,0,none⟩),.pointer (some ⟨gb,0,none⟩),.pointer (some ⟨w.heap.size,0,none⟩)],u 8,u 9,u 10,u 11,u 12,u 13,u 14,u 15,u 16,u 17,u 18,u 19,u 20,u 21,u 22,.slice ps s.segs.length cs,.int .i64 (s.segs.length:Int),.int .i64 (k:Int),u 26,u 27,u 28,u 29,u 30,u 31,u 32,u 33,u 34,u 35,u 36,u 37,u 38,u 39,u 40,u 41,u 42,u 43,u 44,u 45,u 46,u 47,u 48,u 49,u 50,u 51,u 52,u 53,u 54,u 55,u 56,u 57,u 58,u 59,u 60,u 61,u 62,u 63,u 64,u 65,u 66,u 67],defers:= []})/\
  Blk W w.heap.size #[v] 45/\Bj W w.heap.size 64 3 v L.length (As (L.map bkT))/\L=(s.segs.take k).flatMap (Nv (mx a s.floor) b)/\k<=s.segs.length/\L.length<=256*k
def sc2Rel (w:World) (s:A8) (ps:Option Addr) (cs:Nat) (po:Option Addr) (co:Nat) (a b:Int) (gs ga gb:Nat) (k g gx cp:Nat) (p' q':Option Addr) (cps vc:Nat) (cur:Array Value) (x:Aw) (L:List (Int×Int×Int)) (a':Act) (W:World):Prop:=
 Below w.heap.size w W/\Blk W gb #[.int .i64 b] 2/\Blk W (w.heap.size+1) #[.int .i64 (mx a s.floor)] 2/\Blk W gx #[.int .i64 x.K,.slice p' x.runs.length cps,.int .i64 x.A,.int .i64 x.R,.int .i64 x.n,.int .i64 x.d,.slice q' x.raw.length vc,.int .i64 x.E] 135/\Blk W g cur 58/\∃(m:Nat) (M:List (Int×Int×Int)) (v:Value),(∃u:Nat->Value,a'= {tmps:= #[.pointer (some ⟨ga,0,none⟩),.pointer (some ⟨gs,0,none⟩),.pointer (some ⟨gb,0,none⟩),.slice none 0 0,.int .i64 0,.pointer (some ⟨w.heap.size,0,none⟩),.pointer (some ⟨w.heap.size+1,0,none⟩),.func (.func 79) #[] #[.pointer (some ⟨w.heap.size+1,0,none⟩),.pointer (some ⟨gb,0,none⟩),.pointer (some ⟨w.heap.size,0,none⟩)],u 8,.pointer (some ⟨gx,0,none⟩),u 10,u 11,u 12,u 13,u 14,u 15,u 16,u 17,u 18,u 19,u 20,u 21,u 22,.slice ps s.segs.length cs,.int .i64 (s.segs.length:Int),.int .i64 (k:Int),u 26,u 27,u 28,u 29,u 30,u 31,u 32,u 33,.slice (some ⟨g,0,none⟩) (B9 x).length cp,.int .i64 ((B9 x).length:Int),.int .i64 (m:Int),u 37,u 38,u 39,u 40,u 41,u 42,u 43,u 44,u 45,u 46,u 47,u 48,u 49,u 50,u 51,u 52,u 53,u 54,u 55,u 56,u 57,u 58,u 59,u 60,u 61,u 62,u 63,u 64,u 65,u 66,u 67],defers:= []})/\
  Blk W w.heap.size #[v] 45/\Bj W w.heap.size 64 3 v (L++M).length (As ((L++M).map bkT))/\M=(((B9 x).take m).filter (Gf (mx a s.floor) b)).map (fun p=>(p.1,p.2,x.E))/\m<=(B9 x).length/\M.length<=m
def sc3Rel (w:World) (s:A8) (ps:Option Addr) (cs:Nat) (po:Option Addr) (co:Nat) (a b:Int) (gs ga gb:Nat) (L:List (Int×Int×Int)) (a':Act) (W:World):Prop:=
 Below w.heap.size w W/\Blk W gb #[.int .i64 b] 2/\Blk W (w.heap.size+1) #[.int .i64 (mx a s.floor)] 2/\∃(m:Nat) (M:List (Int×Int×Int)) (v:Value),(∃u:Nat->Value,a'= {tmps:= #[.pointer (some ⟨ga,0,none⟩),.pointer (some ⟨gs,0,none⟩),.pointer (some ⟨gb,0,none⟩),.slice none 0 0,.int .i64 0,.pointer (some ⟨w.heap.size,0,none⟩),.pointer (some ⟨w.heap.size+1,0,none⟩),.func (.func 79) #[] #[.pointer (some ⟨w.heap.size+1,0,none⟩),.pointer (some ⟨gb,0,none⟩),.pointer (some ⟨w.heap.size,0,none⟩)],u 8,u 9,u 10,u 11,u 12,u 13,u 14,u 15,u 16,u 17,u 18,u 19,u 20,u 21,u 22,u 23,u 24,u 25,u 26,u 27,u 28,u 29,u 30,u 31,u 32,u 33,u 34,u 35,u 36,u 37,u 38,u 39,u 40,u 41,u 42,u 43,u 44,u 45,u 46,u 47,.slice po s.opn.length co,.int .i64 (s.opn.length:Int),.int .i64 (m:Int),u 51,u 52,u 53,u 54,u 55,u 56,u 57,u 58,u 59,u 60,u 61,u 62,u 63,u 64,u 65,u 66,u 67],defers:= []})/\
  Blk W w.heap.size #[v] 45/\Bj W w.heap.size 64 3 v (L++M).length (As ((L++M).map bkT))/\M=((s.opn.take m).filter (Gf (mx a s.floor) b)).map (fun p=>(p.1,p.2,0))/\m<=s.opn.length/\M.length<=m
theorem make_backs (n:Nat) (hn:n<=100000):∃C:Array Value,C.size=n*3/\∀W,(Instr.makeSlice 45 (.int .i64 (n:Int)) (.int .i64 (n:Int))).run Tryz.prog W= .ok (.slice (some ⟨W.heap.size,0,none⟩) n n) (W.alloc (.cells C 64)):=by
 obtain⟨i,hi,hz0,hz1,hz2⟩:=info_parts Tryz.infoBack
 refine⟨madeCells #[.int .i64 0,.int .i64 0,.int .i64 0] (n*3),?_,fun W=> ?_⟩
 rotate_left
 ·have:=run_make (P:=Tryz.prog) W 45 64 i _ rfl hi hz0 .i64 .i64 (n:Int) (n:Int) (by omega) (by omega) (by rw[hz2];omega) (by omega)
  simpa [hz1,Value.cells] using this
 ·simp[size_madeCells]
def scanE (s:A8) (a b:Int):Int:=if Ef s a b= [] then 9 else 0
def Fc (L:List (Int×Int×Int)) (er:Int) (w:World) (e:Ending) (w':World):Prop:=
 ∃p k,e= .returned (.tuple #[.slice p L.length k,.int .i64 er])/\Al w' p (L.map bkT)/\Below w.heap.size w w'/\L.length<=k
def BackPost0 (L:List (Int×Int×Int)) (er:Int) (w:World) (e:Ending) (w':World):Prop:=
 ∃p k,e= .returned (.tuple #[.slice p L.length k,.int .i64 er])/\Al w' p (L.map bkT)/\Below w.heap.size w w'
theorem Fc.old {L:List (Int×Int×Int)} {er:Int} {w:World} {e:Ending} {w':World} (h:Fc L er w e w'):BackPost0 L er w e w':=by
 obtain⟨p,k,h1,h2,h3,_⟩:=h
 exact⟨p,k,h1,h2,h3⟩
theorem scan1_w (s:A8) (ps:Option Addr) (cs:Nat) (po:Option Addr) (co:Nat) (a b:Int) (gs ga gb:Nat) (w:World) (hin:Dj w s ps po) (hv:∀x,x∈s.segs->Cr x=true)
  (kS:Blk w gs #[.string s.name,.int .i64 s.eps,.int .i64 s.floor,.int .i64 s.last,.int .i64 s.scale,.slice ps s.segs.length cs,.slice po s.opn.length co] 79) (kA:Blk w ga #[.int .i64 a] 2) (kB:Blk w gb #[.int .i64 b] 2):
  Calls Tryz.prog 78 #[.pointer (some ⟨ga,0,none⟩),.pointer (some ⟨gs,0,none⟩),.pointer (some ⟨gb,0,none⟩)] w (Fc (Ef s a b) (scanE s a b) w):=by
 have hfS:=hin.fewS
 have hfO:=hin.fewO
 have b1:=kA
 have b2:=kB
 have b3:=kS
 have y1:=b1.lt
 have y2:=b2.lt
 have y3:=b3.lt
 have hmax:∀ts t x y w,(Builtin.max_ ts t #[.int .i64 x,.int .i64 y]).run Tryz.prog w= .ok (.int .i64 (mx x y)) w:=fun ts t x y w=>by simp[Builtin.max_,Builtin.max2,mx]
 go_enter Tryz.func78,Tryz.ntmps78
 have hmf:∀(fn:Fn) (first cap:Array Value) (w:World),(Instr.makeFunc fn first cap).run Tryz.prog w= .ok (.func fn first cap) w:=fun _ _ _ _=>rfl
 have k1:=b1.cell
 have f1:=b1.frozen
 have k2:=b2.cell
 have f2:=b2.frozen
 have k3:=b3.cell
 have f3:=b3.frozen
 go_upto_region 3 with(fail)
 clear k1 f1 k2 f2 k3 f3
 refine Ab w (Bc gb #[.int .i64 b] 2<|Bc gs #[.string s.name,.int .i64 s.eps,.int .i64 s.floor,.int .i64 s.last,.int .i64 s.scale,.slice ps s.segs.length cs,.slice po s.opn.length co] 79<|Bc w.heap.size #[.slice none 0 0] 45<|Bc (w.heap.size+1) #[.int .i64 (mx a s.floor)] 2<|Bz) ?_
 clear b1 b2 b3
 rintro W1 hW z2 ⟨⟨b1,yb1,k1,f1⟩,⟨b2,yb2,k2,f2⟩,⟨b3,yb3,k3,f3⟩,⟨b4,yb4,k4,f4⟩,-⟩
 clear hmax
 go_wp2
 refine wp_loop (sc1Rel w s ps cs po co a b gs ga gb) (fun a' _=>s.segs.length-(Ag (a'.tmps.getD 25 undef)).toNat) ?_ ?_
 ·unfold sc1Rel
  exact⟨hW,b1,b4,0,[],.slice none 0 0,Ac rfl,b3,Bj.nil _ _ _ _,by simp,by omega,by simp⟩
 rintro a' W ⟨hW0,b1,b2,k,L,v,⟨u,rfl⟩,b3,hown,hL,hk,hL6⟩
 have hz:=hW0.size
 have zb1:=b1.lt
 have zb2:=b2.lt
 rcases Nat.lt_or_ge k s.segs.length with hlk|hge
 ·obtain⟨x,tr⟩:∃r,s.segs[k]? =some r:=⟨s.segs[k]'(by omega),List.getElem?_eq_getElem (by omega)⟩
  have hsx:=hv x (List.mem_of_getElem? tr)
  have hin':=hin.below hW0
  obtain⟨bs,os,p',q',cps,vc,rfl,hs,hvc,q0,q1,q2,q3,q4,q5,q6,q7⟩:=hin'.segs.one tr
  have cP:=Hd (fun W' (hW':Below W.heap.size W W')=>c_Points x p' q' cps vc W' (hs.below hW') hsx)
  unfold C9 at cP
  have hln:=Gj hsx
  have hcn:=D0 (Bp hsx)
  have hp0:0<(B9 x).length:=by omega
  have hp1:(B9 x).length<=256:=by omega
  clear hln hcn
  have zc:=Ap q0
  try simp only at zc
  replace hL:=Hd hL
  replace tr:=Hd tr
  have k1:=b1.cell
  have f1:=b1.frozen
  have k2:=b2.cell
  have f2:=b2.frozen
  have k3:=b3.cell
  have f3:=b3.frozen
  go_wp2_with fail
  refine(cP.out _ Aa).mono ?_
  rintro e w21 ⟨v1,rfl,hv1,hb21⟩
  have z22:=hb21.size
  try simp at z22
  clear k1 f1 k2 f2 k3 f3
  refine Aj W w21 (Bc gb #[.int .i64 b] 2<|Bc (w.heap.size+1) #[.int .i64 (mx a s.floor)] 2<|Bc w.heap.size #[v] 45<|Bc W.heap.size #[.int .i64 x.K,.slice p' x.runs.length cps,.int .i64 x.A,.int .i64 x.R,.int .i64 x.n,.int .i64 x.d,.slice q' x.raw.length vc,.int .i64 x.E] 135<|Bz) ?_
  clear b1 b2 b3
  rintro hW z23 ⟨⟨b1,yb1,k1,f1⟩,⟨b2,yb2,k2,f2⟩,⟨b3,yb3,k3,f3⟩,⟨b4,yb4,k4,f4⟩,-⟩
  obtain⟨g,cp,cur,rfl,hgB,-,-,b5,-,htk⟩:=pts_is hv1 (by omega)
  try simp at hgB
  have hW1:=hW0.trans (hW.mono hz)
  have hown1:=hown.below hW
  have zg:=b4.lt
  replace htk:=Hd htk
  clear hv1 hown cP hW q0 q1 q2 q3 q4 q5 q6 q7 k1 f1 k2 f2 k3 f3 k4 f4
  go_wp2
  refine wp_loop (sc2Rel w s (some ⟨bs,os,none⟩) cs po co a b gs ga gb k g W.heap.size cp p' q' cps vc cur x L) (fun a' _=>(B9 x).length-(Ag (a'.tmps.getD 36 undef)).toNat) ?_ ?_
  ·unfold sc2Rel
   exact⟨hW1,b1,b2,b4,b5,0,[],v,Ac rfl,b3,by rw[List.append_nil];exact hown1,by simp,by omega,by simp⟩
  rintro a' V ⟨hV0,b1,b2,b4,b5,m,M,v,⟨u,rfl⟩,b3,hown,hM,hm,hMl⟩
  have hzv:=hV0.size
  have zb1:=b1.lt
  have zb2:=b2.lt
  have zb4:=b4.lt
  have zb5:=b5.lt
  rcases Nat.lt_or_ge m (B9 x).length with hlt|hge
  ·obtain⟨⟨t,y⟩,tm⟩:∃r,(B9 x)[m]? =some r:=⟨(B9 x)[m]'(by omega),List.getElem?_eq_getElem (by omega)⟩
   have hst:=Nu (Gf (mx a s.floor) b) (fun p=>(p.1,p.2,x.E)) tm
   rw[<-hM] at hst
   clear hM
   simp only at hst
   replace hst:=Hd hst
   replace tm:=Hd tm
   have k1:=b1.cell
   have f1:=b1.frozen
   have k2:=b2.cell
   have f2:=b2.frozen
   have k3:=b3.cell
   have f3:=b3.frozen
   have k4:=b4.cell
   have f4:=b4.frozen
   have k5:=b5.cell
   have f5:=b5.frozen
   clear k5 f5
   obtain⟨b',o',e9,r1,r2⟩:=(Pd b5 htk.out).at' m (t,y) tm.out
   obtain⟨rfl,rfl⟩:g=b'/\0=o':=(by injection e9 with e9;injection e9 with e1 e2;exact⟨e1,e2⟩)
   simp only[Nat.zero_add] at r1 r2
   try simp only at r1 r2
   go_upto_region 11 with(fail)
   clear k1 f1 k2 f2 k3 f3 k4 f4
   refine Ab V (Bc gb #[.int .i64 b] 2<|Bc (w.heap.size+1) #[.int .i64 (mx a s.floor)] 2<|Bc w.heap.size #[v] 45<|Bc W.heap.size #[.int .i64 x.K,.slice p' x.runs.length cps,.int .i64 x.A,.int .i64 x.R,.int .i64 x.n,.int .i64 x.d,.slice q' x.raw.length vc,.int .i64 x.E] 135<|Bc g cur 58<|Bc V.heap.size #[.int .i64 t,.int .i64 y] 58<|Bz) ?_
   clear b1 b2 b3 b4 b5
   rintro W41 hW z42 ⟨⟨b1,yb1,k1,f1⟩,⟨b2,yb2,k2,f2⟩,⟨b3,yb3,k3,f3⟩,⟨b4,yb4,k4,f4⟩,⟨b5,yb5,k5,f5⟩,⟨b6,yb6,k6,f6⟩,-⟩
   clear r1 r2
   have hown1:=hown.below hW
   have hV1:=hV0.trans (hW.mono hzv)
   clear hown
   go_wp2_with fail
   refine(c_put (w.heap.size+1) gb w.heap.size w.heap.size (mx a s.floor) b t y x.E (L++M) v _ b2 b1 b3 hown1 (by omega) (by have:=hV1.size;omega) (by simp only[List.length_append];omega)).mono ?_
   rintro e w9 ⟨rfl,hB,hoth,v',d3,hown2⟩
   have d1:=hoth _ _ _ (by omega) (by decide) b1
   have d2:=hoth _ _ _ (by omega) (by decide) b2
   have d4:=hoth _ _ _ (by omega) (by decide) b4
   have d5:=hoth _ _ _ (by omega) (by decide) b5
   have hB9:=hV1.trans hB
   replace hown2:=Hd hown2
   clear hoth b1 b2 b3 b4 b5 b6 hown1 hB k1 f1 k2 f2 k3 f3 k4 f4 k5 f5 k6 f6
   go_wp2
   rw[show (m:Int)+1=((m+1:Nat):Int) by omega]
   refine⟨?_,by simp[Ag];omega⟩
   cases hc:Gf (mx a s.floor) b (t,y) with
   |false=>
    rw[hc] at hst
    have hP:Ta (mx a s.floor) b t y x.E (L++M)=L++M:=by unfold Ta;rw[hc];rfl
    rw[hP] at hown2
    exact⟨hB9,d1,d2,d4,d5,m+1,M,v',Ac rfl,d3,hown2.out,by rw[hst];simp,by omega,by omega⟩
   |true=>
    rw[hc] at hst
    have hP:Ta (mx a s.floor) b t y x.E (L++M)=L++(M++ [(t,y,x.E)]):=by unfold Ta;rw[hc,if_pos rfl,List.append_assoc]
    rw[hP] at hown2
    exact⟨hB9,d1,d2,d4,d5,m+1,M++ [(t,y,x.E)],v',Ac rfl,d3,hown2.out,by rw[hst];simp,by omega,by simp;omega⟩
  ·obtain rfl:m=(B9 x).length:=by omega
   have hx:=Hd (show L++M=(s.segs.take (k+1)).flatMap (Nv (mx a s.floor) b) by rw[Hl _ tr.out,<-hL.out,hM,List.take_length];rfl)
   clear hM
   go_wp2
   rw[show (k:Int)+1=((k+1:Nat):Int) by omega]
   refine⟨?_,by simp[Ag];omega⟩
   unfold sc1Rel
   exact⟨hV0,b1,b2,k+1,L++M,v,Ac rfl,b3,hown,hx.out,by omega,by simp only[List.length_append];omega⟩
 ·obtain rfl:k=s.segs.length:=by omega
  rw[List.take_length] at hL
  replace hL:=Hd hL
  have bS:=kS.below hW0
  have kS1:=bS.cell
  have zS:=bS.lt
  go_wp2
  refine wp_loop (sc3Rel w s ps cs po co a b gs ga gb L) (fun a' _=>s.opn.length-(Ag (a'.tmps.getD 50 undef)).toNat) ?_ ?_
  ·unfold sc3Rel
   exact⟨hW0,b1,b2,0,[],v,Ac rfl,b3,by rw[List.append_nil];exact hown,by simp,by omega,by simp⟩
  rintro a' V ⟨hV0,b1,b2,m,M,v,⟨u,rfl⟩,b3,hown,hM,hm,hMl⟩
  have hzv:=hV0.size
  have zb1:=b1.lt
  have zb2:=b2.lt
  rcases Nat.lt_or_ge m s.opn.length with hlt|hge
  ·obtain⟨⟨t,y⟩,tm⟩:∃r,s.opn[m]? =some r:=⟨s.opn[m]'(by omega),List.getElem?_eq_getElem (by omega)⟩
   obtain⟨bo,oo,rfl,q0,q1⟩:=(hin.below hV0).opn.at' m _ tm
   simp only at q0 q1
   have zc:=Ap q0
   try simp only at zc
   have hst:=Nu (Gf (mx a s.floor) b) (fun p=>(p.1,p.2,(0:Int))) tm
   rw[<-hM] at hst
   clear hM tm
   simp only at hst
   replace hst:=Hd hst
   have k1:=b1.cell
   have f1:=b1.frozen
   have k2:=b2.cell
   have f2:=b2.frozen
   have k3:=b3.cell
   have f3:=b3.frozen
   go_upto_region 17 with(fail)
   clear k1 f1 k2 f2 k3 f3
   refine Ab V (Bc gb #[.int .i64 b] 2<|Bc (w.heap.size+1) #[.int .i64 (mx a s.floor)] 2<|Bc w.heap.size #[v] 45<|Bc V.heap.size #[.int .i64 t,.int .i64 y] 58<|Bz) ?_
   clear b1 b2 b3
   rintro W41 hW z42 ⟨⟨b1,yb1,k1,f1⟩,⟨b2,yb2,k2,f2⟩,⟨b3,yb3,k3,f3⟩,⟨b4,yb4,k4,f4⟩,-⟩
   clear q0 q1
   have hown1:=hown.below hW
   have hV1:=hV0.trans (hW.mono hzv)
   clear hown
   go_wp2_with fail
   refine(c_put (w.heap.size+1) gb w.heap.size w.heap.size (mx a s.floor) b t y 0 (L++M) v _ b2 b1 b3 hown1 (by omega) (by have:=hV1.size;omega) (by simp only[List.length_append];omega)).mono ?_
   rintro e w9 ⟨rfl,hB,hoth,v',d3,hown2⟩
   have d1:=hoth _ _ _ (by omega) (by decide) b1
   have d2:=hoth _ _ _ (by omega) (by decide) b2
   have hB9:=hV1.trans hB
   replace hown2:=Hd hown2
   clear hoth b1 b2 b3 b4 hown1 hB k1 f1 k2 f2 k3 f3 k4 f4
   go_wp2
   rw[show (m:Int)+1=((m+1:Nat):Int) by omega]
   refine⟨?_,by simp[Ag];omega⟩
   cases hc:Gf (mx a s.floor) b (t,y) with
   |false=>
    rw[hc] at hst
    have hP:Ta (mx a s.floor) b t y 0 (L++M)=L++M:=by unfold Ta;rw[hc];rfl
    rw[hP] at hown2
    exact⟨hB9,d1,d2,m+1,M,v',Ac rfl,d3,hown2.out,by rw[hst];simp,by omega,by omega⟩
   |true=>
    rw[hc] at hst
    have hP:Ta (mx a s.floor) b t y 0 (L++M)=L++(M++ [(t,y,0)]):=by unfold Ta;rw[hc,if_pos rfl,List.append_assoc]
    rw[hP] at hown2
    exact⟨hB9,d1,d2,m+1,M++ [(t,y,0)],v',Ac rfl,d3,hown2.out,by rw[hst];simp,by omega,by simp;omega⟩
  ·obtain rfl:m=s.opn.length:=by omega
   rw[List.take_length] at hM
   have hT:=Hd (show Ef s a b=L++M by rw[hL.out,hM];rfl)
   clear hM hL
   obtain⟨p,cp,rfl,-⟩:=hown.form
   have k3:=b3.cell
   have hrn:=hown.runs
   have hfew:(L++M).length<=100000:=by simp only[List.length_append];omega
   have hlen:(Ef s a b).length=(L++M).length:=by rw[hT.out]
   replace hlen:=Hd hlen
   clear hL6 hMl
   obtain⟨N,hN⟩:∃N,L++M=N:=⟨_,rfl⟩
   rw[hN] at hown hrn hfew hT k3 b3 hlen
   clear hN
   by_cases hne:N.length=0
   ·have hnil:=Hd (List.length_eq_zero_iff.1 hne)
    rw[hne] at k3 b3
    clear hne
    go_wp2
    refine bodyPost_ret (v:= .tuple #[.slice none 0 0,.int .i64 9]) (by simp[results,Tryz.results78,go_sem]) rfl ⟨none,0,?_,?_,hV0,(by simp[hT.out,hnil.out])⟩
    ·unfold scanE
     rw[if_pos (by rw[hT.out,hnil.out]),hT.out,hnil.out]
     rfl
    ·(rw[hT.out,hnil.out];exact⟨fun i r hr=>by simp at hr⟩)
   ·obtain⟨r0,hr0⟩:∃r,(N.map bkT)[0]? =some r:=⟨_,List.getElem?_eq_getElem (by rw[List.length_map];omega)⟩
    obtain⟨bp,op,rfl,-⟩:=hrn.at' 0 r0 hr0
    clear hr0
    have hfl:=Hd hrn.flat
    have hn0:((N.length:Int)==0)=false:=by simpa using hne
    obtain⟨C,hC,hmk⟩:=make_backs N.length hfew
    replace hC:=Hd hC
    have hcr:=Hd hrn
    have hpos:0<N.length:=by omega
    have hzz:=b3.lt
    clear hne hown hrn
    go_upto_region 22 with(fail)
    refine Bd (fun W'=>Below V.heap.size V W'/\Blk W' w.heap.size #[.slice (some ⟨bp,op,none⟩) N.length cp] 45/\Blk W' V.heap.size C 64) ⟨Aa,by exact Ad,by exact Ad⟩ ?_
    rintro W9 ⟨hW9,c3,c4⟩
    have kk3:=c3.cell
    have zz9:=hW9.size
    have hr9:=hcr.out.below hW9
    have hV9:=hV0.trans (hW9.mono hzv)
    clear k3 b3 b1 b2 hmk hW9
    have hcp:=run_copyK Tryz.prog W9 45 45 3 64 3 V.heap.size N.length N.length ⟨bp,op,none⟩ N.length cp C 64 (As (N.map bkT)) (by kernel_rfl) (by kernel_rfl) c4 (by rw[Dg,List.length_map,show Nat.min N.length N.length=N.length from Nat.min_self _]) hr9.flat (by rw[Dg,List.length_map,hC.out]) (fun v hv=>by obtain⟨x,rfl⟩:=R8 _ v hv;rfl)
    rw[show Nat.min N.length N.length=N.length from Nat.min_self _] at hcp
    go_upto_region 23 with(fail)
    clear hcp
    refine Bd (fun W'=>Below w.heap.size w W'/\Blk W' V.heap.size (As (N.map bkT)).toArray 64) ⟨below_setRow hV9 hzv _,setRow_heap W9 _ _ _ _ (0,0) c4⟩ ?_
    clear hV9 c3 c4 hr9 kk3
    rintro w99 ⟨hBB,e4⟩
    replace hBB:=Hd hBB
    have hRR:=Hd (show Al w99 (some ⟨V.heap.size,0,none⟩) (N.map bkT) from Lo (k:=(As (N.map bkT)).length) e4 (by simp))
    clear e4
    go_wp2
    refine bodyPost_ret (v:= .tuple #[.slice (some ⟨V.heap.size,0,none⟩) N.length N.length,.int .i64 0]) (by simp[results,Tryz.results78,go_sem]) rfl ⟨some ⟨V.heap.size,0,none⟩,N.length,?_,?_,hBB.out,Nat.le_of_eq (by rw[hT.out])⟩
    ·unfold scanE
     rw[if_neg (fun e=>by rw[hT.out] at e;rw[e] at hpos;simp at hpos),hlen.out]
    ·rw[hT.out];exact hRR.out
theorem btold_bad (nm:ByteArray) (ep fl la sc:Int) (ps po:Option Addr) (ns cs no co:Nat) (gs ga gb:Nat) (w:World)
  (c1:∀W,Below w.heap.size w W->Cb 76 #[.agg #[.string nm,ep,fl,la,sc,.slice ps ns cs,.slice po no co]] W (.int .i64 340)):
  Calls Tryz.prog 77 #[.agg #[.string nm,ep,fl,la,sc,.slice ps ns cs,.slice po no co],.func (.func 78) #[] #[.pointer (some ⟨ga,0,none⟩),.pointer (some ⟨gs,0,none⟩),.pointer (some ⟨gb,0,none⟩)]] w (Fc [] 340 w):=by
 have H_c1:=Hd c1
 clear c1
 go_enter Tryz.func77,Tryz.ntmps77
 go_wp2_with fail
 refine(H_c1.out _ Aa).mono ?_
 rintro e w1 ⟨rfl,hb1⟩
 have z2:=hb1.size
 try simp at z2
 refine Aj w w1 (Bc w.heap.size #[.string nm,ep,fl,la,sc,.slice ps ns cs,.slice po no co] 79<|Bz) ?_
 rintro hW z3 ⟨⟨b1,yb1,k1,f1⟩,-⟩
 clear hb1
 go_wp2
 refine bodyPost_ret (v:= .tuple #[.slice none 0 0,.int .i64 340]) (by simp[results,Tryz.results77,go_sem]) rfl ⟨none,0,rfl,⟨fun i r hr=>by simp at hr⟩,Aa,Nat.le_refl _⟩
theorem btold_ok (nm:ByteArray) (ep fl la sc:Int) (ps po:Option Addr) (ns cs no co:Nat) (gs ga gb:Nat) (L:List (Int×Int×Int)) (er:Int) (w:World)
  (c1:∀W,Below w.heap.size w W->Cb 76 #[.agg #[.string nm,ep,fl,la,sc,.slice ps ns cs,.slice po no co]] W (.int .i64 0))
  (c2:∀W,Below w.heap.size w W->Calls Tryz.prog 78 #[.pointer (some ⟨ga,0,none⟩),.pointer (some ⟨gs,0,none⟩),.pointer (some ⟨gb,0,none⟩)] W (Fc L er W)):
  Calls Tryz.prog 77 #[.agg #[.string nm,ep,fl,la,sc,.slice ps ns cs,.slice po no co],.func (.func 78) #[] #[.pointer (some ⟨ga,0,none⟩),.pointer (some ⟨gs,0,none⟩),.pointer (some ⟨gb,0,none⟩)]] w (Fc L er w):=by
 have H_c1:=Hd c1
 clear c1
 have H_c2:=Hd c2
 clear c2
 go_enter Tryz.func77,Tryz.ntmps77
 go_wp2_with fail
 refine(H_c1.out _ Aa).mono ?_
 rintro e w1 ⟨rfl,hb1⟩
 have z2:=hb1.size
 try simp at z2
 refine Aj w w1 (Bc w.heap.size #[.string nm,ep,fl,la,sc,.slice ps ns cs,.slice po no co] 79<|Bz) ?_
 rintro hW z3 ⟨⟨b1,yb1,k1,f1⟩,-⟩
 clear hb1
 go_wp2_with fail
 refine(H_c2.out _ Aa).mono ?_
 rintro e w4 ⟨p,k,rfl,hR,hb4,hk⟩
 have z5:=hb4.size
 try simp at z5
 clear k1 f1
 refine Aj w w4 (Bc w.heap.size #[.string nm,ep,fl,la,sc,.slice ps ns cs,.slice po no co] 79<|Bz) ?_
 clear b1 hW
 rintro hW z6 ⟨⟨b1,yb1,k1,f1⟩,-⟩
 replace hR:=Hd hR
 replace hk:=Hd hk
 go_wp2
 refine bodyPost_ret (v:= .tuple #[.slice p L.length k,er]) (by simp[results,Tryz.results77,go_sem]) rfl ⟨p,k,rfl,hR.out,Aa,hk.out⟩
theorem scan_w (nm:ByteArray) (ep fl la sc:Int) (ps po:Option Addr) (ns cs no co:Nat) (a b:Int) (L:List (Int×Int×Int)) (er:Int) (w:World)
  (c1:∀W,Below w.heap.size w W->Blk W w.heap.size #[.string nm,ep,fl,la,sc,.slice ps ns cs,.slice po no co] 79->Blk W (w.heap.size+1) #[a] 2->Blk W (w.heap.size+1+1) #[b] 2->Calls Tryz.prog 77 #[.agg #[.string nm,ep,fl,la,sc,.slice ps ns cs,.slice po no co],.func (.func 78) #[] #[.pointer (some ⟨w.heap.size+1,0,none⟩),.pointer (some ⟨w.heap.size,0,none⟩),.pointer (some ⟨w.heap.size+1+1,0,none⟩)]] W (Fc L er W)):
  Calls Tryz.prog 37 #[.agg #[.string nm,ep,fl,la,sc,.slice ps ns cs,.slice po no co],a,b] w (Fc L er w):=by
 have H_c1:=Hd c1
 clear c1
 go_enter Tryz.func37,Tryz.ntmps37
 have hmf:∀(fn:Fn) (first cap:Array Value) (w:World),(Instr.makeFunc fn first cap).run Tryz.prog w= .ok (.func fn first cap) w:=fun _ _ _ _=>rfl
 go_upto_region 1 with(fail)
 refine Ab w (Bc w.heap.size #[.string nm,ep,fl,la,sc,.slice ps ns cs,.slice po no co] 79<|Bc (w.heap.size+1) #[a] 2<|Bc (w.heap.size+1+1) #[b] 2<|Bz) ?_
 rintro W1 hW z2 ⟨⟨b1,yb1,k1,f1⟩,⟨b2,yb2,k2,f2⟩,⟨b3,yb3,k3,f3⟩,-⟩
 go_wp2_with fail
 refine(H_c1.out W1 hW b1 b2 b3).mono ?_
 rintro e w3 ⟨p,k,rfl,hR,hb3,hk⟩
 have z4:=hb3.size
 try simp at z4
 clear k1 f1 k2 f2 k3 f3
 refine Aj w w3 (Bc w.heap.size #[.string nm,ep,fl,la,sc,.slice ps ns cs,.slice po no co] 79<|Bc (w.heap.size+1) #[a] 2<|Bc (w.heap.size+1+1) #[b] 2<|Bz) ?_
 clear b1 b2 b3 hW
 rintro hW z5 ⟨⟨b1,yb1,k1,f1⟩,⟨b2,yb2,k2,f2⟩,⟨b3,yb3,k3,f3⟩,-⟩
 replace hR:=Hd hR
 replace hk:=Hd hk
 go_wp2
 refine bodyPost_ret (v:= .tuple #[.slice p L.length k,er]) (by simp[results,Tryz.results37,go_sem]) rfl ⟨p,k,rfl,hR.out,Aa,hk.out⟩
def scanL (s:A8) (a b:Int):List (Int×Int×Int):=if B8 s then Ef s a b else []
theorem c_anScan (s:A8) (ps po:Option Addr) (cs co:Nat) (a b:Int) (w:World) (hin:Dj w s ps po):
  Calls Tryz.prog 37 #[.agg (Dy s ps cs po co),a,b] w (Fc (scanL s a b) (wholeE s a b) w):=by
 unfold Dy
 refine scan_w _ _ _ _ _ _ _ _ _ _ _ a b _ _ w fun W hW k1 k2 k3=> ?_
 have hin':=hin.below hW
 have ck:=Vb s ps po cs co
 unfold Dy F6 at ck
 unfold wholeE scanL
 cases hc:B8 s with
 |false=>
  rw[hc] at ck
  exact btold_bad s.name s.eps s.floor s.last s.scale ps po s.segs.length cs s.opn.length co _ _ _ W (fun W' hW'=>ck W' (hin'.below hW'))
 |true=>
  rw[hc] at ck
  simp only[if_true]
  exact btold_ok s.name s.eps s.floor s.last s.scale ps po s.segs.length cs s.opn.length co _ _ _ _ _ W (fun W' hW'=>ck W' (hin'.below hW')) fun W' hW'=>scan1_w s ps cs po co a b _ _ _ W' (hin'.below hW') (Oj hc) (k1.below hW') (k2.below hW') (k3.below hW')
theorem map_pts1 {s:Aw} (hs:Cr s=true):(B9 s).map (·.1)=Ae s.runs:=by
 have h1:=Bk (Bp hs)
 have h2:=Je hs
 unfold B9
 rw[List.map_fst_zip]
 omega
def X9 (a b t:Int):Bool:=decide (a<=t)&&decide (t<=b)
theorem Ud (a b:Int) (E:Int) (l:List (Int×Int)):((l.filter (Gf a b)).map fun p=>(p.1,p.2,E)).map (·.1)=(l.map (·.1)).filter (X9 a b):=by
 rw[List.map_map,List.filter_map]
 rfl
theorem told_times {s:A8} (hv:∀x,x∈s.segs->Cr x=true) (a b:Int):(Ef s a b).map (·.1)=(Cd s).filter (X9 (mx a s.floor) b):=by
 unfold Ef Cd
 rw[List.map_append,List.filter_append]
 congr 1
 ·rw[List.map_flatMap,List.filter_flatMap]
  have:∀l:List Aw,(∀x,x∈l->Cr x=true)->l.flatMap (fun x=>(Nv (mx a s.floor) b x).map (·.1))=l.flatMap fun x=>(Ae x.runs).filter (X9 (mx a s.floor) b):=by
   intro l
   induction l with
   |nil=>intro _;rfl
   |cons x l ih=>
    intro h
    rw[List.flatMap_cons,List.flatMap_cons,ih (fun y hy=>h y (List.mem_cons_of_mem _ hy))]
    congr 1
    unfold Nv
    rw[Ud,map_pts1 (h x (List.mem_cons_self ..))]
  exact this _ hv
 ·unfold opnBk
  exact Ud _ _ _ _
structure Vk (w W:World):Prop where
 b:Below w.heap.size w W
theorem Vk.on {w W W':World} (h:Vk w W) (hb:Below W.heap.size W W'):Vk w W':=⟨h.b.trans (hb.mono h.b.size)⟩
theorem Vk.set {w W:World} (h:Vk w W) {g i:Nat} (hg:w.heap.size<=g) (v:Value):Vk w (W.setCell ⟨g,i,none⟩ v):=⟨h.b.setCell hg v⟩

theorem Zs (s:A8) (ps:Option Addr) (cs:Nat) (po:Option Addr) (co:Nat) (a b:Int) (w:World) (hin:Dj w s ps po) (hc:B8 s=true):
  Calls Tryz.prog 40 #[.agg (Dy s ps cs po co),a,b] w fun e w'=>∃p k,e= .returned (.slice p (Ef s a b).length k)/\Al w' p ((Ef s a b).map bkT)/\Below w.heap.size w w':=by
 refine(refBack_w s ps cs po co a b w hin (Oj hc)).mono ?_
 rintro e w' ⟨v,rfl,h,hB⟩
 obtain⟨p,k,rfl,-⟩:=h.form
 exact⟨p,k,rfl,h.runs,hB⟩
end Go.Proofs.YtdeghcgakkhbmaaGreat
