/- Parts of the proof that follows. No condition. -/
import Derived.Test.YtdeghcgakkhbmaaGreatRows
import Derived.ProofKit
import Derived.Deep.Slices
import Derived.OpenShut
import Derived.RangeFuncLeaves
import Derived.Laws.Tables
import Derived.Test.YtdeghcgakkhbmaaGreatSd13
set_option maxRecDepth 100000
set_option maxHeartbeats 8000000
set_option linter.unusedSimpArgs false
set_option linter.unusedVariables false
namespace Go.Proofs.YtdeghcgakkhbmaaGreat
open Go.RowKit

end Go.Proofs.YtdeghcgakkhbmaaGreat
namespace Go.Proofs.YtdeghcgakkhbmaaGreat
open Go.RowKit Go.Shelf
attribute [local go_sem] Oper.semAt_some
def Tv (D:Nat) (W:World):Prop:=W.heap[D]? =some (.deferred (some []))
theorem Tv.rex {D:Nat} {L:List Nat} {w w':World} (h:Tv D w) (hr:Rex L w w') (hL:L= []):Tv D w':=by
 subst hL
 exact(hr.block D (Di h) (by simp)).trans h
theorem Tv.drew {D:Nat} {w:World} (h:Tv D w):Tv D w.drew:=h
def atB (eps lo up e:Int):List (Int×Int)->Bool
 | []=>(e==9)&&((lo==0)&&(up==0))
 |x::_=>(e==0)&&liesB lo up x.2 (2*eps)
end Go.Proofs.YtdeghcgakkhbmaaGreat
namespace Go.Proofs.YtdeghcgakkhbmaaGreat
open Go.RowKit
theorem c_Neg (a:Int) (w:World) (ha:Ch a):
  Cb 117 #[B7 a] w (.tuple #[B7 (wv (inW (-a)) (Bl (-a))),.int .i64 (we (inW (-a)))]):=by
 have c1:=fun w=>Hi 0 a w (by unfold Ch;omega) ha
 have c2:=fun f w=>c_told (Bl (-a)) f w
 simp only[Int.zero_sub] at c1
 have e1:hiW 0=0:=by decide
 have e2:loW 0=0:=by decide
 clear ha
 unfold B7 at*
 rw[e1,e2] at c1
 generalize inW (-a)=f at*
 clear e1 e2
 go_enter Tryz.func117,Tryz.ntmps117
 go_wp2_with fail
 refine(c1 _).mono ?_
 rintro e w1 ⟨rfl,hb1⟩
 obtain⟨hc1,hf1⟩:=Dc hb1
 have hz1:=hb1.size
 simp at hz1
 go_wp2_with fail
 refine(c2 _ _).mono ?_
 rintro e w2 ⟨rfl,hb2⟩
 obtain⟨hc2,hf2⟩:=Dc hb2
 have hz2:=hb2.size
 clear c1 c2
 have z0:w.heap.size<w2.heap.size:=by omega
 have z1:w.heap.size+1<w2.heap.size:=by omega
 have y0:w.heap.size<w1.heap.size:=by omega
 have y1:w.heap.size+1<w1.heap.size:=by omega
 go_wp2
 refine bodyPost_ret (v:= .tuple #[.agg #[.int .i64 (hiW (wv f (Bl (-a)))),.int .u64 (loW (wv f (Bl (-a))))],.int .i64 (we f)]) (by simp[results,Tryz.results117,go_sem,hc1,hc2,z0,z1,y0,y1]) rfl ⟨rfl,?_⟩
 have h0:Below w.heap.size w w1:=(((Below.refl _ _).alloc (Nat.le_refl _) _).alloc (by simp) _).trans (hb1.mono (by simp;omega))
 exact(((h0.trans (hb2.mono (by omega))).setCell (by first|(simp;done)|(simp;omega)) _).setCell (by first|(simp;done)|(simp;omega)) _)
theorem c_NegOk (a:Int) (w:World) (ha:Ch a) (hn:Ch (-a)):
  Cb 117 #[B7 a] w (.tuple #[B7 (-a),.int .i64 0]):=by
 have:=c_Neg a w ha
 rw[R5 hn,Ez hn] at this
 exact this
theorem near_w (xt xv xe v o1 o2 p1 p2 d1 d2 e3 n1 n2 e4 r1 r2 C6 C7:Int) (w:World)
  (c1:∀W,Cb 88 #[xv] W (.agg #[o1,.int .u64 o2]))
  (c2:∀W,Cb 88 #[v] W (.agg #[p1,.int .u64 p2]))
  (c3:∀W,Cb 90 #[.agg #[o1,.int .u64 o2],.agg #[p1,.int .u64 p2]] W (.tuple #[.agg #[d1,.int .u64 d2],e3]))
  (c4:∀W,Cb 117 #[.agg #[d1,.int .u64 d2]] W (.tuple #[.agg #[n1,.int .u64 n2],e4]))
  (c5:∀W,Cb 88 #[xe] W (.agg #[r1,.int .u64 r2]))
  (c6:∀W,Cb 93 #[.agg #[d1,.int .u64 d2],.agg #[r1,.int .u64 r2]] W (C6))
  (c7:∀W,Cb 93 #[.agg #[n1,.int .u64 n2],.agg #[r1,.int .u64 r2]] W (C7)):
  Cb 70 #[.agg #[xt,xv,xe],v] w (.bool (decide (C6<=0)&&decide (C7<=0))):=by
 have H_c1:=Hd c1
 clear c1
 have H_c2:=Hd c2
 clear c2
 have H_c3:=Hd c3
 clear c3
 have H_c4:=Hd c4
 clear c4
 have H_c5:=Hd c5
 clear c5
 have H_c6:=Hd c6
 clear c6
 have H_c7:=Hd c7
 clear c7
 go_enter Tryz.func70,Tryz.ntmps70
 go_upto_region 1 with(fail)
 refine Ab w (Bc w.heap.size #[xt,xv,xe] 64<|Bz) ?_
 rintro W1 hW z2 hL
 obtain⟨⟨b1,yb1,k1,f1⟩,-⟩:=id hL
 clear k1 f1
 refine Bg 10 37 hW hL ?_
 iterate 2 refine dA ?_
 refine cA (fun W' hC=>H_c1.out W') ?_
 refine dA ?_
 refine cA (fun W' hC=>H_c2.out W') ?_
 refine cA (fun W' hC=>H_c3.out W') ?_
 iterate 3 refine dA ?_
 apply Dx W1.heap.size #[.int .i64 0,.int .u64 0] 89 rfl rfl
 ·exact fun W' hC=>hC.1.size
 ·simp[Bn]<;>omega
 ·intro w;kernel_rfl
 clear hW hL b1
 rintro W3 hW z4 hL
 simp only[ndR]
 intros
 simp only[ndS]
 obtain⟨⟨b1,yb1,k1,f1⟩,-⟩:=hL
 obtain⟨o5,rfl,hg5,b2⟩:= ‹Ex _ _ _ _ _›
 have yb2:=b2.lt
 have k2:=b2.cell
 have f2:=b2.frozen
 go_upto_region 2 with(fail)
 clear k1 f1 k2 f2
 refine Ab w (Bc w.heap.size #[xt,xv,xe] 64<|Bc o5 #[d1,.int .u64 d2] 89<|Bz) ?_
 clear b1 b2 hW
 rintro W5 hW z6 ⟨⟨b1,yb1,k1,f1⟩,⟨b2,yb2,k2,f2⟩,-⟩
 go_wp2_with fail
 refine(H_c4.out _).mono ?_
 rintro e w7 ⟨rfl,hb7⟩
 have z8:=hb7.size
 try simp at z8
 clear k1 f1 k2 f2
 refine Aj w w7 (Bc w.heap.size #[xt,xv,xe] 64<|Bc o5 #[d1,.int .u64 d2] 89<|Bz) ?_
 clear b1 b2 hW
 rintro hW z9 ⟨⟨b1,yb1,k1,f1⟩,⟨b2,yb2,k2,f2⟩,-⟩
 clear hb7
 go_upto_region 3 with(fail)
 clear k1 f1 k2 f2
 refine Ab w (Bc w.heap.size #[xt,xv,xe] 64<|Bc o5 #[d1,.int .u64 d2] 89<|Bc w7.heap.size #[n1,.int .u64 n2] 89<|Bz) ?_
 clear b1 b2 hW
 rintro W10 hW z11 hL
 refine Bw 15 37 hW hL ?_
 iterate 3 refine dA ?_
 refine cA (fun W' hC=>H_c5.out W') ?_
 refine cA (fun W' hC=>H_c6.out W') ?_
 iterate 2 refine dA ?_
 iterate 3 refine gA ?_
 refine cG (fun hp hx W' hC=>H_c5.out W') ?_
 refine cG (fun hp hx W' hC=>H_c7.out W') ?_
 refine gA ?_
 refine pA ?_
 refine dA ?_
 clear hW hL
 rintro W12 hW z13 hL
 simp only[ndR]
 intros
 repeat (rename Am _ _ _ _=>hgd;clear hgd)
 simp only[ndS]
 refine wpList_nil ?_
 obtain⟨⟨b1,yb1,k1,f1⟩,⟨b2,yb2,k2,f2⟩,⟨b3,yb3,k3,f3⟩,-⟩:=hL
 go_wp2
 refine bodyPost_ret (by simp[results,Tryz.results70,go_sem,k1,f1,k2,f2,k3,f3,yb1,yb2,yb3]) rfl ⟨rfl,by exact Aa⟩
def nearB (xv xe v:Int):Bool:=decide (Oi (xv-v) xe<=0)&&decide (Oi (-(xv-v)) xe<=0)
theorem c_mdNear (xt xv xe v:Int) (w:World) (h1:I64 xv) (h2:I64 xe) (h3:I64 v):Cb 70 #[.agg #[xt,xv,xe],v] w (.bool (nearB xv xe v)):=by
 have w1:Ch xv:=by unfold Ch;unfold I64 at h1;omega
 have w2:Ch v:=by unfold Ch;unfold I64 at h3;omega
 have w3:Ch (xv-v):=by unfold Ch;unfold I64 at h1 h3;omega
 have w4:Ch (-(xv-v)):=by unfold Ch;unfold I64 at h1 h3;omega
 have c3:=fun W=>c_Sub xv v W w1 w2
 rw[R5 w3,Ez w3] at c3
 exact near_w xt xv xe v _ _ _ _ _ _ _ _ _ _ _ _ _ _ w (fun W=>c_Of xv W h1) (fun W=>c_Of v W h3) c3 (fun W=>c_NegOk _ W w3 w4) (fun W=>c_Of xe W h2) (fun W=>Vg _ _ W) (fun W=>Vg _ _ W)
end Go.Proofs.YtdeghcgakkhbmaaGreat
namespace Go.Proofs.YtdeghcgakkhbmaaGreat
open Go.RowKit Go.Shelf
attribute [local go_sem] Oper.semAt_some
def Ev (eps:Int) (p:Int×Int) (x:Int×Int×Int):Bool:=(x.1==p.1)&&(btw x.2.2 0 eps&&nearB x.2.1 x.2.2 p.2)
def Jb (eps e:Int) (L:List (Int×Int)) (l:List (Int×Int×Int)):Bool:=
 if l.length=0 then decide (L.length=0)&&(e==9) else (decide (L.length=l.length)&&((L.zip l).all fun q=>Ev eps q.1 q.2))&&(e==0)
theorem all_pre {eps:Int} {pre L:List (Int×Int)} {l:List (Int×Int×Int)} (h:pre<+:L) (ha:((pre.zip l).all fun q=>Ev eps q.1 q.2)=false):((L.zip l).all fun q=>Ev eps q.1 q.2)=false:=by
 obtain⟨t,rfl⟩:=h
 induction pre generalizing l with
 |nil=>simp at ha
 |cons x pre ih=>
  cases l with
  |nil=>simp at ha
  |cons y l=>
   simp only[List.cons_append,List.zip_cons_cons,List.all_cons] at ha⊢
   cases h1:Ev eps x y with
   |false=>rfl
   |true=>
    rw[h1,Bool.true_and] at ha
    rw[Bool.true_and]
    exact ih ha
theorem all_snoc {eps:Int} {pre:List (Int×Int)} {l:List (Int×Int×Int)} {x:Int×Int} {y:Int×Int×Int} (hy:l[pre.length]? =some y):(((pre++ [x]).zip l).all fun q=>Ev eps q.1 q.2)=(((pre.zip l).all fun q=>Ev eps q.1 q.2)&&Ev eps x y):=by
 induction pre generalizing l with
 |nil=>
  cases l with
  |nil=>simp at hy
  |cons z l=>simp at hy;subst hy;simp
 |cons q pre ih=>
  cases l with
  |nil=>simp at hy
  |cons z l=>
   simp only[List.cons_append,List.zip_cons_cons,List.all_cons]
   rw[ih (by simpa using hy),Bool.and_assoc]
theorem Tg (r:At) (p:Option Addr) (cap:Nat) (a b e:Int) (sp:Option Addr) (scap:Nat) (w:World) (hp:Ar w p r.pts) (hl:r.pts.length<=2000) (hv:∀x,x∈r.pts->ptB x=true)
  (c1:∀W,Below w.heap.size w W->Cb 32 #[.agg #[.string r.name,r.eps,r.floor,r.last,r.scale,.slice p r.pts.length cap]] W (.int .i64 0)):
  CallsIn Fence.wide 4 Tryz.prog 27 #[.agg #[.string r.name,r.eps,r.floor,r.last,r.scale,.slice p r.pts.length cap],a,b,.slice sp ([]:List (Int×Int×Int)).length scap,e] w fun e' w'=>e'= .returned (.bool (Jb r.eps e (B4 a b r.pts) []))/\Below w.heap.size w w':=by
 have hmf:∀(fn:Fn) (first cap:Array Value) (w:World),(Instr.makeFunc fn first cap).run Tryz.prog w= .ok (.func fn first cap) w:=fun _ _ _ _=>rfl
 obtain⟨l,hl0⟩:∃l:List (Int×Int×Int),l= []:=⟨_,rfl⟩
 refine callsIn_of_wp_marks Tryz.func27 rfl trivial ?_ rfl
 simp only[Tryz.ntmps27,List.size_toArray,List.length_cons,List.length_nil,Nat.reduceAdd,Nat.reduceSub,Array.replicate_succ,Array.replicate_zero,List.push_toArray,List.append_toArray,List.nil_append,List.cons_append]
 refine wpIn_wide.2 ?_
 replace c1:=Hd c1
 go_upto_region 1 with(fail)
 refine Ab w (Bc w.heap.size #[.string r.name,r.eps,r.floor,r.last,r.scale,.slice p r.pts.length cap] 35<|Bc (w.heap.size+1) #[.bool false] 4<|Bz) ?_
 rintro W1 hW z2 ⟨⟨b1,yb1,k1,f1⟩,⟨b2,yb2,k2,f2⟩,-⟩
 go_wp2_with fail
 refine(c1.out _ Aa).mono ?_
 rintro e w3 ⟨rfl,hb3⟩
 have z4:=hb3.size
 try simp at z4
 clear k1 f1 k2 f2
 refine Aj w w3 (Bc w.heap.size #[.string r.name,r.eps,r.floor,r.last,r.scale,.slice p r.pts.length cap] 35<|Bc (w.heap.size+1) #[.bool false] 4<|Bz) ?_
 clear b1 b2 hW
 rintro hW z5 ⟨⟨b1,yb1,k1,f1⟩,⟨b2,yb2,k2,f2⟩,-⟩
 clear hb3
 go_wp2_with fail
 refine(some_w r p cap a b _).mono ?_
 rintro e w' ⟨rfl,rfl⟩
 have c9:Below w.heap.size w ((((w3.alloc (.cells #[.slice sp 0 scap] 45)).alloc (.cells #[.string r.name,r.eps,r.floor,r.last,r.scale,.slice p r.pts.length cap] 35)).alloc (.cells #[a] 2)).alloc (.cells #[b] 2)):=Aa
 have d1:Blk ((((w3.alloc (.cells #[.slice sp 0 scap] 45)).alloc (.cells #[.string r.name,r.eps,r.floor,r.last,r.scale,.slice p r.pts.length cap] 35)).alloc (.cells #[a] 2)).alloc (.cells #[b] 2)) w.heap.size #[.string r.name,r.eps,r.floor,r.last,r.scale,.slice p r.pts.length cap] 35:=Ad
 have d2:Blk ((((w3.alloc (.cells #[.slice sp 0 scap] 45)).alloc (.cells #[.string r.name,r.eps,r.floor,r.last,r.scale,.slice p r.pts.length cap] 35)).alloc (.cells #[a] 2)).alloc (.cells #[b] 2)) (w.heap.size+1) #[.bool false] 4:=Ad
 have d3:Blk ((((w3.alloc (.cells #[.slice sp 0 scap] 45)).alloc (.cells #[.string r.name,r.eps,r.floor,r.last,r.scale,.slice p r.pts.length cap] 35)).alloc (.cells #[a] 2)).alloc (.cells #[b] 2)) w3.heap.size #[.slice sp 0 scap] 45:=Ad
 have s1:Blk ((((w3.alloc (.cells #[.slice sp 0 scap] 45)).alloc (.cells #[.string r.name,r.eps,r.floor,r.last,r.scale,.slice p r.pts.length cap] 35)).alloc (.cells #[a] 2)).alloc (.cells #[b] 2)) (w3.heap.size+1) #[.string r.name,r.eps,r.floor,r.last,r.scale,.slice p r.pts.length cap] 35:=Ad
 have s2:Blk ((((w3.alloc (.cells #[.slice sp 0 scap] 45)).alloc (.cells #[.string r.name,r.eps,r.floor,r.last,r.scale,.slice p r.pts.length cap] 35)).alloc (.cells #[a] 2)).alloc (.cells #[b] 2)) (w3.heap.size+1+1) #[a] 2:=Ad
 have s3:Blk ((((w3.alloc (.cells #[.slice sp 0 scap] 45)).alloc (.cells #[.string r.name,r.eps,r.floor,r.last,r.scale,.slice p r.pts.length cap] 35)).alloc (.cells #[a] 2)).alloc (.cells #[b] 2)) (w3.heap.size+1+1+1) #[b] 2:=Ad
 have hsz:((((w3.alloc (.cells #[.slice sp 0 scap] 45)).alloc (.cells #[.string r.name,r.eps,r.floor,r.last,r.scale,.slice p r.pts.length cap] 35)).alloc (.cells #[a] 2)).alloc (.cells #[b] 2)).heap.size=w3.heap.size+1+1+1+1:=by simp
 simp only[World.size_alloc]
 obtain⟨W0,hWe⟩:∃W0,W0=((((w3.alloc (.cells #[.slice sp 0 scap] 45)).alloc (.cells #[.string r.name,r.eps,r.floor,r.last,r.scale,.slice p r.pts.length cap] 35)).alloc (.cells #[a] 2)).alloc (.cells #[b] 2)):=⟨_,rfl⟩
 rw[<-hWe] at c9 d1 d2 d3 s1 s2 s3 hsz⊢
 have hn0:w.heap.size+1<w3.heap.size:=b2.lt
 clear hWe b1 b2 hW k1 f1 k2 f2
 go_wp2
 refine(wpIn_wide (n:=4)).1 ?_
 have hlt:=Nq a b r.pts
 have hQ:∀x,x∈B4 a b r.pts->ptB x=true:=fun x hx=>hv x (O5 hx)
 refine wpIn_rangeFunc_ownH rfl (by omega) (gf:=116) (lb:= #[.pointer (some ⟨w3.heap.size+1,0,none⟩),.pointer (some ⟨w3.heap.size+1+1,0,none⟩),.pointer (some ⟨w3.heap.size+1+1+1,0,none⟩)]) rfl trivial (enters_of Tryz.func116 (by kernel_rfl) rfl)
  (encs:=fun x: {x:Int×Int//ptB x=true}=> #[Value.agg #[x.1.1,x.1.2]]) (Kp:=KF w.heap.size (w3.heap.size+1)) (S:=fun ys=>ys.map (·.1)=B4 a b r.pts) (Sp:=fun pre=>pre.map (·.1)<+:B4 a b r.pts) (N:=(B4 a b r.pts).length) (w0:=W0)
  (fun lr J Jx W hWW hJ _ hY h0=>X5 3 (by omega) lr (w3.heap.size+1) (w3.heap.size+1+1) (w3.heap.size+1+1+1) r p cap a b (fun x=>ptB x=true) hQ hl (KF w.heap.size (w3.heap.size+1)) (fun hk=>⟨hk.below.size,fun ha=>hp.keep hk.below ha,fun ha=>hk.rest _ _ _ _ (by omega) ha,fun ha=>hk.rest _ _ _ _ (by omega) ha,fun ha=>hk.rest _ _ _ _ (by omega) ha⟩) J Jx _ hJ hY W (s1.below hWW) (s2.below hWW) (s3.below hWW) ((hp.below c9).below hWW) h0)
  (fun h k=>h.trans k) (KF.putObj (by omega)) (Below.refl _ _) (fun _=>rfl)
  (fun pre W=>((Blk W w.heap.size #[.string r.name,r.eps,r.floor,r.last,r.scale,.slice p r.pts.length cap] 35/\Blk W (w.heap.size+1) #[.bool false] 4)/\Blk W w3.heap.size #[.slice sp 0 scap] 45)/\(pre= [])/\Below w.heap.size w W)
  (fun c pre W=>Blk W (w.heap.size+1) #[.bool false] 4/\(c= .ret/\(pre≠ []))/\Below w.heap.size w W)
  (OwnFrom.and (OwnFrom.and (OwnFrom.and (Own.from (Dr _ _ _) _) (Own.from (Dr _ _ _) _)) (Own.from (Dr _ _ (fun pre:List {x:Int×Int//ptB x=true}=> #[.slice sp 0 scap])) _)) (OwnFrom.and (ownFrom_pure _ _) (ownFrom_below (Nat.le_refl _) (by omega))))
  (fun c=>OwnFrom.and (Own.from (Dr _ _ _) _) (OwnFrom.and (ownFrom_pure _ _) (ownFrom_below (Nat.le_refl _) (by omega))))
  ⟨⟨⟨d1,d2⟩,by simpa using d3⟩,?start,c9⟩
  (fun x a' W=>∃Bx,w3.heap.size<Bx/\Blk W Bx #[x.1.1,x.1.2] 58/\∃u:Nat->Value,a'= {tmps:= #[u 0,u 1,u 2,.slice sp ([]:List (Int×Int×Int)).length scap,e,.pointer (some ⟨w.heap.size,0,none⟩),u 6,u 7,u 8,u 9,.pointer (some ⟨(w.heap.size+1),0,none⟩),.pointer (some ⟨w3.heap.size,0,none⟩),.pointer (some ⟨Bx,0,none⟩),u 13,u 14,u 15,u 16,u 17,u 18,u 19,u 20,u 21,u 22,u 23,u 24,u 25,u 26,u 27,u 28,u 29,u 30,u 31,u 32,u 33,u 34,u 35,u 36,u 37,u 38,u 39,u 40,u 41,u 42,u 43,u 44,u 45,u 46,u 47,u 48,u 49,u 50,u 51,u 52,u 53,u 54,u 55,u 56,u 57,u 58,u 59,u 60,u 61,u 62],defers:= []})
  (fun x a' _ X Y row hs hg hr=>by obtain⟨Bx,h1,h2,h3⟩:=hs;exact⟨Bx,h1,Dr Bx 58 (fun(_:Unit)=> #[Value.int .i64 x.1.1,Value.int .i64 x.1.2]) () X Y row h2 hg (fun r e=>(hr r e).2),h3⟩) ?assign ?body ?done ?stop
 case start=>rfl
 case assign=>
  rintro l9 pre x W K ⟨⟨⟨i1,i2⟩,i3⟩,i5,i6⟩ hK
  have hlt4:=i3.lt
  gi_wp2
  exact hK _ _ ((KeepsOthers.alloc _ _).from _) ((KF.refl _ _ _).alloc i6.size _) ⟨⟨⟨i1.alloc _,i2.alloc _⟩,i3.alloc _⟩,i5,i6.alloc i6.size _⟩ ⟨W.heap.size,hlt4,Blk.new' rfl,Ac rfl⟩
 case body=>
  rintro l9 pre ⟨⟨t,v⟩,hx⟩ a' W hl' ⟨r',hr⟩ ⟨⟨⟨i1,i2⟩,i3⟩,i5,i6⟩ ⟨Bx,hBx,bX,u,rfl⟩ hlt3
  have k1:=i1.cell
  have k2:=i2.cell
  have f2:=i2.frozen
  have kx:=bX.cell
  have yx:=bX.lt
  have hz6:=i6.size
  have y1:=i1.lt
  have y2:=i2.lt
  have y3:=i3.lt
  have k3:=i3.cell
  subst i5
  gi_wp2
  exact⟨KeepsOthers.from (Cw) _,⟨Ad,⟨rfl,by simp⟩,Aa⟩⟩
 case done=>
  rintro D ys W hD hys ⟨⟨⟨i1,i2⟩,i3⟩,i5,i6⟩ hK
  have hz6:=i6.size
  have y1:=i1.lt
  have y2:=i2.lt
  have y3:=i3.lt
  have f2:=i2.frozen
  simp only[Exit.inBlock,Exit.then]
  have hKX:=Hd (show Tv D W from hK)
  clear hK d1 d2 d3 s1 s2 s3 c9 hp hv
  subst i5
  have hT:=Hd (show Jb r.eps e (B4 a b r.pts) []=(e==9) by rw[<-hys];rfl)
  clear hys
  have b1:=i1
  have b2:=i2
  have b3:=i3
  have hW:=i6
  clear i1 i2 i3 i6
  have k1:=b1.cell
  have f1:=b1.frozen
  have k2:=b2.cell
  have f2:=b2.frozen
  have k3:=b3.cell
  have f3:=b3.frozen
  go_upto_region 13 with(fail)
  clear k1 f1 k2 f2 k3 f3
  refine Ab w (Bc w.heap.size #[.string r.name,r.eps,r.floor,r.last,r.scale,.slice p r.pts.length cap] 35<|Bc (w.heap.size+1) #[.bool false] 4<|Bc w3.heap.size #[.slice sp 0 scap] 45<|Rc (fun W'=>Tv D W')<|Bz) ?_ (hI:=by exact Aa) (hR:=(Bc.mk (by exact Ad)<|Bc.mk (by exact Ad)<|Bc.mk (by exact Ad)<|Rc.mk (by exact hKX.out)<|trivial))
  clear b1 b2 b3 hW
  rintro W41 hW z42 hL
  obtain⟨⟨b1,yb1,k1,f1⟩,⟨b2,yb2,k2,f2⟩,⟨b3,yb3,k3,f3⟩,b4,-⟩:=id hL
  clear k1 f1 k2 f2 k3 f3
  refine Bg 2 63 hW hL ?_
  iterate 2 refine dA ?_
  clear hW hL b1 b2 b3 b4
  rintro W43 hW z44 hL
  simp only[ndR]
  intros
  simp only[ndS]
  obtain⟨⟨b1,yb1,k1,f1⟩,⟨b2,yb2,k2,f2⟩,⟨b3,yb3,k3,f3⟩,b4,-⟩:=hL
  go_wp2
  have b9:Blk (W43.setCell ⟨w.heap.size+1,0,none⟩ (.bool (e==9))) (w.heap.size+1) #[.bool (e==9)] 4:=Ad
  have hK9:(W43.setCell ⟨w.heap.size+1,0,none⟩ (.bool (e==9))).heap[D]? =some (.deferred (some [])):=(Cw:KeepsOthers _ (W43.setCell ⟨w.heap.size+1,0,none⟩ (.bool (e==9)))).same D _ b4 rfl
  simp only[bodyPostM]
  have hB9:Below w.heap.size w (W43.setCell ⟨w.heap.size+1,0,none⟩ (.bool (e==9))):=Aa
  refine⟨by simp,.inl ⟨_,_,rfl,run_takeDeferred hK9,?_⟩⟩
  have hc9:=cell_kept (by simpa using b9.cell 0) (grownBy_putObj' (W43.setCell ⟨w.heap.size+1,0,none⟩ (.bool (e==9))) D (.deferred none)) (fun r e=>by cases e;exact⟨_,hK9,rfl⟩)
  refine⟨.bool (e==9),by simp[results,Tryz.f27,go_sem,hc9],?_,hB9.trans (belowK_b (w:=w) (Nat.le_refl _) (W43.setCell ⟨w.heap.size+1,0,none⟩ (.bool (e==9))) D _ _ (by omega) hK9 rfl rfl)⟩
  rw[hT.out]
 case stop=>
  rintro D c pre W hD hpre ⟨i4,⟨rfl,i5⟩,i6⟩ hK
  have hz6:=i6.size
  have y4:=i4.lt
  have hT:=Hd (show Jb r.eps e (B4 a b r.pts) []=false by obtain⟨q,hq⟩:=hpre;rw[<-hq];cases pre with|nil=>exact absurd rfl i5|cons x m=>rfl)
  clear i5 hpre
  gi_wp2
  have b9:=i4
  have hK9:=hK
  have hB9:Below w.heap.size w W:=Aa
  refine⟨by simp,.inl ⟨_,_,rfl,run_takeDeferred hK9,?_⟩⟩
  have hc9:=cell_kept (by simpa using b9.cell 0) (grownBy_putObj' W D (.deferred none)) (fun r e=>by cases e;exact⟨_,hK9,rfl⟩)
  refine⟨.bool false,by simp[results,Tryz.f27,go_sem,hc9],?_,hB9.trans (belowK_b (w:=w) (Nat.le_refl _) W D _ _ (by omega) hK9 rfl rfl)⟩
  rw[hT.out]
theorem Wl (r:At) (p:Option Addr) (cap:Nat) (a b e:Int) (sp:Option Addr) (n scap:Nat) (w:World)
  (c1:∀W,Below w.heap.size w W->Cb 32 #[.agg #[.string r.name,r.eps,r.floor,r.last,r.scale,.slice p r.pts.length cap]] W (.int .i64 380)):
  CallsIn Fence.wide 4 Tryz.prog 27 #[.agg #[.string r.name,r.eps,r.floor,r.last,r.scale,.slice p r.pts.length cap],a,b,.slice sp n scap,e] w fun e' w'=>e'= .returned (.bool false)/\Below w.heap.size w w':=by
 refine callsIn_of_wp_marks Tryz.func27 rfl trivial ?_ rfl
 simp only[Tryz.ntmps27,List.size_toArray,List.length_cons,List.length_nil,Nat.reduceAdd,Nat.reduceSub,Array.replicate_succ,Array.replicate_zero,List.push_toArray,List.append_toArray,List.nil_append,List.cons_append]
 refine wpIn_wide.2 ?_
 replace c1:=Hd c1
 go_upto_region 1 with(fail)
 refine Ab w (Bc w.heap.size #[.string r.name,r.eps,r.floor,r.last,r.scale,.slice p r.pts.length cap] 35<|Bc (w.heap.size+1) #[.bool false] 4<|Bz) ?_
 rintro W1 hW z2 ⟨⟨b1,yb1,k1,f1⟩,⟨b2,yb2,k2,f2⟩,-⟩
 go_wp2_with fail
 refine(c1.out _ Aa).mono ?_
 rintro e w3 ⟨rfl,hb3⟩
 have z4:=hb3.size
 try simp at z4
 clear k1 f1 k2 f2
 refine Aj w w3 (Bc w.heap.size #[.string r.name,r.eps,r.floor,r.last,r.scale,.slice p r.pts.length cap] 35<|Bc (w.heap.size+1) #[.bool false] 4<|Bz) ?_
 clear b1 b2 hW
 rintro hW z5 ⟨⟨b1,yb1,k1,f1⟩,⟨b2,yb2,k2,f2⟩,-⟩
 clear hb3
 go_wp2
 simp only[bodyPostM]
 have b9:Blk (w3.setCell ⟨w.heap.size+1,0,none⟩ (.bool false)) (w.heap.size+1) #[.bool false] 4:=Ad
 have k9:=b9.cell
 refine⟨.bool false,by simp[results,Tryz.f27,go_sem,k9],rfl,by exact Aa⟩
end Go.Proofs.YtdeghcgakkhbmaaGreat
namespace Go.Proofs.YtdeghcgakkhbmaaGreat
open Go.RowKit

end Go.Proofs.YtdeghcgakkhbmaaGreat
namespace Go.Proofs.YtdeghcgakkhbmaaGreat
open Go.ChangeShapes Go.WideShapes Go.ChangeAt Go.RowKit Go.Deep
section
variable {H:Type} {enc:TypeId×Value->H} {P:Program}
theorem Mk (hl:laidOutB P=true) {W W':World} (hb:Below W.heap.size W W') {sp:Nat->Bool}:∀(ts:List TypeId) (vs:List Value) (ds:List (DataW H)) (ps:List MemPlace),(∀t,t∈ts->P.readableRec t=true/\t<P.types.size)->
  DataW.TrodAll enc P W 0 (fun _=>true) true ts vs ds ps->(∀p∈ps,p.block<W.heap.size)->(∀p∈ps,sp p.block=true)->DataW.TrodAll enc P W' 0 sp true ts vs ds ps
 | [],vs,ds,ps,_,h,_,_=>by
  obtain⟨rfl,rfl,rfl⟩:=trodAll_nil h
  rfl
 |t::ts,vs,ds,ps,hr,h,hlt,hs=>by
  obtain⟨v,vs',d,ds',p,q,rfl,rfl,rfl,h1,h2⟩:=trodAll_cons h
  exact⟨p,q,WideElems.Trod_stays hl (hr t (by simp)).1 (hr t (by simp)).2 h1 (fun x hx=>hb.same (hlt x (by simp[hx]))) (fun x hx=>hs x (by simp[hx])),
   Mk hl hb ts vs' ds' q (fun u hu=>hr u (by simp[hu])) h2 (fun x hx=>hlt x (by simp[hx])) (fun x hx=>hs x (by simp[hx])),rfl⟩
theorem law_post {f:Func} {s:ChangeSpec} {apart fresh handsOn again:Bool} {W W':World} {args:Array Value} {ds:List (DataW H)} {before:List MemPlace} {tb:TypeId} (hl:laidOutB P=true)
  (hpar:∀t,t∈f.params.toList->P.readableRec t=true/\t<P.types.size) (hres:f.resultTypes= #[tb]) (htb:P.underlying tb=some .bool) (hv:s.vars= [])
  (hW:DataW.Whole enc P f.params.toList s.vars apart W args.toList ds [] before) (hb:Below W.heap.size W W') (hfn:s.fn H ds= {results:= [.lit (.bool true)],args:=ds}):
  s.post enc P f apart fresh handsOn again W args (.bool true) W':=by
 have hlt:∀p∈before,p.block<W.heap.size:=fun p hp=>hW.lt p hp
 have hold:∀p∈before,(fun b=>decide (b<W.heap.size)) p.block=true:=fun p hp=>by simpa using hlt p hp
 have hW':=hW
 obtain⟨p,q,hA,hV,rfl,hz,hn⟩:=hW
 rw[hv] at hV
 obtain⟨_,rfl⟩:=trodVars_none hV
 have hR:∀(b:Nat) (sp:Nat->Bool) (hd:Bool),DataW.TrodAll enc P W' b sp hd f.resultTypes.toList ((Value.bool true).resultList f.resultTypes.size) (s.fn H (ds++ [])).results []:=fun b sp hd=>by
  rw[hres,List.append_nil,hfn]
  exact trodAll_mk1 (shut_bool htb _)
 have hargs:∀sp:Nat->Bool,(∀x∈p++ [],sp x.block=true)->DataW.TrodAll enc P W' 0 sp true f.params.toList args.toList (s.fn H (ds++ [])).args p:=fun sp hsp=>by
  rw[List.append_nil,hfn]
  exact Mk hl hb _ _ _ _ hpar hA (fun x hx=>hlt x (by simp[hx])) (fun x hx=>hsp x (by simp[hx]))
 have hvars:∀sp:Nat->Bool,(∀x∈p++ [],sp x.block=true)->DataW.TrodVars enc P W' sp s.vars (s.fn H (ds++ [])).vars []:=fun sp _=>by
  rw[hv,List.append_nil,hfn]
  rfl
 refine⟨ds,[],p++ [],[],p,[],hW',hR _ _ _,hargs _ hold,hvars _ hold,World.keptBut_mono (fun x hx=>⟨hx,?_⟩) (hb.frame (·∈p++ [])),fun _=> ?_⟩
 ·exact Or.inr (by simpa using hx)
 ·refine⟨?_,_,_,([]++p)++ [],⟨[]++p,[],trodAll_append (hargs _ (fun _ _=>rfl)) (hR _ _ _),hvars _ (fun _ _=>rfl),rfl,?_,?_⟩,?_⟩
  ·exact ok_one hres rfl (okWide_bool_mk htb _)
  ·intro b off hx
   have hin:MemPlace.cell b off∈p++ []:=by simpa using hx
   rw[hb.frozen (hlt _ hin)]
   exact hz b off hin
  ·intro ha
   simpa using hn ha
  ·intro x hx _
   simpa using hx
end
def Db (P:Program) (t:TypeId):Array (TypeId×Nat):=match P.underlying t with|some (.struct fs)=>fs.map fun f=>(f.type,f.offset)|_=> #[]
section
variable {H:Type} {enc:TypeId×Value->H} {P:Program} {w:World} {base:Nat} {spare:Nat->Bool} {held:Bool}
theorem Fo {t:TypeId} {fl:Array (TypeId×Nat)} {fuel:Nat} {cs:List Value} {x:DataW H×List MemPlace} (hf:Db P t=fl) (hne:fl.size≠0) (h:DataW.trod enc P w base spare held fuel t cs=some x):
  cs.length=P.cellsOf t/\∀(i:Nat) (ty:TypeId) (off:Nat),fl[i]? =some (ty,off)->∃n y,DataW.trod enc P w base spare held n ty ((cs.drop off).take (P.cellsOf ty))=some y:=by
 unfold Db at hf
 split at hf
 ·rename_i fs hu
  obtain⟨xs,n,_,_,hl,hxl,hat⟩:=DataW.trod_struct hu h
  refine⟨hl,fun i ty off hi=> ?_⟩
  subst hf
  simp only[Array.getElem?_map,Option.map_eq_some_iff,Prod.mk.injEq] at hi
  obtain⟨f,h1,h2,h3⟩:=hi
  have hh:=hat i f h1
  have hlt:i<xs.length:=by have:=(Array.getElem?_eq_some_iff.1 h1).1;omega
  rw[List.getElem?_eq_getElem hlt] at hh
  subst h2;subst h3
  exact⟨n,_,hh⟩
 ·subst hf;simp at hne
theorem T9 {t:TypeId} {fl:Array (TypeId×Nat)} (hf:Db P t=fl) (hne:fl.size≠0):∃fs,P.underlying t=some (.struct fs):=by
 unfold Db at hf
 split at hf
 ·rename_i fs hu
  exact⟨fs,hu⟩
 ·subst hf;simp at hne
theorem Js {t:TypeId} {fl:Array (TypeId×Nat)} {fuel:Nat} {cs:List Value} {x:DataW H×List MemPlace} (hf:Db P t=fl) (hne:fl.size≠0) (hn:P.cellsOf t=fl.size)
  (ha:∀i,i<fl.size->∃ty,fl[i]? =some (ty,i)/\P.underlying ty=some (.int .i64)/\P.cellsOf ty=1) (h:DataW.trod enc P w base spare held fuel t cs=some x):
  cs.length=fl.size/\∀i,i<fl.size->∃z:Int,cs[i]? =some (.int .i64 z)/\I64 z:=by
 obtain⟨hl,hat⟩:=Fo hf hne h
 refine⟨by omega,fun i hi=> ?_⟩
 obtain⟨ty,h1,h2,h3⟩:=ha i hi
 obtain⟨n,y,hy⟩:=hat i ty i h1
 obtain⟨z,hz,_,hw⟩:=DataW.trod_int h2 hy
 refine⟨z,?_,?_⟩
 ·rw[h3] at hz
  have:((cs.drop i).take 1)[0]? =some (.int .i64 z):=by rw[hz];rfl
  simpa using this
 ·simp[Lit.wf,IntKind.min,IntKind.max,IntKind.signed,IntKind.bits] at hw
  exact⟨by omega,by omega⟩
theorem Ma {α:Type} {Q:Nat->α->Prop}:∀n,(∀i,i<n->∃x,Q i x)->∃l:List α,l.length=n/\∀i x,l[i]? =some x->Q i x
 |0,_=>⟨[],rfl,fun i x h=>by simp at h⟩
 |n+1,h=>by
  obtain⟨l,hl,hq⟩:=Ma n fun i hi=>h i (by omega)
  obtain⟨x,hx⟩:=h n (by omega)
  refine⟨l++ [x],by simp[hl],fun i y hy=> ?_⟩
  rcases Nat.lt_or_ge i l.length with hlt|hge
  ·rw[List.getElem?_append_left hlt] at hy
   exact hq i y hy
  ·rw[List.getElem?_append_right hge] at hy
   have:i=l.length:=by
    rcases Nat.eq_or_lt_of_le hge with e|e
    ·exact e.symm
    ·rw[List.getElem?_eq_none (by simp;omega)] at hy;cases hy
   subst this
   simp at hy
   rw[hl,<-hy]
   exact hx
theorem Jp {a:Addr} {v:Value} (h:w.cell? a=some v):a=⟨a.block,a.off,none⟩:=by
 obtain⟨b,o,s⟩:=a
 cases s with
 |none=>rfl
 |some k=>
  unfold World.cell? at h
  simp at h
  split at h<;>cases h
theorem Sx {b o n:Nat}:(⟨b,o,none⟩:Addr).add n=⟨b,o+n,none⟩:=by unfold Addr.add;split<;>simp_all
theorem Uq {t e:TypeId} {n fuel:Nat} {fl:Array (TypeId×Nat)} {cs:List Value} {x:DataW H×List MemPlace} (ht:P.underlying t=some (.slice e)) (hf:Db P e=fl) (hfl:fl.size=n) (hn0:n≠0) (hn:P.cellsOf e=n)
  (ha:∀i,i<fl.size->∃ty,fl[i]? =some (ty,i)/\P.underlying ty=some (.int .i64)/\P.cellsOf ty=1) (h:DataW.trod enc P w base spare held fuel t cs=some x):
  ∃(p:Option Addr) (len cap:Nat),cs= [.slice p len cap]/\(p=none->len=0/\cap=0)/\len<=cap/\cap<=maxLen/\
   ∀i,i<len->∃b o,p=some ⟨b,o,none⟩/\∀j,j<n->∃z:Int,w.cell? ⟨b,o+i*n+j,none⟩=some (.int .i64 z)/\I64 z:=by
 rcases open_slice ht h with⟨rfl,rfl⟩|⟨a,len,cap,m,k,D,Pl,rfl,hb,hl,hm,hmm,hx,hi⟩
 ·exact⟨none,0,0,rfl,fun _=>⟨rfl,rfl⟩,Nat.le_refl _,Nat.zero_le _,fun i hi=>by omega⟩
 ·refine⟨some a,len,cap,rfl,(fun e=>by cases e),hl,hm,fun i hilt=> ?_⟩
  have hlm:len<=m:=by rw[hmm];split<;>omega
  have key:∀i,i<len->∀j,j<n->∃z:Int,w.cell? (a.add (i*n+j))=some (.int .i64 z)/\I64 z:=by
   intro i hilt j hj
   obtain⟨cs',hc,ht'⟩:=hi i (by omega)
   obtain⟨_,hcl,hat⟩:=World.cells?_some hc
   obtain⟨hl',hz⟩:=Js hf (by omega) (by omega) ha ht'
   obtain⟨z,hz1,hz2⟩:=hz j (by omega)
   have:=hat j (by omega)
   rw[add_add,hn,hz1] at this
   exact⟨z,this,hz2⟩
  obtain⟨z0,hz0,_⟩:=key 0 (by omega) 0 (by omega)
  simp[Addr.add] at hz0
  have hs:=Jp hz0
  refine⟨a.block,a.off,by rw[<-hs],fun j hj=> ?_⟩
  obtain⟨z,h1,h2⟩:=key i hilt j hj
  rw[hs,Sx] at h1
  exact⟨z,by rw[Nat.add_assoc];exact h1,h2⟩
theorem open_nums {t e:TypeId} {fuel:Nat} {cs:List Value} {x:DataW H×List MemPlace} (ht:P.underlying t=some (.slice e)) (he:P.underlying e=some (.int .i64)) (hc:P.cellsOf e=1) (h:DataW.trod enc P w base spare held fuel t cs=some x):
  ∃(p:Option Addr) (l:List Int) (cap:Nat),cs= [.slice p l.length cap]/\(p=none->l= []/\cap=0)/\l.length<=cap/\cap<=maxLen/\A3 w p l/\∀z,z∈l->I64 z:=by
 rcases open_ints ht he hc h with⟨rfl,_⟩|⟨a,len,cap,zs,rfl,hb,hl,hm,hzl,_,hz,hw⟩
 ·exact⟨none,[],0,rfl,fun _=>⟨rfl,rfl⟩,Nat.le_refl _,Nat.zero_le _,⟨fun i x h=>by simp at h⟩,fun z h=>by simp at h⟩
 ·have hle:len<=zs.length:=by rw[hzl];split<;>omega
  refine⟨some a,zs.take len,cap,by simp[hle],(fun e=>by cases e),by simp;omega,hm,⟨fun i x hx=> ?_⟩,fun z hz'=> ?_⟩
  ·rw[List.getElem?_take] at hx
   split at hx
   ·rename_i hil
    have h0:=hz 0 (by omega)
    simp[Addr.add] at h0
    have hs:=Jp h0
    have hi:=hz i (by omega)
    rw[hs,Sx] at hi
    refine⟨a.block,a.off,by rw[<-hs],?_⟩
    rw[hi,List.getD_eq_getElem?_getD,hx]
    rfl
   ·cases hx
  ·have:=hw z (List.mem_of_mem_take hz')
   simp[Lit.wf,IntKind.min,IntKind.max,IntKind.signed,IntKind.bits] at this
   exact⟨by omega,by omega⟩
end
section
variable {H:Type} {enc:TypeId×Value->H} {w:World} {base:Nat} {spare:Nat->Bool} {held:Bool}
theorem Tryz.fieldsRun :Db Tryz.prog 141= #[(2,0),(2,1),(3,2)]:=by kernel_rfl
theorem Tryz.fieldsLine :Db Tryz.prog 132= #[(2,0),(2,1),(2,2),(2,3)]:=by kernel_rfl
theorem Tryz.fieldsSeg :Db Tryz.prog 135= #[(3,0),(130,1),(132,2),(133,6),(2,7)]:=by kernel_rfl
theorem Tryz.isInt :Tryz.prog.underlying 3=some (.int .i64)/\Tryz.prog.cellsOf 3=1:=⟨by kernel_rfl,by kernel_rfl⟩
theorem Tryz.isInt64 :Tryz.prog.underlying 2=some (.int .i64)/\Tryz.prog.cellsOf 2=1:=⟨by kernel_rfl,by kernel_rfl⟩
theorem Td {fuel:Nat} {cs:List Value} {x:DataW H×List MemPlace} (h:DataW.trod enc Tryz.prog w base spare held fuel 130 cs=some x):
  ∃(p:Option Addr) (l:List Ah) (cap:Nat),cs= [.slice p l.length cap]/\(p=none->l= []/\cap=0)/\l.length<=cap/\cap<=maxLen/\Al w p l/\∀r,r∈l->I64 r.f/\I64 r.s/\I64 r.c:=by
 obtain⟨p,len,cap,rfl,hn,hl,hm,hi⟩:=Uq (n:=3) (by kernel_rfl) Tryz.fieldsRun rfl (by omega) (by kernel_rfl) (fun i hi=>by
  match i,hi with
  |0,_=>exact⟨_,rfl,Tryz.isInt64⟩
  |1,_=>exact⟨_,rfl,Tryz.isInt64⟩
  |2,_=>exact⟨_,rfl,Tryz.isInt⟩) h
 obtain⟨l,rfl,hq⟩:=Ma (Q:=fun i (r:Ah)=>(∃b o,p=some ⟨b,o,none⟩/\w.cell? ⟨b,o+i*3,none⟩=some (.int .i64 r.f)/\w.cell? ⟨b,o+i*3+1,none⟩=some (.int .i64 r.s)/\w.cell? ⟨b,o+i*3+2,none⟩=some (.int .i64 r.c))/\I64 r.f/\I64 r.s/\I64 r.c) len (fun i hilt=>by
  obtain⟨b,o,e,hj⟩:=hi i hilt
  obtain⟨f,f1,f2⟩:=hj 0 (by omega)
  obtain⟨s,s1,s2⟩:=hj 1 (by omega)
  obtain⟨c,c1,c2⟩:=hj 2 (by omega)
  exact⟨⟨f,s,c⟩,⟨b,o,e,by simpa using f1,s1,c1⟩,f2,s2,c2⟩)
 refine⟨p,l,cap,rfl,fun e=>⟨List.length_eq_zero_iff.1 (hn e).1,(hn e).2⟩,hl,hm,⟨fun i r hr=>(hq i r hr).1⟩,fun r hr=> ?_⟩
 obtain⟨i,hi⟩:=List.getElem?_of_mem hr
 exact(hq i r hi).2
end
theorem pars_ok {P:Program} {ts:List TypeId} (h:(ts.all fun t=>P.readableRec t&&decide (t<P.types.size))=true):∀t,t∈ts->P.readableRec t=true/\t<P.types.size:=fun t ht=>by
 have:=List.all_eq_true.1 h t ht
 simpa using this
theorem Tryz.ownKnob :ownKnob Tryz.prog.godebug=none:=by kernel_rfl
theorem Tryz.laidOut :laidOutB Tryz.prog=true:=by kernel_rfl
section
variable {H:Type} {enc:TypeId×Value->H} {w:World} {base:Nat} {spare:Nat->Bool} {held:Bool}
theorem Tryz.fieldsSer :Db Tryz.prog 79= #[(9,0),(2,1),(2,2),(2,3),(3,4),(77,5),(33,6)]:=by kernel_rfl
theorem Tryz.fieldsPoint :Db Tryz.prog 58= #[(2,0),(2,1)]:=by kernel_rfl
theorem Tc {fuel:Nat} {cs:List Value} {x:DataW H×List MemPlace} (hf:DataW.trod enc Tryz.prog w base spare held fuel 135 cs=some x):
  ∃r:Cn,cs=(Fm r).toList/\Came w r.s r.p r.q r.cap r.vc:=by
 have hC:Tryz.prog.cellsOf 135=8:=by kernel_rfl
 have hR:Tryz.prog.cellsOf 130=1:=by kernel_rfl
 have hV:Tryz.prog.cellsOf 133=1:=by kernel_rfl
 have hL:Tryz.prog.cellsOf 132=4:=by kernel_rfl
 obtain⟨hsz,hat⟩:=Fo Tryz.fieldsSeg (by simp) hf
 rw[hC] at hsz
 match cs,hsz with
 | [c0,c1,c2,c3,c4,c5,c6,c7],_=>
  obtain⟨n0,y0,h0⟩:=hat 0 _ _ rfl
  obtain⟨n1,y1,h1⟩:=hat 1 _ _ rfl
  obtain⟨n2,y2,h2⟩:=hat 2 _ _ rfl
  obtain⟨n3,y3,h3⟩:=hat 3 _ _ rfl
  obtain⟨n4,y4,h4⟩:=hat 4 _ _ rfl
  rw[Tryz.isInt.2] at h0
  rw[hR] at h1
  rw[hL] at h2
  rw[hV] at h3
  rw[Tryz.isInt64.2] at h4
  obtain⟨K,eK,_,wK⟩:=DataW.trod_int Tryz.isInt.1 h0
  obtain⟨p,l,cap,e1,r1,r2,r3,r4,r5⟩:=Td h1
  obtain⟨_,hln⟩:=Js Tryz.fieldsLine (by simp) (by rw[hL];rfl) (fun i hi=>by
   match i,hi with
   |0,_=>exact⟨_,rfl,Tryz.isInt64⟩
   |1,_=>exact⟨_,rfl,Tryz.isInt64⟩
   |2,_=>exact⟨_,rfl,Tryz.isInt64⟩
   |3,_=>exact⟨_,rfl,Tryz.isInt64⟩) h2
  obtain⟨A,a1,a2⟩:=hln 0 (by simp)
  obtain⟨R,b1,b2⟩:=hln 1 (by simp)
  obtain⟨N,g1,g2⟩:=hln 2 (by simp)
  obtain⟨D,d1,d2⟩:=hln 3 (by simp)
  obtain⟨q,v,vc,e3,q1,q2,q3,q4,q5⟩:=open_nums (by kernel_rfl) Tryz.isInt64.1 Tryz.isInt64.2 h3
  obtain⟨E,eE,_,wE⟩:=DataW.trod_int Tryz.isInt64.1 h4
  simp at eK e1 a1 b1 g1 d1 e3 eE
  subst eK;subst e1;subst a1;subst b1;subst g1;subst d1;subst e3;subst eE
  unfold maxLen at r3 q3
  exact⟨⟨⟨K,l,A,R,N,D,v,E⟩,p,q,cap,vc⟩,rfl,⟨r4,q4,r1,q1,r2,q2,by show l.length<=_;omega,by show v.length<=_;omega⟩⟩
theorem open_segs {fuel:Nat} {cs:List Value} {x:DataW H×List MemPlace} (h:DataW.trod enc Tryz.prog w base spare held fuel 77 cs=some x):
  ∃(p:Option Addr) (rows:List Cn) (cap:Nat),cs= [.slice p rows.length cap]/\(p=none->rows.length=0/\cap=0)/\rows.length<=cap/\D5 w p rows:=by
 have hC:Tryz.prog.cellsOf 135=8:=by kernel_rfl
 rcases open_slice (e:=135) (by kernel_rfl) h with⟨rfl,rfl⟩|⟨a,len,cap,m,k,D,Pl,rfl,hb,hl,hm,hmm,hx,hi⟩
 ·exact⟨none,[],0,rfl,fun _=>⟨rfl,rfl⟩,Nat.le_refl _,fun i r hr=>by simp at hr⟩
 ·have hlm:len<=m:=by rw[hmm];split<;>omega
  have hs:0<len->a=⟨a.block,a.off,none⟩:=fun h0=>by
   obtain⟨cs',hc,ht'⟩:=hi 0 (by omega)
   rw[hC] at hc
   obtain⟨_,hcl,hat⟩:=World.cells?_some hc
   have h1:=hat 0 (by omega)
   rw[List.getElem?_eq_getElem (by omega)] at h1
   simp[Addr.add] at h1
   exact Jp h1
  obtain⟨rows,rfl,hq⟩:=Ma (Q:=fun i (r:Cn)=>(∃b o,a=⟨b,o,none⟩/\(∀j v,(Fm r)[j]? =some v->w.cell? ⟨b,o+i*8+j,none⟩=some v))/\Came w r.s r.p r.q r.cap r.vc) len (fun i hilt=>by
   obtain⟨cs',hc,ht'⟩:=hi i (by omega)
   rw[hC] at hc
   obtain⟨_,hcl,hat⟩:=World.cells?_some hc
   obtain⟨r,rfl,hcm⟩:=Tc ht'
   refine⟨r,⟨a.block,a.off,hs (by omega),fun j v hv=> ?_⟩,hcm⟩
   have hj:j<8:=by have:=(Array.getElem?_eq_some_iff.1 hv).1;rw[show (Fm r).size=8 from rfl] at this;exact this
   have h1:=hat j hj
   rw[add_add,hs (by omega),Sx,Array.getElem?_toList,hv] at h1
   rw[Nat.add_assoc]
   exact h1)
  exact⟨some a,rows,cap,rfl,(fun e=>by cases e),hl,fun i r hr=>by
   obtain⟨⟨b,o,e,h1⟩,h2⟩:=hq i r hr
   exact⟨b,o,by rw[e],h1,h2⟩⟩
theorem Yr {fuel:Nat} {cs:List Value} {x:DataW H×List MemPlace} (h:DataW.trod enc Tryz.prog w base spare held fuel 33 cs=some x):
  ∃(p:Option Addr) (l:List (Int×Int)) (cap:Nat),cs= [.slice p l.length cap]/\(p=none->l.length=0/\cap=0)/\l.length<=cap/\Ar w p l:=by
 obtain⟨p,len,cap,rfl,hn,hl,hm,hi⟩:=Uq (n:=2) (by kernel_rfl) Tryz.fieldsPoint rfl (by omega) (by kernel_rfl) (fun i hi=>by
  match i,hi with
  |0,_=>exact⟨_,rfl,Tryz.isInt64⟩
  |1,_=>exact⟨_,rfl,Tryz.isInt64⟩) h
 obtain⟨l,rfl,hq⟩:=Ma (Q:=fun i (r:Int×Int)=>∃b o,p=some ⟨b,o,none⟩/\w.cell? ⟨b,o+i*2,none⟩=some (.int .i64 r.1)/\w.cell? ⟨b,o+i*2+1,none⟩=some (.int .i64 r.2)) len (fun i hilt=>by
  obtain⟨b,o,e,hj⟩:=hi i hilt
  obtain⟨f,f1,f2⟩:=hj 0 (by omega)
  obtain⟨s,s1,s2⟩:=hj 1 (by omega)
  exact⟨(f,s),b,o,e,by simpa using f1,s1⟩)
 exact⟨p,l,cap,rfl,hn,hl,⟨fun i r hr=>hq i r hr⟩⟩
end
end Go.Proofs.YtdeghcgakkhbmaaGreat
namespace Go.Proofs.YtdeghcgakkhbmaaGreat
open Go.RowKit
inductive Tr (α:Type) where
 |nil
 |node (o:Option α) (l r:Tr α)
noncomputable def Tr.get {α:Type} (t:Tr α):Nat->Option α:=
 Tr.rec (motive:=fun _=>Nat->Option α) (fun _=>none) (fun o _ _ gl gr k=>bif Nat.beq k 0 then o else bif Nat.beq (Nat.mod k 2) 1 then gl (Nat.div k 2) else gr (Nat.pred (Nat.div k 2))) t
noncomputable def Tr.set {α:Type} (n:Nat):Tr α->Nat->Option α->Tr α:=
 Nat.rec (motive:=fun _=>Tr α->Nat->Option α->Tr α) (fun t _ _=>t)
  (fun _ ih t k v=>Tr.rec (motive:=fun _=>Tr α)
   (bif Nat.beq k 0 then .node v .nil .nil else bif Nat.beq (Nat.mod k 2) 1 then .node none (ih .nil (Nat.div k 2) v) .nil else .node none .nil (ih .nil (Nat.pred (Nat.div k 2)) v))
   (fun o l r _ _=>bif Nat.beq k 0 then .node v l r else bif Nat.beq (Nat.mod k 2) 1 then .node o (ih l (Nat.div k 2) v) r else .node o l (ih r (Nat.pred (Nat.div k 2)) v)) t) n
inductive AO where
 |cells (cs:List Value) (t:TypeId) (op:Bool)
 |map (es:List MapEntry) (clock:Nat)
 |iter (s:ByteArray) (pos:Nat)
 |loop (st:LoopState) (pend:Option Code) (t:Tr Value) (m:Nat) (ps:Array Tmp) (asg body:Code) (d:Nat)
 |dfr (open_:Bool)
structure St where
 T:Tr AO
 next:Nat
 lim:Nat
 one:Nat
 hid:List (Nat×Nat)
 /-- numbers below this are package-level variables -/
 ng:Nat
structure Fr where
 t:Tr Value
 m:Nat
 marks:List Nat
 round:Option Nat
def A4:List (Nat×Nat)->Nat->Bool
 | [],_=>false
 |(a,b)::r,k=>(Nat.ble a k&&Nat.blt k b)||A4 r k
def big:Nat:=1000000
noncomputable def St.get (s:St) (k:Nat):Option AO:=bif A4 s.hid k then none else s.T.get k
noncomputable def St.new (s:St) (o:AO):Option (Nat×St):=bif Nat.blt s.next big then some (s.next,{s with T:=s.T.set 24 s.next (some o),next:=Nat.succ s.next}) else none
noncomputable def St.put (s:St) (k:Nat) (o:Option AO):Option St:=bif (Nat.ble s.lim k||Nat.beq k s.one)&&Nat.blt k s.next then some {s with T:=s.T.set 24 k o} else none
noncomputable def Fr.get (f:Fr) (k:Nat):Value:=(f.t.get k).getD undef
noncomputable def Fr.put (f:Fr) (d:Option Tmp) (v:Value):Option Fr:=match d with
 |none=>some f
 |some d=>bif Nat.blt d f.m then some {f with t:=f.t.set 24 d (some v)} else none
mutual
def pl:Value->Bool
 | .bool _| .int _ _| .string _| .pointer none| .slice none _ _| .map none| .nilFunc| .nilIface=>true
 | .agg ⟨cs⟩=>pls cs
 | .tuple ⟨cs⟩=>pls cs
 | .func (.func _) ⟨[]⟩ ⟨[]⟩=>true
 |_=>false
def pls:List Value->Bool
 | []=>true
 |v::r=>pl v&&pls r
end
def Uv (ng:Nat):Operand->Bool
 | .tmp _=>true
 | .const v=>pl v
 | .func _=>true
 | .global g=>Nat.blt g ng
noncomputable def Fr.ev (f:Fr):Operand->Value
 | .tmp t=>f.get t
 | .const v=>v
 | .global g=> .pointer (some ⟨g,0,none⟩)
 | .func g=> .func (.func g) #[] #[]
def pv {α:Type} (P:Program):Sem α->Option α
 | .pure a=>some a
 | .program k=>pv P (k P)
 | .mark _ k=>pv P k
 |_=>none
def ival:Value->Option Nat
 | .int _ n=>match n with| .ofNat k=>some k|_=>none
 |_=>none
def T7:Nat->List Value->List Value
 |0,_=> []
 |_,[]=> []
 |n+1,x::l=>x::T7 n l
def Zk:Nat->List Value->List Value
 |0,l=>l
 |_,[]=> []
 |n+1,_::l=>Zk n l
def aggB (P:Program) (t:TypeId):Option Bool:=match P.underlying t with
 |some (.struct _)=>some true
 |some (.array _ _)=>some true
 |some _=>some false
 |none=>none
def F4 (P:Program) (t:TypeId):Option TypeId:=match P.underlying t with
 |some (.slice e)=>some e
 |_=>none
def szB (P:Program) (t:TypeId):Option Nat:=(P.info? t).map (·.size)
def Kr (P:Program) (t:TypeId):Option Value:=((P.info? t).bind (·.zero)).bind fun z=>bif pl z then some z else none
noncomputable def rd (s:St) (k off n:Nat):Option (List Value):=match s.get k with
 |some (.cells cs _ _)=>bif Nat.ble (Nat.add off n) cs.length then some (T7 n (Zk off cs)) else none
 |_=>none
def Fa:List Value->Bool
 | []=>true
 |v::l=>v.oneCell'&&Fa l
noncomputable def wr (s:St) (k off:Nat) (vs:List Value):Option St:=match s.get k with
 |some (.cells cs t op)=>bif Nat.ble (Nat.add off vs.length) cs.length&&Fa vs then s.put k (some (.cells (T7 off cs++(vs++Zk (Nat.add off vs.length) cs)) t op)) else none
 |_=>none
noncomputable def ld (P:Program) (s:St) (t:TypeId) (k off:Nat):Option Value:=match aggB P t,szB P t with
 |some true,some n=>(rd s k off n).map fun l=> .agg l.toArray
 |some false,some _=>match rd s k off 1 with|some (v::_)=>some v|_=>none
 |_,_=>none
def Gb:Nat->List Value->List Value
 |0,_=> []
 |n+1,l=>l++Gb n l
def bnd (s:Option Value) (d:Nat):Option Nat:=match s with|none=>some d|some v=>ival v
def slB (sz:Nat) (a:Option Addr) (len cap:Nat) (lo hi mx:Option Value):Option Value:=match bnd mx cap,bnd hi len,bnd lo 0 with
 |some m,some h,some l=>bif Nat.ble m cap&&Nat.ble h m&&Nat.ble l h&&(mx.isNone||hi.isSome) then
   (match a with
    |none=>some (.slice none (Nat.sub h l) (Nat.sub m l))
    |some a=>match mx,a.spot with
     |none,some _=>bif Nat.beq m l then none else some (.slice (some ⟨a.block,Nat.add a.off (Nat.mul l sz),a.spot⟩) (Nat.sub h l) (Nat.sub m l))
     |_,_=>some (.slice (some (bif Nat.beq m l then ⟨a.block,a.off,none⟩ else ⟨a.block,Nat.add a.off (Nat.mul l sz),none⟩)) (Nat.sub h l) (Nat.sub m l)))
  else none
 |_,_,_=>none
def Ux (k:Value):List MapEntry->Option (Option Value)
 | []=>some none
 |e::es=>match e.key,k with
  | .int a x,.int b y=>bif decide (a=b) then (bif decide (y=x) then some (some e.val) else Ux k es) else none
  |_,_=>none
structure Rec where
 code:Code->Fr->St->Option (Exit×Fr×St)
 call:FuncId->List Value->St->Option (Value×St)
 yield:Nat->List Value->St->Option (Value×St)
 /-- code within a scope: a jump to a label of it goes on behind the label -/
 back:Code->Code->Fr->St->Option (Exit×Fr×St)
noncomputable def callV (R:Rec) (f:Value) (args:List Value) (st:St):Option (Value×St):=match f with
 | .func (.func g) first cap=>R.call g (first.toList++(args++cap.toList)) st
 | .func (.yield l) ⟨[]⟩ ⟨[]⟩=>R.yield l args st
 |_=>none
noncomputable def appB (P:Program) (st:St) (t:TypeId) (s x:Value):Option (Value×St):=match F4 P t with
 |none=>none
 |some e=>match P.info? e,Kr P e with
  |some i,some z=>bif Nat.beq z.cells.size i.size then match s,x with
   | .slice a len cap,.slice (some ⟨kb,ob,_⟩) n _=>
    match rd st kb ob (Nat.mul n i.size) with
    |none=>none
    |some src=>bif Nat.ble (Nat.add len n) cap then
      match a with
      |some ⟨k,0,sp⟩=>match st.get k with
       |some (.cells _ t' _)=>bif Nat.beq t' e then (wr st k (Nat.mul len i.size) src).map fun st=>(.slice (some ⟨k,0,sp⟩) (Nat.add len n) cap,st) else none
       |_=>none
      |_=>none
     else bif Nat.ble (Nat.mul (Nat.mul 8 (Nat.add (Nat.add len n) 64)) (Nat.add i.bytes 1)) 100000000&&Fa src then
      match a with
      |none=>bif Nat.beq len 0&&Nat.beq cap 0 then (bif Nat.blt 0 n then (st.new (.cells src e true)).map fun r=>(.slice (some ⟨r.1,0,some 0⟩) n n,r.2) else none) else none
      |some ⟨k,off,sp⟩=>match rd st k off (Nat.mul len i.size) with
       |none=>none
       |some old=>match sp with
        |none=>(st.new (.cells (old++src) e true)).map fun r=>(.slice (some ⟨r.1,0,some 0⟩) (Nat.add len n) (Nat.add len n),r.2)
        |some _=>match st.get k,off with
         |some (.cells cs t' true),0=>bif Nat.beq t' e&&Nat.beq cs.length (Nat.mul cap i.size) then
           match st.put k none with
           |none=>none
           |some st=>(st.new (.cells (old++src) e true)).map fun r=>(.slice (some ⟨r.1,0,some 0⟩) (Nat.add len n) (Nat.add len n),r.2)
          else none
         |_,_=>none
     else none
   | .slice a len cap,.slice none n _=>bif Nat.beq n 0&&Nat.ble len cap then some (.slice a len cap,st) else none
   |_,_=>none
   else none
  |_,_=>none
noncomputable def appZ (P:Program) (st:St) (t u:TypeId) (s:Value) (n:Nat):Option (Value×St):=match P.underlying u with
 |some (.int _)=>match F4 P t with
  |none=>none
  |some e=>match P.info? e,Kr P e with
   |some i,some z=>bif Nat.beq z.cells.size i.size&&(Nat.blt 0 n&&(Nat.blt 0 i.size&&Fa z.cells.toList)) then
     match s with
     | .slice none 0 0=>bif Nat.ble (Nat.mul (Nat.mul 8 (Nat.add n 64)) (Nat.add i.bytes 1)) 100000000 then (st.new (.cells (Gb n z.cells.toList) e true)).map fun r=>(.slice (some ⟨r.1,0,some 0⟩) n n,r.2) else none
     | .slice (some ⟨k,off,none⟩) len cap=>bif Nat.blt cap (Nat.add len n)&&Nat.ble (Nat.mul (Nat.mul 8 (Nat.add (Nat.add len n) 64)) (Nat.add i.bytes 1)) 100000000 then
       match rd st k off (Nat.mul len i.size) with
       |none=>none
       |some old=>(st.new (.cells (old++Gb n z.cells.toList) e true)).map fun r=>(.slice (some ⟨r.1,0,some 0⟩) (Nat.add len n) (Nat.add len n),r.2)
      else none
     |_=>none
    else none
   |_,_=>none
 |_=>none
def nilB (P:Program) (t:TypeId) (x y:Value):Bool:=match P.underlying t,x,y with
 |some (.slice _),.slice none _ _,.slice (some _) _ _|some (.slice _),.slice (some _) _ _,.slice none _ _|some (.pointer _),.pointer none,.pointer (some _)|some (.pointer _),.pointer (some _),.pointer none|some (.func _ _ _),.nilFunc,.func _ _ _|some (.func _ _ _),.func _ _ _,.nilFunc=>true
 |_,_,_=>false
def eqNil (P:Program) (t:TypeId) (op:BinOp) (x y:Value):Option Value:=bif nilB P t x y then (match op with| .eql=>some (.bool false)| .neq=>some (.bool true)|_=>none) else none
def pvV (P:Program) (ρ:Operand->Value) (o:Oper):Option Value:=match pv P (execOp ρ o) with
 |some (.value v)=>bif pl v then some v else none
 |_=>none
def Mn (o:Oper):Bool:=match o.op with
 | .move _| .assign _| .pick _ _ _| .extract _ _| .field _ _ _| .index _ _ _| .build _ _| .makeFunc _ _ _| .nilCheck _| .binOp _ _ _ _ _| .unOp _ _ _| .convert _ _ _| .fieldAddr _ _ _| .indexAddr _ _ _| .slice _ _ _ _ _=>true
 |_=>false
def partB (P:Program) (t:TypeId) (cs:Array Value) (off:Nat):Option Value:=match aggB P t,szB P t with
 |some true,some n=>some (.agg (cs.extract off (off+n)))
 |some false,some _=>cs[off]?
 |_,_=>none
def Zj (P:Program) (ρ:Operand->Value) (o:Oper):Option Value:=match o.op with
 | .move x| .assign x=>some (ρ x)
 | .pick c a b=>match ρ c with| .bool t=>some (bif t then ρ a else ρ b)|_=>none
 | .extract x i=>match ρ x with| .tuple vs=>vs[i]? |_=>none
 | .field t x f=>match P.underlying t,ρ x with
  |some (.struct fs),.agg cs=>match fs[f]? with|some fd=>partB P fd.type cs fd.offset|none=>none
  |_,_=>none
 | .index t x i=>bif pl (ρ x)&&pl (ρ i) then pvV P ρ o else match P.underlying t,ρ x,ival (ρ i) with
  |some (.array n e),.agg cs,some k=>match szB P e with|some sz=>bif Nat.blt k n then partB P e cs (k*sz) else none|none=>none
  |_,_,_=>none
 | .build t parts=>bif (Kr P t).isSome then (P.built t (parts.toList.map fun p=>(p.1,ρ p.2))).map .agg else none
 | .makeFunc (.func g) first cap=>some (.func (.func g) (first.map ρ) (cap.map ρ))
 | .nilCheck x=>match ρ x with
  | .pointer (some a)=>some (.pointer (some a))
  | .func (.func g) a b=>some (.func (.func g) a b)
  | .func (.yield g) a b=>some (.func (.yield g) a b)
  |_=>none
 | .binOp op t x y _=>match eqNil P t op (ρ x) (ρ y) with
  |some v=>some v
  |none=>bif pl (ρ x)&&pl (ρ y) then pvV P ρ o else none
 | .unOp _ _ x| .convert _ _ x=>bif pl (ρ x) then pvV P ρ o else none
 | .fieldAddr s x f=>match ρ x,P.underlying s with
  | .pointer (some ⟨k,off,none⟩),some (.struct fs)=>match fs[f]? with
   |some fd=>match szB P fd.type with|some (.succ _)=>some (.pointer (some ⟨k,Nat.add off fd.offset,none⟩))|_=>none
   |none=>none
  |_,_=>none
 | .indexAddr t x i=>match P.underlying t,ρ x,ival (ρ i) with
  |some (.array len e),.pointer (some ⟨k,off,none⟩),some n=>match szB P e with|some sz=>bif Nat.blt n len then some (.pointer (some ⟨k,Nat.add off (Nat.mul n sz),none⟩)) else none|none=>none
  |some (.slice e),.slice (some ⟨k,off,_⟩) len _,some n=>match szB P e with|some sz=>bif Nat.blt n len then some (.pointer (some ⟨k,Nat.add off (Nat.mul n sz),none⟩)) else none|none=>none
  |_,_,_=>none
 | .slice t x lo hi mx=>match P.underlying t,ρ x with
  |some (.slice e),.slice a len cap=>match szB P e with|some sz=>slB sz a len cap (lo.map ρ) (hi.map ρ) (mx.map ρ)|none=>none
  |some .string,.string _=>bif pl (ρ x)&&((lo.toList++hi.toList++mx.toList).all fun y=>pl (ρ y)) then pvV P ρ o else none
  |_,_=>none
 |_=>none
noncomputable def allPl (l:List Value):Bool:=pls l
noncomputable def newC (s:St) (cs:List Value) (t:TypeId):Option (Value×St):=bif Fa cs then (s.new (.cells cs t false)).map fun r=>(.pointer (some ⟨r.1,0,none⟩),r.2) else none
def pvp (P:Program) (x:Sem Value):Option Value:=match pv P x with|some v=>bif pl v then some v else none|none=>none
noncomputable def bi (P:Program) (b:Builtin) (tys:List TypeId) (type:TypeId) (args:List Value) (st:St):Option (Value×St):=match b,tys,args with
 | .len,t::_,[.slice _ n _]=>(F4 P t).map fun _=>(.int .i64 n,st)
 | .len,_,[.string s]=>(pvp P (Builtin.len_ tys.toArray type #[.string s])).map fun v=>(v,st)
 | .cap,t::_,[.slice none _ n]=>(F4 P t).map fun _=>(.int .i64 n,st)
 | .cap,t::_,[.slice (some ⟨_,_,none⟩) _ n]=>(F4 P t).map fun _=>(.int .i64 n,st)
 | .append,[t,u],[s,x]=>bif Nat.beq t u then appB P st t s x else (match x with| .int _ (.ofNat n)=>appZ P st t u s n|_=>none)
 | .copy,[t,u],[.slice a n _,.slice b m _]=>bif Nat.beq t u then (match (F4 P t).bind (szB P) with
  |none=>none
  |some sz=>bif Nat.beq (Nat.min m n) 0 then some (.int .i64 0,st) else match a,b with
   |some ⟨ka,oa,_⟩,some ⟨kb,ob,_⟩=>match rd st kb ob (Nat.mul (Nat.min m n) sz) with
    |none=>none
    |some src=>(wr st ka oa src).map fun st=>(.int .i64 (Nat.min m n),st)
   |_,_=>none) else none
 | .clear,t::_,[.slice a n _]=>bif Nat.beq n 0 then (F4 P t).map fun _=>(.tuple #[],st) else match (F4 P t).bind (Kr P),a with
  |some z,some ⟨k,off,_⟩=>(wr st k off (Gb n z.cells.toList)).map fun st=>(.tuple #[],st)
  |_,_=>none
 | .max,_,l=>bif pls l then (pvp P (Builtin.max_ tys.toArray type l.toArray)).map fun v=>(v,st) else none
 | .min,_,l=>bif pls l then (pvp P (Builtin.min_ tys.toArray type l.toArray)).map fun v=>(v,st) else none
 |_,_,_=>none
noncomputable def execH (P:Program) (R:Rec) (ρ:Operand->Value) (o:Oper) (st:St):Option (Value×St):=match o.op with
 | .alloc e=>match Kr P e with|some z=>newC st z.cells.toList e|none=>none
 | .box e x=>newC st (ρ x).cells.toList e
 | .buildSlice t len parts=>match F4 P t with
  |none=>none
  |some e=>match szB P e,Kr P e with
   |some sz,some z=>bif Nat.beq sz 0||Nat.blt 10000 (len*sz)|| !(Nat.beq z.cells.size sz) then none else
    match Instr.fill (fun i=>some (i*sz,sz)) (Gb len z.cells.toList).toArray (parts.toList.map fun p=>(p.1,ρ p.2)) with
    |none=>none
    |some cs=>bif Fa cs.toList then (st.new (.cells cs.toList e false)).map fun r=>(.slice (some ⟨r.1,0,none⟩) len len,r.2) else none
   |_,_=>none
 | .load t a=>match ρ a with
  | .pointer (some ⟨k,off,none⟩)=>(ld P st t k off).map fun v=>(v,st)
  |_=>none
 | .store t a x=>match ρ a,szB P t with
  | .pointer (some ⟨k,off,none⟩),some n=>bif Nat.beq (ρ x).cells.size n then (wr st k off (ρ x).cells.toList).map fun st=>(undef,st) else none
  |_,_=>none
 | .makeSlice t l c=>match F4 P t with
  |none=>none
  |some e=>match P.info? e,Kr P e,ρ l,ρ c with
   |some i,some z,.int _ (.ofNat l),.int _ (.ofNat c)=>bif Nat.ble l c&&Nat.ble (Nat.mul c (Nat.add (Nat.add i.size i.bytes) 1)) 10000000&&Nat.beq z.cells.size i.size&&Fa z.cells.toList then
     (st.new (.cells (Gb c z.cells.toList) e false)).map fun r=>(.slice (some ⟨r.1,0,none⟩) l c,r.2) else none
   |_,_,_,_=>none
 | .makeMap _ none=>(st.new (.map [] 0)).map fun r=>(.map (some r.1),r.2)
 | .insert t m k v=>match ρ m,P.underlying t with
  | .map (some r),some (.map kt _)=>match P.underlying kt,ρ k,st.get r with
   |some (.int _),.int a x,some (.map es c)=>match Ux (.int a x) es with
    |some none=>(st.put r (some (.map (es++ [{key:= .int a x,val:=ρ v,born:=c}]) (c+1)))).map fun st=>(undef,st)
    |_=>none
   |_,_,_=>none
  |_,_=>none
 | .lookup t m k true=>match ρ m,P.underlying t with
  | .map (some r),some (.map kt e)=>match P.underlying kt,ρ k,st.get r with
   |some (.int _),.int a x,some (.map es _)=>match Ux (.int a x) es,Kr P e with
    |some none,some z=>some (.tuple #[z,.bool false],st)
    |some (some v),some _=>some (.tuple #[v,.bool true],st)
    |_,_=>none
   |_,_,_=>none
  |_,_=>none
 | .range t x=>match ρ x,P.underlying t with
  | .string s,some .string=>(st.new (.iter s 0)).map fun r=>(.pointer (some ⟨r.1,0,none⟩),r.2)
  |_,_=>none
 | .next x true=>match ρ x with
  | .pointer (some ⟨k,0,none⟩)=>match st.get k with
   |some (.iter s pos)=>bif Nat.blt pos s.size then
     (st.put k (some (.iter s (pos+(Utf8.decode s pos).2)))).map fun st=>(.tuple #[.bool true,.int .i64 pos,.int .i32 (Utf8.decode s pos).1],st)
    else some (.tuple #[.bool false],st)
   |_=>none
  |_=>none
 | .call c=>match c.callee with
  | .builtin b=>bi P b c.argTypes.toList o.type (c.args.toList.map ρ) st
  | .value f=>callV R (ρ f) (c.args.toList.map ρ) st
  |_=>none
 |_=>none
noncomputable def exec (P:Program) (R:Rec) (ρ:Operand->Value) (o:Oper) (st:St):Option (Value×St):=bif Mn o then (Zj P ρ o).map fun v=>(v,st) else execH P R ρ o st
noncomputable def guardB (ops:Array Oper) (f:Fr) (o:Oper):Bool:=match o.guard with
 |none=>true
 |some (k,want)=>match Bf ops k with
  |some d=>match f.get d with| .bool b=>bif b then want else !want|_=>false
  |none=>false
noncomputable def seqB (P:Program) (R:Rec) (ops:Array Oper):List Oper->Fr->St->Option (Fr×St)
 | [],fr,st=>some (fr,st)
 |o::l,fr,st=>bif guardB ops fr o then
   match exec P R fr.ev o st with
   |some r=>match fr.put o.dst r.1 with|some fr=>seqB P R ops l fr r.2|none=>none
   |none=>none
  else match fr.put o.dst undef with|some fr=>seqB P R ops l fr st|none=>none
def Fj (A:List Nat) (es:List Edge):Nat:=es.foldr (fun e m=>bif Region.binds .any e then Nat.lor (Nat.lor m (Nat.shiftLeft 1 e.on)) (A.getD e.on 0) else m) 0
def Mh:List Oper->List Nat->List Nat
 | [],A=>A
 |o::l,A=>Mh l (A++ [Fj A o.after.toList])
def Pp (A:List Nat) (i k:Nat):Bool:=Nat.testBit (A.getD i 0) k
def F7 (A:List Nat) (i k:Nat):Bool:=bif Nat.blt k i then Pp A i k else Pp A k i
def wrB (ops:Array Oper) (A:List Nat) (i:Nat):Bool:=(List.range ops.size).all fun k=>Nat.beq k i||F7 A i k||(match ops[k]? with|some o=>Mn o|none=>true)
def wrs (ops:Array Oper) (A:List Nat):List Bool:=(List.range ops.size).map fun i=>wrB ops A i
def readsA (ops:Array Oper) (A:List Nat):Bool:=(List.range ops.size).all fun i=>match ops[i]? with
 |some o=>(o.looksAt ops).all fun s=>(List.range ops.size).all fun j=>(match Bf ops j with|some d=> !(Nat.beq d s)|none=>true)||(bif Nat.beq i j then Nat.beq 0 0 else F7 A i j)
 |none=>true
def Ro (ng:Nat) (ops:Array Oper):Bool:=ops.toList.all fun o=>o.op.operands.toList.all (Uv ng)
def okR (ng:Nat) (ops:Array Oper):Bool:=backB ops&&uniqB ops ops.size&&readsA ops (Mh ops.toList [])&&Ro ng ops
def wrIx (ops:Array Oper) (s:Tmp):Option Nat:=(List.range ops.size).find? fun j=>match Bf ops j with|some d=>Nat.beq d s|none=>false
noncomputable def baseB (ops:Array Oper) (fr:Fr):Nat->Tmp->Option Nat
 |0,_=>none
 |n+1,s=>match wrIx ops s with
  |none=>match fr.get s with| .pointer (some ⟨b,_,none⟩)=>some b|_=>none
  |some j=>match ops[j]? with
   |some o=>match o.op with
    | .move (.tmp x)=>baseB ops fr n x
    | .nilCheck (.tmp x)=>baseB ops fr n x
    | .fieldAddr _ (.tmp x) _=>baseB ops fr n x
    |_=>none
   |none=>none
noncomputable def psts (ops:Array Oper) (W:List Bool) (fr:Fr):List Nat->List (Nat×Nat)
 | []=> []
 |i::l=>match (bif W.getD i false then none else match ops[i]? with|some o=>(match o.op with| .store _ (.tmp s) _=>baseB ops fr 10 s|_=>none)|none=>none) with
  |some b=>(i,b)::psts ops W fr l
  |none=>psts ops W fr l
def userCall (o:Oper):Bool:=match o.op with| .call c=>(match c.callee with| .builtin _=>false|_=>true)|_=>false
def mayPut (o:Oper):Bool:=match o.op with| .store .. =>true| .call c=>(match c.callee with| .builtin .append=>true| .builtin .copy=>true|_=>false)|_=>false
noncomputable def putAt (ρ:Operand->Value) (o:Oper):Option Nat:=match o.op with
 | .store _ x _=>match ρ x with| .pointer (some ⟨b,_,none⟩)=>some b|_=>none
 | .call c=>match c.callee with
  | .builtin .append| .builtin .copy=>match c.args.toList.map ρ with| .slice (some ⟨b,_,_⟩) _ _::_=>some b|_=>none
  |_=>none
 |_=>none
noncomputable def pass1 (P:Program) (R:Rec) (ops:Array Oper) (W:List Bool) (nx:Nat):List Oper->Nat->Fr->St->List (Nat×Nat)
 | [],_,_,_=> []
 |o::l,i,fr,st=>bif guardB ops fr o then
   match exec P R fr.ev o st with
   |some r=>match fr.put o.dst r.1 with
    |some fr'=>match (bif W.getD i false then none else putAt fr.ev o) with
     |some b=>bif Nat.blt b nx then (i,b)::pass1 P R ops W nx l (Nat.succ i) fr' r.2 else pass1 P R ops W nx l (Nat.succ i) fr' r.2
     |none=>pass1 P R ops W nx l (Nat.succ i) fr' r.2
    |none=> []
   |none=> []
  else match fr.put o.dst undef with|some fr=>pass1 P R ops W nx l (Nat.succ i) fr st|none=> []
noncomputable def putsB (P:Program) (R:Rec) (ops:Array Oper) (W:List Bool) (fr:Fr) (st:St):List (Nat×Nat):=
 bif (List.range ops.size).any fun i=> !(W.getD i false)&&(match ops[i]? with|some o=>mayPut o|none=>false) then
  (bif ops.toList.any userCall then psts ops W fr (List.range ops.size) else pass1 P R ops W st.next ops.toList 0 fr st) else []
def P2 (A:List Nat) (i:Nat) (rs:List (Nat×Nat×Nat)) (ps:List (Nat×Nat)):List (Nat×Nat):=
 (rs.filterMap fun r=>bif Pp A i r.1 then none else some (r.2.1,r.2.2))++(ps.filterMap fun p=>bif Nat.beq p.1 i||F7 A i p.1 then none else some (p.2,Nat.succ p.2))
def N5 (i:Nat) (ps:List (Nat×Nat)):Nat:=match ps with
 | []=>big
 |(k,b)::l=>bif Nat.beq k i then b else N5 i l
noncomputable def anyB (P:Program) (R:Rec) (ops:Array Oper) (A:List Nat) (W:List Bool) (ps:List (Nat×Nat)):List Oper->Nat->List (Nat×Nat×Nat)->Fr->St->Option (Fr×St)
 | [],_,_,fr,st=>some (fr,st)
 |o::l,i,rs,fr,st=>
  bif guardB ops fr o then
   bif Mn o then match Zj P fr.ev o with
    |some v=>match fr.put o.dst v with|some fr=>anyB P R ops A W ps l (Nat.succ i) rs fr st|none=>none
    |none=>none
   else match execH P R fr.ev o (bif W.getD i false then st else {st with lim:=st.next,one:=N5 i ps,hid:=P2 A i rs ps++st.hid}) with
    |some r=>match fr.put o.dst r.1 with|some fr=>anyB P R ops A W ps l (Nat.succ i) ((i,st.next,r.2.next)::rs) fr {r.2 with lim:=st.lim,one:=st.one,hid:=st.hid}|none=>none
    |none=>none
  else match fr.put o.dst undef with|some fr=>anyB P R ops A W ps l (Nat.succ i) rs fr st|none=>none
def Hy (lim one next:Nat):List (Nat×Nat)->Bool
 | []=>true
 |(_,b)::l=>(Nat.ble lim b||Nat.beq b one)&&Nat.blt b next&&(l.all fun q=> !(Nat.beq q.2 b))&&Hy lim one next l
noncomputable def regB (P:Program) (R:Rec) (ops:Array Oper) (draw:Bool) (fr:Fr) (st:St):Option (Fr×St):=
 bif draw then (bif okR st.ng ops then (match putsB P R ops (wrs ops (Mh ops.toList [])) fr st with|ps=>bif Hy st.lim st.one st.next ps then anyB P R ops (Mh ops.toList []) (wrs ops (Mh ops.toList [])) ps ops.toList 0 [] fr st else none) else none) else (bif Ro st.ng ops then seqB P R ops ops.toList fr st else none)
def Mc (P:Program):Value->Bool
 | .func (.func g) _ _=>match P.funcs[g]? with|some fn=>fn.body.isSome&& !(fn.name== "runtime.NumGoroutine")|none=>false
 |_=>false
noncomputable def stepCode (P:Program) (R:Rec) (c:Code) (fr:Fr) (st:St):Option (Exit×Fr×St):=match c with
 | .skip=>some (.normal,fr,st)
 | .label _=>some (.normal,fr,st)
 | .region _ ops draw=>(regB P R ops draw fr st).map fun r=>(.normal,r.1,r.2)
 | .seq a b=>match R.code a fr st with
  |some (.normal,fr,st)=>R.code b fr st
  |r=>r
 | .cond c a b=>bif Uv st.ng c then (match fr.ev c with| .bool t=>bif t then R.code a fr st else R.code b fr st|_=>none) else none
 | .block id b=>match R.code b fr st with
  |some (.exit k,fr,st)=>bif Nat.beq k id then some (.normal,fr,st) else some (.exit k,fr,st)
  |r=>r
 | .loop b=>match R.code b fr st with
  |some (.normal,fr,st)=>R.code c fr st
  |r=>r
 | .exit id=>some (.exit id,fr,st)
 | .goto l=>some (.goto l,fr,st)
 | .ret=>some (.ret,fr,st)
 | .scope b=>match fr.round with|none=>R.back b b fr st|some _=>none
 | .rangeFunc f ps asg body=>bif Uv st.ng f&&Mc P (fr.ev f) then
   match (show Option (Nat×List Nat×St) from match fr.round with
    |some l=>(match st.get l with|some (.loop _ _ _ _ _ _ _ d)=>some (d,([]:List Nat),st)|_=>none)
    |none=>(st.new (.dfr true)).map fun r=>(r.1,[r.1],r.2)) with
   |none=>none
   |some (d,mk,st)=>match st.new (.loop .ready none fr.t fr.m ps asg body d) with
    |none=>none
    |some (l,st)=>match callV R (fr.ev f) [.func (.yield l) #[] #[]] st with
     |none=>none
     |some (_,st)=>match st.get l with
      |some (.loop s pend t m ps asg body d)=>match s with
       | .busy=>none
       |_=>match st.put l (some (.loop .exhausted pend t m ps asg body d)) with
        |none=>none
        |some st=>match pend with
         |none=>some (.normal,{fr with marks:=mk++fr.marks},st)
         |some .ret=>some (.ret,{fr with marks:=mk++fr.marks},st)
         |some (.exit k)=>some (.exit k,{fr with marks:=mk++fr.marks},st)
         |some _=>none
      |_=>none
  else none
 | .refuse _=>none
noncomputable def putAll:List Value->Nat->Tr Value->Tr Value
 | [],_,t=>t
 |v::l,i,t=>putAll l (Nat.succ i) (t.set 24 i (some v))
noncomputable def putPar (m:Nat):List (Tmp×Value)->Tr Value->Option (Tr Value)
 | [],t=>some t
 |(d,v)::l,t=>bif Nat.blt d m then putPar m l (t.set 24 d (some v)) else none
noncomputable def takeMarks:List Nat->St->Option St
 | [],st=>some st
 |d::l,st=>match st.get d with
  |some (.dfr true)=>match st.put d (some (.dfr false)) with|some st=>takeMarks l st|none=>none
  |_=>none
noncomputable def resB (P:Program) (st:St) (fr:Fr):List ResultVar->Option (List Value)
 | []=>some []
 | .tmp t::l=>match resB P st fr l with|some vs=>some (fr.get t::vs)|none=>none
 | .cell a t::l=>match fr.get a with
  | .pointer (some ⟨k,off,none⟩)=>match ld P st t k off,resB P st fr l with|some v,some vs=>some (v::vs)|_,_=>none
  |_=>none
abbrev Orc:=FuncId->List Value->St->Option (Value×St)
noncomputable def stepCall (P:Program) (O:Orc) (R:Rec) (f:FuncId) (args:List Value) (st:St):Option (Value×St):=match O f args st with
 |some r=>some r
 |none=>match P.funcs[f]? with
 |none=>none
 |some fn=>bif fn.name== "runtime.NumGoroutine" then none else match fn.body with
  |none=>bif pls args then (match pv P (callFunc f args.toArray) with|some (.value v)=>bif pl v then some (v,st) else none|_=>none) else none
  |some c=>bif Nat.ble args.length fn.ntmps&&Nat.ble fn.ntmps big then
   match R.code c ⟨putAll args 0 .nil,fn.ntmps,[],none⟩ st with
   |some (e,fr,st)=>match e with
    | .normal| .ret=>match takeMarks fr.marks st with
     |none=>none
     |some st=>match resB P st fr fn.results.toList with
      |some [v]=>some (v,st)
      |some vs=>some (.tuple vs.toArray,st)
      |none=>none
    |_=>none
   |none=>none else none
noncomputable def stepYield (P:Program) (R:Rec) (l:Nat) (args:List Value) (st:St):Option (Value×St):=match st.get l with
 |some (.loop .ready pend t m ps asg body d)=>bif Nat.beq args.length ps.size then match putPar m (ps.toList.zip args) t with
  |none=>none
  |some t'=>match R.code asg ⟨t',m,[],some l⟩ st with
   |some (.normal,fr,st)=>match st.get l with
    |some (.loop .ready pend t m ps asg body' d)=>match st.put l (some (.loop .busy pend t m ps asg body' d)) with
     |none=>none
     |some st=>match R.code body fr st with
      |none=>none
      |some (e,_,st)=>match st.get l,(match e with| .normal=>some none| .ret=>some (some Code.ret)| .exit k=>some (some (Code.exit k))|_=>none) with
       |some (.loop _ _ t m ps asg body d),some jump=>(st.put l (some (.loop (bif Option.isNone jump then .ready else .done) jump t m ps asg body d))).map fun st=>(.bool (Option.isNone jump),st)
       |_,_=>none
    |_=>none
   |_=>none
  else none
 |_=>none
noncomputable def stepBack (R:Rec) (b c:Code) (fr:Fr) (st:St):Option (Exit×Fr×St):=match R.code c fr st with
 |some (.goto l,fr,st)=>(match findLabel b l with
  |some rest=>R.back b rest fr st
  |none=>some (.goto l,fr,st))
 |r=>r
noncomputable def ev (P:Program) (O:Orc) (n:Nat):Rec:=
 Nat.rec (motive:=fun _=>Rec) ⟨fun _ _ _=>none,fun _ _ _=>none,fun _ _ _=>none,fun _ _ _ _=>none⟩ (fun _ R=>⟨stepCode P R,stepCall P O R,stepYield P R,stepBack R⟩) n
noncomputable def runB (P:Program) (O:Orc) (s:St) (f:FuncId):Bool:=match (ev P O 1000000).call f [] s with
 |some (.bool true,_)=>true
 |_=>false
end Go.Proofs.YtdeghcgakkhbmaaGreat
