/- Parts of the proof that follows. No condition. -/
import Derived.Test.YtidfcoooccblaaaGreatBho15
set_option maxRecDepth 100000
set_option maxHeartbeats 8000000
set_option linter.unusedSimpArgs false
set_option linter.unusedVariables false
namespace Go.Proofs.YtidfcoooccblaaaGreat
open Go.RowKit
def PutPost (B gO:Nat) (L:List (Int×Int×Int)) (w:World) (e:Ending) (w':World):Prop:=
 e= .returned (.tuple #[])/\Below B w w'/\(∀g cs t,g≠gO->t≠63->Blk w g cs t->Blk w' g cs t)/\∃v,Blk w' gO #[v] 52/\Ca w' B 63 3 v L.length (As (L.map bkT))
def putL (fr b t y far:Int) (L:List (Int×Int×Int)):List (Int×Int×Int):=if Ja fr b (t,y) then L++ [(t,y,far)] else L
attribute [local simp] Oper.looksAt Op.operands Call.operands Al Det Ap
structure Dl where
 er:Int
 n:Int
 x:Int
 y:Int
 m0:Int
 m1:Int
 m2:Int
 m3:Int
 m4:Int
instance : DecidableEq Dl := fun a b => decidable_of_iff (a.er = b.er /\ a.n = b.n /\ a.x = b.x /\ a.y = b.y /\ a.m0 = b.m0 /\ a.m1 = b.m1 /\ a.m2 = b.m2 /\ a.m3 = b.m3 /\ a.m4 = b.m4) (by cases a; cases b; simp)
def aT (t:Dl):Array Value:=M9 t.er t.n t.x t.y t.m0 t.m1 t.m2 t.m3 t.m4
def M8 (s:A3) (k:Nat) (a b:Int):Dl:=
 if k=1 then ⟨if Cg s a b=9 then 0 else Cg s a b,(At s a b).length,0,0,0,0,0,0,0⟩
 else if k=2 then ⟨Cg s a b,0,Aw (loL (At s a b)),Aw (hiL (At s a b)),0,0,0,0,0⟩
 else if k=3 then ⟨Cg s a b,0,Ay (loL (At s a b)),Ay (hiL (At s a b)),0,0,0,0,0⟩
 else if k=4 then ⟨R2 (At s a b) (Cg s a b),0,sl (At s a b),sh (At s a b),0,0,0,0,0⟩
 else ⟨Cg s a b,0,0,0,(At s a b).length,Ak (loL (At s a b))/(At s a b).length,Ak (loL (At s a b))%(At s a b).length,Ak (hiL (At s a b))/(At s a b).length,Ak (hiL (At s a b))%(At s a b).length⟩
theorem ansW_T (s:A3) (k:Nat) (a b:Int):O4 s k a b=aT (M8 s k a b):=by
 unfold O4 M8 aT
 split
 ·rfl
 ·split
  ·rfl
  ·split
   ·rfl
   ·split<;>rfl
def Dl.cells (t:Dl):List Value:=(aT t).toList
def J5 (l:List Dl):List Value:=l.flatMap Dl.cells
def Dk (s:A3) (k:Nat) (fr wd:Int) (n:Nat):List Dl:=(List.range n).map fun(i:Nat)=>M8 s k (fr+(i:Int)*wd) (fr+(i:Int)*wd+wd-1)
theorem Rh (s:A3) (k:Nat) (fr wd:Int) (n:Nat):Dk s k fr wd (n+1)=Dk s k fr wd n++ [M8 s k (fr+n*wd) (fr+n*wd+wd-1)]:=by
 unfold Dk
 rw[List.range_succ,List.map_append]
 rfl
theorem Sx (l:List Dl) (r:Dl):J5 (l++ [r])=J5 l++(aT r).toList:=by
 unfold J5
 rw[List.flatMap_append,List.flatMap_cons,List.flatMap_nil,List.append_nil]
 rfl
def AnsC (B:Nat) (r:Dl):Bg:=fun v w=>∃g,v= .slice (some ⟨g,0,none⟩) 1 1/\B<=g/\Blk w g (aT r) 67
theorem AnsC.closed (B:Nat) (r:Dl):A8 [] (AnsC B r):=fun _ _ _ hr ⟨g,e1,h1,h⟩=>⟨g,e1,h1,h.rex hr (by simp)⟩
theorem Tryz.infoAns :(Tryz.prog.info? 67).map (fun i=>(i.zero,i.size,i.bytes))=some (some (.agg #[.int .i64 0,.int .i64 0,.int .i64 0,.int .i64 0,.int .i64 0,.int .i64 0,.int .i64 0,.int .i64 0,.int .i64 0]),9,72):=by kernel_rfl
theorem ans_news {W:World} {g:Nat} {r:Dl} {t:TypeId} (h:Blk W g (aT r) t) {j:Nat} {u:Value} (hu: [Value.int .i64 r.er,r.n,r.x,r.y,r.m0,r.m1,r.m2,r.m3,r.m4][j]? =some u):W.cell? ((⟨g,0,none⟩:Addr).add j)=some u:=by
 have hadd:(⟨g,0,none⟩:Addr).add j=⟨g,j,none⟩:=by unfold Addr.add;split<;>simp_all
 rw[hadd,h.cell]
 unfold aT M9
 simpa using hu
def bkRel (w:World) (s:A3) (ps:Option Addr) (cs:Nat) (po:Option Addr) (co:Nat) (k:Nat) (fr wd:Int) (N gk gf gw gn gs:Nat) (a':Act) (W:World):Prop:=
 Below w.heap.size w W/\Blk W gk #[.int .i64 (k:Int)] 3/\Blk W gf #[fr] 2/\Blk W gw #[wd] 2/\Blk W gn #[.int .i64 (N:Int)] 3/\Blk W gs #[.string s.name,s.eps,s.floor,s.last,s.scale,.slice ps s.segs.length cs,.slice po s.opn.length co] 25/\
  ∃(i:Nat) (v:Value),(∃u:Nat->Value,a'= {tmps:= #[.pointer (some ⟨gk,0,none⟩),.pointer (some ⟨gf,0,none⟩),.pointer (some ⟨gw,0,none⟩),.pointer (some ⟨gn,0,none⟩),.pointer (some ⟨gs,0,none⟩),.slice none 0 0,.int .i64 0,v,u 8,u 9,u 10,u 11,u 12,u 13,u 14,u 15,u 16,u 17,u 18,u 19,u 20,u 21,u 22,u 23,u 24,u 25,u 26,u 27,u 28,u 29,u 30,u 31,u 32,u 33,u 34,u 35,u 36,.int .i64 (N:Int),.int .i64 (i:Int),u 39,u 40,u 41,u 42,u 43,u 44,u 45,u 46,u 47,u 48,u 49,u 50,u 51,u 52,u 53,u 54,u 55,u 56,u 57,u 58,u 59,u 60,u 61],defers:= []})/\Ca W w.heap.size 67 9 v i (J5 (Dk s k fr wd i))/\i<=N
theorem bk1_no (k fr wd nn:Int) (q:Bool) (gk gf gw gn gs:Nat) (s:A3) (ps:Option Addr) (cs:Nat) (po:Option Addr) (co:Nat) (w:World) (hq:Hid ((!q||decide (fr<0)||decide (281474976710656<fr)||decide (wd<1)||decide (281474976710656<wd)||decide (nn<1)||decide (64<nn))=true))
  (cK:∀W,Cb 80 #[k] W (.bool q))
  (b1:Blk w gk #[k] 3) (b2:Blk w gf #[fr] 2) (b3:Blk w gw #[wd] 2) (b4:Blk w gn #[nn] 3) (b5:Blk w gs #[.string s.name,s.eps,s.floor,s.last,s.scale,.slice ps s.segs.length cs,.slice po s.opn.length co] 25):
  Cb 88 #[.pointer (some ⟨gk,0,none⟩),.pointer (some ⟨gf,0,none⟩),.pointer (some ⟨gw,0,none⟩),.pointer (some ⟨gn,0,none⟩),.pointer (some ⟨gs,0,none⟩)] w (.tuple #[.slice none 0 0,.int .i64 2]):=by
 have y1:=b1.lt
 have y2:=b2.lt
 have y3:=b3.lt
 have y4:=b4.lt
 have y5:=b5.lt
 have H_cK:=Hd cK
 clear cK
 go_enter Tryz.func88,Tryz.ntmps88
 go_upto_region 1 with(fail)
 refine Ac w (Bc gk #[k] 3<|Bc gf #[fr] 2<|Bc gw #[wd] 2<|Bc gn #[nn] 3<|Bc gs #[.string s.name,s.eps,s.floor,s.last,s.scale,.slice ps s.segs.length cs,.slice po s.opn.length co] 25<|Bz) ?_
 clear b1 b2 b3 b4 b5
 rintro W1 hW z2 hL
 refine Ci 27 62 hW hL ?_
 refine dA ?_
 refine cA (fun W' hC=>H_cK.out W') ?_
 iterate 2 refine dA ?_
 iterate 2 refine gA ?_
 refine pO ?_
 refine dA ?_
 iterate 2 refine gA ?_
 refine pO ?_
 refine dA ?_
 iterate 2 refine gA ?_
 refine pO ?_
 refine dA ?_
 iterate 2 refine gA ?_
 refine pO ?_
 refine dA ?_
 iterate 2 refine gA ?_
 refine pO ?_
 refine dA ?_
 iterate 2 refine gA ?_
 refine pO ?_
 clear hW hL
 rintro W3 hW z4 hL
 simp only[ndR]
 intros
 repeat (rename Ap _ _ _ _=>hgd;clear hgd)
 simp only[ndS]
 refine wpList_nil ?_
 obtain⟨⟨b1,yb1,k1,f1⟩,⟨b2,yb2,k2,f2⟩,⟨b3,yb3,k3,f3⟩,⟨b4,yb4,k4,f4⟩,⟨b5,yb5,k5,f5⟩,-⟩:=hL
 have z5:=hW.size
 rw[hq.out]
 go_wp2
 refine bodyPost_ret (by simp[results,Tryz.results88,go_sem,k1,f1,k2,f2,k3,f3,k4,f4,k5,f5,yb1,yb2,yb3,yb4,yb5]) rfl ⟨rfl,by exact Aa⟩
theorem bk1_yes (k N:Nat) (fr wd:Int) (q:Bool) (gk gf gw gn gs:Nat) (s:A3) (ps:Option Addr) (cs:Nat) (po:Option Addr) (co:Nat) (w:World) (hk:1<=k/\k<=5) (hN:N<=64) (hf0:0<=fr) (hf1:fr<=281474976710656) (hw0:1<=wd) (hw1:wd<=281474976710656) (hin:A9 w s ps po) (hq:Hid ((!q||decide (fr<0)||decide (281474976710656<fr)||decide (wd<1)||decide (281474976710656<wd)||decide ((N:Int)<1)||decide (64<(N:Int)))=false))
  (cK:∀W,Cb 80 #[.int .i64 (k:Int)] W (.bool q))
  (b1:Blk w gk #[.int .i64 (k:Int)] 3) (b2:Blk w gf #[fr] 2) (b3:Blk w gw #[wd] 2) (b4:Blk w gn #[.int .i64 (N:Int)] 3) (b5:Blk w gs #[.string s.name,s.eps,s.floor,s.last,s.scale,.slice ps s.segs.length cs,.slice po s.opn.length co] 25):
  Calls Tryz.prog 88 #[.pointer (some ⟨gk,0,none⟩),.pointer (some ⟨gf,0,none⟩),.pointer (some ⟨gw,0,none⟩),.pointer (some ⟨gn,0,none⟩),.pointer (some ⟨gs,0,none⟩)] w fun e w'=>∃v,e= .returned (.tuple #[v,.int .i64 0])/\Ca w' w.heap.size 67 9 v N (J5 (Dk s k fr wd N))/\Below w.heap.size w w':=by
 obtain⟨i0,hi,hz0,hz1,hz2⟩:=info_parts Tryz.infoAns
 have y1:=b1.lt
 have y2:=b2.lt
 have y3:=b3.lt
 have y4:=b4.lt
 have y5:=b5.lt
 have H_cK:=Hd cK
 clear cK
 go_enter Tryz.func88,Tryz.ntmps88
 go_upto_region 1 with(fail)
 refine Ac w (Bc gk #[.int .i64 (k:Int)] 3<|Bc gf #[fr] 2<|Bc gw #[wd] 2<|Bc gn #[.int .i64 (N:Int)] 3<|Bc gs #[.string s.name,s.eps,s.floor,s.last,s.scale,.slice ps s.segs.length cs,.slice po s.opn.length co] 25<|Bz) ?_
 clear b1 b2 b3 b4 b5
 rintro W1 hW z2 hL
 refine Ci 27 62 hW hL ?_
 refine dA ?_
 refine cA (fun W' hC=>H_cK.out W') ?_
 iterate 2 refine dA ?_
 iterate 2 refine gA ?_
 refine pO ?_
 refine dA ?_
 iterate 2 refine gA ?_
 refine pO ?_
 refine dA ?_
 iterate 2 refine gA ?_
 refine pO ?_
 refine dA ?_
 iterate 2 refine gA ?_
 refine pO ?_
 refine dA ?_
 iterate 2 refine gA ?_
 refine pO ?_
 refine dA ?_
 iterate 2 refine gA ?_
 refine pO ?_
 clear hW hL
 rintro W3 hW z4 hL
 simp only[ndR]
 intros
 repeat (rename Ap _ _ _ _=>hgd;clear hgd)
 simp only[ndS]
 refine wpList_nil ?_
 obtain⟨⟨b1,yb1,k1,f1⟩,⟨b2,yb2,k2,f2⟩,⟨b3,yb3,k3,f3⟩,⟨b4,yb4,k4,f4⟩,⟨b5,yb5,k5,f5⟩,-⟩:=hL
 have z5:=hW.size
 rw[hq.out]
 clear H_cK
 go_wp2
 refine wp_loop (bkRel w s ps cs po co k fr wd N gk gf gw gn gs) (fun a' _=>N-(Aq (a'.tmps.getD 38 undef)).toNat) ?_ ?_
 ·unfold bkRel
  exact⟨hW,b1,b2,b3,b4,b5,0,.slice none 0 0,Ag rfl,Ca.nil _ _ _ _,by omega⟩
 rintro a' W ⟨hW0,b1,b2,b3,b4,b5,i,v,⟨u,rfl⟩,hown,hi'⟩
 have hz:=hW0.size
 have zb1:=b1.lt
 have zb2:=b2.lt
 have zb3:=b3.lt
 have zb4:=b4.lt
 have zb5:=b5.lt
 rcases Nat.lt_or_ge i N with hlt|hge
 ·have hM0:0<=(i:Int)*wd:=Int.mul_nonneg (by omega) (by omega)
  have hM1:(i:Int)*wd<=64*281474976710656:=Int.mul_le_mul (by omega) hw1 (by omega) (by omega)
  have hsc:=Hd (Rh s k fr wd i)
  obtain⟨M,hM⟩:∃M,(i:Int)*wd=M:=⟨_,rfl⟩
  rw[hM] at hM0 hM1 hsc
  have E1:=Hd (show wrap64 ((i:Int)*wd)=M by rw[hM,Ah];omega)
  clear hM
  obtain⟨F,hF⟩:∃F,fr+M=F:=⟨_,rfl⟩
  rw[hF] at hsc
  have E2:=Hd (show wrap64 (fr+M)=F by rw[<-hF,Ah];omega)
  obtain⟨G,hG⟩:∃G,F+wd=G:=⟨_,rfl⟩
  have E3:=Hd (show wrap64 (F+wd)=G by rw[<-hG,Ah];omega)
  obtain⟨Z,hZz⟩:∃Z,G-1=Z:=⟨_,rfl⟩
  have E4:=Hd (show wrap64 (G-1)=Z by rw[<-hZz,Ah];omega)
  rw[hG,hZz] at hsc
  have hZ: -9223372036854775808<=Z:=by omega
  clear hF hG hZz hM0 hM1
  obtain⟨r,hr⟩:∃r,M8 s k F Z=r:=⟨_,rfl⟩
  rw[hr] at hsc
  have hW9:=Hd (show O4 s k F Z=aT r by rw[<-hr];exact ansW_T s k F Z)
  have E1':=E1.out
  have E2':=E2.out
  have k1:=b1.cell
  have f1:=b1.frozen
  have k2:=b2.cell
  have f2:=b2.frozen
  have k3:=b3.cell
  have f3:=b3.frozen
  have k4:=b4.cell
  have f4:=b4.frozen
  have k5:=b5.cell
  have f5:=b5.frozen
  go_upto_region 8 with(fail)
  clear k1 f1 k2 f2 k3 f3 k4 f4 k5 f5
  refine Ac W (Bc gk #[.int .i64 (k:Int)] 3<|Bc gf #[fr] 2<|Bc gw #[wd] 2<|Bc gn #[.int .i64 (N:Int)] 3<|Bc gs #[.string s.name,s.eps,s.floor,s.last,s.scale,.slice ps s.segs.length cs,.slice po s.opn.length co] 25<|Rc (fun W'=>A9 W' s ps po)<|Bz) ?_ (hI:=by exact Aa) (hR:=(Bc.mk (by exact Ab)<|Bc.mk (by exact Ab)<|Bc.mk (by exact Ab)<|Bc.mk (by exact Ab)<|Bc.mk (by exact Ab)<|Rc.mk (by exact(hin.below hW0).below Aa)<|trivial))
  clear b1 b2 b3 b4 b5
  rintro W21 hW z22 hL
  obtain⟨⟨b1,yb1,k1,f1⟩,⟨b2,yb2,k2,f2⟩,⟨b3,yb3,k3,f3⟩,⟨b4,yb4,k4,f4⟩,⟨b5,yb5,k5,f5⟩,b6,-⟩:=id hL
  clear k1 f1 k2 f2 k3 f3 k4 f4 k5 f5
  refine Bh 13 62 hW hL ?_
  refine dE (fun W' hC=>aI E3.out E4.out) ?_
  apply F6 QsF (hg:=rfl) (hal:=rfl)
  ·exact QsF.closed
  ·intro a' W' hC hE
   refine⟨_,_,?_,(M0 W').mono ?_⟩
   ·simp[go_sem,Act.eval]
    try rfl
   ·rintro e w' ⟨v,rfl,hq,hB⟩
    exact⟨v,rfl,hB,hq⟩
  refine dE (fun W' hC=>aI E3.out E4.out) ?_
  apply Nf (Yy k) (hg:=rfl) (hal:=rfl)
  ·exact Yy.closed _
  ·intro a' W' hC hE
   simp at hE
   obtain⟨f,h1,h2⟩:=Sa hE.1 k hk
   refine⟨.agg #[f],?_,f,rfl,h2⟩
   simp[execOp,Act.eval,hE.2,h1]
  apply Nf (Mf k) (hg:=rfl) (hal:=rfl)
  ·exact Mf.closed _
  ·intro a' W' hC hE
   simp at hE
   obtain⟨f,h1,h2⟩:=hE
   refine⟨f,?_,h2⟩
   simp[go_sem,Act.eval,h1,Vt]
  iterate 6 refine dE (fun W' hC=>aI E3.out E4.out) ?_
  apply Jc (.agg (O4 s k F Z)) (hg:=rfl) (hal:=rfl)
  ·intro a' W' hC hE
   simp[Oper.looksAt,Op.operands,Call.operands,Al,Det,E2.out,E3.out,E4.out] at hE
   obtain⟨f,cap,h1,h2,h3⟩:=Ti hE.1 s ps po cs co F Z hC.2.2.2.2.2.2.1 hZ
   unfold Cd at h3
   refine⟨f,_,?_,h3⟩
   simp[go_sem,Act.eval,hE,h1,h2]
  apply Ue (AnsC W21.heap.size r) (hg:=rfl) (hal:=rfl)
  ·exact AnsC.closed _ _
  ·intro a' W' hC hE
   simp at hE
   refine⟨.slice (some ⟨W'.heap.size,0,none⟩) 1 1,W'.alloc (.cells (aT r) 67),?_,(Below.refl _ _).alloc (Nat.le_refl _) _,W'.heap.size,rfl,hC.1.size,Blk.new' rfl⟩
   rw[hW9.out] at hE
   unfold aT M9 at hE⊢
   simp[go_sem,execOp,Act.eval,hE]
   try rfl
   done
  clear hW hL b1 b2 b3 b4 b5 b6
  rintro W23 hW z24 hL
  simp only[ndR]
  intros
  simp only[ndS]
  obtain⟨⟨b1,yb1,k1,f1⟩,⟨b2,yb2,k2,f2⟩,⟨b3,yb3,k3,f3⟩,⟨b4,yb4,k4,f4⟩,⟨b5,yb5,k5,f5⟩,b6,-⟩:=hL
  rename AnsC _ _ _ _=>ho
  obtain⟨g1,rfl,hg1,bg⟩:=ho
  have y9:=bg.lt
  have hV1:=hW0.trans (hW.mono hz)
  have hO:=hown.below hW
  clear hown hW
  have zz:=hV1.size
  have hlo:=fun g e=>hO.own.lt g e
  go_wp2_with (at_builtin;refine Kh rfl (.tmp 46) (.tmp 58) 80 rfl w.heap.size 67 i0 (.agg #[.int .i64 0,.int .i64 0,.int .i64 0,.int .i64 0,.int .i64 0,.int .i64 0,.int .i64 0,.int .i64 0,.int .i64 0]) 9 72 (by kernel_rfl) hi hz0 hz1 hz2 rfl (by decide) _ _ _ rfl hO.own ⟨g1,0,none⟩ 1 1 [r.er,r.n,r.x,r.y,r.m0,r.m1,r.m2,r.m3,r.m4] rfl rfl (fun j u hu=>ans_news bg hu) (by simp[Value.oneCell']) (by simp[maxLen];omega) (by omega) (by omega) ?_)
  intro v' w9 hown2 hgr hst
  have hB:=Hd (Mt hV1 (by omega) hgr (fun g e=>(hlo g e).1))
  have d1:=b1.grown0 hO.own (by decide) hgr
  have d2:=b2.grown0 hO.own (by decide) hgr
  have d3:=b3.grown0 hO.own (by decide) hgr
  have d4:=b4.grown0 hO.own (by decide) hgr
  have d5:=b5.grown0 hO.own (by decide) hgr
  replace hown2:=Hd hown2
  clear hgr hst hO hlo b1 b2 b3 b4 b5 bg
  go_wp2
  rw[show (i:Int)+1=((i+1:Nat):Int) by omega]
  refine⟨?_,by simp[Aq];omega⟩
  exact⟨hB.out,d1,d2,d3,d4,d5,i+1,v',Ag rfl,⟨N3 hown2.out rfl (by rw[hsc.out,Sx];rfl)⟩,by omega⟩
 ·obtain rfl:i=N:=by omega
  go_wp2
  refine bodyPost_ret (v:= .tuple #[v,.int .i64 0]) (by simp[results,Tryz.results88,go_sem]) rfl ⟨v,rfl,hown,hW0⟩
end Go.Proofs.YtidfcoooccblaaaGreat
namespace Go.Proofs.YtidfcoooccblaaaGreat
open Go.RowKit
def eqBackRel (w:World) (p:Option Addr) (cap:Nat) (p':Option Addr) (cap':Nat) (A B:List Af) (a':Act) (W:World):Prop:=
 Below w.heap.size w W/\∃(i:Nat),(∃u:Nat->Value,a'= {tmps:= #[.slice p A.length cap,.slice p' A.length cap',u 2,u 3,.bool false,u 5,u 6,u 7,u 8,u 9,u 10,u 11,.int .i64 (A.length:Int),.int .i64 (i:Int),u 14,u 15,u 16,u 17,u 18,u 19,u 20,u 21,u 22,u 23,u 24,u 25],defers:= []})/\i<=A.length/\∀k,k<i->A[k]? =B[k]?
structure Cm (w:World) (p:Option Addr) (l:List Dl):Prop where
 at':∀(i:Nat) (r:Dl),l[i]? =some r->∃b o,p=some ⟨b,o,none⟩/\∀j v,r.cells[j]? =some v->w.cell? ⟨b,o+i*9+j,none⟩=some v
theorem Cm.below {w w':World} {p:Option Addr} {l:List Dl} (h:Cm w p l) (hb:Below w.heap.size w w'):Cm w' p l:=⟨fun i r hr=>by
 obtain⟨b,o,e,h1⟩:=h.at' i r hr
 exact⟨b,o,e,fun j v hv=>(hb.cell (p:=⟨b,_,none⟩) (Br (h1 j v hv))).trans (h1 j v hv)⟩⟩
theorem Cm.drew {w:World} {p:Option Addr} {l:List Dl} (h:Cm w p l):Cm w.drew p l:=⟨h.at'⟩
theorem Cm.rex {L:List Nat} {w w':World} {p:Option Addr} {l:List Dl} (h:Cm w p l) (hr:Rex L w w') (hL:L= []):Cm w' p l:=by subst hL;exact h.below hr.below
theorem Cm.nil (w:World) (p:Option Addr):Cm w p []:=⟨fun i r hr=>by simp at hr⟩
structure Nc (w:World) (b o:Nat) (l:List Dl):Prop where
 ans:Cm w (some ⟨b,o,none⟩) l
theorem Nc.below {w w':World} {b o:Nat} {l:List Dl} (h:Nc w b o l) (hb:Below w.heap.size w w'):Nc w' b o l:=⟨h.ans.below hb⟩
theorem Nc.rex {L:List Nat} {w w':World} {b o:Nat} {l:List Dl} (h:Nc w b o l) (hr:Rex L w w') (hL:L= []):Nc w' b o l:=by subst hL;exact h.below hr.below
theorem Nc.drew {w:World} {b o:Nat} {l:List Dl} (h:Nc w b o l):Nc w.drew b o l:=⟨⟨h.ans.at'⟩⟩
theorem Nc.cellAt {w:World} {b o:Nat} {l:List Dl} (h:Nc w b o l) {i:Nat} {r:Dl} (hx:l[i]? =some r):
  w.cell? ⟨b,o+i*9,none⟩=some (r.er)/\w.cell? ⟨b,o+i*9+1,none⟩=some (r.n)/\w.cell? ⟨b,o+i*9+2,none⟩=some (r.x)/\w.cell? ⟨b,o+i*9+3,none⟩=some (r.y)/\
  w.cell? ⟨b,o+i*9+4,none⟩=some (r.m0)/\w.cell? ⟨b,o+i*9+5,none⟩=some (r.m1)/\w.cell? ⟨b,o+i*9+6,none⟩=some (r.m2)/\w.cell? ⟨b,o+i*9+7,none⟩=some (r.m3)/\w.cell? ⟨b,o+i*9+8,none⟩=some (r.m4):=by
 obtain⟨b',o',e,h1⟩:=h.ans.at' i r hx
 cases e
 exact⟨h1 0 _ rfl,h1 1 _ rfl,h1 2 _ rfl,h1 3 _ rfl,h1 4 _ rfl,h1 5 _ rfl,h1 6 _ rfl,h1 7 _ rfl,h1 8 _ rfl⟩
theorem ans_len (r:Dl):r.cells.length=9:=rfl
theorem Ca.ans {W:World} {B n:Nat} {e:TypeId} {p:Option Addr} {cap:Nat} {l:List Dl} (h:Ca W B e 9 (.slice p n cap) n (J5 l)) (hl:l.length=n):Cm W p l:=by
 rcases h.own.2 with⟨h1,h0⟩|⟨g,cap',cur,h1,hg,hb,hn,hmx,_,ht⟩
 ·have:l= []:=List.length_eq_zero_iff.1 (by omega)
  subst this
  exact Cm.nil _ _
 ·injection h1 with h2 _ _
  subst h2
  refine⟨fun i r hr=>⟨g,0,rfl,fun j v hv=> ?_⟩⟩
  have h3:=Qt Dl.cells 9 ans_len l i r j v hr hv
  rw[cell_of_row W g _ cur e (0,0) hb,Nat.zero_add]
  exact Ee ht h3
def Hn (L:List Dl) (er:Int) (w:World) (e:Ending) (w':World):Prop:=
 ∃p k,e= .returned (.tuple #[.slice p L.length k,er])/\Cm w' p L/\Below w.heap.size w w'
theorem Wl (nm:ByteArray) (ep fl la sc:Int) (ps po:Option Addr) (ns cs no co:Nat) (gk gf gw gn gs:Nat) (w:World)
  (c1:∀W,Below w.heap.size w W->Cb 14 #[.agg #[.string nm,ep,fl,la,sc,.slice ps ns cs,.slice po no co]] W (.int .i64 340)):
  Calls Tryz.prog 87 #[.agg #[.string nm,ep,fl,la,sc,.slice ps ns cs,.slice po no co],.func (.func 88) #[] #[.pointer (some ⟨gk,0,none⟩),.pointer (some ⟨gf,0,none⟩),.pointer (some ⟨gw,0,none⟩),.pointer (some ⟨gn,0,none⟩),.pointer (some ⟨gs,0,none⟩)]] w (Hn [] 340 w):=by
 have H_c1:=Hd c1
 clear c1
 go_enter Tryz.func87,Tryz.ntmps87
 go_wp2_with fail
 refine(H_c1.out _ Aa).mono ?_
 rintro e w1 ⟨rfl,hb1⟩
 have z2:=hb1.size
 try simp at z2
 refine Ad w w1 (Bc w.heap.size #[.string nm,ep,fl,la,sc,.slice ps ns cs,.slice po no co] 25<|Bz) ?_
 rintro hW z3 ⟨⟨b1,yb1,k1,f1⟩,-⟩
 clear hb1
 go_wp2
 refine bodyPost_ret (v:= .tuple #[.slice none 0 0,.int .i64 340]) (by simp[results,Tryz.results87,go_sem]) rfl ⟨none,0,rfl,Cm.nil _ _,Aa⟩
theorem Y5 (nm:ByteArray) (ep fl la sc:Int) (ps po:Option Addr) (ns cs no co:Nat) (gk gf gw gn gs:Nat) (L:List Dl) (er:Int) (w:World)
  (c1:∀W,Below w.heap.size w W->Cb 14 #[.agg #[.string nm,ep,fl,la,sc,.slice ps ns cs,.slice po no co]] W (.int .i64 0))
  (c2:∀W,Below w.heap.size w W->Calls Tryz.prog 88 #[.pointer (some ⟨gk,0,none⟩),.pointer (some ⟨gf,0,none⟩),.pointer (some ⟨gw,0,none⟩),.pointer (some ⟨gn,0,none⟩),.pointer (some ⟨gs,0,none⟩)] W (Hn L er W)):
  Calls Tryz.prog 87 #[.agg #[.string nm,ep,fl,la,sc,.slice ps ns cs,.slice po no co],.func (.func 88) #[] #[.pointer (some ⟨gk,0,none⟩),.pointer (some ⟨gf,0,none⟩),.pointer (some ⟨gw,0,none⟩),.pointer (some ⟨gn,0,none⟩),.pointer (some ⟨gs,0,none⟩)]] w (Hn L er w):=by
 have H_c1:=Hd c1
 clear c1
 have H_c2:=Hd c2
 clear c2
 go_enter Tryz.func87,Tryz.ntmps87
 go_wp2_with fail
 refine(H_c1.out _ Aa).mono ?_
 rintro e w1 ⟨rfl,hb1⟩
 have z2:=hb1.size
 try simp at z2
 refine Ad w w1 (Bc w.heap.size #[.string nm,ep,fl,la,sc,.slice ps ns cs,.slice po no co] 25<|Bz) ?_
 rintro hW z3 ⟨⟨b1,yb1,k1,f1⟩,-⟩
 clear hb1
 go_wp2_with fail
 refine(H_c2.out _ Aa).mono ?_
 rintro e w4 ⟨p,k,rfl,hR,hb4⟩
 have z5:=hb4.size
 try simp at z5
 clear k1 f1
 refine Ad w w4 (Bc w.heap.size #[.string nm,ep,fl,la,sc,.slice ps ns cs,.slice po no co] 25<|Bz) ?_
 clear b1 hW
 rintro hW z6 ⟨⟨b1,yb1,k1,f1⟩,-⟩
 replace hR:=Hd hR
 go_wp2
 refine bodyPost_ret (v:= .tuple #[.slice p L.length k,er]) (by simp[results,Tryz.results87,go_sem]) rfl ⟨p,k,rfl,hR.out,Aa⟩
theorem Yn (nm:ByteArray) (ep fl la sc:Int) (ps po:Option Addr) (ns cs no co:Nat) (k fr wd nn:Int) (L:List Dl) (er:Int) (w:World)
  (c1:∀W,Below w.heap.size w W->Blk W w.heap.size #[.string nm,ep,fl,la,sc,.slice ps ns cs,.slice po no co] 25->Blk W (w.heap.size+1) #[k] 3->Blk W (w.heap.size+1+1) #[fr] 2->Blk W (w.heap.size+1+1+1) #[wd] 2->Blk W (w.heap.size+1+1+1+1) #[nn] 3->Calls Tryz.prog 87 #[.agg #[.string nm,ep,fl,la,sc,.slice ps ns cs,.slice po no co],.func (.func 88) #[] #[.pointer (some ⟨w.heap.size+1,0,none⟩),.pointer (some ⟨w.heap.size+1+1,0,none⟩),.pointer (some ⟨w.heap.size+1+1+1,0,none⟩),.pointer (some ⟨w.heap.size+1+1+1+1,0,none⟩),.pointer (some ⟨w.heap.size,0,none⟩)]] W (Hn L er W)):
  Calls Tryz.prog 38 #[.agg #[.string nm,ep,fl,la,sc,.slice ps ns cs,.slice po no co],k,fr,wd,nn] w (Hn L er w):=by
 have H_c1:=Hd c1
 clear c1
 go_enter Tryz.func38,Tryz.ntmps38
 have hmf:∀(fn:Fn) (first cap:Array Value) (w:World),(Instr.makeFunc fn first cap).run Tryz.prog w= .ok (.func fn first cap) w:=fun _ _ _ _=>rfl
 go_upto_region 1 with(fail)
 refine Ac w (Bc w.heap.size #[.string nm,ep,fl,la,sc,.slice ps ns cs,.slice po no co] 25<|Bc (w.heap.size+1) #[k] 3<|Bc (w.heap.size+1+1) #[fr] 2<|Bc (w.heap.size+1+1+1) #[wd] 2<|Bc (w.heap.size+1+1+1+1) #[nn] 3<|Bz) ?_
 rintro W1 hW z2 ⟨⟨b1,yb1,k1,f1⟩,⟨b2,yb2,k2,f2⟩,⟨b3,yb3,k3,f3⟩,⟨b4,yb4,k4,f4⟩,⟨b5,yb5,k5,f5⟩,-⟩
 go_wp2_with fail
 refine(H_c1.out W1 hW b1 b2 b3 b4 b5).mono ?_
 rintro e w3 ⟨p,kk,rfl,hR,hb3⟩
 have z4:=hb3.size
 try simp at z4
 clear k1 f1 k2 f2 k3 f3 k4 f4 k5 f5
 refine Ad w w3 (Bc w.heap.size #[.string nm,ep,fl,la,sc,.slice ps ns cs,.slice po no co] 25<|Bc (w.heap.size+1) #[k] 3<|Bc (w.heap.size+1+1) #[fr] 2<|Bc (w.heap.size+1+1+1) #[wd] 2<|Bc (w.heap.size+1+1+1+1) #[nn] 3<|Bz) ?_
 clear b1 b2 b3 b4 b5 hW
 rintro hW z5 ⟨⟨b1,yb1,k1,f1⟩,⟨b2,yb2,k2,f2⟩,⟨b3,yb3,k3,f3⟩,⟨b4,yb4,k4,f4⟩,⟨b5,yb5,k5,f5⟩,-⟩
 replace hR:=Hd hR
 go_wp2
 refine bodyPost_ret (v:= .tuple #[.slice p L.length kk,er]) (by simp[results,Tryz.results38,go_sem]) rfl ⟨p,kk,rfl,hR.out,Aa⟩
def Gl (k fr wd nn:Int):Bool:=decide (1<=k/\k<=5/\0<=fr/\fr<=281474976710656/\1<=wd/\wd<=281474976710656/\1<=nn/\nn<=64)
def bkL (s:A3) (k fr wd nn:Int):List Dl:=if Bv s&&Gl k fr wd nn then Dk s k.toNat fr wd nn.toNat else []
def bkE (s:A3) (k fr wd nn:Int):Int:=if Bv s then (if Gl k fr wd nn then 0 else 2) else 340
theorem Tb (s:A3) (k:Nat) (fr wd:Int) (n:Nat):(Dk s k fr wd n).length=n:=by unfold Dk;simp
theorem Ge (s:A3) (ps po:Option Addr) (cs co:Nat) (k fr wd nn:Int) (w:World) (hin:A9 w s ps po):
  Calls Tryz.prog 38 #[.agg (Cd s ps cs po co),k,fr,wd,nn] w (Hn (bkL s k fr wd nn) (bkE s k fr wd nn) w):=by
 unfold Cd
 refine Yn _ _ _ _ _ _ _ _ _ _ _ k fr wd nn _ _ w fun W hW b1 b2 b3 b4 b5=> ?_
 have hin':=hin.below hW
 have ck:=Gv s ps po cs co
 unfold Cd Du at ck
 unfold bkL bkE
 cases hc:Bv s with
 |false=>
  rw[hc] at ck
  exact Wl s.name s.eps s.floor s.last s.scale ps po s.segs.length cs s.opn.length co _ _ _ _ _ W (fun W' hW'=>ck W' (hin'.below hW'))
 |true=>
  rw[hc] at ck
  simp only[if_true,Bool.true_and]
  refine Y5 s.name s.eps s.floor s.last s.scale ps po s.segs.length cs s.opn.length co _ _ _ _ _ _ _ W (fun W' hW'=>ck W' (hin'.below hW')) fun W' hW'=> ?_
  cases ha:Gl k fr wd nn with
  |false=>
   unfold Gl at ha
   have ha:=of_decide_eq_false ha
   refine(bk1_no k fr wd nn _ _ _ _ _ _ s ps cs po co W' (Hd ?_) (fun W2=>Nk k W2) (b2.below hW') (b3.below hW') (b4.below hW') (b5.below hW') (b1.below hW')).mono ?_
   ·simp only[Bool.or_eq_true,Bool.not_eq_true',Bool.and_eq_false_iff,decide_eq_true_eq,decide_eq_false_iff_not]
    omega
   ·rintro e w' ⟨rfl,hB⟩
    exact⟨none,0,rfl,Cm.nil _ _,hB⟩
  |true=>
   unfold Gl at ha
   have ha:=of_decide_eq_true ha
   obtain⟨j,rfl⟩:∃j:Nat,k=(j:Int):=⟨k.toNat,by omega⟩
   obtain⟨m,rfl⟩:∃m:Nat,nn=(m:Int):=⟨nn.toNat,by omega⟩
   rw[show ((j:Int).toNat)=j from rfl,show ((m:Int).toNat)=m from rfl]
   refine(bk1_yes j m fr wd _ _ _ _ _ _ s ps cs po co W' (by omega) (by omega) (by omega) (by omega) (by omega) (by omega) (hin'.below hW') (Hd ?_) (fun W2=>Nk (j:Int) W2) (b2.below hW') (b3.below hW') (b4.below hW') (b5.below hW') (b1.below hW')).mono ?_
   ·simp only[Bool.or_eq_false_iff,Bool.not_eq_false',Bool.and_eq_true,decide_eq_true_eq,decide_eq_false_iff_not]
    omega
   ·rintro e w' ⟨v,rfl,hO,hB⟩
    obtain⟨p,cap,rfl,-⟩:=hO.form
    have hl:=Tb s j fr wd m
    have hA:=hO.ans hl
    rw[if_pos rfl,if_pos rfl]
    exact⟨p,cap,by rw[hl],hA,hB⟩
def bI (s:A3) (fr wd:Int) (i:Nat):List (Int×Int):=Dx s (fr+(i:Int)*wd) (fr+(i:Int)*wd+wd-1)
def bLs (s:A3) (fr wd:Int) (n:Nat):List (List (Int×Int)):=(List.range n).map (bI s fr wd)
def neB (l:List (Int×Int)):Bool:= !l.isEmpty
def D5 (k:Nat) (l:List (Int×Int)):Dl:=
 if k=1 then ⟨0,l.length,0,0,0,0,0,0,0⟩
 else if k=2 then ⟨if l= [] then 9 else 0,0,Aw (loL l),Aw (hiL l),0,0,0,0,0⟩
 else if k=3 then ⟨if l= [] then 9 else 0,0,Ay (loL l),Ay (hiL l),0,0,0,0,0⟩
 else if k=4 then ⟨R2 l (if l= [] then 9 else 0),0,sl l,sh l,0,0,0,0,0⟩
 else ⟨if l= [] then 9 else 0,0,0,0,l.length,Ak (loL l)/l.length,Ak (loL l)%l.length,Ak (hiL l)/l.length,Ak (hiL l)%l.length⟩
theorem ansT_K {s:A3} (hc:Bv s=true) (k:Nat) (a b:Int):M8 s k a b=D5 k (Dx s a b):=by
 have e1:At s a b=Dx s a b:=by simp[At,hc]
 have e2:Cg s a b=if Dx s a b= [] then 9 else 0:=by unfold Cg;rw[if_pos hc];simp only[Hv]
 unfold M8 D5
 rw[e1,e2]
 by_cases h:Dx s a b= []<;>simp[h]
theorem Yo {s:A3} (hc:Bv s=true) (k:Nat) (fr wd:Int) (n:Nat):Dk s k fr wd n=(bLs s fr wd n).map (D5 k):=by
 unfold Dk bLs
 rw[List.map_map]
 exact List.map_congr_left fun i _=>ansT_K hc k _ _
def spsK (k:Nat) (ls:List (List (Int×Int))):List (Int×Int):=(ls.filter fun l=>decide ((D5 k l).er=0)).map fun l=>((D5 k l).x,(D5 k l).y)
def ovK (k:Nat) (ls:List (List (Int×Int))):Bool:=ls.any fun l=>decide ((D5 k l).er=5)
def cntK (ls:List (List (Int×Int))):Int:=Ak (ls.map fun l=>((l.length:Nat):Int))
theorem all_nil (k:Nat):k≠1->D5 k []=⟨9,0,0,0,0,0,0,0,0⟩:=by
 intro h
 unfold D5
 rw[if_neg h]
 have e1:loL ([]:List (Int×Int))= []:=rfl
 have e2:hiL ([]:List (Int×Int))= []:=rfl
 split
 ·rw[e1,e2];rfl
 ·split
  ·rw[e1,e2];rfl
  ·split
   ·unfold R2 sl sh;rw[e1,e2];rfl
   ·rw[e1,e2];rfl
def Gm:List Int->List (Int×Int)->Prop
 | [],[]=>True
 |r::rs,x::l=>(x.1-x.2<=r/\r<=x.1+x.2)/\Gm rs l
 |_,_=>False
theorem Gm.len :∀ {r:List Int} {l:List (Int×Int)},Gm r l->r.length=l.length
 | [],[],_=>rfl
 |_::_,_::_,h=>by simp only[List.length_cons,Gm.len h.2]
 | [],_::_,h=>h.elim
 |_::_,[],h=>h.elim
theorem Gm.sum :∀ {r:List Int} {l:List (Int×Int)},Gm r l->Ak (loL l)<=Ak r/\Ak r<=Ak (hiL l)
 | [],[],_=>⟨Int.le_refl _,Int.le_refl _⟩
 |v::r,x::l,h=>by
  have h1:=Gm.sum h.2
  have h2:=h.1
  show x.1-x.2+Ak (loL l)<=v+Ak r/\v+Ak r<=x.1+x.2+Ak (hiL l)
  omega
 | [],_::_,h=>h.elim
 |_::_,[],h=>h.elim
theorem Gm.of_told :∀ {r:List Int} {l:List (Int×Int)},Gm r l->∀x,x∈l->∃v,v∈r/\x.1-x.2<=v/\v<=x.1+x.2
 | [],[],_,x,hx=>by cases hx
 |v::r,y::l,h,x,hx=>by
  rcases List.mem_cons.1 hx with rfl|hx
  ·exact⟨v,List.mem_cons_self ..,h.1⟩
  ·obtain⟨u,hu,e⟩:=Gm.of_told h.2 x hx
   exact⟨u,List.mem_cons_of_mem _ hu,e⟩
 | [],_::_,h,_,_=>h.elim
 |_::_,[],h,_,_=>h.elim
theorem Gm.of_read :∀ {r:List Int} {l:List (Int×Int)},Gm r l->∀v,v∈r->∃x,x∈l/\x.1-x.2<=v/\v<=x.1+x.2
 | [],[],_,x,hx=>by cases hx
 |v::r,y::l,h,x,hx=>by
  rcases List.mem_cons.1 hx with rfl|hx
  ·exact⟨y,List.mem_cons_self ..,h.1⟩
  ·obtain⟨u,hu,e⟩:=Gm.of_read h.2 x hx
   exact⟨u,List.mem_cons_of_mem _ hu,e⟩
 | [],_::_,h,_,_=>h.elim
 |_::_,[],h,_,_=>h.elim
theorem Gm.min {r:List Int} {l:List (Int×Int)} (h:Gm r l) (hl:l≠ []):Aw (loL l)<=Aw r/\Aw r<=Aw (hiL l):=by
 have hr:r≠ []:=fun e=>by have:=h.len;rw[e] at this;exact hl (List.length_eq_zero_iff.1 this.symm)
 constructor
 ·obtain⟨x,hx,e1,e2⟩:=h.of_read _ (C8 hr).1
  have:=(C8 (Je hl)).2 (x.1-x.2) (List.mem_map.2 ⟨x,hx,rfl⟩)
  omega
 ·obtain⟨x,hx,e⟩:=List.mem_map.1 (C8 (Jf hl)).1
  obtain⟨v,hv,e1,e2⟩:=h.of_told x hx
  have:=(C8 hr).2 v hv
  rw[<-e]
  omega
theorem Gm.max {r:List Int} {l:List (Int×Int)} (h:Gm r l) (hl:l≠ []):Ay (loL l)<=Ay r/\Ay r<=Ay (hiL l):=by
 have hr:r≠ []:=fun e=>by have:=h.len;rw[e] at this;exact hl (List.length_eq_zero_iff.1 this.symm)
 constructor
 ·obtain⟨x,hx,e⟩:=List.mem_map.1 (C9 (Je hl)).1
  obtain⟨v,hv,e1,e2⟩:=h.of_told x hx
  have:=(C9 hr).2 v hv
  rw[<-e]
  omega
 ·obtain⟨x,hx,e1,e2⟩:=h.of_read _ (C9 hr).1
  have:=(C9 (Jf hl)).2 (x.1+x.2) (List.mem_map.2 ⟨x,hx,rfl⟩)
  omega
theorem Y1 {l:List (Int×Int)} {e:Int} (h:∀x,x∈l->x.2<=e) (hl:l≠ []):Aw (hiL l)-Aw (loL l)<=2*e:=by
 obtain⟨x,hx,ex⟩:=List.mem_map.1 (C8 (Je hl)).1
 have h1:=(C8 (Jf hl)).2 (x.1+x.2) (List.mem_map.2 ⟨x,hx,rfl⟩)
 have h2:=h x hx
 rw[<-ex]
 omega
theorem Y2 {l:List (Int×Int)} {e:Int} (h:∀x,x∈l->x.2<=e) (hl:l≠ []):Ay (hiL l)-Ay (loL l)<=2*e:=by
 obtain⟨x,hx,ex⟩:=List.mem_map.1 (C9 (Jf hl)).1
 have h1:=(C9 (Je hl)).2 (x.1-x.2) (List.mem_map.2 ⟨x,hx,rfl⟩)
 have h2:=h x hx
 rw[<-ex]
 omega
theorem Rr :∀ {l:List (Int×Int)} {e:Int},(∀x,x∈l->x.2<=e)->Ak (hiL l)-Ak (loL l)<=2*e*l.length
 | [],e,_=>by show (0:Int)-0<=_;simp
 |x::l,e,h=>by
  have h1:=Rr (l:=l) (e:=e) fun y hy=>h y (List.mem_cons_of_mem _ hy)
  have h2:=h x (List.mem_cons_self ..)
  have h3:(((x::l).length:Nat):Int)=(l.length:Int)+1:=by simp
  rw[h3,Int.mul_add]
  show x.1+x.2+Ak (hiL l)-(x.1-x.2+Ak (loL l))<=_
  omega
def Dy (x:A4):List (Int×Int×Int):=(B2 x).map fun p=>(p.1,p.2,x.E)
def Lz (l:List (Int×Int)):List (Int×Int×Int):=l.map fun p=>(p.1,p.2,0)
def En (s:A3):List (Int×Int×Int):=s.segs.flatMap Dy++Lz s.opn
def selA (a b:Int) (x:Int×Int×Int):Bool:=decide (a<=x.1)&&decide (x.1<=b)
theorem Ru (s:A3) (a b:Int):Mh s a b=(En s).filter (selA (mx a s.floor) b):=by
 unfold Mh En
 rw[List.filter_append,List.filter_flatMap]
 congr 1
 ·congr 1
  funext x
  unfold R6 Dy
  rw[List.filter_map]
  congr 1
 ·unfold Vz Lz
  rw[List.filter_map]
  congr 1
def rd1 (by_:List Int) (j:Nat) (x:Int×Int×Int):Int×Int:=(x.1,match by_[j]? with|some d=>x.2.1+d.tmod (x.2.2+1)|none=>x.2.1)
def rdG (by_:List Int):Nat->List (Int×Int×Int)->List (Int×Int)
 |_,[]=> []
 |j,x::l=>rd1 by_ j x::rdG by_ (j+1) l
theorem Nd (by_:List Int):∀(l:List (Int×Int×Int)) (j:Nat),(rdG by_ j l).length=l.length
 | [],_=>rfl
 |x::l,j=>by simp only[rdG,List.length_cons,Nd by_ l]
theorem Nz (by_:List Int) (x:Int×Int×Int):∀(l:List (Int×Int×Int)) (j:Nat),rdG by_ j (l++ [x])=rdG by_ j l++ [rd1 by_ (j+l.length) x]
 | [],j=>by simp[rdG]
 |y::l,j=>by
  simp only[List.cons_append,rdG,Nz by_ x l,List.length_cons]
  rw[show j+1+l.length=j+(l.length+1) by omega]
theorem P0 {d e:Int} (he:0<=e): -e<=d.tmod (e+1)/\d.tmod (e+1)<=e:=by
 rcases Int.le_total 0 d with h|h
 ·rw[Int.tmod_eq_emod_of_nonneg h]
  have h1:=Int.emod_nonneg d (b:=e+1) (by omega)
  have h2:=Int.emod_lt_of_pos d (b:=e+1) (by omega)
  omega
 ·have e1:d.tmod (e+1)= -((-d).tmod (e+1)):=by rw[Int.neg_tmod,Int.neg_neg]
  rw[e1,Int.tmod_eq_emod_of_nonneg (a:= -d) (by omega)]
  have h1:=Int.emod_nonneg (-d) (b:=e+1) (by omega)
  have h2:=Int.emod_lt_of_pos (-d) (b:=e+1) (by omega)
  omega
theorem R9 (by_:List Int) (j:Nat) {x:Int×Int×Int} (h:0<=x.2.2):x.2.1-x.2.2<=(rd1 by_ j x).2/\(rd1 by_ j x).2<=x.2.1+x.2.2:=by
 unfold rd1
 cases by_[j]? with
 |none=>simp only;omega
 |some d=>have:=P0 (d:=d) h;simp only;omega
theorem Vq (by_:List Int) (p:Int->Bool):∀(l:List (Int×Int×Int)) (j:Nat),(∀x,x∈l->0<=x.2.2)->Gm (((rdG by_ j l).filter fun q=>p q.1).map (·.2)) ((l.filter fun x=>p x.1).map (·.2))
 | [],_,_=>trivial
 |x::l,j,h=>by
  have ih:=Vq by_ p l (j+1) fun y hy=>h y (List.mem_cons_of_mem _ hy)
  have h1:=R9 by_ j (h x (List.mem_cons_self ..))
  have e:(rd1 by_ j x).1=x.1:=rfl
  simp only[rdG,List.filter_cons,e]
  by_cases hp:p x.1=true
  ·rw[if_pos hp,if_pos hp]
   exact⟨h1,ih⟩
  ·rw[if_neg hp,if_neg hp]
   exact ih
def Jm (s:A3) (i:Nat) (x:A4) (k:Nat):List (Int×Int×Int):=(s.segs.take i).flatMap Dy++((B2 x).take k).map fun p=>(p.1,p.2,x.E)
theorem Yq {s:A3} {i:Nat} {x:A4} {k:Nat} {q:Int×Int} (h:(B2 x)[k]? =some q):Jm s i x (k+1)=Jm s i x k++ [(q.1,q.2,x.E)]:=by
 unfold Jm
 rw[List.take_add_one,h,List.map_append,<-List.append_assoc]
 rfl
theorem Yp (s:A3) (i:Nat) (x:A4):Jm s i x 0=(s.segs.take i).flatMap Dy:=by unfold Jm;simp
theorem Td {s:A3} {i:Nat} {x:A4} (h:s.segs[i]? =some x):Jm s i x (B2 x).length=(s.segs.take (i+1)).flatMap Dy:=by
 unfold Jm
 rw[List.take_length,List.take_add_one,h,List.flatMap_append]
 simp[Dy]
theorem Pr (s:A3) (i:Nat):((s.segs.take i).flatMap Dy).length<=(En s).length:=by
 have h:s.segs.flatMap Dy=(s.segs.take i).flatMap Dy++(s.segs.drop i).flatMap Dy:=by rw[<-List.flatMap_append,List.take_append_drop]
 unfold En
 rw[List.length_append,h,List.length_append]
 omega
theorem bkAt_few {s:A3} {i:Nat} {x:A4} (h:s.segs[i]? =some x) {j:Nat} (hj:j<=(B2 x).length):(Jm s i x j).length<=(En s).length:=by
 have h1:=Pr s (i+1)
 rw[<-Td h] at h1
 refine Nat.le_trans ?_ h1
 unfold Jm
 simp only[List.length_append,List.length_map,List.length_take]
 omega
theorem rd1_off {by_:List Int} {j:Nat} (h:by_.length<=j) (t v e:Int):rd1 by_ j (t,v,e)=(t,v):=by
 unfold rd1
 rw[List.getElem?_eq_none h]
theorem rd1_on {by_:List Int} {j:Nat} {d:Int} (h:by_[j]? =some d) (t v e:Int):rd1 by_ j (t,v,e)=(t,v+d.tmod (e+1)):=by
 unfold rd1
 rw[h]
theorem Vr (by_:List Int):∀(m l:List (Int×Int×Int)) (j:Nat),rdG by_ j (m++l)=rdG by_ j m++rdG by_ (j+m.length) l
 | [],l,j=>by simp[rdG]
 |x::m,l,j=>by
  simp only[List.cons_append,rdG,Vr by_ m l,List.length_cons]
  rw[show j+1+m.length=j+(m.length+1) by omega]
theorem R8 (by_:List Int):∀(l:List (Int×Int)) (j:Nat),rdG by_ j (Lz l)=l
 | [],_=>rfl
 |(t,v)::l,j=>by
  have h:=R8 by_ l (j+1)
  unfold Lz at h
  simp only[Lz,List.map_cons,rdG,h]
  congr 1
  unfold rd1
  cases by_[j]? with
  |none=>rfl
  |some d=>
   have:d.tmod ((0:Int)+1)=0:=by
    have:=P0 (d:=d) (e:=0) (by omega)
    omega
   simp[this]
def Nu (fl f wd t:Int):Bool:= !decide (t<fl)&&(!decide (t<f)&& !decide (f+wd-1<t))
def qOf (fl f wd:Int) (l:List (Int×Int)):List Int:=(l.filter fun q=>Nu fl f wd q.1).map (·.2)
def Dd (l:List Int):Int:=Ak (l.map fun v=>v/1048576)
def Dh (l:List Int):Int:=Ak (l.map fun v=>v%1048576)
theorem Zl (fl f wd:Int) {l:List (Int×Int)} {j:Nat} {t y:Int} (h:l[j]? =some (t,y)):qOf fl f wd (l.take (j+1))=qOf fl f wd (l.take j)++if Nu fl f wd t=true then [y] else []:=by
 rw[List.take_add_one,h]
 unfold qOf
 rw[List.filter_append,List.map_append]
 by_cases hs:Nu fl f wd t=true
 ·simp[hs]
 ·simp[hs]
theorem Vv (fl f wd:Int) (l:List (Int×Int)):(qOf fl f wd l).length<=l.length:=by unfold qOf;rw[List.length_map];exact List.length_filter_le _ _
theorem Vu {fl f wd:Int} {l:List (Int×Int)} {v:Int} (h:v∈qOf fl f wd l):∃t,(t,v)∈l:=by
 obtain⟨q,hq,rfl⟩:=List.mem_map.1 h
 exact⟨q.1,(List.mem_filter.1 hq).1⟩
theorem Pq (l:List Int) (v:Int):Dd (l++ [v])=Dd l+v/1048576:=by unfold Dd;rw[List.map_append,De];simp[Ak]
theorem Pm (l:List Int) (v:Int):Dh (l++ [v])=Dh l+v%1048576:=by unfold Dh;rw[List.map_append,De];simp[Ak]
theorem P6 :∀l:List Int,Ak l=Dd l*1048576+Dh l
 | []=>by simp[Dd,Dh,Ak]
 |v::l=>by
  have h:=P6 l
  unfold Dd Dh at h⊢
  simp only[List.map_cons,Ak]
  omega
theorem Qq :∀ {l:List Int},(∀v,v∈l-> -4611686018427387904<=v/\v<=4611686018427387904)->(-(4398046511104*(l.length:Int))<=Dd l/\Dd l<=4398046511104*l.length)/\0<=Dh l/\Dh l<=1048576*l.length
 | [],_=>by simp[Dd,Dh,Ak]
 |v::l,h=>by
  have h1:=Qq (l:=l) fun x hx=>h x (List.mem_cons_of_mem _ hx)
  have h2:=h v (List.mem_cons_self ..)
  have h3:(((v::l).length:Nat):Int)=(l.length:Int)+1:=by simp
  rw[h3]
  unfold Dd Dh at h1⊢
  simp only[List.map_cons,Ak]
  omega
theorem Wu (fl f wd:Int) (x:Int×Int×Int):Nu fl f wd x.1=selA (mx f fl) (f+wd-1) x:=by
 have h:=Ha f fl
 unfold Nu selA
 rw[Bool.eq_iff_iff]
 simp only[Bool.and_eq_true,Bool.not_eq_true',decide_eq_true_eq,decide_eq_false_iff_not]
 omega
theorem Px {s:A3} {x:Int×Int×Int} (h:x∈En s):(∃g,g∈s.segs/\x.2.2=g.E/\(x.1,x.2.1)∈B2 g)∨(x.2.2=0/\(x.1,x.2.1)∈s.opn):=by
 rcases List.mem_append.1 h with h|h
 ·obtain⟨g,hg,hx⟩:=List.mem_flatMap.1 h
  obtain⟨p,hp,rfl⟩:=List.mem_map.1 hx
  exact .inl ⟨g,hg,rfl,hp⟩
 ·obtain⟨p,hp,rfl⟩:=List.mem_map.1 h
  exact .inr ⟨rfl,hp⟩
theorem Mc {s:A3} (hc:Bv s=true):∀x,x∈En s->0<=x.2.2/\x.2.2<=s.eps/\x.2.2<=1099511627776:=by
 intro x hx
 have hc':=hc
 unfold Bv N5 at hc'
 simp only[Bool.and_eq_true] at hc'
 have he:=hc'.1.2.1
 have hin:=hc'.2.2.2.1
 unfold btw at he
 simp only[Bool.and_eq_true,decide_eq_true_eq] at he
 rcases Px hx with⟨g,hg,e,_⟩|⟨e,_⟩
 ·have h1:=Nv (El hc g hg)
  have h2:=List.all_eq_true.1 hin g hg
  unfold L7 at h2
  simp only[Bool.and_eq_true,decide_eq_true_eq] at h2
  rw[e]
  omega
 ·rw[e]
  omega
theorem Yr {s:A3} (hc:Bv s=true):∀x,x∈En s-> -2305844108725321728<=x.2.1/\x.2.1<=2305844108725321728:=by
 intro x hx
 rcases Px hx with⟨g,hg,_,hp⟩|⟨_,hp⟩
 ·exact Lt (El hc g hg) (by rw[<-Ng (El hc g hg)];exact List.mem_map_of_mem (f:=fun z:Int×Int=>z.2) hp)
 ·exact Q6 hc _ hp
theorem Vs {by_:List Int}:∀ {l:List (Int×Int×Int)} {j:Nat} {q:Int×Int},q∈rdG by_ j l->∃x i,x∈l/\q=rd1 by_ i x
 | [],_,_,h=>by cases h
 |x::l,j,q,h=>by
  rcases List.mem_cons.1 h with rfl|h
  ·exact⟨x,j,List.mem_cons_self ..,rfl⟩
  ·obtain⟨y,i,hy,e⟩:=Vs h
   exact⟨y,i,List.mem_cons_of_mem _ hy,e⟩
theorem rdG_val {s:A3} (hc:Bv s=true) (by_:List Int):∀q,q∈rdG by_ 0 (En s)-> -4611686018427387904<=q.2/\q.2<=4611686018427387904:=by
 intro q hq
 obtain⟨x,i,hx,rfl⟩:=Vs hq
 have h1:=Mc hc x hx
 have h2:=Yr hc x hx
 have h3:=R9 by_ i h1.1
 omega
theorem Ys {s:A3} (hc:Bv s=true) (f1:s.segs.length<=100) (f2:s.opn.length<=100):(En s).length<=100000:=by
 have h1:=Gt Dy 256 s.segs fun x hx=>by
  have a:=Ew (El hc x hx)
  have b:=Da (Bj (El hc x hx))
  unfold Dy
  rw[List.length_map]
  omega
 unfold En Lz
 rw[List.length_append,List.length_map]
 omega
theorem Ta {s:A3} (hc:Bv s=true) (by_:List Int) (f wd:Int):Gm (qOf s.floor f wd (rdG by_ 0 (En s))) (Dx s f (f+wd-1)):=by
 have h:=Vq by_ (Nu s.floor f wd) (En s) 0 fun x hx=>(Mc hc x hx).1
 have e:((En s).filter fun x=>Nu s.floor f wd x.1).map (·.2)=Dx s f (f+wd-1):=by
  unfold Dx
  rw[Ru]
  congr 1
  exact List.filter_congr fun x _=>Wu _ _ _ _
 rw[e] at h
 exact h
theorem Vb {s:A3} (hc:Bv s=true) (f b:Int):∀x,x∈Dx s f b->x.2<=s.eps:=by
 intro x hx
 obtain⟨y,hy,rfl⟩:=List.mem_map.1 hx
 rw[Ru] at hy
 exact(Mc hc y (List.mem_filter.1 hy).1).2.1
theorem V5 :∀l:List Int,0<=Dh l/\Dh l<=1048576*l.length
 | []=>by simp[Dh,Ak]
 |v::l=>by
  have h1:=V5 l
  have h3:(((v::l).length:Nat):Int)=(l.length:Int)+1:=by simp
  rw[h3]
  unfold Dh at h1⊢
  simp only[List.map_cons,Ak]
  omega
theorem X0 {k:Nat} (h1:1<=k) (h5:k<=5) {l:List (Int×Int)} {Q:List Int} (hn:Gm Q l) {eps:Int} (he:∀x,x∈l->x.2<=eps) (he0:0<=eps) (he4:eps<=1099511627776) (hl:l.length<=100000):
  (Q= []/\((k=1/\D5 k l=⟨0,0,0,0,0,0,0,0,0⟩)∨(k≠1/\D5 k l=⟨9,0,0,0,0,0,0,0,0⟩)))∨
  (Q≠ []/\((k=1/\D5 k l=⟨0,Q.length,0,0,0,0,0,0,0⟩)∨
   (k=2/\∃x y,D5 k l=⟨0,0,x,y,0,0,0,0,0⟩/\x<=Aw Q/\Aw Q<=y/\y-x<=2*eps)∨
   (k=3/\∃x y,D5 k l=⟨0,0,x,y,0,0,0,0,0⟩/\x<=Ay Q/\Ay Q<=y/\y-x<=2*eps)∨
   (k=4/\((∃x y,D5 k l=⟨0,0,x,y,0,0,0,0,0⟩/\x<=Ak Q/\Ak Q<=y/\y-x<=2*eps*Q.length/\I64 x/\I64 y)∨(D5 k l=⟨5,0,0,0,0,0,0,0,0⟩/\¬(-1099511627776<Dd Q/\Dd Q<1099511627776))))∨
   (k=5/\∃a b c d,D5 k l=⟨0,0,0,0,Q.length,a,b,c,d⟩/\a*Q.length+b<=Ak Q/\Ak Q<=c*Q.length+d/\Ak Q-2*eps*Q.length<=a*Q.length+b/\c*Q.length+d<=Ak Q+2*eps*Q.length/\0<=b/\b<Q.length/\0<=d/\d<Q.length))):=by
 have hlen:=hn.len
 by_cases hq:Q= []
 ·have hl0:l= []:=List.length_eq_zero_iff.1 (by rw[<-hlen,hq];rfl)
  subst hl0
  refine .inl ⟨hq,?_⟩
  by_cases hk:k=1
  ·exact .inl ⟨hk,by unfold D5;rw[if_pos hk];rfl⟩
  ·exact .inr ⟨hk,all_nil k hk⟩
 ·have hl0:l≠ []:=fun e=>hq (List.length_eq_zero_iff.1 (by rw[hlen,e];rfl))
  have hp:=List.length_pos_iff.2 hq
  have hs:=hn.sum
  have hw:=Rr he
  rw[<-hlen] at hw hl
  refine .inr ⟨hq,?_⟩
  have hk:k=1∨k=2∨k=3∨k=4∨k=5:=by omega
  rcases hk with rfl|rfl|rfl|rfl|rfl
  ·exact .inl ⟨rfl,by unfold D5;rw[if_pos rfl,hlen]⟩
  ·have hm:=hn.min hl0
   exact .inr (.inl ⟨rfl,_,_,by simp[D5,hl0],hm.1,hm.2,Y1 he hl0⟩)
  ·have hm:=hn.max hl0
   exact .inr (.inr (.inl ⟨rfl,_,_,by simp[D5,hl0],hm.1,hm.2,Y2 he hl0⟩))
  ·refine .inr (.inr (.inr (.inl ⟨rfl,?_⟩)))
   cases hi:inI (Ak (loL l))&&inI (Ak (hiL l)) with
   |true=>
    have hi':=hi
    rw[Bool.and_eq_true] at hi'
    have b1:=Kt.1 hi'.1
    have b2:=Kt.1 hi'.2
    refine .inl ⟨Ak (loL l),Ak (hiL l),by simp[D5,hl0,R2,sl,sh,hi],hs.1,hs.2,hw,?_,?_⟩<;>(unfold I64;omega)
   |false=>
    refine .inr ⟨by simp[D5,hl0,R2,sl,sh,hi],fun hf=> ?_⟩
    have b1:=V5 Q
    have b2:=P6 Q
    have b3:2*eps*(Q.length:Int)<=2*1099511627776*(Q.length:Int):=Int.mul_le_mul_of_nonneg_right (by omega) (by omega)
    have c1:inI (Ak (loL l))=true:=Kt.2 (by omega)
    have c2:inI (Ak (hiL l))=true:=Kt.2 (by omega)
    rw[c1,c2] at hi
    cases hi
  ·refine .inr (.inr (.inr (.inr ⟨rfl,Ak (loL l)/l.length,Ak (loL l)%l.length,Ak (hiL l)/l.length,Ak (hiL l)%l.length,by simp[D5,hl0,hlen],?_⟩)))
   rw[<-hlen]
   have hp':(0:Int)<Q.length:=by omega
   have a1:=Int.mul_ediv_add_emod (Ak (loL l)) (Q.length:Int)
   have a2:=Int.mul_ediv_add_emod (Ak (hiL l)) (Q.length:Int)
   rw[Int.mul_comm] at a1 a2
   have a3:=Int.emod_nonneg (Ak (loL l)) (b:=(Q.length:Int)) (by omega)
   have a4:=Int.emod_lt_of_pos (Ak (loL l)) hp'
   have a5:=Int.emod_nonneg (Ak (hiL l)) (b:=(Q.length:Int)) (by omega)
   have a6:=Int.emod_lt_of_pos (Ak (hiL l)) hp'
   rw[a1,a2]
   refine⟨hs.1,hs.2,?_,?_,a3,a4,a5,a6⟩<;>omega
theorem Ra (x y v:Int) (w:World) (h1:x<=v) (h2:v<=y):Cb 48 #[.agg #[x,y],v] w (.bool true):=by
 have e1:decide (x<=v)=true:=decide_eq_true h1
 have e2:decide (v<=y)=true:=decide_eq_true h2
 go_enter Tryz.func48,Tryz.ntmps48
 go_wp2
 go_ret
 exact⟨rfl,Aa⟩
theorem Mb (x y:Int) (w:World) (h:x<=y) (hx:I64 x) (hy:I64 y):Cb 49 #[.agg #[x,y]] w (.int .u64 (y-x)):=by
 have c1:=Hd (fun W=>Ex x y W)
 unfold spE at c1
 rw[if_pos h] at c1
 have E:=Hd (show IntKind.u64.wrap (IntKind.u64.wrap y-IntKind.u64.wrap x)=y-x by unfold I64 at hx hy;simp only[Bu];omega)
 go_enter Tryz.func49,Tryz.ntmps49
 go_wp2_with fail
 refine(c1.out _).mono ?_
 rintro e w1 ⟨rfl,hb1⟩
 have b1:Blk w1 w.heap.size #[x,y] 33:=Bk
 have hW:Below w.heap.size w w1:=Aa
 have k1:=b1.cell
 have f1:=b1.frozen
 have z1:=b1.lt
 go_wp2
 refine bodyPost_ret (v:= .int .u64 (IntKind.u64.wrap (IntKind.u64.wrap y-IntKind.u64.wrap x))) (by simp[results,Tryz.results49,go_sem]) rfl ⟨by rw[E.out],by exact Aa⟩
def ab0 (x:Int):Int:=if x<0 then 0 else x
theorem Rm {x:Int} (h:x<0):ab0 x=0:=if_pos h
theorem Rl {x:Int} (h:0<=x):ab0 x=x:=if_neg (by omega)
theorem may_w (a b c d:Int) (w:World):Cb 42 #[.agg #[a,b,c,d]] w (.agg #[.int .i64 (IntKind.u64.wrap a%5+1),.int .i64 (ab0 b%281474976710657),.int .i64 (ab0 c%281474976710656+1),.int .i64 (ab0 d%64+1)]):=by
 go_enter Tryz.func42,Tryz.ntmps42
 go_wp2
 all_goals
  have h0:wrap64 (wrap64 ((IntKind.u64.wrap a).tmod 5)+1)=IntKind.u64.wrap a%5+1:=by
   rw[Int.tmod_eq_emod_of_nonneg (Dn a).1,Ah,Ah]
   omega
  refine bodyPost_ret (by simp[results,Tryz.results42,go_sem];rfl) rfl ⟨?_,by exact Aa⟩
  rw[h0]
  clear h0
  first
   |rw[Rm (x:=b) (by assumption)]
   |rw[Rl (x:=b) (by assumption)]
  try rw[Int.tmod_eq_emod_of_nonneg (a:=b) (by assumption)]
  first
   |rw[Rm (x:=c) (by assumption)]
   |rw[Rl (x:=c) (by assumption)]
  try rw[Int.tmod_eq_emod_of_nonneg (a:=c) (by assumption)]
  first
   |rw[Rm (x:=d) (by assumption)]
   |rw[Rl (x:=d) (by assumption)]
  try rw[Int.tmod_eq_emod_of_nonneg (a:=d) (by assumption)]
  try rfl
theorem c_may (a b c d:Int):∃(k N:Nat) (f v:Int),(1<=k/\k<=5/\0<=f/\f<=281474976710656/\1<=v/\v<=281474976710656/\1<=N/\N<=64)/\∀w:World,Cb 42 #[.agg #[a,b,c,d]] w (.agg #[.int .i64 (k:Int),f,v,.int .i64 (N:Int)]):=by
 have h0:∀x,0<=ab0 x:=fun x=>by unfold ab0;split<;>omega
 have h1:=(Dn a).1
 have h2:=h0 b
 have h3:=h0 c
 have h4:=h0 d
 refine⟨(IntKind.u64.wrap a%5+1).toNat,(ab0 d%64+1).toNat,ab0 b%281474976710657,ab0 c%281474976710656+1,by omega,fun w=> ?_⟩
 rw[show (((IntKind.u64.wrap a%5+1).toNat:Nat):Int)=IntKind.u64.wrap a%5+1 by omega,show (((ab0 d%64+1).toNat:Nat):Int)=ab0 d%64+1 by omega]
 exact may_w a b c d w
attribute [local simp] Oper.looksAt Op.operands Call.operands Al Det Ap
def Ku (w:World) (p:Option Addr) (cap:Nat) (p':Option Addr) (cap':Nat) (A B:List Af) (a':Act) (W:World):Prop:=
 Below w.heap.size w W/\∃(i:Nat),(∃u:Nat->Value,a'= {tmps:= #[.slice p A.length cap,.slice p' A.length cap',u 2,u 3,.bool false,u 5,u 6,u 7,u 8,u 9,u 10,u 11,.int .i64 (A.length:Int),.int .i64 (i:Int),u 14,u 15,u 16,u 17,u 18,u 19,u 20,u 21,u 22,u 23,u 24,u 25],defers:= []})/\i<=A.length/\∀k,k<i->A[k]? =B[k]?
theorem X5 (p:Option Addr) (cap:Nat) (p':Option Addr) (cap':Nat) (A B:List Af) (w:World) (hl:A.length=B.length) (hlen:A.length<=1000000) (hA0:Ai w p A) (hB0:Ai w p' B):
  Cb 35 #[.slice p A.length cap,.slice p' A.length cap'] w (.bool (decide (A=B))):=by
 go_enter Tryz.func35,Tryz.ntmps35
 replace hl:=Hd hl
 go_wp2
 refine wp_loop (Ku w p cap p' cap' A B) (fun a' _=>A.length-(Aq (a'.tmps.getD 13 undef)).toNat) ?_ ?_
 ·unfold Ku
  exact⟨Below.refl _ _,0,Ag rfl,by omega,fun k hk=>by omega⟩
 ·rintro a' W ⟨hW0,i,⟨u,rfl⟩,hi',hall⟩
  have hz:=hW0.size
  replace hall:=Hd hall
  rcases Nat.lt_or_ge i A.length with hlt|hge
  ·obtain⟨r,tr⟩:∃r,A[i]? =some r:=⟨A[i]'(by omega),List.getElem?_eq_getElem (by omega)⟩
   obtain⟨q,tq⟩:∃q,B[i]? =some q:=⟨B[i]'(by have:=hl.out;omega),List.getElem?_eq_getElem (by have:=hl.out;omega)⟩
   obtain⟨b,o,rfl,-⟩:=hA0.at' i r tr
   obtain⟨b',o',rfl,-⟩:=hB0.at' i q tq
   have hA:Fx W b o A:=⟨hA0.below hW0⟩
   have hB:Fx W b' o' B:=⟨hB0.below hW0⟩
   replace tr:=Hd tr
   replace tq:=Hd tq
   have l1:=hlt
   have l2:i<B.length:=by have:=hl.out;omega
   go_upto_region 6 with(fail)
   refine Ac W (Rc (fun W'=>Fx W' b o A)<|Rc (fun W'=>Fx W' b' o' B)<|Bz) ?_ (hI:=by exact Aa) (hR:=(Rc.mk (by exact hA.below Aa)<|Rc.mk (by exact hB.below Aa)<|trivial))
   rintro W1 hW z2 hL
   obtain⟨b1,b2,-⟩:=id hL
   refine Vl 9 26 hW hL ?_
   iterate 9
    apply Aj (hg:=rfl) (hal:=rfl)
    ·intro a W' hC hE
     obtain⟨_,k1,k2,-⟩:=hC
     obtain⟨q0,q1,q2⟩:=k1.cellAt tr.out;obtain⟨q3,q4,q5⟩:=k2.cellAt tq.out
     first
      |(simp at hE;simp[go_sem,Act.eval,iw,hE,k1,k2,q0,q1,q2,q3,q4,q5,l1,l2,V6];try rfl)
      |(clear hE;simp[go_sem,Act.eval,iw,k1,k2,q0,q1,q2,q3,q4,q5,l1,l2,V6];try rfl)
   clear hW hL b1 b2
   rintro W3 hW z4 hL
   simp only[ndR]
   intros
   simp only[ndS]
   refine wpList_nil ?_
   obtain⟨b1,b2,-⟩:=hL
   by_cases hrq:r=q
   ·have hall':=Hd (show∀k,k<i+1->A[k]? =B[k]? from fun k hk=>by
     rcases Nat.lt_or_ge k i with h|h
     ·exact hall.out k h
     ·obtain rfl:k=i:=by omega
      rw[tr.out,tq.out,hrq])
    rw[show (!decide (r.f=q.f)|| !decide (r.s=q.s)|| !decide (r.c=q.c))=false by subst hrq;simp]
    clear hrq
    go_wp2
    rw[show (i:Int)+1=((i+1:Nat):Int) by omega]
    refine⟨?_,by simp[Aq];omega⟩
    unfold Ku
    exact⟨hW0.trans (hW.mono hz),i+1,Ag rfl,by omega,hall'.out⟩
   ·have hne:=Hd (show decide (A=B)=false by
     rw[decide_eq_false_iff_not]
     rintro rfl
     rw[tr.out] at tq
     exact hrq (Option.some.inj tq.out))
    rw[show (!decide (r.f=q.f)|| !decide (r.s=q.s)|| !decide (r.c=q.c))=true by
     obtain⟨r1,r2,r3⟩:=r
     obtain⟨q1,q2,q3⟩:=q
     simp at hrq
     simp
     by_cases h1:r1=q1<;>by_cases h2:r2=q2<;>simp[h1,h2] at hrq⊢
     exact hrq]
    clear hrq
    go_wp2
    go_ret
    exact⟨by rw[hne.out];rfl,hW0.trans (hW.mono hz)⟩
  ·obtain rfl:i=A.length:=by omega
   have heq:=Hd (show decide (A=B)=true by
    rw[decide_eq_true_eq]
    apply List.ext_getElem?
    intro k
    rcases Nat.lt_or_ge k A.length with h|h
    ·exact hall.out k h
    ·rw[List.getElem?_eq_none h,List.getElem?_eq_none (by have:=hl.out;omega)])
   go_wp2
   go_ret
   exact⟨by rw[heq.out];rfl,hW0⟩
theorem S0 (p:Option Addr) (n cap:Nat) (p':Option Addr) (m cap':Nat) (w:World) (hl:¬n=m):
  Cb 35 #[.slice p n cap,.slice p' m cap'] w (.bool false):=by
 go_enter Tryz.func35,Tryz.ntmps35
 go_wp2
 go_ret
 exact⟨rfl,Below.refl _ _⟩
theorem Yf (p:Option Addr) (cap:Nat) (p':Option Addr) (cap':Nat) (A B:List Af) (w:World) (hlen:A.length<=1000000) (hA0:Ai w p A) (hB0:Ai w p' B):
  Cb 35 #[.slice p A.length cap,.slice p' B.length cap'] w (.bool (decide (A=B))):=by
 by_cases h:A.length=B.length
 ·rw[<-h];exact X5 p cap p' cap' A B w h hlen hA0 hB0
 ·rw[show decide (A=B)=false by rw[decide_eq_false_iff_not];rintro rfl;exact h rfl]
  exact S0 p _ cap p' _ cap' w h
def eqAnsRel (w:World) (p:Option Addr) (cap:Nat) (p':Option Addr) (cap':Nat) (A B:List Dl) (a':Act) (W:World):Prop:=
 Below w.heap.size w W/\∃(i:Nat),(∃u:Nat->Value,a'= {tmps:= #[.slice p A.length cap,.slice p' A.length cap',u 2,u 3,.bool false,u 5,u 6,u 7,u 8,u 9,u 10,u 11,.int .i64 (A.length:Int),.int .i64 (i:Int),u 14,u 15,u 16,u 17,u 18,u 19,u 20,u 21,u 22,u 23,u 24,u 25],defers:= []})/\i<=A.length/\∀k,k<i->A[k]? =B[k]?
end Go.Proofs.YtidfcoooccblaaaGreat
