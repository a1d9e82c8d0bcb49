/- Parts of the proof that follows. No condition. -/
import Derived.Test.YtidfcoooccblaaaGreatBon19
set_option maxRecDepth 100000
set_option maxHeartbeats 8000000
set_option linter.unusedSimpArgs false
set_option linter.unusedVariables false
namespace Go.Proofs.YtidfcoooccblaaaGreat
open Go.RowKit
attribute [local simp] Oper.looksAt Op.operands Call.operands Aj Det Ao
def Xj (B:Nat) (e:TypeId) (n k:Nat) (news:List Value):Bo:=fun v w=>∃g cap cur,v= .slice (some ⟨g,0,none⟩) n cap/\B<=g/\Blk w g cur e/\n<=cap/\cur.toList.take k=news
theorem Xj.closed (B:Nat) (e:TypeId) (n k:Nat) (news:List Value):Bj [] (Xj B e n k news):=fun _ _ _ hr ⟨g,c,cur,e1,h1,h,h2,h3⟩=>⟨g,c,cur,e1,h1,h.rex hr (by simp),h2,h3⟩
def PtS (B N:Nat) (l:List (Int×Int)):Bo:=fun v w=>(v= .slice none 0 0/\l= []/\N=0)∨Xj B 91 N (N*2) (B8 l) v w
theorem PtS.closed (B N:Nat) (l:List (Int×Int)):Bj [] (PtS B N l):=fun _ _ _ hr h=>by
 rcases h with h|h
 ·exact .inl h
 ·exact .inr (Xj.closed _ _ _ _ _ _ _ _ hr h)
def Vq (s:A4):A4:=⟨s.K,s.runs.take 257,s.A,s.R,s.n,s.d,s.raw.take 257,s.E⟩
structure Mc (W:World) (g:Nat) (r0 r:Dm):Prop where
 says:r.s=Vq r0.s
 runs:Ai W r.p r.s.runs
 raw:Au W r.q r.s.raw
 capV:r.s.raw.length<=r.vc
 farR:∀a,r.p=some a->g<a.block
 farV:∀a,r.q=some a->g<a.block
theorem Mc.rex {W W':World} {g:Nat} {r0 r:Dm} {L:List Nat} (h:Mc W g r0 r) (hL:∀x,x∈L->x<=g) (hr:Rex L W W'):Mc W' g r0 r:=⟨h.says,h.runs.rex1 hL h.farR hr,h.raw.rex1 hL h.farV hr,h.capV,h.farR,h.farV⟩
structure Hl (W:World) (g:Nat) (rows R:List Dm) (i:Nat):Prop where
 len:R.length=rows.length
 rest:∀k,i<=k->R[k]? =rows[k]?
 own:∀k,k<i->∀r,R[k]? =some r->∃r0,rows[k]? =some r0/\Mc W g r0 r
theorem Hl.start (W:World) (g:Nat) (rows:List Dm):Hl W g rows rows 0:=⟨rfl,fun _ _=>rfl,fun k h=>by omega⟩
theorem Hl.rex {W W':World} {g i:Nat} {rows R:List Dm} {L:List Nat} (h:Hl W g rows R i) (hL:∀x,x∈L->x<=g) (hr:Rex L W W'):Hl W' g rows R i:=⟨h.len,h.rest,fun k hk r hR=>by
 obtain⟨r0,h1,h2⟩:=h.own k hk r hR
 exact⟨r0,h1,h2.rex hL hr⟩⟩
theorem Hl.step {W:World} {g i:Nat} {rows R:List Dm} {r0 r1:Dm} (h:Hl W g rows R i) (h0:rows[i]? =some r0) (h1:Mc W g r0 r1):Hl W g rows (R.set i r1) (i+1):=⟨by rw[List.length_set];exact h.len,fun k hk=>by rw[List.getElem?_set_ne (by omega)];exact h.rest k (by omega),fun k hk r hR=>by
 rw[List.getElem?_set] at hR
 split at hR
 ·rename_i e
  subst e
  split at hR
  ·injection hR with hR
   subst hR
   exact⟨r0,h0,h1⟩
  ·cases hR
 ·exact h.own k (by omega) r hR⟩
theorem own_segsK {W W':World} {g i:Nat} {rows R:List Dm} {cur:Array Value} {L:List Nat} (hb:Blk W' g cur 98) (hSC:Hk cur R) (h:Hl W g rows R i) (hi:rows.length<=i) (hL:∀x,x∈L->x<=g) (hr:Rex L W W'):Gu W' (some ⟨g,0,none⟩) (rows.map fun r=>Vq r.s):=⟨fun k s hs=>by
 obtain⟨r0,h0,rfl⟩:∃r0,rows[k]? =some r0/\Vq r0.s=s:=by simpa using hs
 have hk:k<rows.length:=(List.getElem?_eq_some_iff.1 h0).1
 obtain⟨r,hR⟩:∃r,R[k]? =some r:=⟨_,List.getElem?_eq_getElem (by rw[h.len];exact hk)⟩
 obtain⟨r0',h0',ow⟩:=h.own k (by omega) r hR
 rw[h0] at h0'
 injection h0' with h0'
 subst h0'
 have ow':=ow.rex hL hr
 refine⟨g,0,r.p,r.q,r.cap,r.vc,rfl,fun j v hv=> ?_,?_,?_⟩
 ·rw[show 0+k*8+j=k*8+j by omega]
  rw[<-ow'.says] at hv
  exact(hb.cell _).trans (hSC k r hR j v hv)
 ·rw[<-ow'.says]
  exact⟨ow'.runs,ow'.raw,by rw[ow'.says];show (r0.s.runs.take 257).length<=300;rw[List.length_take];omega,by rw[ow'.says];show (r0.s.raw.take 257).length<=300;rw[List.length_take];omega⟩
 ·rw[<-ow'.says]
  exact ow'.capV⟩
structure D8 (w:World) (B:Nat) (p:Option Addr) (l:List (Int×Int)):Prop where
 at':(p=none/\l= [])∨∃g cur k,p=some ⟨g,0,none⟩/\B<=g/\Blk w g cur 91/\cur.toList.take k=B8 l
theorem D8.pts {w:World} {B:Nat} {p:Option Addr} {l:List (Int×Int)} (h:D8 w B p l):Bv w p l:=by
 rcases h.at' with⟨rfl,rfl⟩|⟨g,cur,k,rfl,_,hb,ht⟩
 ·exact⟨fun i r hr=>by simp at hr⟩
 ·exact J5 hb ht
theorem D8.keep {w w':World} {B:Nat} {p:Option Addr} {l:List (Int×Int)} (h:D8 w B p l) (hk:∀g cs,B<=g->Blk w g cs 91->Blk w' g cs 91):D8 w' B p l:=by
 rcases h.at' with h|⟨g,cur,k,e,hB,hb,ht⟩
 ·exact⟨.inl h⟩
 ·exact⟨.inr ⟨g,cur,k,e,hB,hk g cur hB hb,ht⟩⟩
theorem D8.below {w w':World} {B:Nat} {p:Option Addr} {l:List (Int×Int)} (h:D8 w B p l) (hb:Below w.heap.size w w'):D8 w' B p l:=h.keep fun _ _ _ h=>h.below hb
theorem D8.mono {w:World} {B B':Nat} {p:Option Addr} {l:List (Int×Int)} (h:D8 w B p l) (hB:B'<=B):D8 w B' p l:=by
 rcases h.at' with h|⟨g,cur,k,e,h1,hb,ht⟩
 ·exact⟨.inl h⟩
 ·exact⟨.inr ⟨g,cur,k,e,Nat.le_trans hB h1,hb,ht⟩⟩
theorem D8.setO {w:World} {B o:Nat} {p:Option Addr} {l:List (Int×Int)} (h:D8 w B p l) (ho:o<B) (i:Nat) (v:Value):D8 (w.setCell ⟨o,i,none⟩ v) B p l:=h.keep fun g _ hg h=>h.setO (by omega) i v
theorem D8.low {w w':World} {B:Nat} {p:Option Addr} {l:List (Int×Int)} {L:List Nat} (h:D8 w B p l) (hL:∀x,x∈L->x<B) (hr:Rex L w w'):D8 w' B p l:=h.keep fun g c hB hg=>hg.rex hr fun hm=>by have:=hL _ hm;omega
def Xl (B:Nat) (w:World) (F:World->Prop):Prop:=∀L W,(∀x,x∈L->x<B)->Rex L w W->F W
theorem Xl.now {B:Nat} {w:World} {F:World->Prop} (h:Xl B w F):F w:=h [] w (fun x hx=>by cases hx) (Rex.refl _ _)
theorem D8.rex {w w':World} {B gS:Nat} {cs:Array Value} {p:Option Addr} {l:List (Int×Int)} (h:D8 w B p l) (hS:Blk w gS cs 98) (hr:Rex [gS] w w'):D8 w' B p l:=h.keep fun g c _ hg=>hg.rex hr (by
 simp
 rintro rfl
 unfold Blk at hg hS
 rw[hS] at hg
 injection hg with hg
 injection hg with _ h2 _
 revert h2
 decide)
theorem PtS.form {B N:Nat} {l:List (Int×Int)} {v:Value} {w:World} (h:PtS B N l v w):∃p cap,v= .slice p N cap/\D8 w B p l/\N<=cap:=by
 rcases h with⟨rfl,rfl,rfl⟩|⟨g,cap,cur,rfl,hg,hb,hc,ht⟩
 ·exact⟨none,0,rfl,⟨.inl ⟨rfl,rfl⟩⟩,Nat.le_refl _⟩
 ·exact⟨_,cap,rfl,⟨.inr ⟨g,cur,_,rfl,hg,hb,ht⟩⟩,hc⟩
def P0 (B K:Nat) (l:List Ah):Bo:=fun v w=>∃p c,v= .slice p K c/\Ai w p l/\K<=c/\∀a,p=some a->B<=a.block
theorem P0.closed (B K:Nat) (l:List Ah):Bj [] (P0 B K l):=fun _ _ _ hr ⟨p,c,e,h,h2⟩=>⟨p,c,e,h.rex hr rfl,h2⟩
def Xm (B K:Nat) (l:List Int):Bo:=fun v w=>∃p c,v= .slice p K c/\Au w p l/\K<=c/\∀a,p=some a->B<=a.block
theorem Xm.closed (B K:Nat) (l:List Int):Bj [] (Xm B K l):=fun _ _ _ hr ⟨p,c,e,h,h2⟩=>⟨p,c,e,h.below hr.below,h2⟩
theorem P0.closedL (B K:Nat) (l:List Ah) {L:List Nat} (hL:∀x,x∈L->x<B):Bj L (P0 B K l):=fun v w w' hr ⟨p,c,e,h,h2,h3⟩=>⟨p,c,e,⟨fun i r hi=>by
 obtain⟨b,o,e1,q0,q1,q2⟩:=h.at' i r hi
 have hb:=h3 _ e1
 have key:∀z v,w.cell? ⟨b,z,none⟩=some v->w'.cell? ⟨b,z,none⟩=some v:=fun z v hv=>(World.cell?_of_block (hr.block b (A8 hv) (fun hx=>by have:=hL _ hx;simp at hb;omega))).trans hv
 exact⟨b,o,e1,key _ _ q0,key _ _ q1,key _ _ q2⟩⟩,h2,h3⟩
theorem Xm.closedL (B K:Nat) (l:List Int) {L:List Nat} (hL:∀x,x∈L->x<B):Bj L (Xm B K l):=fun v w w' hr ⟨p,c,e,h,h2,h3⟩=>⟨p,c,e,⟨fun i r hi=>by
 obtain⟨b,o,e1,q0⟩:=h.at' i r hi
 have hb:=h3 _ e1
 exact⟨b,o,e1,(World.cell?_of_block (hr.block b (A8 q0) (fun hx=>by have:=hL _ hx;simp at hb;omega))).trans q0⟩⟩,h2,h3⟩
def own26Rel (w:World) (nm9:ByteArray) (ep fl la sc:Int) (pP:Option Addr) (capP N:Nat) (rows:List Dm) (pts:List (Int×Int)) (M gS capS:Nat) (a':Act) (W:World):Prop:=
 Below w.heap.size w W/\Blk W w.heap.size #[.string nm9,.int .i64 ep,.int .i64 fl,.int .i64 la,.int .i64 sc,.slice (some ⟨gS,0,none⟩) M capS,.slice pP N capP] 25/\Blk W (w.heap.size+1) #[.string .empty,.int .i64 0,.int .i64 0,.int .i64 0,.int .i64 0,.slice none 0 0,.slice none 0 0] 25/\D8 W (w.heap.size+1+1) pP pts/\∃(i:Nat) (cur:Array Value) (R:List Dm),Blk W gS cur 98/\Hk cur R/\Hl W gS rows R i/\(∃u:Nat->Value,a'= {tmps:= #[u 0,.pointer (some ⟨w.heap.size,0,none⟩),.pointer (some ⟨w.heap.size+1,0,none⟩),u 3,u 4,u 5,u 6,u 7,u 8,u 9,u 10,u 11,u 12,u 13,u 14,u 15,u 16,u 17,u 18,u 19,u 20,u 21,u 22,u 23,u 24,u 25,u 26,u 27,u 28,u 29,u 30,u 31,.slice (some ⟨gS,0,none⟩) M capS,.int .i64 (M:Int),.int .i64 (i:Int),u 35,u 36,u 37,u 38,u 39,u 40,u 41,u 42,u 43,u 44,u 45,u 46,u 47,u 48,u 49,u 50,u 51,u 52,u 53,u 54,u 55,u 56,u 57,u 58,u 59,u 60,u 61,u 62,u 63,u 64,u 65,u 66],defers:= []})/\i<=M
theorem own26_w (nm:ByteArray) (ep fl la sc:Int) (ad:Addr) (po:Option Addr) (cs co:Nat) (rows:List Dm) (pts:List (Int×Int)) (w:World) (M N:Nat)
  (hsegs:Ec w (some ad) rows) (hpts:Bv w po pts) (hnilP:po=none->pts.length=0/\co=0) (hcap:rows.length<=cs) (hcapP:pts.length<=co)
  (hM:M<=12) (hMr:M<=rows.length) (EM:Hid ((if (12:Int)<(rows.length:Int) then (12:Int) else rows.length)=(M:Int))) (hMc:(M:Int)<=cs) (hM0:0<=(M:Int))
  (hN:N<=40) (hNr:N<=pts.length) (EN:Hid ((if (40:Int)<(pts.length:Int) then (40:Int) else pts.length)=(N:Int))) (hNc:(N:Int)<=co) (hN0:0<=(N:Int)) (nm9:ByteArray) (hnm:Hid ((nm.extract 0 (mn (nm.size:Int) 20).toNat)=nm9)):
  Calls Tryz.prog 29 #[.agg #[.string nm,.int .i64 ep,.int .i64 fl,.int .i64 la,.int .i64 sc,.slice (some ad) rows.length cs,.slice po pts.length co]] w fun e w'=>∃gS capS pP capP,e= .returned (.agg #[.string nm9,.int .i64 ep,.int .i64 fl,.int .i64 la,.int .i64 sc,.slice (some ⟨gS,0,none⟩) M capS,.slice pP N capP])/\Below w.heap.size w w'/\Xl w.heap.size w' fun W=>Gu W (some ⟨gS,0,none⟩) ((rows.take M).map fun r=>Vq r.s)/\Bv W pP (pts.take N):=by
 have cS:=Hd (fun W B (hW:Below w.heap.size w W) (hBW:B<=W.heap.size)=>(show Calls Tryz.prog 73 #[.slice (some ad) M cs] W fun e w'=>∃v,e= .returned v/\Below W.heap.size W w'/\Xj B 98 M (M*8) (Et (rows.take M)) v w' from by
  have hl:(rows.take M).length=M:=by rw[List.length_take];omega
  have t:=Rp ad cs (rows.take M) W (by omega) ((hsegs.take M).below hW)
  rw[hl] at t
  refine t.mono ?_
  rintro e w' ⟨v,rfl,hB,g,c,cur,rfl,hg,h⟩
  exact⟨_,rfl,hB,g,c,cur,rfl,Nat.le_trans hBW hg,h⟩))
 have cQ:=Hd (fun W B (hW:Below w.heap.size w W) (hBW:B<=W.heap.size)=>(show Calls Tryz.prog 74 #[.slice po N co] W fun e w'=>∃v,e= .returned v/\Below W.heap.size W w'/\PtS B N (pts.take N) v w' from by
  have hl:(pts.take N).length=N:=by rw[List.length_take];omega
  cases hpo:po with
  |none=>
   obtain⟨h1,h2⟩:=hnilP hpo
   obtain rfl:N=0:=by omega
   subst h2
   refine(Po W).mono ?_
   rintro e w' ⟨rfl,hB⟩
   exact⟨_,rfl,hB,.inl ⟨rfl,rfl,rfl⟩⟩
  |some a9=>
   have t:=N7 a9 co (pts.take N) W (by omega) (hpo▸(hpts.take9 N).below hW)
   rw[hl] at t
   refine t.mono ?_
   rintro e w' ⟨v,rfl,hB,g,c,cur,rfl,hg,h⟩
   exact⟨_,rfl,hB,.inr ⟨g,c,cur,rfl,Nat.le_trans hBW hg,h⟩⟩))
 go_enter Tryz.func29,Tryz.ntmps29
 have hmin:∀ts t x y w,(Builtin.min_ ts t #[.int .i64 x,.int .i64 y]).run Tryz.prog w= .ok (.int .i64 (mn x y)) w:=fun ts t x y w=>by simp[Builtin.min_,Builtin.min2,mn]
 have hm0:=Hr (nm.size:Int) 20
 have hm1:0<=mn (nm.size:Int) 20:=by omega
 have hm2:mn (nm.size:Int) 20<=(nm.size:Int):=hm0.1
 clear hm0
 go_upto_region 2 with(fail)
 refine Ad w (Bc w.heap.size #[.string (nm.extract 0 (mn (nm.size:Int) 20).toNat),.int .i64 ep,.int .i64 fl,.int .i64 la,.int .i64 sc,.slice (some ad) rows.length cs,.slice po pts.length co] 25<|Bc (w.heap.size+1) #[.string .empty,.int .i64 0,.int .i64 0,.int .i64 0,.int .i64 0,.slice none 0 0,.slice none 0 0] 25<|Bz) ?_
 rintro W1 hW z2 ⟨⟨b1,yb1,k1,f1⟩,⟨b2,yb2,k2,f2⟩,-⟩
 clear hmin hm1 hm2
 rw[hnm.out] at b1
 go_upto_region 2 with(fail)
 clear k1 f1 k2 f2
 refine Ad w (Bc w.heap.size #[.string nm9,.int .i64 ep,.int .i64 fl,.int .i64 la,.int .i64 sc,.slice (some ad) rows.length cs,.slice po pts.length co] 25<|Bc (w.heap.size+1) #[.string .empty,.int .i64 0,.int .i64 0,.int .i64 0,.int .i64 0,.slice none 0 0,.slice none 0 0] 25<|Bz) ?_
 clear b1 b2 hW
 rintro W3 hW z4 hL
 obtain⟨⟨b1,yb1,k1,f1⟩,⟨b2,yb2,k2,f2⟩,-⟩:=id hL
 clear k1 f1 k2 f2
 refine Br 17 67 hW hL ?_
 iterate 5 refine dA ?_
 apply Ag (.int .i64 ((M:Nat):Int)) (hg:=rfl) (hal:=rfl)
 ·intro a' W' hC hE
  simp at hE
  simp[go_sem,Act.eval,hE,EM.out]
 apply Ag (.slice (some ad) M cs) (hg:=rfl) (hal:=rfl)
 ·intro a' W' hC hE
  simp at hE
  simp[go_sem,Act.eval,hE,hMc,hM0,F8]
 apply A7 (Xj W3.heap.size 98 M (M*8) (Et (rows.take M))) (hg:=rfl) (hal:=rfl)
 ·exact Xj.closed _ _ _ _ _
 ·intro a' W' hC hE
  simp at hE
  refine⟨_,_,?_,(cS.out W' W3.heap.size (hW.trans (hC.1.of_priv hW.size)) hC.1.size).mono ?_⟩
  ·simp[go_sem,Act.eval,hE]
   try rfl
  ·rintro e w' ⟨v,rfl,hB,hv⟩
   exact⟨v,rfl,hB,hv⟩
 iterate 5 refine dA ?_
 apply Ag (.int .i64 ((N:Nat):Int)) (hg:=rfl) (hal:=rfl)
 ·intro a' W' hC hE
  simp at hE
  simp[go_sem,Act.eval,hE,EN.out]
 apply Ag (.slice po N co) (hg:=rfl) (hal:=rfl)
 ·intro a' W' hC hE
  simp at hE
  simp[go_sem,Act.eval,hE,hNc,hN0,F8]
 apply A7 (PtS W3.heap.size N (pts.take N)) (hg:=rfl) (hal:=rfl)
 ·exact PtS.closed _ _ _
 ·intro a' W' hC hE
  simp at hE
  refine⟨_,_,?_,(cQ.out W' W3.heap.size (hW.trans (hC.1.of_priv hW.size)) hC.1.size).mono ?_⟩
  ·simp[go_sem,Act.eval,hE]
   try rfl
  ·rintro e w' ⟨v,rfl,hB,hv⟩
   exact⟨v,rfl,hB,hv⟩
 refine dA ?_
 clear hW hL b1 b2
 rintro W5 hW z6 hL
 simp only[ndR]
 intros
 simp only[ndS]
 obtain⟨⟨b1,yb1,k1,f1⟩,⟨b2,yb2,k2,f2⟩,-⟩:=hL
 have z7:=hW.size
 rename Xj _ _ _ _ _ _ _=>hs
 obtain⟨gS,capS,curS,rfl,hgS0,b3,hcS,htS⟩:=hs
 rename PtS _ _ _ _ _=>hp
 obtain⟨pP,capP,rfl,hP,hcP⟩:=hp.form
 clear hp
 have hgS:w.heap.size+1<gS:=by omega
 have y3:=b3.lt
 replace htS:=Hd htS
 have k3:=b3.cell
 have f3:=b3.frozen
 go_upto_region 3 with(fail)
 clear k1 f1 k2 f2 k3 f3
 refine Ad w (Bc w.heap.size #[.string nm9,.int .i64 ep,.int .i64 fl,.int .i64 la,.int .i64 sc,.slice (some ⟨gS,0,none⟩) M capS,.slice pP N capP] 25<|Bc (w.heap.size+1) #[.string .empty,.int .i64 0,.int .i64 0,.int .i64 0,.int .i64 0,.slice none 0 0,.slice none 0 0] 25<|Bc gS curS 98<|Rc (fun W'=>D8 W' (w.heap.size+1+1) pP (pts.take N))<|Bz) ?_ (hI:=by exact Aa) (hR:=(Bc.mk (by exact Ab)<|Bc.mk (by exact Ab)<|Bc.mk (by exact Ab)<|Rc.mk (by exact((hP.mono (by omega)).setO (by omega) _ _).setO (by omega) _ _)<|trivial))
 clear b1 b2 b3 hW
 rintro W8 hW z9 ⟨⟨b1,yb1,k1,f1⟩,⟨b2,yb2,k2,f2⟩,⟨b3,yb3,k3,f3⟩,b4,-⟩
 have hP:=b4
 clear b4
 go_wp2
 refine wp_loop (own26Rel w nm9 ep fl la sc pP capP N (rows.take M) (pts.take N) M gS capS) (fun a' _=>M-(Ak (a'.tmps.getD 34 undef)).toNat) ?_ ?_
 ·have hl9:(rows.take M).length=M:=by rw[List.length_take];omega
  exact⟨Aa,b1,b2,hP,0,curS,rows.take M,b3,Vd htS.out hl9,Hl.start _ _ _,Ac rfl,Nat.zero_le _⟩
 clear hgS0 hcS htS hP b1 b2 b3 hW cS cQ hcP k1 f1 k2 f2 k3 f3
 rintro a' W ⟨hW0,b1,b2,hP,i,cur,R,b3,hSC,hOT,⟨u,rfl⟩,hi'⟩
 have hz:=hW0.size
 have zb1:=b1.lt
 have zb2:=b2.lt
 have zb3:=b3.lt
 rcases Nat.lt_or_ge i M with hiM|hiM
 ·have hlen9:(rows.take M).length=M:=by rw[List.length_take];omega
  obtain⟨r0,hr0⟩:∃r,(rows.take M)[i]? =some r:=⟨_,List.getElem?_eq_getElem (by omega)⟩
  have hR0:R[i]? =some r0:=(hOT.rest i (Nat.le_refl _)).trans hr0
  obtain⟨b,o,_,_,hcm⟩:=(hsegs.take M) i r0 hr0
  have hnR:=hcm.nilR
  have hnV:=hcm.nilV
  obtain⟨K1,hK1⟩:∃K,(r0.s.runs.take 257).length=K:=⟨_,rfl⟩
  obtain⟨K2,hK2⟩:∃K,(r0.s.raw.take 257).length=K:=⟨_,rfl⟩
  have lK1:=hK1
  have lK2:=hK2
  rw[List.length_take] at lK1 lK2
  have EK1:=Hd (show (if (257:Int)<(r0.s.runs.length:Int) then (257:Int) else r0.s.runs.length)=(K1:Int) by split<;>omega)
  have EK2:=Hd (show (if (257:Int)<(r0.s.raw.length:Int) then (257:Int) else r0.s.raw.length)=(K2:Int) by split<;>omega)
  have hcR:=hcm.capR
  have hcV:=hcm.capV
  have hK1c:(K1:Int)<=r0.cap:=by omega
  have hK10:(0:Int)<=K1:=by omega
  have hK2c:(K2:Int)<=r0.vc:=by omega
  have hK20:(0:Int)<=K2:=by omega
  have cR:=Hd (fun W' B (hW':Below w.heap.size w W') (hB:B<=W'.heap.size)=>(show Calls Tryz.prog 75 #[.slice r0.p K1 r0.cap] W' fun e w'=>∃v,e= .returned v/\Below W'.heap.size W' w'/\P0 B K1 (r0.s.runs.take 257) v w' from by
   have t:=Wv r0.p r0.cap (r0.s.runs.take 257) W' (by omega) ((hcm.runs.below hW').take 257) (fun e=>⟨by rw[(hnR e).1];rfl,(hnR e).2⟩)
   rw[hK1] at t
   refine t.mono ?_
   rintro e w' ⟨p',c',rfl,hB',h1,h2,h3⟩
   rw[hK1] at h2⊢
   exact⟨_,rfl,hB',p',c',rfl,h1,h2,fun a e=>Nat.le_trans hB (h3 a e)⟩))
  have cI:=Hd (fun W' B (hW':Below w.heap.size w W') (hB:B<=W'.heap.size)=>(show Calls Tryz.prog 76 #[.slice r0.q K2 r0.vc] W' fun e w'=>∃v,e= .returned v/\Below W'.heap.size W' w'/\Xm B K2 (r0.s.raw.take 257) v w' from by
   have t:=Ww r0.q r0.vc (r0.s.raw.take 257) W' (by omega) ((hcm.raw.below hW').take 257) (fun e=>⟨by rw[(hnV e).1];rfl,(hnV e).2⟩)
   rw[hK2] at t
   refine t.mono ?_
   rintro e w' ⟨p',c',rfl,hB',h1,h2,h3⟩
   rw[hK2] at h2⊢
   exact⟨_,rfl,hB',p',c',rfl,h1,h2,fun a e=>Nat.le_trans hB (h3 a e)⟩))
  replace hK1:=Hd hK1
  replace hK2:=Hd hK2
  clear hcm hlen9 EM
  have hPX:=Hd (fun Wx (hx:Rex [gS] W Wx)=>hP.rex b3 hx)
  clear hP
  have k1:=b1.cell
  have f1:=b1.frozen
  have k2:=b2.cell
  have f2:=b2.frozen
  have k3:=b3.cell
  have f3:=b3.frozen
  have q0:W.cell? ⟨gS,i*8,none⟩=some (.int .i64 r0.s.K):=(b3.cell _).trans (hSC i r0 hR0 0 _ rfl)
  have q1:W.cell? ⟨gS,i*8+1,none⟩=some (.slice r0.p r0.s.runs.length r0.cap):=(b3.cell _).trans (hSC i r0 hR0 1 _ rfl)
  have q2:W.cell? ⟨gS,i*8+2,none⟩=some (.int .i64 r0.s.A):=(b3.cell _).trans (hSC i r0 hR0 2 _ rfl)
  have q3:W.cell? ⟨gS,i*8+3,none⟩=some (.int .i64 r0.s.R):=(b3.cell _).trans (hSC i r0 hR0 3 _ rfl)
  have q4:W.cell? ⟨gS,i*8+4,none⟩=some (.int .i64 r0.s.n):=(b3.cell _).trans (hSC i r0 hR0 4 _ rfl)
  have q5:W.cell? ⟨gS,i*8+5,none⟩=some (.int .i64 r0.s.d):=(b3.cell _).trans (hSC i r0 hR0 5 _ rfl)
  have q6:W.cell? ⟨gS,i*8+6,none⟩=some (.slice r0.q r0.s.raw.length r0.vc):=(b3.cell _).trans (hSC i r0 hR0 6 _ rfl)
  have q7:W.cell? ⟨gS,i*8+7,none⟩=some (.int .i64 r0.s.E):=(b3.cell _).trans (hSC i r0 hR0 7 _ rfl)
  clear k3 f3
  go_upto_region 6 with(fail)
  clear q0 q1 q2 q3 q4 q5 q6 q7
  clear k1 f1 k2 f2
  refine Cm [gS] W (Bc w.heap.size #[.string nm9,.int .i64 ep,.int .i64 fl,.int .i64 la,.int .i64 sc,.slice (some ⟨gS,0,none⟩) M capS,.slice pP N capP] 25<|Bc (w.heap.size+1) #[.string .empty,.int .i64 0,.int .i64 0,.int .i64 0,.int .i64 0,.slice none 0 0,.slice none 0 0] 25<|Bc gS cur 98<|Bc W.heap.size #[.int .i64 r0.s.K,.slice r0.p r0.s.runs.length r0.cap,.int .i64 r0.s.A,.int .i64 r0.s.R,.int .i64 r0.s.n,.int .i64 r0.s.d,.slice r0.q r0.s.raw.length r0.vc,.int .i64 r0.s.E] 98<|Bz) ?_
  clear b1 b2 b3
  rintro W21 hW z22 ⟨⟨b1,yb1,k1,f1⟩,⟨b2,yb2,k2,f2⟩,⟨b3,yb3,k3,f3⟩,⟨b4,yb4,k4,f4⟩,-⟩
  refine Rk 24 67 gS (fun W'=>Rex [gS] W21 W'/\Blk W' w.heap.size #[.string nm9,.int .i64 ep,.int .i64 fl,.int .i64 la,.int .i64 sc,.slice (some ⟨gS,0,none⟩) M capS,.slice pP N capP] 25/\Blk W' W.heap.size #[.int .i64 r0.s.K,.slice r0.p r0.s.runs.length r0.cap,.int .i64 r0.s.A,.int .i64 r0.s.R,.int .i64 r0.s.n,.int .i64 r0.s.d,.slice r0.q r0.s.raw.length r0.vc,.int .i64 r0.s.E] 98/\Blk W' (w.heap.size+1) #[.string .empty,.int .i64 0,.int .i64 0,.int .i64 0,.int .i64 0,.slice none 0 0,.slice none 0 0] 25/\(Blk W' gS cur 98∨∃v,P0 W21.heap.size K1 (r0.s.runs.take 257) v W'/\Blk W' gS (cur.setIfInBounds (i*8+1) v) 98)) Cd (by kernel_rfl) rfl ⟨(Rex.refl _ _).drew,b1,b4,b2,.inl b3⟩ (fun w w' ⟨h0,h1,h2,h4,h3⟩ hr=>⟨h0.trans (hr.more (by simp)),h1.rex hr (by simp),h2.rex hr (by simp),h4.rex hr (by simp),h3.elim (fun h=> .inl (h.rex hr (by simp))) (fun⟨v,hv,h⟩=> .inr ⟨v,P0.closed _ _ _ _ _ _ hr hv,h.rex hr (by simp)⟩)⟩) (fun c a d v w h=>by cases d<;>exact h) _ rfl ?_
  iterate 11
   apply Ag (hg:=rfl) (hal:=rfl)
   ·intro a W' hC hE
    obtain⟨_,k1,k2,k3,k4⟩:=hC
    have k1:=k1.cell
    have k2:=k2.cell
    first
     |(simp at hE;simp[go_sem,Act.eval,iw,hE,k1,k2,k3,k4,hiM];try rfl)
     |(clear hE;simp[go_sem,Act.eval,iw,k1,k2,k3,k4,hiM];try rfl)
  apply Ag (.int .i64 ((K1:Nat):Int)) (hg:=rfl) (hal:=rfl)
  ·intro a' W' hC hE
   simp at hE
   simp[go_sem,Act.eval,hE,EK1.out]
  apply Ag (.slice r0.p K1 r0.cap) (hg:=rfl) (hal:=rfl)
  ·intro a' W' hC hE
   simp at hE
   simp[go_sem,Act.eval,hE,hK1c,hK10,F8]
  apply A7 (P0 W21.heap.size K1 (r0.s.runs.take 257)) (hg:=rfl) (hal:=rfl)
  ·exact P0.closedL _ _ _ (by simp[Bl]<;>omega)
  ·intro a' W' hC hE
   simp at hE
   refine⟨_,_,?_,(cR.out W' W21.heap.size ((hW0.trans (hW.of_priv hz)).trans (hC.1.of_priv (Nat.le_trans hz hW.size) (by simp;omega))) hC.1.size).mono ?_⟩
   ·simp[go_sem,Act.eval,hE]
    try rfl
   ·rintro e w' ⟨v,rfl,hB,hv⟩
    exact⟨v,rfl,hB,hv⟩
  iterate 5
   apply Ag (hg:=rfl) (hal:=rfl)
   ·intro a W' hC hE
    obtain⟨_,k1,k2,k3,k4⟩:=hC
    have k1:=k1.cell
    have k2:=k2.cell
    first
     |(simp at hE;simp[go_sem,Act.eval,iw,hE,k1,k2,k3,k4,hiM];try rfl)
     |(clear hE;simp[go_sem,Act.eval,iw,k1,k2,k3,k4,hiM];try rfl)
  apply Ag (.int .i64 ((K2:Nat):Int)) (hg:=rfl) (hal:=rfl)
  ·intro a' W' hC hE
   simp at hE
   simp[go_sem,Act.eval,hE,EK2.out]
  apply Ag (.slice r0.q K2 r0.vc) (hg:=rfl) (hal:=rfl)
  ·intro a' W' hC hE
   simp at hE
   simp[go_sem,Act.eval,hE,hK2c,hK20,F8]
  apply A7 (Xm W21.heap.size K2 (r0.s.raw.take 257)) (hg:=rfl) (hal:=rfl)
  ·exact Xm.closedL _ _ _ (by simp[Bl]<;>omega)
  ·intro a' W' hC hE
   simp at hE
   refine⟨_,_,?_,(cI.out W' W21.heap.size ((hW0.trans (hW.of_priv hz)).trans (hC.1.of_priv (Nat.le_trans hz hW.size) (by simp;omega))) hC.1.size).mono ?_⟩
   ·simp[go_sem,Act.eval,hE]
    try rfl
   ·rintro e w' ⟨v,rfl,hB,hv⟩
    exact⟨v,rfl,hB,hv⟩
  iterate 2
   apply Ag (hg:=rfl) (hal:=rfl)
   ·intro a W' hC hE
    obtain⟨_,k1,k2,k3,k4⟩:=hC
    have k1:=k1.cell
    have k2:=k2.cell
    first
     |(simp at hE;simp[go_sem,Act.eval,iw,hE,k1,k2,k3,k4,hiM];try rfl)
     |(clear hE;simp[go_sem,Act.eval,iw,k1,k2,k3,k4,hiM];try rfl)
  refine⟨fun _ W'=>Rex [gS] W21 W'/\Blk W' w.heap.size #[.string nm9,.int .i64 ep,.int .i64 fl,.int .i64 la,.int .i64 sc,.slice (some ⟨gS,0,none⟩) M capS,.slice pP N capP] 25/\Blk W' W.heap.size #[.int .i64 r0.s.K,.slice r0.p r0.s.runs.length r0.cap,.int .i64 r0.s.A,.int .i64 r0.s.R,.int .i64 r0.s.n,.int .i64 r0.s.d,.slice r0.q r0.s.raw.length r0.vc,.int .i64 r0.s.E] 98/\Blk W' (w.heap.size+1) #[.string .empty,.int .i64 0,.int .i64 0,.int .i64 0,.int .i64 0,.slice none 0 0,.slice none 0 0] 25/\∃v,P0 W21.heap.size K1 (r0.s.runs.take 257) v W'/\Blk W' gS (cur.setIfInBounds (i*8+1) v) 98,fun _ w w' hr ⟨h0,h1,h2,h4,v,hv,h⟩=>⟨h0.trans (hr.more (by simp)),h1.rex hr (by simp),h2.rex hr (by simp),h4.rex hr (by simp),v,P0.closed _ _ _ _ _ _ hr hv,h.rex hr (by simp)⟩,?_,fun _ w ⟨h0,h1,h2,h4,h⟩=>⟨h0,h1,h2,h4,.inr h⟩,?_⟩
  ·intro a' W' hC hE
   refine⟨fun _=> ?_,fun e=>by rw[Ei (by rfl)] at e;cases e⟩
   simp at hE
   obtain⟨hp,p1,c1,hv,hr1⟩:=hE
   obtain⟨h0,h1,h2,h4,h3⟩:=hC
   obtain⟨x9,hx9⟩:∃x,cur[i*8+1]? =some x:=⟨_,hSC i r0 hR0 1 _ rfl⟩
   have hlt9:=(Array.getElem?_eq_some_iff.1 hx9).1
   obtain⟨cur',hb',hs',x8,hx8⟩:∃cur':Array Value,Blk W' gS cur' 98/\cur'.setIfInBounds (i*8+1) (.slice p1 K1 c1)=cur.setIfInBounds (i*8+1) (.slice p1 K1 c1)/\∃x,cur'[i*8+1]? =some x:=by
    rcases h3 with h|⟨v,hv',h⟩
    ·exact⟨cur,h,rfl,x9,hx9⟩
    ·exact⟨_,h,by rw[Array.setIfInBounds_setIfInBounds],v,by rw[Array.getElem?_setIfInBounds,if_pos rfl,if_pos hlt9]⟩
   have hcl:=P0.closedL W21.heap.size K1 (r0.s.runs.take 257) (L:= [gS]) (by simp;omega)
   have hRx:Rex [gS] W' (W'.setCell ⟨gS,i*8+1,none⟩ (.slice p1 K1 c1)):=Rex.setOwn (Rex.refl _ _) hb' (by simp) _ _
   have hc8:W'.cell? ⟨gS,i*8+1,none⟩=some x8:=(hb'.cell _).trans hx8
   have hf8:=hb'.frozen (i*8+1)
   have hset:=hb'.set (i*8+1) (.slice p1 K1 c1)
   rw[hs'] at hset
   suffices hrun:(execOp a'.eval _).run Tryz.prog W'= .ok .skip (W'.setCell ⟨gS,i*8+1,none⟩ (.slice p1 K1 c1)) by
    rw[hrun]
    exact⟨hRx,⟨h0.trans hRx,h1.rex hRx (by simp;omega),h2.rex hRx (by simp;omega),h4.rex hRx (by simp;omega),_,hcl _ _ _ hRx ⟨p1,c1,rfl,hr1⟩,hset⟩,rfl⟩
   simp[execOp,go_sem,Act.eval,hp,hv,hc8,hf8]
  ·rintro W2 ⟨hR,d1,d2,d4,-⟩
   simp only[Ar,Det,forall_eq]
   intros
   simp only[nS]
   rename Xm _ _ _ _ _=>hI
   obtain⟨p6,c6,rfl,hI6,hc6,hg6⟩:=hI
   obtain⟨-,-,-,-,v5,⟨p5,c5,rfl,hR5,hc5,hg5⟩,d3⟩:= ‹Rex [gS] W21 W2/\_/\_/\_/\_›
   replace hW:=hW.trans hR
   clear hR b1 b2 b3 b4
   have b1:=d1
   have b2:=d4
   have b3:=d3
   clear d1 d2 d3 d4
   replace hc5:=Hd hc5
   replace hc6:=Hd hc6
   have z61:=hW.size
   have z62:=b1.lt
   have z63:=b2.lt
   have z64:=b3.lt
   have k1:=b1.cell
   have f1:=b1.frozen
   have k2:=b2.cell
   have f2:=b2.frozen
   have k3:=b3.cell
   have f3:=b3.frozen
   have x1:(cur.setIfInBounds (i*8+1) (.slice p5 K1 c5))[i*8+6]? =some (.slice r0.q r0.s.raw.length r0.vc):=by rw[Array.getElem?_setIfInBounds,if_neg (by omega)];exact hSC i r0 hR0 6 _ rfl
   have hRx9:Rex [gS] W2 (W2.setCell ⟨gS,i*8+6,none⟩ (.slice p6 K2 c6)):=Rex.setOwn (Rex.refl _ _) b3 (by simp) _ _
   go_upto_region 7 with(fail)
   clear x1
   clear k1 f1 k2 f2 k3 f3
   refine Cm [gS] W (Bc w.heap.size #[.string nm9,.int .i64 ep,.int .i64 fl,.int .i64 la,.int .i64 sc,.slice (some ⟨gS,0,none⟩) M capS,.slice pP N capP] 25<|Bc (w.heap.size+1) #[.string .empty,.int .i64 0,.int .i64 0,.int .i64 0,.int .i64 0,.slice none 0 0,.slice none 0 0] 25<|Bc gS ((cur.setIfInBounds (i*8+1) (.slice p5 K1 c5)).setIfInBounds (i*8+6) (.slice p6 K2 c6)) 98<|Rc (fun W'=>Ai W' p5 (r0.s.runs.take 257))<|Rc (fun W'=>Au W' p6 (r0.s.raw.take 257))<|Bz) ?_ (hI:=by exact Gt) (hR:=(Bc.mk (by exact Ab)<|Bc.mk (by exact Ab)<|Bc.mk (by exact Ab)<|Rc.mk (by exact hR5.rex1 (L:= [gS]) (g:=gS) (by simp) (fun a e=>by have:=hg5 a e;omega) hRx9)<|Rc.mk (by exact hI6.rex1 (L:= [gS]) (g:=gS) (by simp) (fun a e=>by have:=hg6 a e;omega) hRx9)<|trivial))
   clear b1 b2 b3 hW
   rintro W65 hW z66 ⟨⟨b1,yb1,k1,f1⟩,⟨b2,yb2,k2,f2⟩,⟨b3,yb3,k3,f3⟩,b4,b5,-⟩
   clear hRx9 hR5 hI6
   go_wp2
   refine⟨?_,by simp[Ak];omega⟩
   have e1:=X1 r0 (r0.s.runs.take 257) p5 c5
   rw[hK1.out] at e1
   have s1:=hSC.set hR0 (by omega:1<8) e1
   have e2:=segRA_raw ⟨⟨r0.s.K,r0.s.runs.take 257,r0.s.A,r0.s.R,r0.s.n,r0.s.d,r0.s.raw,r0.s.E⟩,p5,r0.q,c5,r0.vc⟩ (r0.s.raw.take 257) p6 c6
   rw[hK2.out] at e2
   have hR1:=List.getElem?_set_self (l:=R) (i:=i) (a:=(⟨⟨r0.s.K,r0.s.runs.take 257,r0.s.A,r0.s.R,r0.s.n,r0.s.d,r0.s.raw,r0.s.E⟩,p5,r0.q,c5,r0.vc⟩:Dm)) (List.getElem?_eq_some_iff.1 hR0).1
   have s2:=s1.set hR1 (by omega:6<8) e2
   rw[List.set_set] at s2
   have ow:Mc W65 gS r0 ⟨⟨r0.s.K,r0.s.runs.take 257,r0.s.A,r0.s.R,r0.s.n,r0.s.d,r0.s.raw.take 257,r0.s.E⟩,p5,p6,c5,c6⟩:=⟨rfl,b4,b5,by show (r0.s.raw.take 257).length<=c6;rw[hK2.out];exact hc6.out,fun a e=>by have:=hg5 a e;omega,fun a e=>by have:=hg6 a e;omega⟩
   exact⟨hW0.trans (hW.of_priv hz),b1,b2,hPX.out _ hW,i+1,_,_,b3,s2,(hOT.rex (by simp) hW).step hr0 ow,Ac rfl,by omega⟩
 ·have hlen9:(rows.take M).length=M:=by rw[List.length_take];omega
  have k1:=b1.cell
  have f1:=b1.frozen
  have k2:=b2.cell
  have f2:=b2.frozen
  have k3:=b3.cell
  have f3:=b3.frozen
  go_wp2
  have d2:Blk (((((((W.setCell ⟨w.heap.size+1,0,none⟩ (.string nm9)).setCell ⟨w.heap.size+1,1,none⟩ (.int .i64 ep)).setCell ⟨w.heap.size+1,2,none⟩ (.int .i64 fl)).setCell ⟨w.heap.size+1,3,none⟩ (.int .i64 la)).setCell ⟨w.heap.size+1,4,none⟩ (.int .i64 sc)).setCell ⟨w.heap.size+1,5,none⟩ (.slice (some ⟨gS,0,none⟩) M capS)).setCell ⟨w.heap.size+1,6,none⟩ (.slice pP N capP)) (w.heap.size+1) #[.string nm9,.int .i64 ep,.int .i64 fl,.int .i64 la,.int .i64 sc,.slice (some ⟨gS,0,none⟩) M capS,.slice pP N capP] 25:=Ab
  have d3:Blk (((((((W.setCell ⟨w.heap.size+1,0,none⟩ (.string nm9)).setCell ⟨w.heap.size+1,1,none⟩ (.int .i64 ep)).setCell ⟨w.heap.size+1,2,none⟩ (.int .i64 fl)).setCell ⟨w.heap.size+1,3,none⟩ (.int .i64 la)).setCell ⟨w.heap.size+1,4,none⟩ (.int .i64 sc)).setCell ⟨w.heap.size+1,5,none⟩ (.slice (some ⟨gS,0,none⟩) M capS)).setCell ⟨w.heap.size+1,6,none⟩ (.slice pP N capP)) gS cur 98:=Ab
  have hR9:Rex [w.heap.size+1] W (((((((W.setCell ⟨w.heap.size+1,0,none⟩ (.string nm9)).setCell ⟨w.heap.size+1,1,none⟩ (.int .i64 ep)).setCell ⟨w.heap.size+1,2,none⟩ (.int .i64 fl)).setCell ⟨w.heap.size+1,3,none⟩ (.int .i64 la)).setCell ⟨w.heap.size+1,4,none⟩ (.int .i64 sc)).setCell ⟨w.heap.size+1,5,none⟩ (.slice (some ⟨gS,0,none⟩) M capS)).setCell ⟨w.heap.size+1,6,none⟩ (.slice pP N capP)):=((((((((Rex.refl [w.heap.size+1] W).setOwn b2 (by simp) 0 _).setOwn (b2.set 0 _) (by simp) 1 _).setOwn ((b2.set 0 _).set 1 _) (by simp) 2 _).setOwn (((b2.set 0 _).set 1 _).set 2 _) (by simp) 3 _).setOwn ((((b2.set 0 _).set 1 _).set 2 _).set 3 _) (by simp) 4 _).setOwn (((((b2.set 0 _).set 1 _).set 2 _).set 3 _).set 4 _) (by simp) 5 _).setOwn ((((((b2.set 0 _).set 1 _).set 2 _).set 3 _).set 4 _).set 5 _) (by simp) 6 _)
  have hP9:D8 (((((((W.setCell ⟨w.heap.size+1,0,none⟩ (.string nm9)).setCell ⟨w.heap.size+1,1,none⟩ (.int .i64 ep)).setCell ⟨w.heap.size+1,2,none⟩ (.int .i64 fl)).setCell ⟨w.heap.size+1,3,none⟩ (.int .i64 la)).setCell ⟨w.heap.size+1,4,none⟩ (.int .i64 sc)).setCell ⟨w.heap.size+1,5,none⟩ (.slice (some ⟨gS,0,none⟩) M capS)).setCell ⟨w.heap.size+1,6,none⟩ (.slice pP N capP)) (w.heap.size+1+1) pP (pts.take N):=(((((((hP.setO (by omega) 0 _).setO (by omega) 1 _).setO (by omega) 2 _).setO (by omega) 3 _).setO (by omega) 4 _).setO (by omega) 5 _).setO (by omega) 6 _)
  obtain⟨W9,hW9⟩:∃W9,W9=(((((((W.setCell ⟨w.heap.size+1,0,none⟩ (.string nm9)).setCell ⟨w.heap.size+1,1,none⟩ (.int .i64 ep)).setCell ⟨w.heap.size+1,2,none⟩ (.int .i64 fl)).setCell ⟨w.heap.size+1,3,none⟩ (.int .i64 la)).setCell ⟨w.heap.size+1,4,none⟩ (.int .i64 sc)).setCell ⟨w.heap.size+1,5,none⟩ (.slice (some ⟨gS,0,none⟩) M capS)).setCell ⟨w.heap.size+1,6,none⟩ (.slice pP N capP)):=⟨_,rfl⟩
  rw[<-hW9] at d2 d3 hR9 hP9⊢
  clear hW9 b1 b2 b3 hP k1 f1 k2 f2 k3 f3
  have k2:=d2.cell
  have f2:=d2.frozen
  have y_2:=d2.lt
  refine bodyPost_ret (v:= .agg #[.string nm9,.int .i64 ep,.int .i64 fl,.int .i64 la,.int .i64 sc,.slice (some ⟨gS,0,none⟩) M capS,.slice pP N capP]) (by simp[results,Tryz.results29,go_sem,k2,f2,y_2]) rfl ⟨gS,capS,pP,capP,rfl,hW0.trans (hR9.of_priv hz),fun L Wx hL hr=>⟨own_segsK (d3.rex hr (fun hm=>by have:=hL _ hm;omega)) hSC hOT (by omega) (L:=(w.heap.size+1)::L) (by intro x hx;rcases List.mem_cons.1 hx with rfl|hx;omega;have:=hL x hx;omega) ((hR9.more (by simp)).trans (hr.more fun x hx=>List.mem_cons_of_mem _ hx)),(hP9.low (fun x hx=>by have:=hL x hx;omega) hr).pts⟩⟩
def ownNRel (w:World) (nm9:ByteArray) (ep fl la sc:Int) (pP:Option Addr) (capP N:Nat) (pts:List (Int×Int)) (a':Act) (W:World):Prop:=
 Below w.heap.size w W/\Blk W w.heap.size #[.string nm9,.int .i64 ep,.int .i64 fl,.int .i64 la,.int .i64 sc,.slice none 0 0,.slice pP N capP] 25/\Blk W (w.heap.size+1) #[.string .empty,.int .i64 0,.int .i64 0,.int .i64 0,.int .i64 0,.slice none 0 0,.slice none 0 0] 25/\D8 W (w.heap.size+1+1) pP pts/\(∃u:Nat->Value,a'= {tmps:= #[u 0,.pointer (some ⟨w.heap.size,0,none⟩),.pointer (some ⟨w.heap.size+1,0,none⟩),u 3,u 4,u 5,u 6,u 7,u 8,u 9,u 10,u 11,u 12,u 13,u 14,u 15,u 16,u 17,u 18,u 19,u 20,u 21,u 22,u 23,u 24,u 25,u 26,u 27,u 28,u 29,u 30,u 31,.slice none 0 0,.int .i64 0,.int .i64 0,u 35,u 36,u 37,u 38,u 39,u 40,u 41,u 42,u 43,u 44,u 45,u 46,u 47,u 48,u 49,u 50,u 51,u 52,u 53,u 54,u 55,u 56,u 57,u 58,u 59,u 60,u 61,u 62,u 63,u 64,u 65,u 66],defers:= []})
theorem own26n_w (nm:ByteArray) (ep fl la sc:Int) (po:Option Addr) (co:Nat) (pts:List (Int×Int)) (w:World) (N:Nat)
  (hpts:Bv w po pts) (hnilP:po=none->pts.length=0/\co=0) (hcapP:pts.length<=co)
  (hN:N<=40) (hNr:N<=pts.length) (EN:Hid ((if (40:Int)<(pts.length:Int) then (40:Int) else pts.length)=(N:Int))) (hNc:(N:Int)<=co) (hN0:0<=(N:Int)) (nm9:ByteArray) (hnm:Hid ((nm.extract 0 (mn (nm.size:Int) 20).toNat)=nm9)):
  Calls Tryz.prog 29 #[.agg #[.string nm,.int .i64 ep,.int .i64 fl,.int .i64 la,.int .i64 sc,.slice none 0 0,.slice po pts.length co]] w fun e w'=>∃pP capP,e= .returned (.agg #[.string nm9,.int .i64 ep,.int .i64 fl,.int .i64 la,.int .i64 sc,.slice none 0 0,.slice pP N capP])/\Below w.heap.size w w'/\Xl w.heap.size w' fun W=>Bv W pP (pts.take N):=by
 have cQ:=Hd (fun W B (hW:Below w.heap.size w W) (hBW:B<=W.heap.size)=>(show Calls Tryz.prog 74 #[.slice po N co] W fun e w'=>∃v,e= .returned v/\Below W.heap.size W w'/\PtS B N (pts.take N) v w' from by
  have hl:(pts.take N).length=N:=by rw[List.length_take];omega
  cases hpo:po with
  |none=>
   obtain⟨h1,h2⟩:=hnilP hpo
   obtain rfl:N=0:=by omega
   subst h2
   refine(Po W).mono ?_
   rintro e w' ⟨rfl,hB⟩
   exact⟨_,rfl,hB,.inl ⟨rfl,rfl,rfl⟩⟩
  |some a9=>
   have t:=N7 a9 co (pts.take N) W (by omega) (hpo▸(hpts.take9 N).below hW)
   rw[hl] at t
   refine t.mono ?_
   rintro e w' ⟨v,rfl,hB,g,c,cur,rfl,hg,h⟩
   exact⟨_,rfl,hB,.inr ⟨g,c,cur,rfl,Nat.le_trans hBW hg,h⟩⟩))
 go_enter Tryz.func29,Tryz.ntmps29
 have hmin:∀ts t x y w,(Builtin.min_ ts t #[.int .i64 x,.int .i64 y]).run Tryz.prog w= .ok (.int .i64 (mn x y)) w:=fun ts t x y w=>by simp[Builtin.min_,Builtin.min2,mn]
 have hm0:=Hr (nm.size:Int) 20
 have hm1:0<=mn (nm.size:Int) 20:=by omega
 have hm2:mn (nm.size:Int) 20<=(nm.size:Int):=hm0.1
 clear hm0
 go_upto_region 2 with(fail)
 refine Ad w (Bc w.heap.size #[.string (nm.extract 0 (mn (nm.size:Int) 20).toNat),.int .i64 ep,.int .i64 fl,.int .i64 la,.int .i64 sc,.slice none 0 0,.slice po pts.length co] 25<|Bc (w.heap.size+1) #[.string .empty,.int .i64 0,.int .i64 0,.int .i64 0,.int .i64 0,.slice none 0 0,.slice none 0 0] 25<|Bz) ?_
 rintro W1 hW z2 ⟨⟨b1,yb1,k1,f1⟩,⟨b2,yb2,k2,f2⟩,-⟩
 clear hmin hm1 hm2
 rw[hnm.out] at b1
 go_upto_region 2 with(fail)
 clear k1 f1 k2 f2
 refine Ad w (Bc w.heap.size #[.string nm9,.int .i64 ep,.int .i64 fl,.int .i64 la,.int .i64 sc,.slice none 0 0,.slice po pts.length co] 25<|Bc (w.heap.size+1) #[.string .empty,.int .i64 0,.int .i64 0,.int .i64 0,.int .i64 0,.slice none 0 0,.slice none 0 0] 25<|Bz) ?_
 clear b1 b2 hW
 rintro W3 hW z4 hL
 obtain⟨⟨b1,yb1,k1,f1⟩,⟨b2,yb2,k2,f2⟩,-⟩:=id hL
 clear k1 f1 k2 f2
 refine Br 17 67 hW hL ?_
 iterate 6 refine dA ?_
 apply Ag (.slice none 0 0) (hg:=rfl) (hal:=rfl)
 ·intro a' W' hC hE
  simp at hE
  simp[go_sem,Act.eval,hE]
  try rfl
 refine cA (fun W' hC=>Ud W') ?_
 iterate 5 refine dA ?_
 apply Ag (.int .i64 ((N:Nat):Int)) (hg:=rfl) (hal:=rfl)
 ·intro a' W' hC hE
  simp at hE
  simp[go_sem,Act.eval,hE,EN.out]
 apply Ag (.slice po N co) (hg:=rfl) (hal:=rfl)
 ·intro a' W' hC hE
  simp at hE
  simp[go_sem,Act.eval,hE,hNc,hN0,F8]
 apply A7 (PtS W3.heap.size N (pts.take N)) (hg:=rfl) (hal:=rfl)
 ·exact PtS.closed _ _ _
 ·intro a' W' hC hE
  simp at hE
  refine⟨_,_,?_,(cQ.out W' W3.heap.size (hW.trans (hC.1.of_priv hW.size)) hC.1.size).mono ?_⟩
  ·simp[go_sem,Act.eval,hE]
   try rfl
  ·rintro e w' ⟨v,rfl,hB,hv⟩
   exact⟨v,rfl,hB,hv⟩
 refine dA ?_
 clear hW hL b1 b2
 rintro W5 hW z6 hL
 simp only[ndR]
 intros
 simp only[ndS]
 obtain⟨⟨b1,yb1,k1,f1⟩,⟨b2,yb2,k2,f2⟩,-⟩:=hL
 have z7:=hW.size
 rename PtS _ _ _ _ _=>hp
 obtain⟨pP,capP,rfl,hP,hcP⟩:=hp.form
 clear hp
 go_upto_region 3 with(fail)
 clear k1 f1 k2 f2
 refine Ad w (Bc w.heap.size #[.string nm9,.int .i64 ep,.int .i64 fl,.int .i64 la,.int .i64 sc,.slice none 0 0,.slice pP N capP] 25<|Bc (w.heap.size+1) #[.string .empty,.int .i64 0,.int .i64 0,.int .i64 0,.int .i64 0,.slice none 0 0,.slice none 0 0] 25<|Rc (fun W'=>D8 W' (w.heap.size+1+1) pP (pts.take N))<|Bz) ?_ (hI:=by exact Aa) (hR:=(Bc.mk (by exact Ab)<|Bc.mk (by exact Ab)<|Rc.mk (by exact((hP.mono (by omega)).setO (by omega) _ _).setO (by omega) _ _)<|trivial))
 clear b1 b2 hW
 rintro W8 hW z9 ⟨⟨b1,yb1,k1,f1⟩,⟨b2,yb2,k2,f2⟩,b3,-⟩
 have hP:=b3
 clear b3
 go_wp2
 refine wp_loop (ownNRel w nm9 ep fl la sc pP capP N (pts.take N)) (fun a' _=>0) ?_ ?_
 ·exact⟨hW,b1,b2,hP,Ac rfl⟩
 clear b1 b2 hP hW k1 f1 k2 f2
 rintro a' W ⟨hW0,b1,b2,hP,⟨u,rfl⟩⟩
 have hz:=hW0.size
 have zb1:=b1.lt
 have zb2:=b2.lt
 have k1:=b1.cell
 have f1:=b1.frozen
 have k2:=b2.cell
 have f2:=b2.frozen
 go_wp2
 have d2:Blk (((((((W.setCell ⟨w.heap.size+1,0,none⟩ (.string nm9)).setCell ⟨w.heap.size+1,1,none⟩ (.int .i64 ep)).setCell ⟨w.heap.size+1,2,none⟩ (.int .i64 fl)).setCell ⟨w.heap.size+1,3,none⟩ (.int .i64 la)).setCell ⟨w.heap.size+1,4,none⟩ (.int .i64 sc)).setCell ⟨w.heap.size+1,5,none⟩ (.slice none 0 0)).setCell ⟨w.heap.size+1,6,none⟩ (.slice pP N capP)) (w.heap.size+1) #[.string nm9,.int .i64 ep,.int .i64 fl,.int .i64 la,.int .i64 sc,.slice none 0 0,.slice pP N capP] 25:=Ab
 have hR9:Rex [w.heap.size+1] W (((((((W.setCell ⟨w.heap.size+1,0,none⟩ (.string nm9)).setCell ⟨w.heap.size+1,1,none⟩ (.int .i64 ep)).setCell ⟨w.heap.size+1,2,none⟩ (.int .i64 fl)).setCell ⟨w.heap.size+1,3,none⟩ (.int .i64 la)).setCell ⟨w.heap.size+1,4,none⟩ (.int .i64 sc)).setCell ⟨w.heap.size+1,5,none⟩ (.slice none 0 0)).setCell ⟨w.heap.size+1,6,none⟩ (.slice pP N capP)):=((((((((Rex.refl [w.heap.size+1] W).setOwn b2 (by simp) 0 _).setOwn (b2.set 0 _) (by simp) 1 _).setOwn ((b2.set 0 _).set 1 _) (by simp) 2 _).setOwn (((b2.set 0 _).set 1 _).set 2 _) (by simp) 3 _).setOwn ((((b2.set 0 _).set 1 _).set 2 _).set 3 _) (by simp) 4 _).setOwn (((((b2.set 0 _).set 1 _).set 2 _).set 3 _).set 4 _) (by simp) 5 _).setOwn ((((((b2.set 0 _).set 1 _).set 2 _).set 3 _).set 4 _).set 5 _) (by simp) 6 _)
 have hP9:D8 (((((((W.setCell ⟨w.heap.size+1,0,none⟩ (.string nm9)).setCell ⟨w.heap.size+1,1,none⟩ (.int .i64 ep)).setCell ⟨w.heap.size+1,2,none⟩ (.int .i64 fl)).setCell ⟨w.heap.size+1,3,none⟩ (.int .i64 la)).setCell ⟨w.heap.size+1,4,none⟩ (.int .i64 sc)).setCell ⟨w.heap.size+1,5,none⟩ (.slice none 0 0)).setCell ⟨w.heap.size+1,6,none⟩ (.slice pP N capP)) (w.heap.size+1+1) pP (pts.take N):=(((((((hP.setO (by omega) 0 _).setO (by omega) 1 _).setO (by omega) 2 _).setO (by omega) 3 _).setO (by omega) 4 _).setO (by omega) 5 _).setO (by omega) 6 _)
 obtain⟨W9,hW9⟩:∃W9,W9=(((((((W.setCell ⟨w.heap.size+1,0,none⟩ (.string nm9)).setCell ⟨w.heap.size+1,1,none⟩ (.int .i64 ep)).setCell ⟨w.heap.size+1,2,none⟩ (.int .i64 fl)).setCell ⟨w.heap.size+1,3,none⟩ (.int .i64 la)).setCell ⟨w.heap.size+1,4,none⟩ (.int .i64 sc)).setCell ⟨w.heap.size+1,5,none⟩ (.slice none 0 0)).setCell ⟨w.heap.size+1,6,none⟩ (.slice pP N capP)):=⟨_,rfl⟩
 rw[<-hW9] at d2 hR9 hP9⊢
 clear hW9 b1 b2 hP k1 f1 k2 f2
 have k2:=d2.cell
 have f2:=d2.frozen
 have y_2:=d2.lt
 refine bodyPost_ret (v:= .agg #[.string nm9,.int .i64 ep,.int .i64 fl,.int .i64 la,.int .i64 sc,.slice none 0 0,.slice pP N capP]) (by simp[results,Tryz.results29,go_sem,k2,f2,y_2]) rfl ⟨pP,capP,rfl,hW0.trans (hR9.of_priv hz),fun L Wx hL hr=>(hP9.low (fun x hx=>by have:=hL x hx;omega) hr).pts⟩
end Go.Proofs.YtidfcoooccblaaaGreat
namespace Go.Proofs.YtidfcoooccblaaaGreat
open Go.RowKit

def ownSer (nm:ByteArray) (ep fl la sc:Int) (rows:List Dm) (pts:List (Int×Int)):Be:=⟨nm,ep,fl,la,sc,(rows.take (min rows.length 60)).map fun r=>ownG r.s,pts.take (min pts.length 60)⟩
structure Kd (w:World) (ps po:Option Addr) (cs co:Nat) (rows:List Dm) (pts:List (Int×Int)):Prop where
 segs:Ec w ps rows
 opn:Bv w po pts
 nilS:ps=none->rows.length=0/\cs=0
 nilO:po=none->pts.length=0/\co=0
 capS:rows.length<=cs
 capO:pts.length<=co
theorem Kd.below {w w':World} {ps po:Option Addr} {cs co:Nat} {rows:List Dm} {pts:List (Int×Int)} (h:Kd w ps po cs co rows pts) (hb:Below w.heap.size w w'):Kd w' ps po cs co rows pts:=⟨h.segs.below hb,h.opn.below hb,h.nilS,h.nilO,h.capS,h.capO⟩
def Gn (nm:ByteArray) (ep fl la sc:Int) (rows:List Dm) (pts:List (Int×Int)):Be:=⟨nm.extract 0 (mn (nm.size:Int) 20).toNat,ep,fl,la,sc,(rows.take (min rows.length 12)).map fun r=>Vq r.s,pts.take (min pts.length 40)⟩
theorem c_own26L (nm:ByteArray) (ep fl la sc:Int) (ps po:Option Addr) (cs co:Nat) (rows:List Dm) (pts:List (Int×Int)) (w:World) (h:Kd w ps po cs co rows pts):
  Calls Tryz.prog 29 #[.agg #[.string nm,ep,fl,la,sc,.slice ps rows.length cs,.slice po pts.length co]] w fun e w'=>∃pS capS pP capP,e= .returned (.agg (Cg (Gn nm ep fl la sc rows pts) pS capS pP capP))/\Below w.heap.size w w'/\Xl w.heap.size w' fun W=>Av W (Gn nm ep fl la sc rows pts) pS pP:=by
 have h1:=h.capS
 have h2:=h.capO
 have l1:((rows.take (min rows.length 12)).map fun r=>Vq r.s).length=min rows.length 12:=by rw[List.length_map,List.length_take];omega
 have l2:(pts.take (min pts.length 40)).length=min pts.length 40:=by rw[List.length_take];omega
 cases hps:ps with
 |none=>
  obtain⟨e1,e2⟩:=h.nilS hps
  subst e2
  rw[e1]
  have e3:rows= []:=List.length_eq_zero_iff.1 e1
  subst e3
  refine(own26n_w nm ep fl la sc po co pts w (min pts.length 40) h.opn h.nilO h.capO (by omega) (by omega) (Hd (by split<;>omega)) (by omega) (by omega) _ (Hd rfl)).mono ?_
  rintro e w' ⟨pP,capP,rfl,hB,hP⟩
  refine⟨none,0,pP,capP,?_,hB,fun L Wx hL hr=>⟨⟨fun i s hs=>by simp[Gn] at hs⟩,hP L Wx hL hr,?_,?_⟩⟩
  ·unfold Cg Gn
   simp only[l2]
   rfl
  ·show ([]:List A4).length<=100
   decide
  ·show (pts.take (min pts.length 40)).length<=100
   omega
 |some ad=>
  subst hps
  refine(own26_w nm ep fl la sc ad po cs co rows pts w (min rows.length 12) (min pts.length 40) h.segs h.opn h.nilO h.capS h.capO (by omega) (by omega) (Hd (by split<;>omega)) (by omega) (by omega) (by omega) (by omega) (Hd (by split<;>omega)) (by omega) (by omega) _ (Hd rfl)).mono ?_
  rintro e w' ⟨gS,capS,pP,capP,rfl,hB,hS⟩
  refine⟨_,capS,pP,capP,?_,hB,fun L Wx hL hr=>⟨(hS L Wx hL hr).1,(hS L Wx hL hr).2,?_,?_⟩⟩
  ·unfold Cg Gn
   simp only[l1,l2]
  ·show ((rows.take (min rows.length 12)).map fun r=>Vq r.s).length<=100
   omega
  ·show (pts.take (min pts.length 40)).length<=100
   omega
theorem c_own26 (nm:ByteArray) (ep fl la sc:Int) (ps po:Option Addr) (cs co:Nat) (rows:List Dm) (pts:List (Int×Int)) (w:World) (h:Kd w ps po cs co rows pts):
  Calls Tryz.prog 29 #[.agg #[.string nm,ep,fl,la,sc,.slice ps rows.length cs,.slice po pts.length co]] w fun e w'=>∃pS capS pP capP,e= .returned (.agg (Cg (Gn nm ep fl la sc rows pts) pS capS pP capP))/\Below w.heap.size w w'/\Av w' (Gn nm ep fl la sc rows pts) pS pP:=
 (c_own26L nm ep fl la sc ps po cs co rows pts w h).mono fun e w' ⟨pS,capS,pP,capP,h1,h2,h3⟩=>⟨pS,capS,pP,capP,h1,h2,h3.now⟩
end Go.Proofs.YtidfcoooccblaaaGreat
