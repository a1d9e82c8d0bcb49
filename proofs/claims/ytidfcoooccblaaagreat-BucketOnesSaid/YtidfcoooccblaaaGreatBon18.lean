/- Parts of the proof that follows. No condition. -/
import Derived.Test.YtidfcoooccblaaaGreatBon17
set_option maxRecDepth 100000
set_option maxHeartbeats 8000000
set_option linter.unusedSimpArgs false
set_option linter.unusedVariables false
namespace Go.Proofs.YtidfcoooccblaaaGreat
open Go.RowKit
structure Dg (w:World) (p:Option Addr) (l:List Ea):Prop where
 at':∀(i:Nat) (r:Ea),l[i]? =some r->∃b o,p=some ⟨b,o,none⟩/\∀j v,r.cells[j]? =some v->w.cell? ⟨b,o+i*9+j,none⟩=some v
theorem Dg.below {w w':World} {p:Option Addr} {l:List Ea} (h:Dg w p l) (hb:Below w.heap.size w w'):Dg w' p l:=⟨fun i r hr=>by
 obtain⟨b,o,e,h1⟩:=h.at' i r hr
 exact⟨b,o,e,fun j v hv=>(hb.cell (p:=⟨b,_,none⟩) (A8 (h1 j v hv))).trans (h1 j v hv)⟩⟩
theorem Dg.drew {w:World} {p:Option Addr} {l:List Ea} (h:Dg w p l):Dg w.drew p l:=⟨h.at'⟩
theorem Dg.rex {L:List Nat} {w w':World} {p:Option Addr} {l:List Ea} (h:Dg w p l) (hr:Rex L w w') (hL:L= []):Dg w' p l:=by subst hL;exact h.below hr.below
theorem Dg.nil (w:World) (p:Option Addr):Dg w p []:=⟨fun i r hr=>by simp at hr⟩
structure Rj (w:World) (b o:Nat) (l:List Ea):Prop where
 ans:Dg w (some ⟨b,o,none⟩) l
theorem Rj.below {w w':World} {b o:Nat} {l:List Ea} (h:Rj w b o l) (hb:Below w.heap.size w w'):Rj w' b o l:=⟨h.ans.below hb⟩
theorem Rj.rex {L:List Nat} {w w':World} {b o:Nat} {l:List Ea} (h:Rj w b o l) (hr:Rex L w w') (hL:L= []):Rj w' b o l:=by subst hL;exact h.below hr.below
theorem Rj.drew {w:World} {b o:Nat} {l:List Ea} (h:Rj w b o l):Rj w.drew b o l:=⟨⟨h.ans.at'⟩⟩
theorem Rj.cellAt {w:World} {b o:Nat} {l:List Ea} (h:Rj w b o l) {i:Nat} {r:Ea} (hx:l[i]? =some r):
  w.cell? ⟨b,o+i*9,none⟩=some (r.er)/\w.cell? ⟨b,o+i*9+1,none⟩=some (r.n)/\w.cell? ⟨b,o+i*9+2,none⟩=some (r.x)/\w.cell? ⟨b,o+i*9+3,none⟩=some (r.y)/\
  w.cell? ⟨b,o+i*9+4,none⟩=some (r.m0)/\w.cell? ⟨b,o+i*9+5,none⟩=some (r.m1)/\w.cell? ⟨b,o+i*9+6,none⟩=some (r.m2)/\w.cell? ⟨b,o+i*9+7,none⟩=some (r.m3)/\w.cell? ⟨b,o+i*9+8,none⟩=some (r.m4):=by
 obtain⟨b',o',e,h1⟩:=h.ans.at' i r hx
 cases e
 exact⟨h1 0 _ rfl,h1 1 _ rfl,h1 2 _ rfl,h1 3 _ rfl,h1 4 _ rfl,h1 5 _ rfl,h1 6 _ rfl,h1 7 _ rfl,h1 8 _ rfl⟩
theorem ans_len (r:Ea):r.cells.length=9:=rfl
theorem Bp.ans {W:World} {B n:Nat} {e:TypeId} {p:Option Addr} {cap:Nat} {l:List Ea} (h:Bp W B e 9 (.slice p n cap) n (Kb l)) (hl:l.length=n):Dg W p l:=by
 rcases h.own.2 with⟨h1,h0⟩|⟨g,cap',cur,h1,hg,hb,hn,hmx,_,ht⟩
 ·have:l= []:=List.length_eq_zero_iff.1 (by omega)
  subst this
  exact Dg.nil _ _
 ·injection h1 with h2 _ _
  subst h2
  refine⟨fun i r hr=>⟨g,0,rfl,fun j v hv=> ?_⟩⟩
  have h3:=Ty Ea.cells 9 ans_len l i r j v hr hv
  rw[cell_of_row W g _ cur e (0,0) hb,Nat.zero_add]
  exact Gm ht h3
def Md (L:List Ea) (er:Int) (w:World) (e:Ending) (w':World):Prop:=
 ∃p k,e= .returned (.tuple #[.slice p L.length k,er])/\Dg w' p L/\Below w.heap.size w w'
theorem toldb_bad (nm:ByteArray) (ep fl la sc:Int) (ps po:Option Addr) (ns cs no co:Nat) (gk gf gw gn gs:Nat) (w:World)
  (c1:∀W,Below w.heap.size w W->Cb 14 #[.agg #[.string nm,ep,fl,la,sc,.slice ps ns cs,.slice po no co]] W (.int .i64 340)):
  Calls Tryz.prog 87 #[.agg #[.string nm,ep,fl,la,sc,.slice ps ns cs,.slice po no co],.func (.func 88) #[] #[.pointer (some ⟨gk,0,none⟩),.pointer (some ⟨gf,0,none⟩),.pointer (some ⟨gw,0,none⟩),.pointer (some ⟨gn,0,none⟩),.pointer (some ⟨gs,0,none⟩)]] w (Md [] 340 w):=by
 have H_c1:=Hd c1
 clear c1
 go_enter Tryz.func87,Tryz.ntmps87
 go_wp2_with fail
 refine(H_c1.out _ Aa).mono ?_
 rintro e w1 ⟨rfl,hb1⟩
 have z2:=hb1.size
 try simp at z2
 refine Ae w w1 (Bc w.heap.size #[.string nm,ep,fl,la,sc,.slice ps ns cs,.slice po no co] 25<|Bz) ?_
 rintro hW z3 ⟨⟨b1,yb1,k1,f1⟩,-⟩
 clear hb1
 go_wp2
 refine bodyPost_ret (v:= .tuple #[.slice none 0 0,.int .i64 340]) (by simp[results,Tryz.results87,go_sem]) rfl ⟨none,0,rfl,Dg.nil _ _,Aa⟩
theorem toldb_ok (nm:ByteArray) (ep fl la sc:Int) (ps po:Option Addr) (ns cs no co:Nat) (gk gf gw gn gs:Nat) (L:List Ea) (er:Int) (w:World)
  (c1:∀W,Below w.heap.size w W->Cb 14 #[.agg #[.string nm,ep,fl,la,sc,.slice ps ns cs,.slice po no co]] W (.int .i64 0))
  (c2:∀W,Below w.heap.size w W->Calls Tryz.prog 88 #[.pointer (some ⟨gk,0,none⟩),.pointer (some ⟨gf,0,none⟩),.pointer (some ⟨gw,0,none⟩),.pointer (some ⟨gn,0,none⟩),.pointer (some ⟨gs,0,none⟩)] W (Md L er W)):
  Calls Tryz.prog 87 #[.agg #[.string nm,ep,fl,la,sc,.slice ps ns cs,.slice po no co],.func (.func 88) #[] #[.pointer (some ⟨gk,0,none⟩),.pointer (some ⟨gf,0,none⟩),.pointer (some ⟨gw,0,none⟩),.pointer (some ⟨gn,0,none⟩),.pointer (some ⟨gs,0,none⟩)]] w (Md L er w):=by
 have H_c1:=Hd c1
 clear c1
 have H_c2:=Hd c2
 clear c2
 go_enter Tryz.func87,Tryz.ntmps87
 go_wp2_with fail
 refine(H_c1.out _ Aa).mono ?_
 rintro e w1 ⟨rfl,hb1⟩
 have z2:=hb1.size
 try simp at z2
 refine Ae w w1 (Bc w.heap.size #[.string nm,ep,fl,la,sc,.slice ps ns cs,.slice po no co] 25<|Bz) ?_
 rintro hW z3 ⟨⟨b1,yb1,k1,f1⟩,-⟩
 clear hb1
 go_wp2_with fail
 refine(H_c2.out _ Aa).mono ?_
 rintro e w4 ⟨p,k,rfl,hR,hb4⟩
 have z5:=hb4.size
 try simp at z5
 clear k1 f1
 refine Ae w w4 (Bc w.heap.size #[.string nm,ep,fl,la,sc,.slice ps ns cs,.slice po no co] 25<|Bz) ?_
 clear b1 hW
 rintro hW z6 ⟨⟨b1,yb1,k1,f1⟩,-⟩
 replace hR:=Hd hR
 go_wp2
 refine bodyPost_ret (v:= .tuple #[.slice p L.length k,er]) (by simp[results,Tryz.results87,go_sem]) rfl ⟨p,k,rfl,hR.out,Aa⟩
theorem buckets_w (nm:ByteArray) (ep fl la sc:Int) (ps po:Option Addr) (ns cs no co:Nat) (k fr wd nn:Int) (L:List Ea) (er:Int) (w:World)
  (c1:∀W,Below w.heap.size w W->Blk W w.heap.size #[.string nm,ep,fl,la,sc,.slice ps ns cs,.slice po no co] 25->Blk W (w.heap.size+1) #[k] 3->Blk W (w.heap.size+1+1) #[fr] 2->Blk W (w.heap.size+1+1+1) #[wd] 2->Blk W (w.heap.size+1+1+1+1) #[nn] 3->Calls Tryz.prog 87 #[.agg #[.string nm,ep,fl,la,sc,.slice ps ns cs,.slice po no co],.func (.func 88) #[] #[.pointer (some ⟨w.heap.size+1,0,none⟩),.pointer (some ⟨w.heap.size+1+1,0,none⟩),.pointer (some ⟨w.heap.size+1+1+1,0,none⟩),.pointer (some ⟨w.heap.size+1+1+1+1,0,none⟩),.pointer (some ⟨w.heap.size,0,none⟩)]] W (Md L er W)):
  Calls Tryz.prog 38 #[.agg #[.string nm,ep,fl,la,sc,.slice ps ns cs,.slice po no co],k,fr,wd,nn] w (Md L er w):=by
 have H_c1:=Hd c1
 clear c1
 go_enter Tryz.func38,Tryz.ntmps38
 have hmf:∀(fn:Fn) (first cap:Array Value) (w:World),(Instr.makeFunc fn first cap).run Tryz.prog w= .ok (.func fn first cap) w:=fun _ _ _ _=>rfl
 go_upto_region 1 with(fail)
 refine Ad w (Bc w.heap.size #[.string nm,ep,fl,la,sc,.slice ps ns cs,.slice po no co] 25<|Bc (w.heap.size+1) #[k] 3<|Bc (w.heap.size+1+1) #[fr] 2<|Bc (w.heap.size+1+1+1) #[wd] 2<|Bc (w.heap.size+1+1+1+1) #[nn] 3<|Bz) ?_
 rintro W1 hW z2 ⟨⟨b1,yb1,k1,f1⟩,⟨b2,yb2,k2,f2⟩,⟨b3,yb3,k3,f3⟩,⟨b4,yb4,k4,f4⟩,⟨b5,yb5,k5,f5⟩,-⟩
 go_wp2_with fail
 refine(H_c1.out W1 hW b1 b2 b3 b4 b5).mono ?_
 rintro e w3 ⟨p,kk,rfl,hR,hb3⟩
 have z4:=hb3.size
 try simp at z4
 clear k1 f1 k2 f2 k3 f3 k4 f4 k5 f5
 refine Ae w w3 (Bc w.heap.size #[.string nm,ep,fl,la,sc,.slice ps ns cs,.slice po no co] 25<|Bc (w.heap.size+1) #[k] 3<|Bc (w.heap.size+1+1) #[fr] 2<|Bc (w.heap.size+1+1+1) #[wd] 2<|Bc (w.heap.size+1+1+1+1) #[nn] 3<|Bz) ?_
 clear b1 b2 b3 b4 b5 hW
 rintro hW z5 ⟨⟨b1,yb1,k1,f1⟩,⟨b2,yb2,k2,f2⟩,⟨b3,yb3,k3,f3⟩,⟨b4,yb4,k4,f4⟩,⟨b5,yb5,k5,f5⟩,-⟩
 replace hR:=Hd hR
 go_wp2
 refine bodyPost_ret (v:= .tuple #[.slice p L.length kk,er]) (by simp[results,Tryz.results38,go_sem]) rfl ⟨p,kk,rfl,hR.out,Aa⟩
def Ll (k fr wd nn:Int):Bool:=decide (1<=k/\k<=5/\0<=fr/\fr<=281474976710656/\1<=wd/\wd<=281474976710656/\1<=nn/\nn<=64)
def bkL (s:Be) (k fr wd nn:Int):List Ea:=if Bn s&&Ll k fr wd nn then E9 s k.toNat fr wd nn.toNat else []
def bkE (s:Be) (k fr wd nn:Int):Int:=if Bn s then (if Ll k fr wd nn then 0 else 2) else 340
theorem Wy (s:Be) (k:Nat) (fr wd:Int) (n:Nat):(E9 s k fr wd n).length=n:=by unfold E9;simp
theorem Li (s:Be) (ps po:Option Addr) (cs co:Nat) (k fr wd nn:Int) (w:World) (hin:Av w s ps po):
  Calls Tryz.prog 38 #[.agg (Cg s ps cs po co),k,fr,wd,nn] w (Md (bkL s k fr wd nn) (bkE s k fr wd nn) w):=by
 unfold Cg
 refine buckets_w _ _ _ _ _ _ _ _ _ _ _ k fr wd nn _ _ w fun W hW b1 b2 b3 b4 b5=> ?_
 have hin':=hin.below hW
 have ck:=L9 s ps po cs co
 unfold Cg Ff at ck
 unfold bkL bkE
 cases hc:Bn s with
 |false=>
  rw[hc] at ck
  exact toldb_bad s.name s.eps s.floor s.last s.scale ps po s.segs.length cs s.opn.length co _ _ _ _ _ W (fun W' hW'=>ck W' (hin'.below hW'))
 |true=>
  rw[hc] at ck
  simp only[if_true,Bool.true_and]
  refine toldb_ok s.name s.eps s.floor s.last s.scale ps po s.segs.length cs s.opn.length co _ _ _ _ _ _ _ W (fun W' hW'=>ck W' (hin'.below hW')) fun W' hW'=> ?_
  cases ha:Ll k fr wd nn with
  |false=>
   unfold Ll at ha
   have ha:=of_decide_eq_false ha
   refine(bk1_no k fr wd nn _ _ _ _ _ _ s ps cs po co W' (Hd ?_) (fun W2=>P8 k W2) (b2.below hW') (b3.below hW') (b4.below hW') (b5.below hW') (b1.below hW')).mono ?_
   ·simp only[Bool.or_eq_true,Bool.not_eq_true',Bool.and_eq_false_iff,decide_eq_true_eq,decide_eq_false_iff_not]
    omega
   ·rintro e w' ⟨rfl,hB⟩
    exact⟨none,0,rfl,Dg.nil _ _,hB⟩
  |true=>
   unfold Ll at ha
   have ha:=of_decide_eq_true ha
   obtain⟨j,rfl⟩:∃j:Nat,k=(j:Int):=⟨k.toNat,by omega⟩
   obtain⟨m,rfl⟩:∃m:Nat,nn=(m:Int):=⟨nn.toNat,by omega⟩
   rw[show ((j:Int).toNat)=j from rfl,show ((m:Int).toNat)=m from rfl]
   refine(bk1_yes j m fr wd _ _ _ _ _ _ s ps cs po co W' (by omega) (by omega) (by omega) (by omega) (by omega) (by omega) (hin'.below hW') (Hd ?_) (fun W2=>P8 (j:Int) W2) (b2.below hW') (b3.below hW') (b4.below hW') (b5.below hW') (b1.below hW')).mono ?_
   ·simp only[Bool.or_eq_false_iff,Bool.not_eq_false',Bool.and_eq_true,decide_eq_true_eq,decide_eq_false_iff_not]
    omega
   ·rintro e w' ⟨v,rfl,hO,hB⟩
    obtain⟨p,cap,rfl,-⟩:=hO.form
    have hl:=Wy s j fr wd m
    have hA:=hO.ans hl
    rw[if_pos rfl,if_pos rfl]
    exact⟨p,cap,by rw[hl],hA,hB⟩
def bI (s:Be) (fr wd:Int) (i:Nat):List (Int×Int):=D7 s (fr+(i:Int)*wd) (fr+(i:Int)*wd+wd-1)
def bLs (s:Be) (fr wd:Int) (n:Nat):List (List (Int×Int)):=(List.range n).map (bI s fr wd)
def neB (l:List (Int×Int)):Bool:= !l.isEmpty
def O8 (k:Nat) (l:List (Int×Int)):Ea:=
 if k=1 then ⟨0,l.length,0,0,0,0,0,0,0⟩
 else if k=2 then ⟨if l= [] then 9 else 0,0,Bh (loL l),Bh (hiL l),0,0,0,0,0⟩
 else if k=3 then ⟨if l= [] then 9 else 0,0,Bi (loL l),Bi (hiL l),0,0,0,0,0⟩
 else if k=4 then ⟨Xv l (if l= [] then 9 else 0),0,sl l,sh l,0,0,0,0,0⟩
 else ⟨if l= [] then 9 else 0,0,0,0,l.length,Ap (loL l)/l.length,Ap (loL l)%l.length,Ap (hiL l)/l.length,Ap (hiL l)%l.length⟩
theorem ansT_K {s:Be} (hc:Bn s=true) (k:Nat) (a b:Int):Py s k a b=O8 k (D7 s a b):=by
 have e1:Bd s a b=D7 s a b:=by simp[Bd,hc]
 have e2:Cz s a b=if D7 s a b= [] then 9 else 0:=by unfold Cz;rw[if_pos hc];simp only[Kr]
 unfold Py O8
 rw[e1,e2]
 by_cases h:D7 s a b= []<;>simp[h]
def spsK (k:Nat) (ls:List (List (Int×Int))):List (Int×Int):=(ls.filter fun l=>decide ((O8 k l).er=0)).map fun l=>((O8 k l).x,(O8 k l).y)
def ovK (k:Nat) (ls:List (List (Int×Int))):Bool:=ls.any fun l=>decide ((O8 k l).er=5)
def cntK (ls:List (List (Int×Int))):Int:=Ap (ls.map fun l=>((l.length:Nat):Int))
theorem Rb (n:Int) (w:World):Cb 31 #[.int .i64 n] w (.bool (decide (1<=n)&&decide (n<=5))):=by
 go_enter Tryz.func31,Tryz.ntmps31
 go_upto_region 1 with(fail)
 refine Ad w (Bz) ?_
 rintro W1 hW z2 hL
 refine B3 7 9 hW hL ?_
 iterate 3 refine dA ?_
 iterate 2 refine gA ?_
 refine pA ?_
 refine dA ?_
 clear hW hL
 rintro W3 hW z4 hL
 simp only[ndR]
 intros
 repeat (rename Ao _ _ _ _=>hgd;clear hgd)
 simp only[ndS]
 refine wpList_nil ?_
 obtain⟨-⟩:=hL
 go_wp2
 refine bodyPost_ret (by simp[results,Tryz.results31,go_sem]) rfl ⟨rfl,by exact Aa⟩
theorem K3 (nm:ByteArray) (ep fl la sc:Int) (ps po:Option Addr) (ns cs no co:Nat) (k a b:Int) (n:Nat) (L:List Ah) (w:World) (a1 a2 a3 a4 a5 a6 a7 a8:Int) (ff:Bool) (R:Array Value) (hn:n<=100000) (hk:1<=k/\k<=5)
  (c1:∀W,Below w.heap.size w W->Calls Tryz.prog 21 #[.agg #[.string nm,.int .i64 ep,.int .i64 fl,.int .i64 la,.int .i64 sc,.slice ps ns cs,.slice po no co],.int .i64 a,.int .i64 b] W fun e w'=>∃p c,e= .returned (.slice p n c)/\Ai w' p L/\Below W.heap.size W w')
  (hcase:(k=1/\R= #[.int .i64 0,.int .i64 n,.int .i64 0,.int .i64 0,.int .i64 0,.int .i64 0,.int .i64 0,.int .i64 0,.int .i64 0])∨(k≠1/\n=0/\R= #[.int .i64 9,.int .i64 0,.int .i64 0,.int .i64 0,.int .i64 0,.int .i64 0,.int .i64 0,.int .i64 0,.int .i64 0])∨(n≠0/\((k=2/\R= #[.int .i64 0,.int .i64 0,.int .i64 a1,.int .i64 a2,.int .i64 0,.int .i64 0,.int .i64 0,.int .i64 0,.int .i64 0])∨(k=3/\R= #[.int .i64 0,.int .i64 0,.int .i64 a3,.int .i64 a4,.int .i64 0,.int .i64 0,.int .i64 0,.int .i64 0,.int .i64 0])∨(k=4/\ff=true/\R= #[.int .i64 0,.int .i64 0,.int .i64 a1,.int .i64 a2,.int .i64 0,.int .i64 0,.int .i64 0,.int .i64 0,.int .i64 0])∨(k=4/\ff=false/\R= #[.int .i64 5,.int .i64 0,.int .i64 0,.int .i64 0,.int .i64 0,.int .i64 0,.int .i64 0,.int .i64 0,.int .i64 0])∨(k=5/\R= #[.int .i64 0,.int .i64 0,.int .i64 0,.int .i64 0,.int .i64 n,.int .i64 a1,.int .i64 a2,.int .i64 a3,.int .i64 a4]))))
  (cS:k=2∨k=3->n≠0->∀W p c,Ai W p L->Cb 22 #[.slice p n c] W (.agg #[.int .i64 n,.int .i64 a1,.int .i64 a2,.int .i64 a3,.int .i64 a4,.int .i64 a5,.int .u64 a6,.int .i64 a7,.int .u64 a8]))
  (cT:k=4->n≠0->∀W p c,Ai W p L->Cb 24 #[.slice p n c] W (.tuple #[.agg #[.int .i64 a1,.int .i64 a2],.bool ff]))
  (cM:k=5->n≠0->∀W p c,Ai W p L->Cb 23 #[.slice p n c] W (.agg #[.int .i64 n,.int .i64 a1,.int .i64 a2,.int .i64 a3,.int .i64 a4])):
  Cb 32 #[.agg #[.string nm,.int .i64 ep,.int .i64 fl,.int .i64 la,.int .i64 sc,.slice ps ns cs,.slice po no co],.int .i64 k,.int .i64 a,.int .i64 b] w (.agg R):=by
 replace cS:=Hd cS
 replace cT:=Hd cT
 replace cM:=Hd cM
 replace hcase:=Hd hcase
 have H_c1:=Hd c1
 clear c1
 go_enter Tryz.func32,Tryz.ntmps32
 go_wp2_with fail
 refine(H_c1.out _ Aa).mono ?_
 rintro e w1 ⟨p,c,rfl,hR,hb1⟩
 have z2:=hb1.size
 try simp at z2
 refine Ae w w1 (Bc w.heap.size #[.string nm,.int .i64 ep,.int .i64 fl,.int .i64 la,.int .i64 sc,.slice ps ns cs,.slice po no co] 25<|Bc (w.heap.size+1) #[.int .i64 0,.int .i64 0,.int .i64 0,.int .i64 0,.int .i64 0,.int .i64 0,.int .i64 0,.int .i64 0,.int .i64 0] 67<|Bz) ?_
 rintro hW z3 ⟨⟨b1,yb1,k1,f1⟩,⟨b2,yb2,k2,f2⟩,-⟩
 clear H_c1
 obtain⟨w9,hw9⟩:∃W,w1=W:=⟨_,rfl⟩
 rw[hw9] at b1 b2 hW hR k1 k2 f1 f2⊢
 clear hw9
 have hz9:=hW.size
 have yb8:=b1.lt
 have yb9:=b2.lt
 rcases hcase.out with⟨rfl,rfl⟩|⟨h1,rfl,rfl⟩|⟨h0,⟨rfl,rfl⟩|⟨rfl,rfl⟩|⟨rfl,rfl,rfl⟩|⟨rfl,rfl,rfl⟩|⟨rfl,rfl⟩⟩
 ·
  go_wp2
  refine bodyPost_ret (by simp[results,Tryz.results32,go_sem,k1,f1,k2,f2,yb1,yb2]) rfl ⟨rfl,by exact Aa⟩
 ·
  go_wp2
  refine bodyPost_ret (by simp[results,Tryz.results32,go_sem,k1,f1,k2,f2,yb1,yb2]) rfl ⟨rfl,by exact Aa⟩
 ·
  replace cS:=Hd (fun W h=>cS.out (.inl rfl) h0 W p c h)
  go_wp2_with fail
  refine(cS.out _ (hR.below Aa)).mono ?_
  rintro e w4 ⟨rfl,hb4⟩
  have z5:=hb4.size
  try simp at z5
  clear k1 f1 k2 f2
  refine Ae w w4 (Bc w.heap.size #[.string nm,.int .i64 ep,.int .i64 fl,.int .i64 la,.int .i64 sc,.slice ps ns cs,.slice po no co] 25<|Bc (w.heap.size+1) #[.int .i64 0,.int .i64 0,.int .i64 0,.int .i64 0,.int .i64 0,.int .i64 0,.int .i64 0,.int .i64 0,.int .i64 0] 67<|Bz) ?_
  clear b1 b2 hW
  rintro hW z6 ⟨⟨b1,yb1,k1,f1⟩,⟨b2,yb2,k2,f2⟩,-⟩
  have hfld:∀W,(Instr.field 38 (.agg #[.int .i64 n,.int .i64 a1,.int .i64 a2,.int .i64 a3,.int .i64 a4,.int .i64 a5,.int .u64 a6,.int .i64 a7,.int .u64 a8]) 1).run Tryz.prog W= .ok (.agg #[.int .i64 a1,.int .i64 a2]) W:=fun _=>rfl
  go_wp2
  refine bodyPost_ret (by simp[results,Tryz.results32,go_sem,k1,f1,k2,f2,yb1,yb2]) rfl ⟨rfl,by exact Aa⟩
 ·
  replace cS:=Hd (fun W h=>cS.out (.inr rfl) h0 W p c h)
  go_wp2_with fail
  refine(cS.out _ (hR.below Aa)).mono ?_
  rintro e w4 ⟨rfl,hb4⟩
  have z5:=hb4.size
  try simp at z5
  clear k1 f1 k2 f2
  refine Ae w w4 (Bc w.heap.size #[.string nm,.int .i64 ep,.int .i64 fl,.int .i64 la,.int .i64 sc,.slice ps ns cs,.slice po no co] 25<|Bc (w.heap.size+1) #[.int .i64 0,.int .i64 0,.int .i64 0,.int .i64 0,.int .i64 0,.int .i64 0,.int .i64 0,.int .i64 0,.int .i64 0] 67<|Bz) ?_
  clear b1 b2 hW
  rintro hW z6 ⟨⟨b1,yb1,k1,f1⟩,⟨b2,yb2,k2,f2⟩,-⟩
  have hfld:∀W,(Instr.field 38 (.agg #[.int .i64 n,.int .i64 a1,.int .i64 a2,.int .i64 a3,.int .i64 a4,.int .i64 a5,.int .u64 a6,.int .i64 a7,.int .u64 a8]) 2).run Tryz.prog W= .ok (.agg #[.int .i64 a3,.int .i64 a4]) W:=fun _=>rfl
  go_wp2
  refine bodyPost_ret (by simp[results,Tryz.results32,go_sem,k1,f1,k2,f2,yb1,yb2]) rfl ⟨rfl,by exact Aa⟩
 ·
  replace cT:=Hd (fun W h=>cT.out rfl h0 W p c h)
  go_wp2_with fail
  refine(cT.out _ (hR.below Aa)).mono ?_
  rintro e w4 ⟨rfl,hb4⟩
  have z5:=hb4.size
  try simp at z5
  clear k1 f1 k2 f2
  refine Ae w w4 (Bc w.heap.size #[.string nm,.int .i64 ep,.int .i64 fl,.int .i64 la,.int .i64 sc,.slice ps ns cs,.slice po no co] 25<|Bc (w.heap.size+1) #[.int .i64 0,.int .i64 0,.int .i64 0,.int .i64 0,.int .i64 0,.int .i64 0,.int .i64 0,.int .i64 0,.int .i64 0] 67<|Bz) ?_
  clear b1 b2 hW
  rintro hW z6 ⟨⟨b1,yb1,k1,f1⟩,⟨b2,yb2,k2,f2⟩,-⟩
  go_wp2
  refine bodyPost_ret (by simp[results,Tryz.results32,go_sem,k1,f1,k2,f2,yb1,yb2]) rfl ⟨rfl,by exact Aa⟩
 ·
  replace cT:=Hd (fun W h=>cT.out rfl h0 W p c h)
  go_wp2_with fail
  refine(cT.out _ (hR.below Aa)).mono ?_
  rintro e w4 ⟨rfl,hb4⟩
  have z5:=hb4.size
  try simp at z5
  clear k1 f1 k2 f2
  refine Ae w w4 (Bc w.heap.size #[.string nm,.int .i64 ep,.int .i64 fl,.int .i64 la,.int .i64 sc,.slice ps ns cs,.slice po no co] 25<|Bc (w.heap.size+1) #[.int .i64 0,.int .i64 0,.int .i64 0,.int .i64 0,.int .i64 0,.int .i64 0,.int .i64 0,.int .i64 0,.int .i64 0] 67<|Bz) ?_
  clear b1 b2 hW
  rintro hW z6 ⟨⟨b1,yb1,k1,f1⟩,⟨b2,yb2,k2,f2⟩,-⟩
  go_wp2
  refine bodyPost_ret (by simp[results,Tryz.results32,go_sem,k1,f1,k2,f2,yb1,yb2]) rfl ⟨rfl,by exact Aa⟩
 ·
  replace cM:=Hd (fun W h=>cM.out rfl h0 W p c h)
  go_wp2_with fail
  refine(cM.out _ (hR.below Aa)).mono ?_
  rintro e w4 ⟨rfl,hb4⟩
  have z5:=hb4.size
  try simp at z5
  clear k1 f1 k2 f2
  refine Ae w w4 (Bc w.heap.size #[.string nm,.int .i64 ep,.int .i64 fl,.int .i64 la,.int .i64 sc,.slice ps ns cs,.slice po no co] 25<|Bc (w.heap.size+1) #[.int .i64 0,.int .i64 0,.int .i64 0,.int .i64 0,.int .i64 0,.int .i64 0,.int .i64 0,.int .i64 0,.int .i64 0] 67<|Bz) ?_
  clear b1 b2 hW
  rintro hW z6 ⟨⟨b1,yb1,k1,f1⟩,⟨b2,yb2,k2,f2⟩,-⟩
  go_wp2
  refine bodyPost_ret (by simp[results,Tryz.results32,go_sem,k1,f1,k2,f2,yb1,yb2]) rfl ⟨rfl,by exact Aa⟩
def r26bRel (w:World) (nm:ByteArray) (ep fl la sc:Int) (ps po:Option Addr) (ns cs no co:Nat) (s:Be) (k:Nat) (fr wd:Int) (N:Nat) (a':Act) (W:World):Prop:=
 Below w.heap.size w W/\Blk W w.heap.size #[.string nm,.int .i64 ep,.int .i64 fl,.int .i64 la,.int .i64 sc,.slice ps ns cs,.slice po no co] 25/\∃(i:Nat) (v:Value),(∃u:Nat->Value,a'= {tmps:= #[.agg #[.string nm,.int .i64 ep,.int .i64 fl,.int .i64 la,.int .i64 sc,.slice ps ns cs,.slice po no co],.int .i64 (k:Int),.int .i64 fr,.int .i64 wd,.int .i64 (N:Int),.pointer (some ⟨w.heap.size,0,none⟩),u 6,u 7,u 8,u 9,u 10,v,u 12,.int .i64 (N:Int),.int .i64 (i:Int),u 15,u 16,u 17,u 18,u 19,u 20,u 21,u 22,u 23,u 24,u 25,u 26,u 27,u 28,u 29,u 30,u 31,u 32,u 33,u 34,u 35,u 36,u 37],defers:= []})/\Bp W w.heap.size 67 9 v i (Kb (E9 s k fr wd i))/\i<=N
theorem c_r26One (s:Be) (ps:Option Addr) (cs:Nat) (po:Option Addr) (co k:Nat) (a b:Int) (w:World) (hin:Av w s ps po) (hc:Bn s=true) (h1:1<=k) (h5:k<=5):
  Cb 32 #[.agg (Cg s ps cs po co),.int .i64 (k:Int),.int .i64 a,.int .i64 b] w (.agg (aT (O8 k (D7 s a b)))):=by
 have hok:=S7 s hin.fewS hin.fewO a b
 have ew:Bd s a b=D7 s a b:=by simp[Bd,hc]
 rw[ew] at hok
 have e:(Ej s a b).map (·.2)=D7 s a b:=rfl
 have hn:(Ej s a b).length=(D7 s a b).length:=by rw[<-e,List.length_map]
 have c1:=fun W (hW:Below w.heap.size w W)=>Wm s ps cs po co a b W (hin.below hW) hc
 have hne:(D7 s a b).length≠0->Ej s a b≠ []:=fun h e=>h (by rw[<-hn,e];rfl)
 have cS:=fun(h0:(D7 s a b).length≠0) W p c hp=>Uk p c (Ej s a b) W (hne h0) hok hp
 have cT:=fun(h0:(D7 s a b).length≠0) W p c hp=>Zb p c (Ej s a b) W (hne h0) hok hp
 have cM:=fun(h0:(D7 s a b).length≠0) W p c hp=>Wl p c (Ej s a b) W (hne h0) hok hp
 simp only[e,hn] at c1 cS cT cM
 have hl:=hok.2
 obtain⟨l,hL⟩:∃l,D7 s a b=l:=⟨_,rfl⟩
 rw[hL] at c1 cS cT cM hl⊢
 clear hne hn e ew hok hL
 unfold shA at cS
 rw[Z4] at cT
 unfold Ph at cM
 unfold Cg at c1⊢
 have hl0:l= []∨l.length≠0:=by cases l<;>simp
 have hk:k=1∨k=2∨k=3∨k=4∨k=5:=by omega
 rcases hk with rfl|rfl|rfl|rfl|rfl
 ·exact K3 _ _ _ _ _ _ _ _ _ _ _ _ a b l.length _ w 0 0 0 0 0 0 0 0 false _ hl (by decide) c1 (.inl ⟨rfl,rfl⟩) (fun h=>absurd h (by decide)) (fun h=>absurd h (by decide)) (fun h=>absurd h (by decide))
 ·refine K3 _ _ _ _ _ _ _ _ _ _ _ _ a b l.length _ w _ _ _ _ _ _ _ _ false _ hl (by decide) c1 ?_ (fun _=>cS) (fun h=>absurd h (by decide)) (fun h=>absurd h (by decide))
  rcases hl0 with rfl|h0
  ·exact .inr (.inl ⟨by decide,rfl,rfl⟩)
  ·refine .inr (.inr ⟨h0,.inl ⟨rfl,?_⟩⟩)
   have:l≠ []:=fun e=>h0 (by rw[e];rfl)
   simp[O8,aT,Km,this]
 ·refine K3 _ _ _ _ _ _ _ _ _ _ _ _ a b l.length _ w _ _ _ _ _ _ _ _ false _ hl (by decide) c1 ?_ (fun _=>cS) (fun h=>absurd h (by decide)) (fun h=>absurd h (by decide))
  rcases hl0 with rfl|h0
  ·exact .inr (.inl ⟨by decide,rfl,rfl⟩)
  ·refine .inr (.inr ⟨h0,.inr (.inl ⟨rfl,?_⟩)⟩)
   have:l≠ []:=fun e=>h0 (by rw[e];rfl)
   simp[O8,aT,Km,this]
 ·refine K3 _ _ _ _ _ _ _ _ _ _ _ _ a b l.length _ w _ _ 0 0 0 0 0 0 _ _ hl (by decide) c1 ?_ (fun h=>absurd h (by decide)) (fun _=>cT) (fun h=>absurd h (by decide))
  rcases hl0 with rfl|h0
  ·exact .inr (.inl ⟨by decide,rfl,rfl⟩)
  ·have:l≠ []:=fun e=>h0 (by rw[e];rfl)
   cases hi:inI (Ap (loL l))&&inI (Ap (hiL l)) with
   |true=>exact .inr (.inr ⟨h0,.inr (.inr (.inl ⟨rfl,rfl,by simp[O8,aT,Km,this,Xv,sl,sh,hi]⟩))⟩)
   |false=>exact .inr (.inr ⟨h0,.inr (.inr (.inr (.inl ⟨rfl,rfl,by simp[O8,aT,Km,this,Xv,sl,sh,hi]⟩)))⟩)
 ·refine K3 _ _ _ _ _ _ _ _ _ _ _ _ a b l.length _ w _ _ _ _ 0 0 0 0 false _ hl (by decide) c1 ?_ (fun h=>absurd h (by decide)) (fun h=>absurd h (by decide)) (fun _=>cM)
  rcases hl0 with rfl|h0
  ·exact .inr (.inl ⟨by decide,rfl,rfl⟩)
  ·refine .inr (.inr ⟨h0,.inr (.inr (.inr (.inr ⟨rfl,?_⟩)))⟩)
   have:l≠ []:=fun e=>h0 (by rw[e];rfl)
   simp[O8,aT,Km,this]
attribute [local simp] Oper.looksAt Op.operands Call.operands Aj Det Ao
def Mz (w:World) (p:Option Addr) (cap:Nat) (p':Option Addr) (cap':Nat) (A B:List Ah) (a':Act) (W:World):Prop:=
 Below w.heap.size w W/\∃(i:Nat),(∃u:Nat->Value,a'= {tmps:= #[.slice p A.length cap,.slice p' A.length cap',u 2,u 3,.bool false,u 5,u 6,u 7,u 8,u 9,u 10,u 11,.int .i64 (A.length:Int),.int .i64 (i:Int),u 14,u 15,u 16,u 17,u 18,u 19,u 20,u 21,u 22,u 23,u 24,u 25],defers:= []})/\i<=A.length/\∀k,k<i->A[k]? =B[k]?
theorem eqPiece_w (p:Option Addr) (cap:Nat) (p':Option Addr) (cap':Nat) (A B:List Ah) (w:World) (hl:A.length=B.length) (hlen:A.length<=1000000) (hA0:Ai w p A) (hB0:Ai w p' B):
  Cb 35 #[.slice p A.length cap,.slice p' A.length cap'] w (.bool (decide (A=B))):=by
 go_enter Tryz.func35,Tryz.ntmps35
 replace hl:=Hd hl
 go_wp2
 refine wp_loop (Mz w p cap p' cap' A B) (fun a' _=>A.length-(Ak (a'.tmps.getD 13 undef)).toNat) ?_ ?_
 ·unfold Mz
  exact⟨Below.refl _ _,0,Ac rfl,by omega,fun k hk=>by omega⟩
 ·rintro a' W ⟨hW0,i,⟨u,rfl⟩,hi',hall⟩
  have hz:=hW0.size
  replace hall:=Hd hall
  rcases Nat.lt_or_ge i A.length with hlt|hge
  ·obtain⟨r,tr⟩:∃r,A[i]? =some r:=⟨A[i]'(by omega),List.getElem?_eq_getElem (by omega)⟩
   obtain⟨q,tq⟩:∃q,B[i]? =some q:=⟨B[i]'(by have:=hl.out;omega),List.getElem?_eq_getElem (by have:=hl.out;omega)⟩
   obtain⟨b,o,rfl,-⟩:=hA0.at' i r tr
   obtain⟨b',o',rfl,-⟩:=hB0.at' i q tq
   have hA:Eb W b o A:=⟨hA0.below hW0⟩
   have hB:Eb W b' o' B:=⟨hB0.below hW0⟩
   replace tr:=Hd tr
   replace tq:=Hd tq
   have l1:=hlt
   have l2:i<B.length:=by have:=hl.out;omega
   go_upto_region 6 with(fail)
   refine Ad W (Rc (fun W'=>Eb W' b o A)<|Rc (fun W'=>Eb W' b' o' B)<|Bz) ?_ (hI:=by exact Aa) (hR:=(Rc.mk (by exact hA.below Aa)<|Rc.mk (by exact hB.below Aa)<|trivial))
   rintro W1 hW z2 hL
   obtain⟨b1,b2,-⟩:=id hL
   refine C2 9 26 hW hL ?_
   iterate 9
    apply Ag (hg:=rfl) (hal:=rfl)
    ·intro a W' hC hE
     obtain⟨_,k1,k2,-⟩:=hC
     obtain⟨q0,q1,q2⟩:=k1.cellAt tr.out;obtain⟨q3,q4,q5⟩:=k2.cellAt tq.out
     first
      |(simp at hE;simp[go_sem,Act.eval,iw,hE,k1,k2,q0,q1,q2,q3,q4,q5,l1,l2,P4];try rfl)
      |(clear hE;simp[go_sem,Act.eval,iw,k1,k2,q0,q1,q2,q3,q4,q5,l1,l2,P4];try rfl)
   clear hW hL b1 b2
   rintro W3 hW z4 hL
   simp only[ndR]
   intros
   simp only[ndS]
   refine wpList_nil ?_
   obtain⟨b1,b2,-⟩:=hL
   by_cases hrq:r=q
   ·have hall':=Hd (show∀k,k<i+1->A[k]? =B[k]? from fun k hk=>by
     rcases Nat.lt_or_ge k i with h|h
     ·exact hall.out k h
     ·obtain rfl:k=i:=by omega
      rw[tr.out,tq.out,hrq])
    rw[show (!decide (r.f=q.f)|| !decide (r.s=q.s)|| !decide (r.c=q.c))=false by subst hrq;simp]
    clear hrq
    go_wp2
    rw[show (i:Int)+1=((i+1:Nat):Int) by omega]
    refine⟨?_,by simp[Ak];omega⟩
    unfold Mz
    exact⟨hW0.trans (hW.mono hz),i+1,Ac rfl,by omega,hall'.out⟩
   ·have hne:=Hd (show decide (A=B)=false by
     rw[decide_eq_false_iff_not]
     rintro rfl
     rw[tr.out] at tq
     exact hrq (Option.some.inj tq.out))
    rw[show (!decide (r.f=q.f)|| !decide (r.s=q.s)|| !decide (r.c=q.c))=true by
     obtain⟨r1,r2,r3⟩:=r
     obtain⟨q1,q2,q3⟩:=q
     simp at hrq
     simp
     by_cases h1:r1=q1<;>by_cases h2:r2=q2<;>simp[h1,h2] at hrq⊢
     exact hrq]
    clear hrq
    go_wp2
    go_ret
    exact⟨by rw[hne.out];rfl,hW0.trans (hW.mono hz)⟩
  ·obtain rfl:i=A.length:=by omega
   have heq:=Hd (show decide (A=B)=true by
    rw[decide_eq_true_eq]
    apply List.ext_getElem?
    intro k
    rcases Nat.lt_or_ge k A.length with h|h
    ·exact hall.out k h
    ·rw[List.getElem?_eq_none h,List.getElem?_eq_none (by have:=hl.out;omega)])
   go_wp2
   go_ret
   exact⟨by rw[heq.out];rfl,hW0⟩
theorem Wd (p:Option Addr) (n cap:Nat) (p':Option Addr) (m cap':Nat) (w:World) (hl:¬n=m):
  Cb 35 #[.slice p n cap,.slice p' m cap'] w (.bool false):=by
 go_enter Tryz.func35,Tryz.ntmps35
 go_wp2
 go_ret
 exact⟨rfl,Below.refl _ _⟩
theorem Sy (p:Option Addr) (cap:Nat) (p':Option Addr) (cap':Nat) (A B:List Ah) (w:World) (hlen:A.length<=1000000) (hA0:Ai w p A) (hB0:Ai w p' B):
  Cb 35 #[.slice p A.length cap,.slice p' B.length cap'] w (.bool (decide (A=B))):=by
 by_cases h:A.length=B.length
 ·rw[<-h];exact eqPiece_w p cap p' cap' A B w h hlen hA0 hB0
 ·rw[show decide (A=B)=false by rw[decide_eq_false_iff_not];rintro rfl;exact h rfl]
  exact Wd p _ cap p' _ cap' w h
def eqAnsRel (w:World) (p:Option Addr) (cap:Nat) (p':Option Addr) (cap':Nat) (A B:List Ea) (a':Act) (W:World):Prop:=
 Below w.heap.size w W/\∃(i:Nat),(∃u:Nat->Value,a'= {tmps:= #[.slice p A.length cap,.slice p' A.length cap',u 2,u 3,.bool false,u 5,u 6,u 7,u 8,u 9,u 10,u 11,.int .i64 (A.length:Int),.int .i64 (i:Int),u 14,u 15,u 16,u 17,u 18,u 19,u 20,u 21,u 22,u 23,u 24,u 25],defers:= []})/\i<=A.length/\∀k,k<i->A[k]? =B[k]?
end Go.Proofs.YtidfcoooccblaaaGreat
namespace Go.Proofs.YtidfcoooccblaaaGreat
open Go.RowKit Go.Shelf
attribute [local go_sem] Oper.semAt_some
theorem planK_few (s:Be) (a b:Int) (k:Nat):(Dz s a b k).length<=k:=by
 induction k with
 |zero=>simp[Dz]
 |succ k ih=>
  unfold Dz at ih⊢
  rw[List.range_succ,List.flatMap_append,List.length_append,List.flatMap_cons,List.flatMap_nil,List.append_nil]
  have:(Qn s a b k).length<=1:=by
   unfold Qn
   split
   ·unfold Kx;split<;>simp
   ·simp
  omega
theorem planL_few (s:Be) (a b:Int):(Eg s a b).length<=s.segs.length+1:=by
 have:=planK_few s a b s.segs.length
 unfold Eg
 rw[List.length_append]
 have h2:(Nm s a b).length<=1:=by unfold Nm;split<;>simp
 omega
theorem Tryz.infoPiece :(Tryz.prog.info? 75).map (fun i=>(i.zero,i.size,i.bytes))=some (some (.agg #[.int .i64 0,.int .i64 0,.int .i64 0]),3,24):=by kernel_rfl
def Gr (L:List Ah) (er:Int) (w:World) (e:Ending) (w':World):Prop:=
 ∃p k,e= .returned (.tuple #[.slice p L.length k,.int .i64 er])/\Ai w' p L/\Below w.heap.size w w'
theorem plan1_in (s:Be) (ps po:Option Addr) (cs co:Nat) (a b:Int) (gs ga gb:Nat) (w:World) (hin:Av w s ps po) (hv:∀x,x∈s.segs->C1 x=true)
  (b1:Blk w gs #[.string s.name,.int .i64 s.eps,.int .i64 s.floor,.int .i64 s.last,.int .i64 s.scale,.slice ps s.segs.length cs,.slice po s.opn.length co] 25) (b2:Blk w ga #[.int .i64 a] 2) (b3:Blk w gb #[.int .i64 b] 2):
  CallsIn Fence.wide 4 Tryz.prog 83 #[.pointer (some ⟨gs,0,none⟩),.pointer (some ⟨ga,0,none⟩),.pointer (some ⟨gb,0,none⟩)] w (Gr (Eg s a b) 0 w):=by
 obtain⟨i0,hi,hz0,hz1,hz2⟩:=info_parts Tryz.infoPiece
 have hfew:(Eg s a b).length<=101:=by have:=planL_few s a b;have:=hin.fewS;omega
 refine callsIn_of_wp_marks Tryz.func83 rfl trivial ?_ rfl
 simp only[Tryz.ntmps83,List.size_toArray,List.length_cons,List.length_nil,Nat.reduceAdd,Nat.reduceSub,Array.replicate_succ,Array.replicate_zero,List.push_toArray,List.append_toArray,List.nil_append,List.cons_append]
 refine wpIn_wide.2 ?_
 have y1:=b1.lt
 have y2:=b2.lt
 have y3:=b3.lt
 have k1:=b1.cell
 have f1:=b1.frozen
 have k2:=b2.cell
 have f2:=b2.frozen
 have k3:=b3.cell
 have f3:=b3.frozen
 go_upto_region 3 with(fail)
 clear k1 f1 k2 f2 k3 f3
 refine Ad w (Bc gs #[.string s.name,.int .i64 s.eps,.int .i64 s.floor,.int .i64 s.last,.int .i64 s.scale,.slice ps s.segs.length cs,.slice po s.opn.length co] 25<|Bc ga #[.int .i64 a] 2<|Bc gb #[.int .i64 b] 2<|Bc w.heap.size #[.string s.name,.int .i64 s.eps,.int .i64 s.floor,.int .i64 s.last,.int .i64 s.scale,.slice ps s.segs.length cs,.slice po s.opn.length co,.int .i64 a,.int .i64 b] 157<|Bc (w.heap.size+1) #[.slice none 0 0] 70<|Bz) ?_
 clear b1 b2 b3
 rintro W1 hW z2 ⟨⟨b1,yb1,k1,f1⟩,⟨b2,yb2,k2,f2⟩,⟨b3,yb3,k3,f3⟩,⟨b4,yb4,k4,f4⟩,⟨b5,yb5,k5,f5⟩,-⟩
 go_wp2_with fail
 refine(Zi _ _).mono ?_
 rintro e w' ⟨rfl,rfl⟩
 have c1:Below w.heap.size w ((W1.alloc (.cells #[.pointer (some ⟨w.heap.size,0,none⟩)] 155)).alloc (.cells #[.func (.func 143) #[.pointer (some ⟨w.heap.size,0,none⟩)] #[]] 228)):=Aa
 have d1:Blk ((W1.alloc (.cells #[.pointer (some ⟨w.heap.size,0,none⟩)] 155)).alloc (.cells #[.func (.func 143) #[.pointer (some ⟨w.heap.size,0,none⟩)] #[]] 228)) w.heap.size #[.string s.name,.int .i64 s.eps,.int .i64 s.floor,.int .i64 s.last,.int .i64 s.scale,.slice ps s.segs.length cs,.slice po s.opn.length co,.int .i64 a,.int .i64 b] 157:=Ab
 have d2:Blk ((W1.alloc (.cells #[.pointer (some ⟨w.heap.size,0,none⟩)] 155)).alloc (.cells #[.func (.func 143) #[.pointer (some ⟨w.heap.size,0,none⟩)] #[]] 228)) (w.heap.size+1) #[.slice none 0 0] 70:=Ab
 have d3:Blk ((W1.alloc (.cells #[.pointer (some ⟨w.heap.size,0,none⟩)] 155)).alloc (.cells #[.func (.func 143) #[.pointer (some ⟨w.heap.size,0,none⟩)] #[]] 228)) W1.heap.size #[.pointer (some ⟨w.heap.size,0,none⟩)] 155:=Ab
 have d4:Blk ((W1.alloc (.cells #[.pointer (some ⟨w.heap.size,0,none⟩)] 155)).alloc (.cells #[.func (.func 143) #[.pointer (some ⟨w.heap.size,0,none⟩)] #[]] 228)) (W1.heap.size+1) #[.func (.func 143) #[.pointer (some ⟨w.heap.size,0,none⟩)] #[]] 228:=Ab
 have hsz:((W1.alloc (.cells #[.pointer (some ⟨w.heap.size,0,none⟩)] 155)).alloc (.cells #[.func (.func 143) #[.pointer (some ⟨w.heap.size,0,none⟩)] #[]] 228)).heap.size=W1.heap.size+1+1:=by simp
 obtain⟨W0,hWe⟩:∃W0,W0=((W1.alloc (.cells #[.pointer (some ⟨w.heap.size,0,none⟩)] 155)).alloc (.cells #[.func (.func 143) #[.pointer (some ⟨w.heap.size,0,none⟩)] #[]] 228)):=⟨_,rfl⟩
 rw[<-hWe] at c1 d1 d2 d3 d4 hsz⊢
 have zV:=hW.size
 have zO:=b5.lt
 clear hWe b1 b2 b3 b4 b5 k1 k2 k3 k4 k5 f1 f2 f3 f4 f5
 go_wp2
 refine(wpIn_wide (n:=4)).1 ?_
 refine wpIn_rangeFunc_ownH rfl (by omega) (gf:=144) (lb:= #[.pointer (some ⟨W1.heap.size,0,none⟩),.pointer (some ⟨W1.heap.size+1,0,none⟩)]) rfl trivial (enters_of Tryz.func144 (by kernel_rfl) rfl)
  (encs:=fun x:Ah=> #[Value.agg #[.int .i64 x.f,.int .i64 x.s,.int .i64 x.c]]) (Kp:=fun A B=>Below w.heap.size A B/\∀T,T≠70->T≠75->Fp T A B) (S:=fun ys=>ys=Eg s a b) (Sp:=fun pre=>pre<+:Eg s a b) (N:=(Eg s a b).length) (w0:=W0)
  (fun lr J Jx W hWW hJ _ hY h0=>To 3 (by omega) lr W1.heap.size (W1.heap.size+1) w.heap.size s ps po cs co a b w hin hv _ (fun h=>h) J Jx W hJ (fun pre x W1 h1 h2=>hY pre x W1 h1 (by have:=h2.length_le;simp at this;omega)) (c1.trans (hWW.mono c1.size)) (d3.below hWW) (d4.below hWW) (d1.below hWW) h0)
  (fun h k=>⟨h.1.trans k.1,fun T e1 e2=>(h.2 T e1 e2).trans (k.2 T e1 e2)⟩) (fun W k o o' hk ho h1 h2=>⟨belowK_b (w:=w) (Nat.le_refl _) W k o o' (by omega) ho h1 h2,fun T _ _=>Je o' ho h1⟩) (Below.refl _ _) (fun _=>rfl)
  (fun pre W=>(∃v,Boxed W (w.heap.size+1) 70 v/\W.ownsRow w.heap.size 75 3 v pre.length (As pre)/\True)/\Below w.heap.size w W)
  (fun _ _ _=>False)
  (OwnFrom.and (Own.from (holdsRow_own w.heap.size (w.heap.size+1) 70 75 3 (fun pre:List Ah=>pre.length) (fun pre=>As pre) (fun _ _=>True)) _) (ownFrom_below (Nat.le_refl _) (by omega)))
  (fun _ _ _ _ _ hs _ _=>hs)
  ⟨⟨_,d2,World.ownsRow_nil _ _ _ _,trivial⟩,c1⟩
  (fun x a' W=>∃Bx,w.heap.size+1<Bx/\Blk W Bx #[.int .i64 x.f,.int .i64 x.s,.int .i64 x.c] 75/\a'= {tmps:= #[.pointer (some ⟨gs,0,none⟩),.pointer (some ⟨ga,0,none⟩),.pointer (some ⟨gb,0,none⟩),.slice none 0 0,.int .i64 0,.pointer (some ⟨w.heap.size,0,none⟩),.pointer (some ⟨w.heap.size+1,0,none⟩),.pointer (some ⟨Bx,0,none⟩),.agg #[.string s.name,.int .i64 s.eps,.int .i64 s.floor,.int .i64 s.last,.int .i64 s.scale,.slice ps s.segs.length cs,.slice po s.opn.length co],.int .i64 a,.int .i64 b,.agg #[.string s.name,.int .i64 s.eps,.int .i64 s.floor,.int .i64 s.last,.int .i64 s.scale,.slice ps s.segs.length cs,.slice po s.opn.length co,.int .i64 a,.int .i64 b],.pointer (some ⟨w.heap.size,0,none⟩),.pointer (some ⟨w.heap.size,0,none⟩),.func (.func 144) #[] #[.pointer (some ⟨W1.heap.size,0,none⟩),.pointer (some ⟨W1.heap.size+1,0,none⟩)],.agg #[.int .i64 x.f,.int .i64 x.s,.int .i64 x.c],undef,undef,undef,undef,undef],defers:= []})
  (fun x a' _ X Y row hs hg hr=>by obtain⟨Bx,h1,h2,h3⟩:=hs;exact⟨Bx,h1,F7 Bx 75 (fun(_:Unit)=> #[Value.int .i64 x.f,Value.int .i64 x.s,Value.int .i64 x.c]) () X Y row h2 hg (fun r e=>(hr r e).2),h3⟩) ?assign ?body ?done ?stop
 case assign=>
  rintro l pre x W K ⟨⟨v,hv1,hrow,_⟩,hB⟩ hK
  have hlt:=hv1.lt
  have hz:=hB.size
  gi_wp2
  exact hK _ _ ((KeepsOthers.alloc _ _).from _) ⟨(Below.refl _ _).alloc hz _,fun T _ _=>Pu ((Below.refl _ _).alloc (Nat.le_refl _) _)⟩ ⟨⟨v,hv1.alloc _,hrow.alloc _,trivial⟩,hB.alloc hz _⟩ ⟨W.heap.size,hlt,Blk.new' rfl,rfl⟩
 case body=>
  rintro l pre x a' W hl' ⟨r,hr⟩ ⟨⟨v,hv1,hrow,_⟩,hB⟩ ⟨Bx,hBx,bX,rfl⟩ hlt
  have hc:=hv1.cell
  have kx:=bX.cell
  have yx:=bX.lt
  have hp9:pre.length<=101:=by omega
  have hcat:=Hd (Dc pre x)
  clear hr
  gi_wp2_with (gi_at_builtin;refine wpListIn_append_own _ rfl _ _ 70 rfl w.heap.size 75 i0 (.agg #[.int .i64 0,.int .i64 0,.int .i64 0]) 3 24 (by kernel_rfl) hi hz0 hz1 hz2 rfl (by decide) _ _ _ rfl (hrow.alloc _) ⟨W.heap.size,0,none⟩ 1 1 [.int .i64 x.f,.int .i64 x.s,.int .i64 x.c] rfl rfl (Dd _ _ _ _ _) (by simp[Value.oneCell']) (by simp[maxLen];omega) (by omega) (by have:=hB.size;simp;omega) ?_;intro v' w1 hown' hgrow _;obtain⟨g',cap',rfl⟩:=ownsRow_succ hown';obtain⟨hv2,hv3,hr2,hk2,hb2⟩:=hv1.appended (by decide) hrow hB.size (by omega) hown' hgrow;have hkt:=fun T h1 h2=>Kj (v':= .slice (some ⟨g',0,none⟩) (pre.length+1) cap') (T:=T) hv1 hrow hgrow h1 h2;have hc1:=hv2.cell;have hf1:=hv2.frozen)
  exact⟨hk2.from _,⟨hb2,hkt⟩,⟨_,hv3,Fi hr2 (by simp) hcat.out.symm,trivial⟩,hB.trans hb2⟩
 case done=>
  rintro D ys W hD rfl ⟨⟨v,hv1,hrow,_⟩,hB⟩ hK
  have hc:=hv1.cell
  obtain⟨p,cap,rfl,-,-,-,-⟩:=(Bp.mk hrow).form
  have hrow':=ownsRow_putObj hrow (.deferred none) hK rfl
  have hR9:=Hd (Bp.mk hrow').runs
  have hB9:=Hd (hB.trans (belowK_b (w:=w) (Nat.le_refl _) W D _ (.deferred none) (by omega) hK rfl rfl))
  clear hrow hrow'
  simp only[Exit.inBlock,Exit.then]
  go_wp2
  simp only[bodyPostM]
  refine⟨by simp,.inl ⟨_,_,rfl,run_takeDeferred hK,?_⟩⟩
  refine⟨.tuple #[.slice p (Eg s a b).length cap,.int .i64 0],by simp[results,Tryz.f83,go_sem],p,cap,rfl,hR9.out,hB9.out⟩
 case stop=>
  rintro D c pre W _ _ h _
  exact h.elim
theorem toldp_bad (nm:ByteArray) (ep fl la sc:Int) (ps po:Option Addr) (ns cs no co:Nat) (gs ga gb:Nat) (w:World)
  (c1:∀W,Below w.heap.size w W->Cb 14 #[.agg #[.string nm,.int .i64 ep,.int .i64 fl,.int .i64 la,.int .i64 sc,.slice ps ns cs,.slice po no co]] W (.int .i64 340)):
  Calls Tryz.prog 82 #[.agg #[.string nm,.int .i64 ep,.int .i64 fl,.int .i64 la,.int .i64 sc,.slice ps ns cs,.slice po no co],.func (.func 83) #[] #[.pointer (some ⟨gs,0,none⟩),.pointer (some ⟨ga,0,none⟩),.pointer (some ⟨gb,0,none⟩)]] w (Gr [] 340 w):=by
 have H_c1:=Hd c1
 clear c1
 go_enter Tryz.func82,Tryz.ntmps82
 go_wp2_with fail
 refine(H_c1.out _ Aa).mono ?_
 rintro e w1 ⟨rfl,hb1⟩
 have z2:=hb1.size
 try simp at z2
 refine Ae w w1 (Bc w.heap.size #[.string nm,.int .i64 ep,.int .i64 fl,.int .i64 la,.int .i64 sc,.slice ps ns cs,.slice po no co] 25<|Bz) ?_
 rintro hW z3 ⟨⟨b1,yb1,k1,f1⟩,-⟩
 clear hb1
 go_wp2
 refine bodyPost_ret (v:= .tuple #[.slice none 0 0,.int .i64 340]) (by simp[results,Tryz.results82,go_sem]) rfl ⟨none,0,rfl,⟨fun i r hr=>by simp at hr⟩,Aa⟩
theorem toldp_ok (nm:ByteArray) (ep fl la sc:Int) (ps po:Option Addr) (ns cs no co:Nat) (gs ga gb:Nat) (L:List Ah) (er:Int) (w:World)
  (c1:∀W,Below w.heap.size w W->Cb 14 #[.agg #[.string nm,.int .i64 ep,.int .i64 fl,.int .i64 la,.int .i64 sc,.slice ps ns cs,.slice po no co]] W (.int .i64 0))
  (c2:∀W,Below w.heap.size w W->Calls Tryz.prog 83 #[.pointer (some ⟨gs,0,none⟩),.pointer (some ⟨ga,0,none⟩),.pointer (some ⟨gb,0,none⟩)] W (Gr L er W)):
  Calls Tryz.prog 82 #[.agg #[.string nm,.int .i64 ep,.int .i64 fl,.int .i64 la,.int .i64 sc,.slice ps ns cs,.slice po no co],.func (.func 83) #[] #[.pointer (some ⟨gs,0,none⟩),.pointer (some ⟨ga,0,none⟩),.pointer (some ⟨gb,0,none⟩)]] w (Gr L er w):=by
 have H_c1:=Hd c1
 clear c1
 have H_c2:=Hd c2
 clear c2
 go_enter Tryz.func82,Tryz.ntmps82
 go_wp2_with fail
 refine(H_c1.out _ Aa).mono ?_
 rintro e w1 ⟨rfl,hb1⟩
 have z2:=hb1.size
 try simp at z2
 refine Ae w w1 (Bc w.heap.size #[.string nm,.int .i64 ep,.int .i64 fl,.int .i64 la,.int .i64 sc,.slice ps ns cs,.slice po no co] 25<|Bz) ?_
 rintro hW z3 ⟨⟨b1,yb1,k1,f1⟩,-⟩
 clear hb1
 go_wp2_with fail
 refine(H_c2.out _ Aa).mono ?_
 rintro e w4 ⟨p,k,rfl,hR,hb4⟩
 have z5:=hb4.size
 try simp at z5
 clear k1 f1
 refine Ae w w4 (Bc w.heap.size #[.string nm,.int .i64 ep,.int .i64 fl,.int .i64 la,.int .i64 sc,.slice ps ns cs,.slice po no co] 25<|Bz) ?_
 clear b1 hW
 rintro hW z6 ⟨⟨b1,yb1,k1,f1⟩,-⟩
 replace hR:=Hd hR
 go_wp2
 refine bodyPost_ret (v:= .tuple #[.slice p L.length k,.int .i64 er]) (by simp[results,Tryz.results82,go_sem]) rfl ⟨p,k,rfl,hR.out,Aa⟩
theorem plan_w (nm:ByteArray) (ep fl la sc:Int) (ps po:Option Addr) (ns cs no co:Nat) (a b:Int) (L:List Ah) (er:Int) (w:World)
  (c1:∀W,Below w.heap.size w W->Blk W w.heap.size #[.string nm,.int .i64 ep,.int .i64 fl,.int .i64 la,.int .i64 sc,.slice ps ns cs,.slice po no co] 25->Blk W (w.heap.size+1) #[.int .i64 a] 2->Blk W (w.heap.size+1+1) #[.int .i64 b] 2->Calls Tryz.prog 82 #[.agg #[.string nm,.int .i64 ep,.int .i64 fl,.int .i64 la,.int .i64 sc,.slice ps ns cs,.slice po no co],.func (.func 83) #[] #[.pointer (some ⟨w.heap.size,0,none⟩),.pointer (some ⟨w.heap.size+1,0,none⟩),.pointer (some ⟨w.heap.size+1+1,0,none⟩)]] W (Gr L er W)):
  Calls Tryz.prog 34 #[.agg #[.string nm,.int .i64 ep,.int .i64 fl,.int .i64 la,.int .i64 sc,.slice ps ns cs,.slice po no co],.int .i64 a,.int .i64 b] w (Gr L er w):=by
 have H_c1:=Hd c1
 clear c1
 go_enter Tryz.func34,Tryz.ntmps34
 have hmf:∀(fn:Fn) (first cap:Array Value) (w:World),(Instr.makeFunc fn first cap).run Tryz.prog w= .ok (.func fn first cap) w:=fun _ _ _ _=>rfl
 go_upto_region 1 with(fail)
 refine Ad w (Bc w.heap.size #[.string nm,.int .i64 ep,.int .i64 fl,.int .i64 la,.int .i64 sc,.slice ps ns cs,.slice po no co] 25<|Bc (w.heap.size+1) #[.int .i64 a] 2<|Bc (w.heap.size+1+1) #[.int .i64 b] 2<|Bz) ?_
 rintro W1 hW z2 ⟨⟨b1,yb1,k1,f1⟩,⟨b2,yb2,k2,f2⟩,⟨b3,yb3,k3,f3⟩,-⟩
 go_wp2_with fail
 refine(H_c1.out W1 hW b1 b2 b3).mono ?_
 rintro e w3 ⟨p,k,rfl,hR,hb3⟩
 have z4:=hb3.size
 try simp at z4
 clear k1 f1 k2 f2 k3 f3
 refine Ae w w3 (Bc w.heap.size #[.string nm,.int .i64 ep,.int .i64 fl,.int .i64 la,.int .i64 sc,.slice ps ns cs,.slice po no co] 25<|Bc (w.heap.size+1) #[.int .i64 a] 2<|Bc (w.heap.size+1+1) #[.int .i64 b] 2<|Bz) ?_
 clear b1 b2 b3 hW
 rintro hW z5 ⟨⟨b1,yb1,k1,f1⟩,⟨b2,yb2,k2,f2⟩,⟨b3,yb3,k3,f3⟩,-⟩
 replace hR:=Hd hR
 go_wp2
 refine bodyPost_ret (v:= .tuple #[.slice p L.length k,.int .i64 er]) (by simp[results,Tryz.results34,go_sem]) rfl ⟨p,k,rfl,hR.out,Aa⟩
def plL (s:Be) (a b:Int):List Ah:=if Bn s then Eg s a b else []
theorem Wr (s:Be) (ps po:Option Addr) (cs co:Nat) (a b:Int) (w:World) (hin:Av w s ps po):
  Calls Tryz.prog 34 #[.agg (Cg s ps cs po co),.int .i64 a,.int .i64 b] w (Gr (plL s a b) (if Bn s then 0 else 340) w):=by
 unfold Cg
 refine plan_w _ _ _ _ _ _ _ _ _ _ _ a b _ _ w fun W hW k1 k2 k3=> ?_
 have hin':=hin.below hW
 have ck:=L9 s ps po cs co
 unfold Cg Ff at ck
 unfold plL
 cases hc:Bn s with
 |false=>
  rw[hc] at ck
  exact toldp_bad s.name s.eps s.floor s.last s.scale ps po s.segs.length cs s.opn.length co _ _ _ W (fun W' hW'=>ck W' (hin'.below hW'))
 |true=>
  rw[hc] at ck
  simp only[if_true]
  exact toldp_ok s.name s.eps s.floor s.last s.scale ps po s.segs.length cs s.opn.length co _ _ _ _ _ W (fun W' hW'=>ck W' (hin'.below hW')) fun W' hW'=>callsIn_wide.1 (plan1_in s ps po cs co a b _ _ _ W' (hin'.below hW') (Ld hc) (k1.below hW') (k2.below hW') (k3.below hW'))
end Go.Proofs.YtidfcoooccblaaaGreat
namespace Go.Proofs.YtidfcoooccblaaaGreat
open Go.RowKit
theorem c_plain (w:World):
  Calls Tryz.prog 72 #[] w fun e w'=>∃ps po,e= .returned (.agg (Cg Dx ps 1 po 2))/\Below w.heap.size w w'/\Av w' Dx ps po:=by
 go_enter Tryz.func72,Tryz.ntmps72
 go_wp2
 obtain⟨W9,hW9⟩:∃W9,W9=((((w.alloc (.cells #[.string {data:= #[97]},.int .i64 2,.int .i64 3,.int .i64 12,.int .i64 0,.slice (some ⟨w.heap.size+1+1,0,none⟩) 1 1,.slice (some ⟨w.heap.size+1+1+1,0,none⟩) 2 2] 25)).alloc (.cells #[.int .i64 0,.int .i64 2,.int .i64 4] 144)).alloc (.cells #[.int .i64 1,.slice (some ⟨w.heap.size+1,0,none⟩) 1 1,.int .i64 10,.int .i64 0,.int .i64 0,.int .i64 1,.slice none 0 0,.int .i64 1] 98)).alloc (.cells #[.int .i64 9,.int .i64 20,.int .i64 12,.int .i64 5] 91)):=⟨_,rfl⟩
 have b1:Blk ((((w.alloc (.cells #[.string {data:= #[97]},.int .i64 2,.int .i64 3,.int .i64 12,.int .i64 0,.slice (some ⟨w.heap.size+1+1,0,none⟩) 1 1,.slice (some ⟨w.heap.size+1+1+1,0,none⟩) 2 2] 25)).alloc (.cells #[.int .i64 0,.int .i64 2,.int .i64 4] 144)).alloc (.cells #[.int .i64 1,.slice (some ⟨w.heap.size+1,0,none⟩) 1 1,.int .i64 10,.int .i64 0,.int .i64 0,.int .i64 1,.slice none 0 0,.int .i64 1] 98)).alloc (.cells #[.int .i64 9,.int .i64 20,.int .i64 12,.int .i64 5] 91)) w.heap.size #[.string {data:= #[97]},.int .i64 2,.int .i64 3,.int .i64 12,.int .i64 0,.slice (some ⟨w.heap.size+1+1,0,none⟩) 1 1,.slice (some ⟨w.heap.size+1+1+1,0,none⟩) 2 2] 25:=Ab
 have b2:Blk ((((w.alloc (.cells #[.string {data:= #[97]},.int .i64 2,.int .i64 3,.int .i64 12,.int .i64 0,.slice (some ⟨w.heap.size+1+1,0,none⟩) 1 1,.slice (some ⟨w.heap.size+1+1+1,0,none⟩) 2 2] 25)).alloc (.cells #[.int .i64 0,.int .i64 2,.int .i64 4] 144)).alloc (.cells #[.int .i64 1,.slice (some ⟨w.heap.size+1,0,none⟩) 1 1,.int .i64 10,.int .i64 0,.int .i64 0,.int .i64 1,.slice none 0 0,.int .i64 1] 98)).alloc (.cells #[.int .i64 9,.int .i64 20,.int .i64 12,.int .i64 5] 91)) (w.heap.size+1) (Ck [⟨0,2,4⟩]) 144:=(Ab:Blk _ (w.heap.size+1) #[.int .i64 0,.int .i64 2,.int .i64 4] 144)
 have b3:Blk ((((w.alloc (.cells #[.string {data:= #[97]},.int .i64 2,.int .i64 3,.int .i64 12,.int .i64 0,.slice (some ⟨w.heap.size+1+1,0,none⟩) 1 1,.slice (some ⟨w.heap.size+1+1+1,0,none⟩) 2 2] 25)).alloc (.cells #[.int .i64 0,.int .i64 2,.int .i64 4] 144)).alloc (.cells #[.int .i64 1,.slice (some ⟨w.heap.size+1,0,none⟩) 1 1,.int .i64 10,.int .i64 0,.int .i64 0,.int .i64 1,.slice none 0 0,.int .i64 1] 98)).alloc (.cells #[.int .i64 9,.int .i64 20,.int .i64 12,.int .i64 5] 91)) (w.heap.size+1+1) #[.int .i64 1,.slice (some ⟨w.heap.size+1,0,none⟩) 1 1,.int .i64 10,.int .i64 0,.int .i64 0,.int .i64 1,.slice none 0 0,.int .i64 1] 98:=Ab
 have b4:Blk ((((w.alloc (.cells #[.string {data:= #[97]},.int .i64 2,.int .i64 3,.int .i64 12,.int .i64 0,.slice (some ⟨w.heap.size+1+1,0,none⟩) 1 1,.slice (some ⟨w.heap.size+1+1+1,0,none⟩) 2 2] 25)).alloc (.cells #[.int .i64 0,.int .i64 2,.int .i64 4] 144)).alloc (.cells #[.int .i64 1,.slice (some ⟨w.heap.size+1,0,none⟩) 1 1,.int .i64 10,.int .i64 0,.int .i64 0,.int .i64 1,.slice none 0 0,.int .i64 1] 98)).alloc (.cells #[.int .i64 9,.int .i64 20,.int .i64 12,.int .i64 5] 91)) (w.heap.size+1+1+1) #[.int .i64 9,.int .i64 20,.int .i64 12,.int .i64 5] 91:=Ab
 have hB:Below w.heap.size w ((((w.alloc (.cells #[.string {data:= #[97]},.int .i64 2,.int .i64 3,.int .i64 12,.int .i64 0,.slice (some ⟨w.heap.size+1+1,0,none⟩) 1 1,.slice (some ⟨w.heap.size+1+1+1,0,none⟩) 2 2] 25)).alloc (.cells #[.int .i64 0,.int .i64 2,.int .i64 4] 144)).alloc (.cells #[.int .i64 1,.slice (some ⟨w.heap.size+1,0,none⟩) 1 1,.int .i64 10,.int .i64 0,.int .i64 0,.int .i64 1,.slice none 0 0,.int .i64 1] 98)).alloc (.cells #[.int .i64 9,.int .i64 20,.int .i64 12,.int .i64 5] 91)):=Aa
 rw[<-hW9] at b1 b2 b3 b4 hB⊢
 clear hW9
 have k1:=b1.cell
 have y1:=b1.lt
 refine bodyPost_ret (v:= .agg #[.string {data:= #[97]},.int .i64 2,.int .i64 3,.int .i64 12,.int .i64 0,.slice (some ⟨w.heap.size+1+1,0,none⟩) 1 1,.slice (some ⟨w.heap.size+1+1+1,0,none⟩) 2 2]) (by simp[results,Tryz.results72,go_sem,k1,y1]) rfl ⟨some ⟨w.heap.size+1+1,0,none⟩,some ⟨w.heap.size+1+1+1,0,none⟩,rfl,hB,⟨⟨fun i s hs=> ?_⟩,J5 (n:=4) b4 rfl,by decide,by decide⟩⟩
 have hi:i=0:=by
  have:=(List.getElem?_eq_some_iff.1 hs).1
  simp[Dx] at this
  exact this
 subst hi
 have e:s=⟨1,[⟨0,2,4⟩],10,0,0,1,[],1⟩:=(Option.some.inj hs).symm
 subst e
 refine⟨w.heap.size+1+1,0,some ⟨w.heap.size+1,0,none⟩,none,1,0,rfl,fun j v hv=> ?_,⟨Ai.of_blk b2 _ [] rfl,ints_nil _ _,by decide,by decide⟩,Nat.le_refl _⟩
 rw[show 0+0*8+j=j by omega,b3.cell]
 exact hv
theorem wakes26_w (nm:ByteArray) (L1 L3:List Ea) (P:List Ah) (r1 r0:Ea) (w:World) (h1:Hid (L1[1]? =some r1)) (h0:Hid (L3[0]? =some r0)) (e1:Hid (r1.n=2)) (e2:Hid (r0.x=9)) (e3:Hid (r0.y=11))
  (cP:∀W,Calls Tryz.prog 72 #[] W fun e w'=>∃ps po,e= .returned (.agg #[.string nm,.int .i64 2,.int .i64 3,.int .i64 12,.int .i64 0,.slice ps 1 1,.slice po 2 2])/\Below W.heap.size W w'/\Av w' Dx ps po)
  (cB1:∀W ps po,Av W Dx ps po->Calls Tryz.prog 38 #[.agg #[.string nm,.int .i64 2,.int .i64 3,.int .i64 12,.int .i64 0,.slice ps 1 1,.slice po 2 2],.int .i64 1,.int .i64 0,.int .i64 5,.int .i64 3] W fun e w'=>∃p k,e= .returned (.tuple #[.slice p 3 k,.int .i64 0])/\Dg w' p L1/\Below W.heap.size W w')
  (cB3:∀W ps po,Av W Dx ps po->Calls Tryz.prog 38 #[.agg #[.string nm,.int .i64 2,.int .i64 3,.int .i64 12,.int .i64 0,.slice ps 1 1,.slice po 2 2],.int .i64 3,.int .i64 0,.int .i64 5,.int .i64 3] W fun e w'=>∃p k,e= .returned (.tuple #[.slice p 3 k,.int .i64 0])/\Dg w' p L3/\Below W.heap.size W w')
  (cL:∀W ps po,Av W Dx ps po->Calls Tryz.prog 34 #[.agg #[.string nm,.int .i64 2,.int .i64 3,.int .i64 12,.int .i64 0,.slice ps 1 1,.slice po 2 2],.int .i64 0,.int .i64 9] W fun e w'=>∃p k,e= .returned (.tuple #[.slice p 2 k,.int .i64 0])/\Ai w' p P/\Below W.heap.size W w')
  (cO:∀W ps po,Av W Dx ps po->Cb 33 #[.agg #[.string nm,.int .i64 2,.int .i64 3,.int .i64 12,.int .i64 0,.slice ps 1 1,.slice po 2 2],.int .i64 4,.int .i64 4,.int .i64 9] W (.agg #[.int .i64 0,.int .i64 0,.int .i64 38,.int .i64 42,.int .i64 0,.int .i64 0,.int .i64 0,.int .i64 0,.int .i64 0]))
  (cB4:∀W ps po,Av W Dx ps po->Calls Tryz.prog 38 #[.agg #[.string nm,.int .i64 2,.int .i64 3,.int .i64 12,.int .i64 0,.slice ps 1 1,.slice po 2 2],.int .i64 4,.int .i64 0,.int .i64 0,.int .i64 1] W fun e w'=>∃p k,e= .returned (.tuple #[.slice p 0 k,.int .i64 2])/\Below W.heap.size W w')
  (cE:∀W p k g,Ai W p P->Blk W g #[.int .i64 2,.int .i64 0,.int .i64 2,.int .i64 3,.int .i64 0,.int .i64 1] 75->Cb 35 #[.slice p 2 k,.slice (some ⟨g,0,none⟩) 2 2] W (.bool true))
  (cO6:∀W ps po,Av W Dx ps po->Cb 33 #[.agg #[.string nm,.int .i64 2,.int .i64 3,.int .i64 12,.int .i64 0,.slice ps 1 1,.slice po 2 2],.int .i64 6,.int .i64 0,.int .i64 9] W (.agg #[.int .i64 2,.int .i64 0,.int .i64 0,.int .i64 0,.int .i64 0,.int .i64 0,.int .i64 0,.int .i64 0,.int .i64 0])):
  Cb 28 #[] w (.bool true):=by
 have H_cP:=Hd cP
 clear cP
 have H_cB1:=Hd cB1
 clear cB1
 have H_cB3:=Hd cB3
 clear cB3
 have H_cL:=Hd cL
 clear cL
 have H_cO:=Hd cO
 clear cO
 have H_cB4:=Hd cB4
 clear cB4
 have H_cE:=Hd cE
 clear cE
 have H_cO6:=Hd cO6
 clear cO6
 go_enter Tryz.func28,Tryz.ntmps28
 go_wp2_with fail
 refine(H_cP.out _).mono ?_
 rintro e w1 ⟨ps1,po1,rfl,hb1,hs1⟩
 have z2:=hb1.size
 try simp at z2
 refine Ae w w1 (Bz) ?_
 rintro hW z3 ⟨-⟩
 go_wp2_with fail
 refine(H_cB1.out _ ps1 po1 hs1).mono ?_
 rintro e w4 ⟨p1,q1,rfl,hA,hb4⟩
 have z5:=hb4.size
 try simp at z5
 refine Ae w w4 (Bz) ?_
 clear hW
 rintro hW z6 ⟨-⟩
 clear hs1
 have b1:=hA
 clear hA
 go_wp2_with fail
 refine(H_cP.out _).mono ?_
 rintro e w7 ⟨ps2,po2,rfl,hb7,hs2⟩
 have z8:=hb7.size
 try simp at z8
 refine Ae w w7 (Rc (fun W'=>Dg W' p1 L1)<|Bz) ?_ (hR:=(Rc.mk (by first|exact b1|exact b1.below (by assumption)|exact b1.below Aa)<|trivial))
 clear b1 hW
 rintro hW z9 ⟨b1,-⟩
 go_wp2_with fail
 refine(H_cB3.out _ ps2 po2 hs2).mono ?_
 rintro e w10 ⟨p2,q2,rfl,hA,hb10⟩
 have z11:=hb10.size
 try simp at z11
 refine Ae w w10 (Rc (fun W'=>Dg W' p1 L1)<|Bz) ?_ (hR:=(Rc.mk (by first|exact b1|exact b1.below (by assumption)|exact b1.below Aa)<|trivial))
 clear b1 hW
 rintro hW z12 ⟨b1,-⟩
 clear hs2
 have b2:=hA
 clear hA
 go_wp2_with fail
 refine(H_cP.out _).mono ?_
 rintro e w13 ⟨ps3,po3,rfl,hb13,hs3⟩
 have z14:=hb13.size
 try simp at z14
 refine Ae w w13 (Rc (fun W'=>Dg W' p1 L1)<|Rc (fun W'=>Dg W' p2 L3)<|Bz) ?_ (hR:=(Rc.mk (by first|exact b1|exact b1.below (by assumption)|exact b1.below Aa)<|Rc.mk (by first|exact b2|exact b2.below (by assumption)|exact b2.below Aa)<|trivial))
 clear b1 b2 hW
 rintro hW z15 ⟨b1,b2,-⟩
 go_wp2_with fail
 refine(H_cL.out _ ps3 po3 hs3).mono ?_
 rintro e w16 ⟨p3,q3,rfl,hA,hb16⟩
 have z17:=hb16.size
 try simp at z17
 refine Ae w w16 (Rc (fun W'=>Dg W' p1 L1)<|Rc (fun W'=>Dg W' p2 L3)<|Bz) ?_ (hR:=(Rc.mk (by first|exact b1|exact b1.below (by assumption)|exact b1.below Aa)<|Rc.mk (by first|exact b2|exact b2.below (by assumption)|exact b2.below Aa)<|trivial))
 clear b1 b2 hW
 rintro hW z18 ⟨b1,b2,-⟩
 clear hs3
 have b3:=hA
 clear hA
 go_wp2_with fail
 refine(H_cP.out _).mono ?_
 rintro e w19 ⟨ps4,po4,rfl,hb19,hs4⟩
 have z20:=hb19.size
 try simp at z20
 refine Ae w w19 (Rc (fun W'=>Dg W' p1 L1)<|Rc (fun W'=>Dg W' p2 L3)<|Rc (fun W'=>Ai W' p3 P)<|Bz) ?_ (hR:=(Rc.mk (by first|exact b1|exact b1.below (by assumption)|exact b1.below Aa)<|Rc.mk (by first|exact b2|exact b2.below (by assumption)|exact b2.below Aa)<|Rc.mk (by first|exact b3|exact b3.below (by assumption)|exact b3.below Aa)<|trivial))
 clear b1 b2 b3 hW
 rintro hW z21 ⟨b1,b2,b3,-⟩
 go_wp2_with fail
 refine(H_cO.out _ ps4 po4 hs4).mono ?_
 rintro e w22 ⟨rfl,hb22⟩
 have z23:=hb22.size
 try simp at z23
 refine Ae w w22 (Rc (fun W'=>Dg W' p1 L1)<|Rc (fun W'=>Dg W' p2 L3)<|Rc (fun W'=>Ai W' p3 P)<|Bz) ?_ (hR:=(Rc.mk (by first|exact b1|exact b1.below (by assumption)|exact b1.below Aa)<|Rc.mk (by first|exact b2|exact b2.below (by assumption)|exact b2.below Aa)<|Rc.mk (by first|exact b3|exact b3.below (by assumption)|exact b3.below Aa)<|trivial))
 clear b1 b2 b3 hW
 rintro hW z24 ⟨b1,b2,b3,-⟩
 clear hb22
 clear hs4
 go_wp2_with fail
 refine(H_cP.out _).mono ?_
 rintro e w25 ⟨ps5,po5,rfl,hb25,hs5⟩
 have z26:=hb25.size
 try simp at z26
 refine Ae w w25 (Rc (fun W'=>Dg W' p1 L1)<|Rc (fun W'=>Dg W' p2 L3)<|Rc (fun W'=>Ai W' p3 P)<|Bc w22.heap.size #[.int .i64 0,.int .i64 0,.int .i64 38,.int .i64 42,.int .i64 0,.int .i64 0,.int .i64 0,.int .i64 0,.int .i64 0] 67<|Bz) ?_ (hR:=(Rc.mk (by first|exact b1|exact b1.below (by assumption)|exact b1.below Aa)<|Rc.mk (by first|exact b2|exact b2.below (by assumption)|exact b2.below Aa)<|Rc.mk (by first|exact b3|exact b3.below (by assumption)|exact b3.below Aa)<|Bc.mk (by exact Ab)<|trivial))
 clear b1 b2 b3 hW
 rintro hW z27 ⟨b1,b2,b3,⟨b4,yb4,k4,f4⟩,-⟩
 go_wp2_with fail
 refine(H_cB4.out _ ps5 po5 hs5).mono ?_
 rintro e w28 ⟨p5,q5,rfl,hb28⟩
 have z29:=hb28.size
 try simp at z29
 clear k4 f4
 refine Ae w w28 (Rc (fun W'=>Dg W' p1 L1)<|Rc (fun W'=>Dg W' p2 L3)<|Rc (fun W'=>Ai W' p3 P)<|Bc w22.heap.size #[.int .i64 0,.int .i64 0,.int .i64 38,.int .i64 42,.int .i64 0,.int .i64 0,.int .i64 0,.int .i64 0,.int .i64 0] 67<|Bz) ?_ (hR:=(Rc.mk (by first|exact b1|exact b1.below (by assumption)|exact b1.below Aa)<|Rc.mk (by first|exact b2|exact b2.below (by assumption)|exact b2.below Aa)<|Rc.mk (by first|exact b3|exact b3.below (by assumption)|exact b3.below Aa)<|Bc.mk (by exact Ab)<|trivial))
 clear b1 b2 b3 b4 hW
 rintro hW z30 ⟨b1,b2,b3,⟨b4,yb4,k4,f4⟩,-⟩
 clear hs5
 obtain⟨bc,oc,rfl,hc1⟩:=b1.at' 1 r1 h1.out
 obtain⟨bm,om,rfl,hm1⟩:=b2.at' 0 r0 h0.out
 have u1:=hc1 1 _ rfl
 have u2:=hm1 2 _ rfl
 have u3:=hm1 3 _ rfl
 rw[e1.out] at u1
 rw[e2.out] at u2
 rw[e3.out] at u3
 simp only[Nat.one_mul,Nat.zero_mul,Nat.add_zero] at u1 u2 u3
 have v1:=A8 u1
 have v2:=A8 u2
 try simp only at v1 v2
 clear hc1 hm1
 clear b1 b2
 have b1:=b3
 clear b3
 have b2:=b4
 clear b4 k4 f4
 have k2:=b2.cell
 have f2:=b2.frozen
 go_wp2_with fail
 refine(H_cE.out _ p3 q3 _ (Ai.alloc b1 _) (Blk.new' rfl)).mono ?_
 rintro e w31 ⟨rfl,hb31⟩
 have z32:=hb31.size
 try simp at z32
 clear k2 f2
 refine Ae w w31 (Rc (fun W'=>Ai W' p3 P)<|Bc w22.heap.size #[.int .i64 0,.int .i64 0,.int .i64 38,.int .i64 42,.int .i64 0,.int .i64 0,.int .i64 0,.int .i64 0,.int .i64 0] 67<|Bc w28.heap.size #[.int .i64 2,.int .i64 0,.int .i64 2,.int .i64 3,.int .i64 0,.int .i64 1] 75<|Bz) ?_ (hR:=(Rc.mk (by first|exact b1|exact b1.below (by assumption)|exact b1.below Aa)<|Bc.mk (by exact Ab)<|Bc.mk (by exact Ab)<|trivial))
 clear b1 b2 hW
 rintro hW z33 ⟨b1,⟨b2,yb2,k2,f2⟩,⟨b3,yb3,k3,f3⟩,-⟩
 clear hb31
 go_wp2_with fail
 refine(H_cP.out _).mono ?_
 rintro e w34 ⟨ps6,po6,rfl,hb34,hs6⟩
 have z35:=hb34.size
 try simp at z35
 clear k2 f2 k3 f3
 refine Ae w w34 (Rc (fun W'=>Ai W' p3 P)<|Bc w22.heap.size #[.int .i64 0,.int .i64 0,.int .i64 38,.int .i64 42,.int .i64 0,.int .i64 0,.int .i64 0,.int .i64 0,.int .i64 0] 67<|Bc w28.heap.size #[.int .i64 2,.int .i64 0,.int .i64 2,.int .i64 3,.int .i64 0,.int .i64 1] 75<|Bz) ?_ (hR:=(Rc.mk (by first|exact b1|exact b1.below (by assumption)|exact b1.below Aa)<|Bc.mk (by exact Ab)<|Bc.mk (by exact Ab)<|trivial))
 clear b1 b2 b3 hW
 rintro hW z36 ⟨b1,⟨b2,yb2,k2,f2⟩,⟨b3,yb3,k3,f3⟩,-⟩
 go_wp2_with fail
 refine(H_cO6.out _ ps6 po6 hs6).mono ?_
 rintro e w37 ⟨rfl,hb37⟩
 have z38:=hb37.size
 try simp at z38
 clear k2 f2 k3 f3
 refine Ae w w37 (Rc (fun W'=>Ai W' p3 P)<|Bc w22.heap.size #[.int .i64 0,.int .i64 0,.int .i64 38,.int .i64 42,.int .i64 0,.int .i64 0,.int .i64 0,.int .i64 0,.int .i64 0] 67<|Bc w28.heap.size #[.int .i64 2,.int .i64 0,.int .i64 2,.int .i64 3,.int .i64 0,.int .i64 1] 75<|Bz) ?_ (hR:=(Rc.mk (by first|exact b1|exact b1.below (by assumption)|exact b1.below Aa)<|Bc.mk (by exact Ab)<|Bc.mk (by exact Ab)<|trivial))
 clear b1 b2 b3 hW
 rintro hW z39 ⟨b1,⟨b2,yb2,k2,f2⟩,⟨b3,yb3,k3,f3⟩,-⟩
 clear hb37
 go_wp2
 refine bodyPost_ret (by simp[results,Tryz.results28,go_sem,k2,f2,k3,f3,yb2,yb3]) rfl ⟨rfl,by exact Aa⟩
theorem Yf {w:World} {g:Nat} {t:TypeId} (h:Blk w g #[.int .i64 2,.int .i64 0,.int .i64 2,.int .i64 3,.int .i64 0,.int .i64 1] t):Ai w (some ⟨g,0,none⟩) [⟨2,0,2⟩,⟨3,0,1⟩]:=Ai.of_blk (l:= [⟨2,0,2⟩,⟨3,0,1⟩]) h _ [] rfl
theorem some_asks :Bn Dx=true/\Eg Dx 0 9= [⟨2,0,2⟩,⟨3,0,1⟩]/\(E9 Dx 1 0 5 3)[1]? =some (Py Dx 1 5 9)/\(Py Dx 1 5 9).n=2/\(E9 Dx 3 0 5 3)[0]? =some (Py Dx 3 0 4)/\(Py Dx 3 0 4).x=9/\(Py Dx 3 0 4).y=11/\oneA Dx 4 4 9= #[.int .i64 0,.int .i64 0,.int .i64 38,.int .i64 42,.int .i64 0,.int .i64 0,.int .i64 0,.int .i64 0,.int .i64 0]/\oneA Dx 6 0 9= #[.int .i64 2,.int .i64 0,.int .i64 0,.int .i64 0,.int .i64 0,.int .i64 0,.int .i64 0,.int .i64 0,.int .i64 0]:=by
 refine⟨?_,?_,?_,?_,?_,?_,?_,?_,?_⟩<;>kernel_rfl
theorem c_wakes26 (w:World):Cb 28 #[] w (.bool true):=by
 obtain⟨x1,x2,x3,x4,x5,x6,x7,x8,x9⟩:=some_asks
 have a1:Ll 1 0 5 3=true:=by decide
 have a3:Ll 3 0 5 3=true:=by decide
 have a4:Ll 4 0 0 1=false:=by decide
 refine wakes26_w ⟨#[97]⟩ (E9 Dx 1 0 5 3) (E9 Dx 3 0 5 3) [⟨2,0,2⟩,⟨3,0,1⟩] _ _ w (Hd x3) (Hd x5) (Hd x4) (Hd x6) (Hd x7) (fun W=>c_plain W) (fun W ps po h=> ?_) (fun W ps po h=> ?_) (fun W ps po h=> ?_) (fun W ps po h=> ?_) (fun W ps po h=> ?_) (fun W p k g h1 h2=> ?_) (fun W ps po h=> ?_)
 ·have t:=Li Dx ps po 1 2 1 0 5 3 W h
  unfold bkL bkE at t
  rw[x1,a1] at t
  exact t
 ·have t:=Li Dx ps po 1 2 3 0 5 3 W h
  unfold bkL bkE at t
  rw[x1,a3] at t
  exact t
 ·have t:=Wr Dx ps po 1 2 0 9 W h
  unfold plL at t
  rw[x1,if_pos rfl,if_pos rfl,x2] at t
  exact t
 ·have t:=Uo Dx ps po 1 2 4 4 9 W h (by decide)
  rw[x8] at t
  exact t
 ·have t:=Li Dx ps po 1 2 4 0 0 1 W h
  unfold bkL bkE at t
  rw[x1,a4] at t
  refine t.mono ?_
  rintro e w' ⟨p,k,he,_,hB⟩
  exact⟨p,k,he,hB⟩
 ·have t:=Sy p k (some ⟨g,0,none⟩) 2 [⟨2,0,2⟩,⟨3,0,1⟩] [⟨2,0,2⟩,⟨3,0,1⟩] W (by decide) h1 (Yf h2)
  rw[show decide (([⟨2,0,2⟩,⟨3,0,1⟩]:List Ah)= [⟨2,0,2⟩,⟨3,0,1⟩])=true from decide_eq_true rfl] at t
  exact t
 ·have t:=Uo Dx ps po 1 2 6 0 9 W h (by decide)
  rw[x9] at t
  exact t
end Go.Proofs.YtidfcoooccblaaaGreat
