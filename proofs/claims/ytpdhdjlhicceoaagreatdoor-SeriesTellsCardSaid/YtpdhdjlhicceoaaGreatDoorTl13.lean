/- Parts of the proof that follows. No condition. -/
import Derived.Test.YtpdhdjlhicceoaaGreatDoorTl12
set_option maxRecDepth 100000
set_option maxHeartbeats 8000000
set_option linter.unusedSimpArgs false
set_option linter.unusedVariables false
namespace Go.Proofs.YtpdhdjlhicceoaaGreatDoor
open Go.RowKit
attribute [local simp] Oper.looksAt Op.operands Call.operands envOf Det GDet
structure CellsP (w:World) (b o:Nat) (cs:Array Value):Prop where
 at':∀(j:Nat) (v:Value),cs[j]? =some v->w.cell? ⟨b,o+j,none⟩=some v
theorem CellsP.below {w w':World} {b o:Nat} {cs:Array Value} (h:CellsP w b o cs) (hb:Below w.heap.size w w'):CellsP w' b o cs:=⟨fun j v hv=>by
 have h1:=h.at' j v hv
 exact((bcell hb).1 b _ (cell_lt h1)).trans h1⟩
theorem CellsP.rex {L:List Nat} {w w':World} {b o:Nat} {cs:Array Value} (h:CellsP w b o cs) (hr:Rex L w w') (hL:L= []):CellsP w' b o cs:=by subst hL;exact h.below hr.below
theorem CellsP.drew {w:World} {b o:Nat} {cs:Array Value} (h:CellsP w b o cs):CellsP w.drew b o cs:=⟨h.at'⟩
def r14Rel (w:World) (p:Option Addr) (cap:Nat) (l:List SegT) (a':Act) (W:World):Prop:=
 Below w.heap.size w W/\∃i:Nat,(∃u:Nat->Value,a'= {tmps:= #[.slice p l.length cap,u 1,u 2,u 3,u 4,.slice p l.length cap,.int .i64 (l.length:Int),.int .i64 (i:Int),u 8,u 9,u 10,u 11,u 12,u 13,u 14,u 15,u 16,u 17,u 18,u 19,u 20,u 21,u 22,u 23,u 24,u 25,u 26,u 27,u 28,u 29],defers:= []})/\rowB (-1) (l.take i)=true/\i<=l.length
theorem rowB_cut {b:Int} {l:List SegT} (i:Nat) (h:rowB b (l.take i)=false):rowB b l=false:=by
 have key:∀(m:List SegT) (b:Int) (r:List SegT),rowB b m=false->rowB b (m++r)=false:=by
  intro m
  induction m with
  |nil=>intro b r h;simp[rowB] at h
  |cons y m ih=>
   intro b r h
   simp only[List.cons_append,rowB] at h⊢
   cases h1:segB y with
   |false=>rfl
   |true=>
    rw[h1,Bool.true_and] at h
    rw[Bool.true_and]
    cases h2:decide (b<firstT y.runs) with
    |false=>rfl
    |true=>rw[h2,Bool.true_and] at h;rw[Bool.true_and];exact ih _ r h
 have:=key _ b (l.drop i) h
 rwa [List.take_append_drop] at this
theorem c_r14Right (l:List SegT) (p:Option Addr) (cap:Nat) (w:World) (h:SegsIn w p l) (hl:l.length<=100):
  Cb 48 #[.slice p l.length cap] w (.bool (rowB (-1) l)):=by
 go_enter Tryz.func48,Tryz.ntmps48
 go_wp2
 refine wp_loop (r14Rel w p cap l) (fun a' _=>l.length-(intAt (a'.tmps.getD 7 undef)).toNat) ?_ ?_
 ·unfold r14Rel
  exact⟨Below.refl _ _,0,frame_ex rfl,rfl,by omega⟩
 rintro a' W ⟨hW0,i,⟨u,rfl⟩,hrow,hi⟩
 have hz:=hW0.size
 rcases Nat.lt_or_ge i l.length with hlt|hge
 ·obtain⟨x,tr⟩:∃r,l[i]? =some r:=⟨l[i]'(by omega),List.getElem?_eq_getElem (by omega)⟩
  obtain⟨b,o,p',q',cps,vc,rfl,hs,hvc,q0,q1,q2,q3,q4,q5,q6,q7⟩:=(h.below hW0).one tr
  have e1:l.take (i+1)=l.take i++ [x]:=by rw[List.take_add_one,tr];rfl
  have hst:rowB (-1) (l.take (i+1))=(segB x&&decide (((l.take i).getLast?.map fun y=>lastT y.runs).getD (-1)<firstT x.runs)):=by rw[e1,rowB_snoc,hrow,Bool.true_and]
  obtain⟨z,hz0⟩:∃z,((l.take i).getLast?.map fun y=>lastT y.runs).getD (-1)=z:=⟨_,rfl⟩
  rw[hz0] at hst
  have c1:=fun W' (hW':Below W.heap.size W W')=>c_refRight x p' q' cps vc W' (hs.below hW')
  unfold segA at c1
  have zc:=cell_lt q0
  try simp only at zc
  obtain⟨F,hF⟩:∃F,rowB (-1) (l.take (i+1))=F:=⟨_,rfl⟩
  have hno:F=false->rowB (-1) l=false:=fun e=>rowB_cut (i+1) (hF.trans e)
  replace hno:=Hd hno
  obtain⟨B,hB⟩:∃B,segB x=B:=⟨_,rfl⟩
  rw[hB] at c1 hst
  replace c1:=Hd c1
  by_cases h0:i=0
  ·have E0:=Hd (show decide (0<i)=false from decide_eq_false (by omega))
   obtain rfl: -1=z:=by rw[<-hz0,h0];rfl
   have hv:=Hd (show (!B||false)= !F by
    rw[<-hF,hst]
    cases B with
    |false=>rfl
    |true=>
     have:=first_in (segB_runs hB)
     rw[decide_eq_true (show-1<firstT x.runs by omega)]
     rfl)
   replace h0:=Hd h0
   replace hF:=Hd hF
   clear tr e1 hz0 hst hs
   go_upto_region 4 with(fail)
   refine wp_cutB W (Bc W.heap.size #[.int .i64 x.K,.slice p' x.runs.length cps,.int .i64 x.A,.int .i64 x.R,.int .i64 x.n,.int .i64 x.d,.slice q' x.raw.length vc,.int .i64 x.E] 49<|Bz) ?_
   rintro W21 hW z22 hL
   obtain⟨⟨b1,yb1,k1,f1⟩,-⟩:=id hL
   clear k1 f1
   refine wp_regD 17 30 hW hL ?_
   refine dE (fun W' hC=>E0.out) ?_
   refine cE (fun W' hC=>E0.out) (fun W' hC=>c1.out W' (hW.trans (hC.1.of_priv hW.size))) ?_
   iterate 2 refine dE (fun W' hC=>E0.out) ?_
   iterate 3 refine gE (fun W' hC=>E0.out) ?_
   iterate 9
    first
    |(
     apply nd_detg (c:=undef) (hg:=rfl) (hd:=rfl) (hal:=rfl)
     ·intro v W' h
      exact h
     ·intro hp hx
      cases hx)
    |(
     apply nd_pickg_and (p:=true) (x:=false) (y:=false) (ho:=rfl) (hg:=rfl) (hd:=rfl)
     ·intro v W' h
      simp[envOf,Det,GDet] at h
      simp
      exact h
     ·intro _ hx v W' h
      simp[hx] at h
      exact h
     ·intro _ hx v W' h hy
      cases hy)
   refine pO ?_
   clear hW hL b1
   rintro W23 hW z24 hL
   simp only[ndR]
   intros
   repeat (rename GDet _ _ _ _=>hgd;clear hgd)
   simp only[ndS]
   refine wpList_nil ?_
   obtain⟨⟨b1,yb1,k1,f1⟩,-⟩:=hL
   rw[hv.out]
   cases F with
   |false=>
    go_wp2
    go_ret
    exact⟨by rw[hno.out (by trivial)];rfl,by exact belowAny⟩
   |true=>
    go_wp2
    rw[show (i:Int)+1=((i+1:Nat):Int) by omega]
    refine⟨?_,by simp[intAt];omega⟩
    unfold r14Rel
    exact⟨hW0.trans (hW.mono hz),i+1,frame_ex rfl,hF.out,by omega⟩
  ·obtain⟨j,hj⟩:∃j,i=j+1:=⟨i-1,by omega⟩
   obtain⟨y,ty⟩:∃r,l[j]? =some r:=⟨l[j]'(by omega),List.getElem?_eq_getElem (by omega)⟩
   obtain⟨b',o',p2,q2,cp2,vc2,eb,hy0,gy,-⟩:=(h.below hW0).at' j y ty
   obtain⟨rfl,rfl⟩:b=b'/\o=o':=by injection eb with e;injection e with e1 e2;exact⟨e1,e2⟩
   have E0:=Hd (show decide (0<i)=true from decide_eq_true (by omega))
   have E1:=Hd (show wrap64 ((i:Int)-1)=(j:Int) by rw[wrap64_eq];omega)
   have g1:j<l.length:=by omega
   have hlast:(l.take i).getLast? =some y:=by rw[hj,List.take_add_one,ty];simp
   obtain rfl:lastT y.runs=z:=by rw[<-hz0,hlast];rfl
   have hyB:segB y=true:=rowB_seg hrow y (List.mem_iff_getElem?.2 ⟨j,by rw[List.getElem?_take];simp[ty];omega⟩)
   obtain⟨B2,hB2⟩:∃B,decide (lastT y.runs<firstT x.runs)=B:=⟨_,rfl⟩
   have c2:=fun(e:B=true) W' (hW':Below W.heap.size W W')=>c_r14Behind y x p2 q2 p' q' cp2 vc2 cps vc W' (gy.below hW') hyB (hs.below hW') (hB.trans e)
   rw[hB2] at hst c2
   unfold segA at c2 hy0
   replace c2:=Hd c2
   have hv:=Hd (show (!B|| !B2)= !F by rw[<-hF,hst];cases B<;>cases B2<;>rfl)
   replace hF:=Hd hF
   replace hj:=Hd hj
   clear tr ty e1 hst hs eb gy hyB hlast hB hB2 hz0
   go_upto_region 4 with(fail)
   refine wp_cutB W (Bc W.heap.size #[.int .i64 x.K,.slice p' x.runs.length cps,.int .i64 x.A,.int .i64 x.R,.int .i64 x.n,.int .i64 x.d,.slice q' x.raw.length vc,.int .i64 x.E] 49<|Rc (fun W'=>CellsP W' b (o+j*8) #[.int .i64 y.K,.slice p2 y.runs.length cp2,.int .i64 y.A,.int .i64 y.R,.int .i64 y.n,.int .i64 y.d,.slice q2 y.raw.length vc2,.int .i64 y.E])<|Bz) ?_ (hI:=by exact belowAny) (hR:=(Bc.mk (by exact blkAny2)<|Rc.mk (by first|exact⟨hy0⟩|(exact(CellsP.mk hy0).below belowAny))<|trivial))
   rintro W21 hW z22 hL
   obtain⟨⟨b1,yb1,k1,f1⟩,b2,-⟩:=id hL
   clear k1 f1
   refine wp_regD 17 30 hW hL ?_
   refine dE (fun W' hC=>aI E0.out (aI E1.out (aI g1 (aI (Nat.not_le.2 g1) (aI (hC.2.2.1.at' 0 _ rfl) (aI (hC.2.2.1.at' 1 _ rfl) (aI (hC.2.2.1.at' 2 _ rfl) (aI (hC.2.2.1.at' 3 _ rfl) (aI (hC.2.2.1.at' 4 _ rfl) (aI (hC.2.2.1.at' 5 _ rfl) (aI (hC.2.2.1.at' 6 _ rfl) (hC.2.2.1.at' 7 _ rfl)))))))))))) ?_
   refine cE (fun W' hC=>aI E0.out (aI E1.out (aI g1 (aI (Nat.not_le.2 g1) (aI (hC.2.2.1.at' 0 _ rfl) (aI (hC.2.2.1.at' 1 _ rfl) (aI (hC.2.2.1.at' 2 _ rfl) (aI (hC.2.2.1.at' 3 _ rfl) (aI (hC.2.2.1.at' 4 _ rfl) (aI (hC.2.2.1.at' 5 _ rfl) (aI (hC.2.2.1.at' 6 _ rfl) (hC.2.2.1.at' 7 _ rfl)))))))))))) (fun W' hC=>c1.out W' (hW.trans (hC.1.of_priv hW.size))) ?_
   iterate 2 refine dE (fun W' hC=>aI E0.out (aI E1.out (aI g1 (aI (Nat.not_le.2 g1) (aI (hC.2.2.1.at' 0 _ rfl) (aI (hC.2.2.1.at' 1 _ rfl) (aI (hC.2.2.1.at' 2 _ rfl) (aI (hC.2.2.1.at' 3 _ rfl) (aI (hC.2.2.1.at' 4 _ rfl) (aI (hC.2.2.1.at' 5 _ rfl) (aI (hC.2.2.1.at' 6 _ rfl) (hC.2.2.1.at' 7 _ rfl)))))))))))) ?_
   iterate 3 refine gE (fun W' hC=>aI E0.out (aI E1.out (aI g1 (aI (Nat.not_le.2 g1) (aI (hC.2.2.1.at' 0 _ rfl) (aI (hC.2.2.1.at' 1 _ rfl) (aI (hC.2.2.1.at' 2 _ rfl) (aI (hC.2.2.1.at' 3 _ rfl) (aI (hC.2.2.1.at' 4 _ rfl) (aI (hC.2.2.1.at' 5 _ rfl) (aI (hC.2.2.1.at' 6 _ rfl) (hC.2.2.1.at' 7 _ rfl)))))))))))) ?_
   iterate 6 refine gF (fun W' hC=>aI E0.out (aI E1.out (aI g1 (aI (Nat.not_le.2 g1) (aI (hC.2.2.1.at' 0 _ rfl) (aI (hC.2.2.1.at' 1 _ rfl) (aI (hC.2.2.1.at' 2 _ rfl) (aI (hC.2.2.1.at' 3 _ rfl) (aI (hC.2.2.1.at' 4 _ rfl) (aI (hC.2.2.1.at' 5 _ rfl) (aI (hC.2.2.1.at' 6 _ rfl) (hC.2.2.1.at' 7 _ rfl)))))))))))) ?_
   apply nd_callvg2 (p:=_) (hg:=rfl) (hd:=rfl) (hal:=rfl)
   ·intro v W' h
    first
     |exact h
     |(simp[envOf,GDet] at h;simp;exact h)
   ·intro hp hx W' hC
    exact c2.out (by simpa using hp) W' (hW.trans (hC.1.of_priv hW.size))
   ·intro hp hx a W' hC hE
    obtain⟨_,⟨-,-,k1,-⟩,k2,-⟩:=hC
    have t0:=k2.at' 0 _ rfl;have t1:=k2.at' 1 _ rfl;have t2:=k2.at' 2 _ rfl;have t3:=k2.at' 3 _ rfl;have t4:=k2.at' 4 _ rfl;have t5:=k2.at' 5 _ rfl;have t6:=k2.at' 6 _ rfl;have t7:=k2.at' 7 _ rfl;simp only[Nat.add_zero] at t0
    try simp at hp
    try simp at hx
    first
     |(simp[hp,hx] at hE;simp[go_sem,Act.eval,iw,hE,k1,k2,E0.out,E1.out,g1,Nat.not_le.2 g1,t0,t1,t2,t3,t4,t5,t6,t7];try rfl)
     |(clear hE;simp[go_sem,Act.eval,iw,k1,k2,E0.out,E1.out,g1,Nat.not_le.2 g1,t0,t1,t2,t3,t4,t5,t6,t7];try rfl)
   refine gF (fun W' hC=>aI E0.out (aI E1.out (aI g1 (aI (Nat.not_le.2 g1) (aI (hC.2.2.1.at' 0 _ rfl) (aI (hC.2.2.1.at' 1 _ rfl) (aI (hC.2.2.1.at' 2 _ rfl) (aI (hC.2.2.1.at' 3 _ rfl) (aI (hC.2.2.1.at' 4 _ rfl) (aI (hC.2.2.1.at' 5 _ rfl) (aI (hC.2.2.1.at' 6 _ rfl) (hC.2.2.1.at' 7 _ rfl)))))))))))) ?_
   refine pgA ?_
   refine pO ?_
   clear hW hL b1 b2
   rintro W23 hW z24 hL
   simp only[ndR]
   intros
   repeat (rename GDet _ _ _ _=>hgd;clear hgd)
   simp only[ndS]
   refine wpList_nil ?_
   obtain⟨⟨b1,yb1,k1,f1⟩,b2,-⟩:=hL
   rw[hv.out]
   cases F with
   |false=>
    go_wp2
    go_ret
    exact⟨by rw[hno.out (by trivial)];rfl,by exact belowAny⟩
   |true=>
    go_wp2
    rw[show (i:Int)+1=((i+1:Nat):Int) by omega]
    refine⟨?_,by simp[intAt];omega⟩
    unfold r14Rel
    exact⟨hW0.trans (hW.mono hz),i+1,frame_ex rfl,hF.out,by omega⟩
 ·obtain rfl:i=l.length:=by omega
  rw[List.take_length] at hrow
  replace hrow:=Hd hrow
  go_wp2
  go_ret
  exact⟨by rw[hrow.out];rfl,hW0⟩
def r24aRel (w:World) (s:SerT) (ps:Option Addr) (cs:Nat) (po:Option Addr) (co:Nat) (a':Act) (W:World):Prop:=
 Below w.heap.size w W/\Blk W w.heap.size #[.string s.name,.int .i64 s.eps,.int .i64 s.floor,.int .i64 s.last,.int .i64 s.scale,.slice ps s.segs.length cs,.slice po s.opn.length co] 26/\∃i:Nat,(∃u:Nat->Value,a'= {tmps:= #[u 0,.pointer (some ⟨w.heap.size,0,none⟩),u 2,u 3,u 4,u 5,u 6,u 7,u 8,u 9,u 10,u 11,u 12,u 13,u 14,u 15,u 16,u 17,u 18,u 19,u 20,u 21,u 22,u 23,u 24,u 25,u 26,u 27,u 28,u 29,u 30,u 31,u 32,u 33,u 34,u 35,u 36,u 37,u 38,u 39,u 40,u 41,u 42,u 43,u 44,u 45,u 46,u 47,u 48,u 49,u 50,u 51,.slice ps s.segs.length cs,.int .i64 (s.segs.length:Int),.int .i64 (i:Int),u 55,u 56,u 57,u 58,u 59,u 60,u 61,u 62,u 63,u 64,u 65,u 66,u 67,u 68,u 69,u 70,u 71,u 72,u 73,u 74,u 75,u 76,u 77,u 78,u 79,u 80,u 81,u 82,u 83,u 84,u 85,u 86,u 87,u 88,u 89,u 90,u 91,u 92,u 93,u 94,u 95,u 96,u 97,u 98,u 99,u 100,u 101,u 102,u 103,u 104,u 105,u 106,u 107,u 108,u 109,u 110,u 111,u 112,u 113,u 114,u 115,u 116,u 117,u 118,u 119,u 120,u 121,u 122,u 123,u 124,u 125,u 126,u 127,u 128,u 129],defers:= []})/\(s.segs.take i).all (inSegB s.eps s.floor)=true/\i<=s.segs.length
def r24bRel (w:World) (s:SerT) (ps:Option Addr) (cs:Nat) (po:Option Addr) (co:Nat) (a':Act) (W:World):Prop:=
 Below w.heap.size w W/\Blk W w.heap.size #[.string s.name,.int .i64 s.eps,.int .i64 s.floor,.int .i64 s.last,.int .i64 s.scale,.slice ps s.segs.length cs,.slice po s.opn.length co] 26/\∃i:Nat,(∃u:Nat->Value,a'= {tmps:= #[u 0,.pointer (some ⟨w.heap.size,0,none⟩),u 2,u 3,u 4,u 5,u 6,u 7,u 8,u 9,u 10,u 11,u 12,u 13,u 14,u 15,u 16,u 17,u 18,u 19,u 20,u 21,u 22,u 23,u 24,u 25,u 26,u 27,u 28,u 29,u 30,u 31,u 32,u 33,u 34,u 35,u 36,u 37,u 38,u 39,u 40,u 41,u 42,u 43,u 44,u 45,u 46,u 47,u 48,u 49,u 50,u 51,u 52,u 53,u 54,u 55,u 56,u 57,u 58,u 59,u 60,u 61,u 62,u 63,u 64,u 65,u 66,u 67,u 68,u 69,u 70,u 71,.slice po s.opn.length co,.int .i64 (s.opn.length:Int),.int .i64 (i:Int),u 75,u 76,u 77,u 78,u 79,u 80,u 81,u 82,u 83,u 84,u 85,u 86,u 87,u 88,u 89,u 90,u 91,u 92,u 93,u 94,u 95,u 96,u 97,u 98,u 99,u 100,u 101,u 102,u 103,u 104,u 105,u 106,u 107,u 108,u 109,u 110,u 111,u 112,u 113,u 114,u 115,u 116,u 117,u 118,u 119,u 120,u 121,u 122,u 123,u 124,u 125,u 126,u 127,u 128,u 129],defers:= []})/\(s.opn.take i).all (inOpnB s.floor)=true/\i<=s.opn.length
def r24cRel (w:World) (s:SerT) (ps:Option Addr) (cs:Nat) (po:Option Addr) (co:Nat) (T:List Int) (p:Option Addr) (c:Nat) (a':Act) (W:World):Prop:=
 Below w.heap.size w W/\Blk W w.heap.size #[.string s.name,.int .i64 s.eps,.int .i64 s.floor,.int .i64 s.last,.int .i64 s.scale,.slice ps s.segs.length cs,.slice po s.opn.length co] 26/\IntsIn W p T/\∃i:Nat,(∃u:Nat->Value,a'= {tmps:= #[u 0,.pointer (some ⟨w.heap.size,0,none⟩),u 2,u 3,u 4,u 5,u 6,.slice p T.length c,u 8,u 9,u 10,u 11,u 12,u 13,u 14,u 15,u 16,u 17,u 18,u 19,u 20,u 21,u 22,u 23,u 24,u 25,u 26,u 27,u 28,u 29,u 30,u 31,u 32,u 33,u 34,u 35,u 36,u 37,u 38,u 39,u 40,u 41,u 42,u 43,u 44,u 45,u 46,u 47,u 48,u 49,u 50,u 51,u 52,u 53,u 54,u 55,u 56,u 57,u 58,u 59,u 60,u 61,u 62,u 63,u 64,u 65,u 66,u 67,u 68,u 69,u 70,u 71,u 72,u 73,u 74,u 75,u 76,u 77,u 78,u 79,u 80,u 81,u 82,u 83,u 84,u 85,u 86,u 87,u 88,u 89,u 90,u 91,.int .i64 (T.length:Int),.int .i64 (i:Int),u 94,u 95,u 96,u 97,u 98,u 99,u 100,u 101,u 102,u 103,u 104,u 105,u 106,u 107,u 108,u 109,u 110,u 111,u 112,u 113,u 114,u 115,u 116,u 117,u 118,u 119,u 120,u 121,u 122,u 123,u 124,u 125,u 126,u 127,u 128,u 129],defers:= []})/\riseB (-1) (T.take i)=true/\i<=T.length/\(i=T.length->(decide (lastOr (-1) T<0)||(s.last==lastOr (-1) T))=true)
theorem all_cut {α:Type} (p:α->Bool) (l:List α) (i:Nat) (h:(l.take i).all p=false):l.all p=false:=by
 rw[<-List.take_append_drop i l,List.all_append,h,Bool.false_and]
theorem rise_cut {b:Int} {l:List Int} (i:Nat) (h:riseB b (l.take i)=false):riseB b l=false:=riseB_prefix (List.take_prefix i l) b h
theorem c_r24Right (s:SerT) (ps:Option Addr) (cs:Nat) (po:Option Addr) (co:Nat) (w:World) (hin:SerIn w s ps po) (hnm:s.name.size<=1000):
  Cb 16 #[.agg (serA s ps cs po co)] w (.bool (checkB s)):=by
 have hfS:=hin.fewS
 have hfO:=hin.fewO
 unfold serA
 have hnum:numsB s=(nameB s.name&&btw s.eps 0 1099511627776&&btw s.scale (-40) 40&&btw s.floor 0 281474976710656&&btw s.last (-1) 281474976710656):=by unfold numsB;simp[Bool.and_assoc]
 obtain⟨N1,hN1⟩:∃b,nameB s.name=b:=⟨_,rfl⟩
 obtain⟨N2,hN2⟩:∃b,btw s.eps 0 1099511627776=b:=⟨_,rfl⟩
 obtain⟨N3,hN3⟩:∃b,btw s.scale (-40) 40=b:=⟨_,rfl⟩
 obtain⟨N4,hN4⟩:∃b,btw s.floor 0 281474976710656=b:=⟨_,rfl⟩
 rw[hN1,hN2,hN3,hN4] at hnum
 have hv:=Hd (show (!N1|| !N2|| !N3|| !N4||decide (s.last< -1)||decide (281474976710656<s.last))= !numsB s by
  rw[hnum]
  unfold btw
  have h1:decide (s.last< -1)= !decide (-1<=s.last):=by rw[Bool.eq_iff_iff];simp
  have h2:decide (281474976710656<s.last)= !decide (s.last<=281474976710656):=by rw[Bool.eq_iff_iff];simp
  rw[h1,h2]
  cases N1<;>cases N2<;>cases N3<;>cases N4<;>simp[Bool.not_and])
 replace hnum:=Hd hnum
 have hno0:=Hd (fun(e:numsB s=false)=>(show checkB s=false by unfold checkB;rw[e,Bool.false_and]))
 obtain⟨N,hN⟩:∃b,numsB s=b:=⟨_,rfl⟩
 rw[hN] at hv
 obtain⟨RW,hRW⟩:∃b,rowB (-1) s.segs=b:=⟨_,rfl⟩
 replace hN1:=Hd hN1
 replace hN2:=Hd hN2
 replace hN3:=Hd hN3
 replace hN4:=Hd hN4
 replace hN:=Hd hN
 replace hRW:=Hd hRW
 go_enter Tryz.func16,Tryz.ntmps16
 go_upto_region 1 with(fail)
 refine wp_cutB w (Bc w.heap.size #[.string s.name,.int .i64 s.eps,.int .i64 s.floor,.int .i64 s.last,.int .i64 s.scale,.slice ps s.segs.length cs,.slice po s.opn.length co] 26<|Bz) ?_
 rintro W1 hW z2 hL
 refine wp_regS 32 130 hW hL ?_
 iterate 2 refine dE (fun W' hC=>aI hN1.out (aI hN2.out (aI hN3.out hN4.out))) ?_
 refine cE (fun W' hC=>aI hN1.out (aI hN2.out (aI hN3.out hN4.out))) (fun W' hC=>c_r18Name s.name W' hnm) ?_
 iterate 2 refine dE (fun W' hC=>aI hN1.out (aI hN2.out (aI hN3.out hN4.out))) ?_
 iterate 2 refine gE (fun W' hC=>aI hN1.out (aI hN2.out (aI hN3.out hN4.out))) ?_
 apply nd_callvg2 (p:=true) (hg:=rfl) (hd:=rfl) (hal:=rfl)
 ·intro v W' h
  simp at h
  simp
  exact h
 ·intro hp hx W' hC
  exact c_r13Eps s.eps W'
 ·intro hp hx a W' hC hE
  obtain⟨_,⟨-,-,k1,-⟩,-⟩:=hC
  first
   |(simp[hx] at hE;simp[go_sem,Act.eval,iw,hE,k1,hN1.out,hN2.out,hN3.out,hN4.out];try rfl)
   |(clear hE;simp[go_sem,Act.eval,iw,k1,hN1.out,hN2.out,hN3.out,hN4.out];try rfl)
 refine gE (fun W' hC=>aI hN1.out (aI hN2.out (aI hN3.out hN4.out))) ?_
 refine pO ?_
 refine dE (fun W' hC=>aI hN1.out (aI hN2.out (aI hN3.out hN4.out))) ?_
 iterate 2 refine gE (fun W' hC=>aI hN1.out (aI hN2.out (aI hN3.out hN4.out))) ?_
 apply nd_callvg2 (p:=true) (hg:=rfl) (hd:=rfl) (hal:=rfl)
 ·intro v W' h
  simp at h
  simp
  exact h
 ·intro hp hx W' hC
  exact c_r24Scale s.scale W'
 ·intro hp hx a W' hC hE
  obtain⟨_,⟨-,-,k1,-⟩,-⟩:=hC
  first
   |(simp[hx] at hE;simp[go_sem,Act.eval,iw,hE,k1,hN1.out,hN2.out,hN3.out,hN4.out];try rfl)
   |(clear hE;simp[go_sem,Act.eval,iw,k1,hN1.out,hN2.out,hN3.out,hN4.out];try rfl)
 refine gE (fun W' hC=>aI hN1.out (aI hN2.out (aI hN3.out hN4.out))) ?_
 refine pO ?_
 refine dE (fun W' hC=>aI hN1.out (aI hN2.out (aI hN3.out hN4.out))) ?_
 iterate 2 refine gE (fun W' hC=>aI hN1.out (aI hN2.out (aI hN3.out hN4.out))) ?_
 apply nd_callvg2 (p:=true) (hg:=rfl) (hd:=rfl) (hal:=rfl)
 ·intro v W' h
  simp at h
  simp
  exact h
 ·intro hp hx W' hC
  exact c_r18Time s.floor W'
 ·intro hp hx a W' hC hE
  obtain⟨_,⟨-,-,k1,-⟩,-⟩:=hC
  first
   |(simp[hx] at hE;simp[go_sem,Act.eval,iw,hE,k1,hN1.out,hN2.out,hN3.out,hN4.out];try rfl)
   |(clear hE;simp[go_sem,Act.eval,iw,k1,hN1.out,hN2.out,hN3.out,hN4.out];try rfl)
 refine gE (fun W' hC=>aI hN1.out (aI hN2.out (aI hN3.out hN4.out))) ?_
 refine pO ?_
 refine dE (fun W' hC=>aI hN1.out (aI hN2.out (aI hN3.out hN4.out))) ?_
 iterate 3 refine gE (fun W' hC=>aI hN1.out (aI hN2.out (aI hN3.out hN4.out))) ?_
 refine pO ?_
 refine dE (fun W' hC=>aI hN1.out (aI hN2.out (aI hN3.out hN4.out))) ?_
 iterate 3 refine gE (fun W' hC=>aI hN1.out (aI hN2.out (aI hN3.out hN4.out))) ?_
 refine pO ?_
 clear hW hL
 rintro W3 hW z4 hL
 simp only[ndR]
 intros
 repeat (rename GDet _ _ _ _=>hgd;clear hgd)
 simp only[ndS]
 refine wpList_nil ?_
 obtain⟨⟨b1,yb1,k1,f1⟩,-⟩:=hL
 rw[hv.out]
 cases N with
 |false=>
  have hno:=Hd (hno0.out hN.out)
  go_wp2
  go_ret
  exact⟨by rw[hno.out];rfl,by exact belowAny⟩
 |true=>
  clear hv hno0
  go_upto_region 3 with(fail)
  clear k1 f1
  refine wp_cutB w (Bc w.heap.size #[.string s.name,.int .i64 s.eps,.int .i64 s.floor,.int .i64 s.last,.int .i64 s.scale,.slice ps s.segs.length cs,.slice po s.opn.length co] 26<|Bz) ?_
  clear b1 hW
  rintro W5 hW z6 hL
  refine wp_regS 10 130 hW hL ?_
  iterate 2 refine dA ?_
  refine cA (fun W' hC=>c_r14Right s.segs ps cs W' ((hin.below (hW.trans (hC.1.of_priv hW.size))).segs) hin.fewS) ?_
  iterate 2 refine dA ?_
  iterate 4 refine gA ?_
  refine pO ?_
  clear hW hL
  rintro W7 hW z8 hL
  simp only[ndR]
  intros
  repeat (rename GDet _ _ _ _=>hgd;clear hgd)
  simp only[ndS]
  refine wpList_nil ?_
  obtain⟨⟨b1,yb1,k1,f1⟩,-⟩:=hL
  obtain⟨F2,hF2⟩:∃F,(!rowB (-1) s.segs||decide (31<(s.opn.length:Int)))=F:=⟨_,rfl⟩
  rw[hF2]
  cases F2 with
  |true=>
   have hno:=Hd (show checkB s=false by
    unfold checkB
    cases h:rowB (-1) s.segs with
    |false=>simp
    |true=>
     rw[h] at hF2
     simp at hF2
     have:¬s.opn.length<32:=by omega
     simp[this])
   clear hF2
   go_wp2
   go_ret
   exact⟨by rw[hno.out];rfl,by exact belowAny⟩
  |false=>
   have hrow:rowB (-1) s.segs=true:=by cases h:rowB (-1) s.segs with|true=>rfl|false=>simp[h] at hF2
   have ho9:s.opn.length<32:=by rw[hrow] at hF2;simp at hF2;omega
   have hV:=Hd (rowB_seg hrow)
   have hck:=Hd (show checkB s=(s.segs.all (inSegB s.eps s.floor)&&(s.opn.all (inOpnB s.floor)&&(riseB (-1) (timesS s)&&(lastB s&&decide (keptN s<=1024))))) by unfold checkB;rw[hN.out,hrow,decide_eq_true ho9];simp)
   have hfl:0<=s.floor:=by
    have h:=hN.out
    unfold numsB btw at h
    simp only[Bool.and_eq_true,decide_eq_true_eq] at h
    exact h.2.2.2.1.1
   clear hF2 hrow
   go_wp2
   refine wp_loop (r24aRel w s ps cs po co) (fun a' _=>s.segs.length-(intAt (a'.tmps.getD 54 undef)).toNat) ?_ ?_
   ·unfold r24aRel
    exact⟨hW,b1,0,frame_ex rfl,rfl,by omega⟩
   clear b1 hW k1 f1
   rintro a' W ⟨hW0,b1,i,⟨u,rfl⟩,hall,hi⟩
   have hz:=hW0.size
   have zb1:=b1.lt
   rcases Nat.lt_or_ge i s.segs.length with hlt|hge
   ·obtain⟨x,tr⟩:∃r,s.segs[i]? =some r:=⟨s.segs[i]'(by omega),List.getElem?_eq_getElem (by omega)⟩
    have hsx:=hV.out x (List.mem_of_getElem? tr)
    obtain⟨b,o,p',q',cps,vc,rfl,hs,hvc,q0,q1,q2,q3,q4,q5,q6,q7⟩:=(hin.below hW0).segs.one tr
    have c3:=fun W' (hW':Below W.heap.size W W')=>c_r24last x p' q' cps vc W' (hs.below hW') hsx
    unfold segA at c3
    replace c3:=Hd c3
    have zc:=cell_lt q0
    try simp only at zc
    obtain⟨F,hF⟩:∃F,inSegB s.eps s.floor x=F:=⟨_,rfl⟩
    have hst:(s.segs.take (i+1)).all (inSegB s.eps s.floor)=F:=by rw[List.take_add_one,tr,List.all_append,hall];simp[hF]
    have hv:=Hd (show (decide (s.eps<x.E)||decide (lastT x.runs<s.floor))= !F by rw[<-hF];unfold inSegB;rw[Bool.eq_iff_iff];simp;try omega)
    have hno:=Hd (fun(e:F=false)=>(show checkB s=false by rw[hck.out,all_cut _ _ _ (hst.trans e),Bool.false_and]))
    replace hst:=Hd hst
    clear tr hs hsx hF hall
    have k1:=b1.cell
    have f1:=b1.frozen
    go_upto_region 8 with(fail)
    clear k1 f1
    refine wp_cutB W (Bc w.heap.size #[.string s.name,.int .i64 s.eps,.int .i64 s.floor,.int .i64 s.last,.int .i64 s.scale,.slice (some ⟨b,o,none⟩) s.segs.length cs,.slice po s.opn.length co] 26<|Bc W.heap.size #[.int .i64 x.K,.slice p' x.runs.length cps,.int .i64 x.A,.int .i64 x.R,.int .i64 x.n,.int .i64 x.d,.slice q' x.raw.length vc,.int .i64 x.E] 49<|Bz) ?_
    clear b1
    rintro W21 hW z22 hL
    refine wp_regQ 12 130 hW hL ?_
    iterate 6 refine dA ?_
    refine gA ?_
    refine cG (fun hp hx W' hC=>c3.out W' (hW.trans (hC.1.of_priv hW.size))) ?_
    iterate 3 refine gA ?_
    refine pO ?_
    clear hW hL
    rintro W23 hW z24 hL
    simp only[ndR]
    intros
    repeat (rename GDet _ _ _ _=>hgd;clear hgd)
    simp only[ndS]
    refine wpList_nil ?_
    obtain⟨⟨b1,yb1,k1,f1⟩,⟨b2,yb2,k2,f2⟩,-⟩:=hL
    rw[hv.out]
    cases F with
    |false=>
     go_wp2
     go_ret
     exact⟨by rw[hno.out (by trivial)];rfl,by exact belowAny⟩
    |true=>
     go_wp2
     rw[show (i:Int)+1=((i+1:Nat):Int) by omega]
     refine⟨?_,by simp[intAt];omega⟩
     unfold r24aRel
     exact⟨hW0.trans (hW.mono hz),b1,i+1,frame_ex rfl,hst.out,by omega⟩
   ·obtain rfl:i=s.segs.length:=by omega
    rw[List.take_length] at hall
    replace hck:=Hd (show checkB s=(s.opn.all (inOpnB s.floor)&&(riseB (-1) (timesS s)&&(lastB s&&decide (keptN s<=1024)))) by rw[hck.out,hall,Bool.true_and])
    clear hall
    have k1:=b1.cell
    have f1:=b1.frozen
    go_wp2
    refine wp_loop (r24bRel w s ps cs po co) (fun a' _=>s.opn.length-(intAt (a'.tmps.getD 74 undef)).toNat) ?_ ?_
    ·unfold r24bRel
     exact⟨hW0,b1,0,frame_ex rfl,rfl,by omega⟩
    clear b1 hW0 k1 f1 hz zb1
    rintro a' W ⟨hW0,b1,i,⟨u,rfl⟩,hall,hi⟩
    have hz:=hW0.size
    have zb1:=b1.lt
    rcases Nat.lt_or_ge i s.opn.length with hlt|hge
    ·obtain⟨⟨t,y⟩,tr⟩:∃r,s.opn[i]? =some r:=⟨s.opn[i]'(by omega),List.getElem?_eq_getElem (by omega)⟩
     obtain⟨b,o,rfl,q0,q1⟩:=(hin.below hW0).opn.at' i _ tr
     simp only at q0 q1
     have zc:=cell_lt q0
     try simp only at zc
     obtain⟨F,hF⟩:∃F,inOpnB s.floor (t,y)=F:=⟨_,rfl⟩
     have hst:(s.opn.take (i+1)).all (inOpnB s.floor)=F:=by rw[List.take_add_one,tr,List.all_append,hall];simp[hF]
     have hv:=Hd (show (!btw t 0 281474976710656|| !btw y (-2305843009213693952) 2305843009213693952||decide (t<s.floor))= !F by
      rw[<-hF]
      unfold inOpnB btw
      rw[Bool.eq_iff_iff]
      simp only[Bool.or_eq_true,Bool.not_eq_true',Bool.and_eq_false_iff,decide_eq_true_eq,decide_eq_false_iff_not]
      omega)
     have hno:=Hd (fun(e:F=false)=>(show checkB s=false by rw[hck.out,all_cut _ _ _ (hst.trans e),Bool.false_and]))
     replace hst:=Hd hst
     clear tr hF hall
     have k1:=b1.cell
     have f1:=b1.frozen
     go_upto_region 14 with(fail)
     clear k1 f1
     refine wp_cutB W (Bc w.heap.size #[.string s.name,.int .i64 s.eps,.int .i64 s.floor,.int .i64 s.last,.int .i64 s.scale,.slice ps s.segs.length cs,.slice (some ⟨b,o,none⟩) s.opn.length co] 26<|Bc W.heap.size #[.int .i64 t,.int .i64 y] 53<|Bz) ?_
     clear b1
     rintro W21 hW z22 hL
     refine wp_regS 10 130 hW hL ?_
     refine dA ?_
     refine cA (fun W' hC=>c_r13Point t y W') ?_
     iterate 2 refine dA ?_
     iterate 5 refine gA ?_
     refine pO ?_
     clear hW hL
     rintro W23 hW z24 hL
     simp only[ndR]
     intros
     repeat (rename GDet _ _ _ _=>hgd;clear hgd)
     simp only[ndS]
     refine wpList_nil ?_
     obtain⟨⟨b1,yb1,k1,f1⟩,⟨b2,yb2,k2,f2⟩,-⟩:=hL
     rw[hv.out]
     cases F with
     |false=>
      go_wp2
      go_ret
      exact⟨by rw[hno.out (by trivial)];rfl,by exact belowAny⟩
     |true=>
      go_wp2
      rw[show (i:Int)+1=((i+1:Nat):Int) by omega]
      refine⟨?_,by simp[intAt];omega⟩
      unfold r24bRel
      exact⟨hW0.trans (hW.mono hz),b1,i+1,frame_ex rfl,hst.out,by omega⟩
    ·obtain rfl:i=s.opn.length:=by omega
     rw[List.take_length] at hall
     replace hck:=Hd (show checkB s=(riseB (-1) (timesS s)&&(lastB s&&decide (keptN s<=1024))) by rw[hck.out,hall,Bool.true_and])
     have hT0:∀t,t∈timesS s->0<=t:=by
      intro t ht
      rcases List.mem_append.1 ht with ht|ht
      ·obtain⟨x,hx,hm⟩:=List.mem_flatMap.1 ht
       exact(mem_times (segB_runs (hV.out x hx)) hm).2.2.1
      ·obtain⟨q,hq,rfl⟩:=List.mem_map.1 ht
       have h:=List.all_eq_true.1 hall q hq
       unfold inOpnB btw at h
       simp only[Bool.and_eq_true,decide_eq_true_eq] at h
       omega
     have hT9:=times_few hin hV.out
     have c4:=Hd (fun W (hW:Below w.heap.size w W)=>c_r24Kept s ps cs po co W (hin.below hW) hV.out)
     have c5:=Hd (fun W (hW:Below w.heap.size w W)=>c_r24Times s ps cs po co W (hin.below hW) hV.out)
     unfold lastB at hck
     obtain⟨T,hT⟩:∃T,timesS s=T:=⟨_,rfl⟩
     rw[hT] at hck hT0 hT9 c5
     obtain⟨KN,hKN⟩:∃k,keptN s=k:=⟨_,rfl⟩
     rw[hKN] at hck c4
     clear hT hKN hall
     replace hT0:=Hd hT0
     unfold serA at c4 c5
     have zw:=hz
     have hW:=hW0
     have k1:=b1.cell
     have f1:=b1.frozen
     go_wp2_with fail
     refine(c5.out _ belowAny).mono ?_
     rintro e w41 ⟨p,c,rfl,hI,hb41⟩
     have z42:=hb41.size
     try simp at z42
     clear k1 f1
     refine haveB w w41 (Bc w.heap.size #[.string s.name,.int .i64 s.eps,.int .i64 s.floor,.int .i64 s.last,.int .i64 s.scale,.slice ps s.segs.length cs,.slice po s.opn.length co] 26<|Bz) ?_
     clear b1 hW
     rintro hW z43 ⟨⟨b1,yb1,k1,f1⟩,-⟩
     clear c5
     go_wp2
     refine wp_loop (r24cRel w s ps cs po co T p c) (fun a' _=>T.length-(intAt (a'.tmps.getD 93 undef)).toNat) ?_ ?_
     ·unfold r24cRel
      exact⟨hW,b1,hI,0,frame_ex rfl,rfl,by omega,fun e=>by have e':=List.length_eq_zero_iff.1 e.symm;rw[e'];rfl⟩
     clear b1 hW0 hI hW k1 f1
     clear hz zb1 zw
     rintro a' W ⟨hW0,b1,hI,i,⟨u,rfl⟩,hr,hi,hl9⟩
     have hz:=hW0.size
     have zb1:=b1.lt
     rcases Nat.lt_or_ge i T.length with hlt|hge
     ·obtain⟨t,tr⟩:∃r,T[i]? =some r:=⟨T[i]'(by omega),List.getElem?_eq_getElem (by omega)⟩
      obtain⟨pb,pq,rfl,q0⟩:=hI.at' i t tr
      have ht0:=hT0.out t (List.mem_of_getElem? tr)
      have e1:T.take (i+1)=T.take i++ [t]:=by rw[List.take_add_one,tr];rfl
      obtain⟨z,hz0⟩:∃z,lastOr (-1) (T.take i)=z:=⟨_,rfl⟩
      have hst0:riseB (-1) (T.take (i+1))=decide (z<t):=by rw[e1,riseB_snoc,hr,hz0,Bool.true_and]
      have hlT:i+1=T.length->lastOr (-1) T=t:=fun e=>by
       have:T=T.take i++ [t]:=by rw[<-e1,e,List.take_length]
       rw[this,lastOr_snoc]
      obtain⟨B1,hB1⟩:∃B,((i:Int)==(T.length:Int)-1)=B:=⟨_,rfl⟩
      obtain⟨B2,hB2⟩:∃B,(s.last !=t)=B:=⟨_,rfl⟩
      have i1:B1=true->i+1=T.length:=fun e=>by rw[<-hB1] at e;have:=beq_iff_eq.1 e;omega
      have i2:i+1=T.length->B1=true:=fun e=>by rw[<-hB1];exact beq_iff_eq.2 (by omega)
      have E2:=Hd (show wrap64 ((T.length:Int)-1)=(T.length:Int)-1 by rw[wrap64_eq];omega)
      obtain⟨F,hF⟩:∃F,(decide (z<t)&& !(B1&&B2))=F:=⟨_,rfl⟩
      have hno:=Hd (fun(e:F=false)=>(show checkB s=false by
       rw[hck.out]
       rw[<-hF] at e
       cases hd:decide (z<t) with
       |false=>rw[rise_cut (i+1) (hst0.trans hd),Bool.false_and]
       |true=>
        rw[hd,Bool.true_and,Bool.not_eq_false',Bool.and_eq_true] at e
        rw[hlT (i1 e.1)]
        have h2:=e.2
        rw[<-hB2] at h2
        have h3:(s.last==t)=false:=by simpa using h2
        rw[h3,decide_eq_false (show¬t<0 by omega)]
        simp))
      have hst:=Hd (fun(e:F=true)=>(show riseB (-1) (T.take (i+1))=true by
       rw[hst0]
       rw[<-hF,Bool.and_eq_true] at e
       exact e.1))
      replace hl9:=Hd (fun(e:F=true) (e2:i+1=T.length)=>(show (decide (lastOr (-1) T<0)||(s.last==lastOr (-1) T))=true by
       rw[<-hF,i2 e2] at e
       rw[hlT e2]
       have h2:B2=false:=by cases B2 with|false=>rfl|true=>simp at e
       rw[<-hB2] at h2
       have h3:(s.last==t)=true:=by simpa using h2
       rw[h3,Bool.or_true]))
      by_cases h0:i=0
      ·obtain⟨G,hG0⟩:∃G,decide (0<i)=G:=⟨_,rfl⟩
       have hG:=Hd (show G=false by rw[<-hG0];exact decide_eq_false (by omega))
       have E0:=Hd hG0
       obtain rfl: -1=z:=by rw[<-hz0,h0];rfl
       have hv:=Hd (show (G||(B1&&B2))= !F by rw[<-hF,hG.out,decide_eq_true (show-1<t by omega)];simp)
       replace tr:=Hd tr
       replace hB1:=Hd hB1
       replace hB2:=Hd hB2
       clear hst0 hlT i1 i2 hF hz0 e1 hr h0 q0 hG0
       have k1:=b1.cell
       have f1:=b1.frozen
       go_upto_region 21 with(fail)
       clear k1 f1
       refine wp_cutB W (Bc w.heap.size #[.string s.name,.int .i64 s.eps,.int .i64 s.floor,.int .i64 s.last,.int .i64 s.scale,.slice ps s.segs.length cs,.slice po s.opn.length co] 26<|Rc (fun W'=>IntsP W' pb pq T)<|Bz) ?_ (hI:=by exact belowAny) (hR:=(Bc.mk (by exact blkAny2)<|Rc.mk (by first|exact⟨hI⟩|(exact(IntsP.mk hI).below belowAny))<|trivial))
       clear b1
       rintro W21 hW z22 hL
       obtain⟨⟨b1,yb1,k1,f1⟩,b2,-⟩:=id hL
       clear k1 f1
       refine wp_regQ 30 130 hW hL ?_
       iterate 3 refine dE (fun W' hC=>aI E0.out (aI E2.out (aI hB1.out (aI hB2.out (aI hlt (aI (Nat.not_le.2 hlt) (hC.2.2.1.cellAt tr.out))))))) ?_
       iterate 11
        first
        |(
         apply nd_detg (p:=true) (x:=G) (c:=undef) (hg:=rfl) (hd:=rfl) (hal:=rfl)
         ·intro v W' h
          simp[envOf,Det,GDet] at h
          simp
          exact h
         ·intro hp hx
          rw[hG.out] at hx
          cases hx)
        |(
         apply nd_pick_and (x:=G) (y:=G) (ho:=rfl) (hg:=rfl)
         ·intro v W' h
          simp at h
          exact h
         ·intro v W' h hx
          rw[hG.out] at hx
          cases hx)
       refine dE (fun W' hC=>aI E0.out (aI E2.out (aI hB1.out (aI hB2.out (aI hlt (aI (Nat.not_le.2 hlt) (hC.2.2.1.cellAt tr.out))))))) ?_
       iterate 6 refine gE (fun W' hC=>aI E0.out (aI E2.out (aI hB1.out (aI hB2.out (aI hlt (aI (Nat.not_le.2 hlt) (hC.2.2.1.cellAt tr.out))))))) ?_
       iterate 7 refine gF (fun W' hC=>aI E0.out (aI E2.out (aI hB1.out (aI hB2.out (aI hlt (aI (Nat.not_le.2 hlt) (hC.2.2.1.cellAt tr.out))))))) ?_
       refine pgA ?_
       refine pO ?_
       clear hW hL b1 b2
       rintro W23 hW z24 hL
       simp only[ndR]
       intros
       repeat (rename GDet _ _ _ _=>hgd;clear hgd)
       simp only[ndS]
       refine wpList_nil ?_
       obtain⟨⟨b1,yb1,k1,f1⟩,b2,-⟩:=hL
       rw[hv.out]
       cases F with
       |false=>
        go_wp2
        go_ret
        exact⟨by rw[hno.out (by trivial)];rfl,by exact belowAny⟩
       |true=>
        go_wp2
        rw[show (i:Int)+1=((i+1:Nat):Int) by omega]
        refine⟨?_,by simp[intAt];omega⟩
        unfold r24cRel
        exact⟨hW0.trans (hW.mono hz),b1,hI.below hW,i+1,frame_ex rfl,hst.out (by trivial),by omega,fun e=>hl9.out (by trivial) e⟩
      ·obtain⟨j,hj⟩:∃j,i=j+1:=⟨i-1,by omega⟩
       obtain⟨y,ty⟩:∃r,T[j]? =some r:=⟨T[j]'(by omega),List.getElem?_eq_getElem (by omega)⟩
       obtain rfl:y=z:=by rw[<-hz0,hj,List.take_add_one,ty];exact(lastOr_snoc _ _ _).symm
       have E0:=Hd (show decide (0<i)=true from decide_eq_true (by omega))
       have E1:=Hd (show wrap64 ((i:Int)-1)=(j:Int) by rw[wrap64_eq];omega)
       have g1:j<T.length:=by omega
       have hv:=Hd (show (decide (t<=y)||(B1&&B2))= !F by
        rw[<-hF,show decide (y<t)= !decide (t<=y) by rw[Bool.eq_iff_iff];simp]
        cases decide (t<=y)<;>cases B1<;>cases B2<;>rfl)
       have tj:=Hd ty
       replace tr:=Hd tr
       replace hB1:=Hd hB1
       replace hB2:=Hd hB2
       clear hst0 hlT i1 i2 hF hz0 e1 hr h0 ty q0 hj
       have k1:=b1.cell
       have f1:=b1.frozen
       go_upto_region 21 with(fail)
       clear k1 f1
       refine wp_cutB W (Bc w.heap.size #[.string s.name,.int .i64 s.eps,.int .i64 s.floor,.int .i64 s.last,.int .i64 s.scale,.slice ps s.segs.length cs,.slice po s.opn.length co] 26<|Rc (fun W'=>IntsP W' pb pq T)<|Bz) ?_ (hI:=by exact belowAny) (hR:=(Bc.mk (by exact blkAny2)<|Rc.mk (by first|exact⟨hI⟩|(exact(IntsP.mk hI).below belowAny))<|trivial))
       clear b1
       rintro W21 hW z22 hL
       obtain⟨⟨b1,yb1,k1,f1⟩,b2,-⟩:=id hL
       clear k1 f1
       refine wp_regQ 30 130 hW hL ?_
       iterate 3 refine dE (fun W' hC=>aI E0.out (aI E2.out (aI hB1.out (aI hB2.out (aI hlt (aI (Nat.not_le.2 hlt) (aI (hC.2.2.1.cellAt tr.out) (aI E1.out (aI g1 (aI (Nat.not_le.2 g1) (hC.2.2.1.cellAt tj.out))))))))))) ?_
       iterate 10 refine gE (fun W' hC=>aI E0.out (aI E2.out (aI hB1.out (aI hB2.out (aI hlt (aI (Nat.not_le.2 hlt) (aI (hC.2.2.1.cellAt tr.out) (aI E1.out (aI g1 (aI (Nat.not_le.2 g1) (hC.2.2.1.cellAt tj.out))))))))))) ?_
       refine pA ?_
       refine dE (fun W' hC=>aI E0.out (aI E2.out (aI hB1.out (aI hB2.out (aI hlt (aI (Nat.not_le.2 hlt) (aI (hC.2.2.1.cellAt tr.out) (aI E1.out (aI g1 (aI (Nat.not_le.2 g1) (hC.2.2.1.cellAt tj.out))))))))))) ?_
       iterate 6 refine gE (fun W' hC=>aI E0.out (aI E2.out (aI hB1.out (aI hB2.out (aI hlt (aI (Nat.not_le.2 hlt) (aI (hC.2.2.1.cellAt tr.out) (aI E1.out (aI g1 (aI (Nat.not_le.2 g1) (hC.2.2.1.cellAt tj.out))))))))))) ?_
       iterate 7 refine gF (fun W' hC=>aI E0.out (aI E2.out (aI hB1.out (aI hB2.out (aI hlt (aI (Nat.not_le.2 hlt) (aI (hC.2.2.1.cellAt tr.out) (aI E1.out (aI g1 (aI (Nat.not_le.2 g1) (hC.2.2.1.cellAt tj.out))))))))))) ?_
       refine pgA ?_
       refine pO ?_
       clear hW hL b1 b2
       rintro W23 hW z24 hL
       simp only[ndR]
       intros
       repeat (rename GDet _ _ _ _=>hgd;clear hgd)
       simp only[ndS]
       refine wpList_nil ?_
       obtain⟨⟨b1,yb1,k1,f1⟩,b2,-⟩:=hL
       rw[hv.out]
       cases F with
       |false=>
        go_wp2
        go_ret
        exact⟨by rw[hno.out (by trivial)];rfl,by exact belowAny⟩
       |true=>
        go_wp2
        rw[show (i:Int)+1=((i+1:Nat):Int) by omega]
        refine⟨?_,by simp[intAt];omega⟩
        unfold r24cRel
        exact⟨hW0.trans (hW.mono hz),b1,hI.below hW,i+1,frame_ex rfl,hst.out (by trivial),by omega,fun e=>hl9.out (by trivial) e⟩
     ·obtain rfl:i=T.length:=by omega
      rw[List.take_length] at hr
      have hres:=Hd (show checkB s=decide ((KN:Int)<=1024) by
       rw[hck.out,hr,hl9 rfl,Bool.true_and,Bool.true_and,Bool.eq_iff_iff]
       simp only[decide_eq_true_eq]
       omega)
      clear hr hl9 hck
      have hW:=hW0
      have k1:=b1.cell
      have f1:=b1.frozen
      go_wp2_with fail
      refine(c4.out _ belowAny).mono ?_
      rintro e w41 ⟨rfl,hb41⟩
      have z42:=hb41.size
      try simp at z42
      clear k1 f1
      refine haveB w w41 (Bc w.heap.size #[.string s.name,.int .i64 s.eps,.int .i64 s.floor,.int .i64 s.last,.int .i64 s.scale,.slice ps s.segs.length cs,.slice po s.opn.length co] 26<|Bz) ?_
      clear b1 hW
      rintro hW z43 ⟨⟨b1,yb1,k1,f1⟩,-⟩
      go_wp2
      go_ret
      exact⟨by rw[hres.out];rfl,by exact belowAny⟩
def eqRunRel (w:World) (p:Option Addr) (cap:Nat) (p':Option Addr) (cap':Nat) (A B:List RunT) (a':Act) (W:World):Prop:=
 Below w.heap.size w W/\∃(i:Nat),(∃u:Nat->Value,a'= {tmps:= #[.slice p A.length cap,.slice p' A.length cap',u 2,u 3,.bool false,u 5,u 6,u 7,u 8,u 9,u 10,u 11,.int .i64 (A.length:Int),.int .i64 (i:Int),u 14,u 15,u 16,u 17,u 18,u 19,u 20,u 21,u 22,u 23,u 24,u 25],defers:= []})/\i<=A.length/\∀k,k<i->A[k]? =B[k]?
theorem eqRun_w (p:Option Addr) (cap:Nat) (p':Option Addr) (cap':Nat) (A B:List RunT) (w:World) (hl:A.length=B.length) (hlen:A.length<=1000000) (hA0:RunsIn w p A) (hB0:RunsIn w p' B):
  Cb 111 #[.slice p A.length cap,.slice p' A.length cap'] w (.bool (decide (A=B))):=by
 go_enter Tryz.func111,Tryz.ntmps111
 replace hl:=Hd hl
 go_wp2
 refine wp_loop (eqRunRel w p cap p' cap' A B) (fun a' _=>A.length-(intAt (a'.tmps.getD 13 undef)).toNat) ?_ ?_
 ·unfold eqRunRel
  exact⟨Below.refl _ _,0,frame_ex rfl,by omega,fun k hk=>by omega⟩
 ·rintro a' W ⟨hW0,i,⟨u,rfl⟩,hi',hall⟩
  have hz:=hW0.size
  replace hall:=Hd hall
  rcases Nat.lt_or_ge i A.length with hlt|hge
  ·obtain⟨r,tr⟩:∃r,A[i]? =some r:=⟨A[i]'(by omega),List.getElem?_eq_getElem (by omega)⟩
   obtain⟨q,tq⟩:∃q,B[i]? =some q:=⟨B[i]'(by have:=hl.out;omega),List.getElem?_eq_getElem (by have:=hl.out;omega)⟩
   obtain⟨b,o,rfl,-⟩:=hA0.at' i r tr
   obtain⟨b',o',rfl,-⟩:=hB0.at' i q tq
   have hA:RunsP W b o A:=⟨hA0.below hW0⟩
   have hB:RunsP W b' o' B:=⟨hB0.below hW0⟩
   replace tr:=Hd tr
   replace tq:=Hd tq
   have l1:=hlt
   have l2:i<B.length:=by have:=hl.out;omega
   go_upto_region 6 with(fail)
   refine wp_cutB W (Rc (fun W'=>RunsP W' b o A)<|Rc (fun W'=>RunsP W' b' o' B)<|Bz) ?_ (hI:=by exact belowAny) (hR:=(Rc.mk (by exact hA.below belowAny)<|Rc.mk (by exact hB.below belowAny)<|trivial))
   rintro W1 hW z2 hL
   obtain⟨b1,b2,-⟩:=id hL
   refine wp_regQ 9 26 hW hL ?_
   iterate 9
    apply nd_det (hg:=rfl) (hal:=rfl)
    ·intro a W' hC hE
     obtain⟨_,k1,k2,-⟩:=hC
     obtain⟨q0,q1,q2⟩:=k1.cellAt tr.out;obtain⟨q3,q4,q5⟩:=k2.cellAt tq.out
     first
      |(simp at hE;simp[go_sem,Act.eval,iw,hE,k1,k2,q0,q1,q2,q3,q4,q5,l1,l2,ite_eq3];try rfl)
      |(clear hE;simp[go_sem,Act.eval,iw,k1,k2,q0,q1,q2,q3,q4,q5,l1,l2,ite_eq3];try rfl)
   clear hW hL b1 b2
   rintro W3 hW z4 hL
   simp only[ndR]
   intros
   simp only[ndS]
   refine wpList_nil ?_
   obtain⟨b1,b2,-⟩:=hL
   by_cases hrq:r=q
   ·have hall':=Hd (show∀k,k<i+1->A[k]? =B[k]? from fun k hk=>by
     rcases Nat.lt_or_ge k i with h|h
     ·exact hall.out k h
     ·obtain rfl:k=i:=by omega
      rw[tr.out,tq.out,hrq])
    rw[show (!decide (r.f=q.f)|| !decide (r.s=q.s)|| !decide (r.c=q.c))=false by subst hrq;simp]
    clear hrq
    go_wp2
    rw[show (i:Int)+1=((i+1:Nat):Int) by omega]
    refine⟨?_,by simp[intAt];omega⟩
    unfold eqRunRel
    exact⟨hW0.trans (hW.mono hz),i+1,frame_ex rfl,by omega,hall'.out⟩
   ·have hne:=Hd (show decide (A=B)=false by
     rw[decide_eq_false_iff_not]
     rintro rfl
     rw[tr.out] at tq
     exact hrq (Option.some.inj tq.out))
    rw[show (!decide (r.f=q.f)|| !decide (r.s=q.s)|| !decide (r.c=q.c))=true by
     obtain⟨r1,r2,r3⟩:=r
     obtain⟨q1,q2,q3⟩:=q
     simp at hrq
     simp
     by_cases h1:r1=q1<;>by_cases h2:r2=q2<;>simp[h1,h2] at hrq⊢
     exact hrq]
    clear hrq
    go_wp2
    go_ret
    exact⟨by rw[hne.out];rfl,hW0.trans (hW.mono hz)⟩
  ·obtain rfl:i=A.length:=by omega
   have heq:=Hd (show decide (A=B)=true by
    rw[decide_eq_true_eq]
    apply List.ext_getElem?
    intro k
    rcases Nat.lt_or_ge k A.length with h|h
    ·exact hall.out k h
    ·rw[List.getElem?_eq_none h,List.getElem?_eq_none (by have:=hl.out;omega)])
   go_wp2
   go_ret
   exact⟨by rw[heq.out];rfl,hW0⟩
theorem eqRun_len (p:Option Addr) (n cap:Nat) (p':Option Addr) (m cap':Nat) (w:World) (hl:¬n=m):
  Cb 111 #[.slice p n cap,.slice p' m cap'] w (.bool false):=by
 go_enter Tryz.func111,Tryz.ntmps111
 go_wp2
 go_ret
 exact⟨rfl,Below.refl _ _⟩
theorem c_eqRun (p:Option Addr) (cap:Nat) (p':Option Addr) (cap':Nat) (A B:List RunT) (w:World) (hlen:A.length<=1000000) (hA0:RunsIn w p A) (hB0:RunsIn w p' B):
  Cb 111 #[.slice p A.length cap,.slice p' B.length cap'] w (.bool (decide (A=B))):=by
 by_cases h:A.length=B.length
 ·rw[<-h];exact eqRun_w p cap p' cap' A B w h hlen hA0 hB0
 ·rw[show decide (A=B)=false by rw[decide_eq_false_iff_not];rintro rfl;exact h rfl]
  exact eqRun_len p _ cap p' _ cap' w h
def eqIntRel (w:World) (p:Option Addr) (cap:Nat) (p':Option Addr) (cap':Nat) (A B:List Int) (a':Act) (W:World):Prop:=
 Below w.heap.size w W/\∃(i:Nat),(∃u:Nat->Value,a'= {tmps:= #[.slice p A.length cap,.slice p' A.length cap',u 2,u 3,.bool false,u 5,u 6,u 7,u 8,u 9,u 10,u 11,.int .i64 (A.length:Int),.int .i64 (i:Int),u 14,u 15,u 16,u 17,u 18,u 19,u 20,u 21,u 22,u 23,u 24,u 25],defers:= []})/\i<=A.length/\∀k,k<i->A[k]? =B[k]?
theorem eqInt_w (p:Option Addr) (cap:Nat) (p':Option Addr) (cap':Nat) (A B:List Int) (w:World) (hl:A.length=B.length) (hlen:A.length<=1000000) (hA0:IntsIn w p A) (hB0:IntsIn w p' B):
  Cb 112 #[.slice p A.length cap,.slice p' A.length cap'] w (.bool (decide (A=B))):=by
 go_enter Tryz.func112,Tryz.ntmps112
 replace hl:=Hd hl
 go_wp2
 refine wp_loop (eqIntRel w p cap p' cap' A B) (fun a' _=>A.length-(intAt (a'.tmps.getD 13 undef)).toNat) ?_ ?_
 ·unfold eqIntRel
  exact⟨Below.refl _ _,0,frame_ex rfl,by omega,fun k hk=>by omega⟩
 ·rintro a' W ⟨hW0,i,⟨u,rfl⟩,hi',hall⟩
  have hz:=hW0.size
  replace hall:=Hd hall
  rcases Nat.lt_or_ge i A.length with hlt|hge
  ·obtain⟨r,tr⟩:∃r,A[i]? =some r:=⟨A[i]'(by omega),List.getElem?_eq_getElem (by omega)⟩
   obtain⟨q,tq⟩:∃q,B[i]? =some q:=⟨B[i]'(by have:=hl.out;omega),List.getElem?_eq_getElem (by have:=hl.out;omega)⟩
   obtain⟨b,o,rfl,-⟩:=hA0.at' i r tr
   obtain⟨b',o',rfl,-⟩:=hB0.at' i q tq
   have hA:IntsP W b o A:=⟨hA0.below hW0⟩
   have hB:IntsP W b' o' B:=⟨hB0.below hW0⟩
   replace tr:=Hd tr
   replace tq:=Hd tq
   have l1:=hlt
   have l2:i<B.length:=by have:=hl.out;omega
   go_upto_region 6 with(fail)
   refine wp_cutB W (Rc (fun W'=>IntsP W' b o A)<|Rc (fun W'=>IntsP W' b' o' B)<|Bz) ?_ (hI:=by exact belowAny) (hR:=(Rc.mk (by exact hA.below belowAny)<|Rc.mk (by exact hB.below belowAny)<|trivial))
   rintro W1 hW z2 hL
   obtain⟨b1,b2,-⟩:=id hL
   refine wp_regQ 9 26 hW hL ?_
   iterate 9 refine dE (fun W' hC=>aI (hC.2.1.cellAt tr.out) (aI (hC.2.2.1.cellAt tq.out) (aI l1 l2))) ?_
   clear hW hL b1 b2
   rintro W3 hW z4 hL
   simp only[ndR]
   intros
   simp only[ndS]
   refine wpList_nil ?_
   obtain⟨b1,b2,-⟩:=hL
   by_cases hrq:r=q
   ·have hall':=Hd (show∀k,k<i+1->A[k]? =B[k]? from fun k hk=>by
     rcases Nat.lt_or_ge k i with h|h
     ·exact hall.out k h
     ·obtain rfl:k=i:=by omega
      rw[tr.out,tq.out,hrq])
    rw[show (r !=q)=false by subst hrq;simp]
    clear hrq
    go_wp2
    rw[show (i:Int)+1=((i+1:Nat):Int) by omega]
    refine⟨?_,by simp[intAt];omega⟩
    unfold eqIntRel
    exact⟨hW0.trans (hW.mono hz),i+1,frame_ex rfl,by omega,hall'.out⟩
   ·have hne:=Hd (show decide (A=B)=false by
     rw[decide_eq_false_iff_not]
     rintro rfl
     rw[tr.out] at tq
     exact hrq (Option.some.inj tq.out))
    rw[show (r !=q)=true by
     simp[hrq]]
    clear hrq
    go_wp2
    go_ret
    exact⟨by rw[hne.out];rfl,hW0.trans (hW.mono hz)⟩
  ·obtain rfl:i=A.length:=by omega
   have heq:=Hd (show decide (A=B)=true by
    rw[decide_eq_true_eq]
    apply List.ext_getElem?
    intro k
    rcases Nat.lt_or_ge k A.length with h|h
    ·exact hall.out k h
    ·rw[List.getElem?_eq_none h,List.getElem?_eq_none (by have:=hl.out;omega)])
   go_wp2
   go_ret
   exact⟨by rw[heq.out];rfl,hW0⟩
theorem eqInt_len (p:Option Addr) (n cap:Nat) (p':Option Addr) (m cap':Nat) (w:World) (hl:¬n=m):
  Cb 112 #[.slice p n cap,.slice p' m cap'] w (.bool false):=by
 go_enter Tryz.func112,Tryz.ntmps112
 go_wp2
 go_ret
 exact⟨rfl,Below.refl _ _⟩
theorem c_eqInt (p:Option Addr) (cap:Nat) (p':Option Addr) (cap':Nat) (A B:List Int) (w:World) (hlen:A.length<=1000000) (hA0:IntsIn w p A) (hB0:IntsIn w p' B):
  Cb 112 #[.slice p A.length cap,.slice p' B.length cap'] w (.bool (decide (A=B))):=by
 by_cases h:A.length=B.length
 ·rw[<-h];exact eqInt_w p cap p' cap' A B w h hlen hA0 hB0
 ·rw[show decide (A=B)=false by rw[decide_eq_false_iff_not];rintro rfl;exact h rfl]
  exact eqInt_len p _ cap p' _ cap' w h
theorem ite_l4 {a b c d e f g h:Int} {w:World}:((if a=b then (if c=d then (if e=f then (if g=h then Result.ok (Go.Next.value (Value.bool true)) w else Result.ok (Go.Next.value (Value.bool false)) w) else Result.ok (Go.Next.value (Value.bool false)) w) else Result.ok (Go.Next.value (Value.bool false)) w) else Result.ok (Go.Next.value (Value.bool false)) w):Result Go.Next)=Result.ok (Go.Next.value (Value.bool (decide (a=b)&&decide (c=d)&&decide (e=f)&&decide (g=h)))) w:=by
 by_cases h1:a=b<;>by_cases h2:c=d<;>by_cases h3:e=f<;>by_cases h4:g=h<;>simp[h1,h2,h3,h4]
theorem same_w (K A R n d E:Int) (p q:Option Addr) (len cap m vc:Nat) (w:World) (K' A' R' n' d' E':Int) (p' q':Option Addr) (len' cap' m' vc':Nat) (r1 r2:Bool)
  (c1:∀W,Below w.heap.size w W->Cb 111 #[.slice p len cap,.slice p' len' cap'] W (.bool r1))
  (c2:∀W,Below w.heap.size w W->Cb 112 #[.slice q m vc,.slice q' m' vc'] W (.bool r2)):
  Cb 80 #[.agg #[.int .i64 K,.slice p len cap,.int .i64 A,.int .i64 R,.int .i64 n,.int .i64 d,.slice q m vc,.int .i64 E],.agg #[.int .i64 K',.slice p' len' cap',.int .i64 A',.int .i64 R',.int .i64 n',.int .i64 d',.slice q' m' vc',.int .i64 E']] w (.bool ((K==K')&&(decide (A=A')&&decide (R=R')&&decide (n=n')&&decide (d=d'))&&(E==E')&&r1&&r2)):=by
 have H_c1:=Hd c1
 clear c1
 have H_c2:=Hd c2
 clear c2
 go_enter Tryz.func80,Tryz.ntmps80
 go_upto_region 1 with(fail)
 refine wp_cutB w (Bc w.heap.size #[.int .i64 K,.slice p len cap,.int .i64 A,.int .i64 R,.int .i64 n,.int .i64 d,.slice q m vc,.int .i64 E] 49<|Bc (w.heap.size+1) #[.int .i64 K',.slice p' len' cap',.int .i64 A',.int .i64 R',.int .i64 n',.int .i64 d',.slice q' m' vc',.int .i64 E'] 49<|Bz) ?_
 rintro W1 hW z2 hL
 refine wp_regS 33 38 hW hL ?_
 iterate 6
  apply nd_det (hg:=rfl) (hal:=rfl)
  ·intro a W' hC hE
   obtain⟨_,⟨-,-,k1,-⟩,⟨-,-,k2,-⟩,-⟩:=hC
   first
    |(simp at hE;simp[go_sem,Act.eval,iw,hE,k1,k2,ite_l4];try rfl)
    |(clear hE;simp[go_sem,Act.eval,iw,k1,k2,ite_l4];try rfl)
 iterate 5
  apply nd_detg (p:=true) (hg:=rfl) (hd:=rfl) (hal:=rfl)
  ·intro v W' h
   simp[envOf,Det,GDet] at h
   simp
   exact h
  ·intro hp hx a W' hC hE
   obtain⟨_,⟨-,-,k1,-⟩,⟨-,-,k2,-⟩,-⟩:=hC
   simp[hx] at hE
   simp[go_sem,Act.eval,iw,hE,k1,k2,ite_l4]
   try rfl
 refine pA ?_
 iterate 1
  apply nd_det (hg:=rfl) (hal:=rfl)
  ·intro a W' hC hE
   obtain⟨_,⟨-,-,k1,-⟩,⟨-,-,k2,-⟩,-⟩:=hC
   first
    |(simp at hE;simp[go_sem,Act.eval,iw,hE,k1,k2,ite_l4];try rfl)
    |(clear hE;simp[go_sem,Act.eval,iw,k1,k2,ite_l4];try rfl)
 iterate 5
  apply nd_detg (p:=true) (hg:=rfl) (hd:=rfl) (hal:=rfl)
  ·intro v W' h
   simp[envOf,Det,GDet] at h
   simp
   exact h
  ·intro hp hx a W' hC hE
   obtain⟨_,⟨-,-,k1,-⟩,⟨-,-,k2,-⟩,-⟩:=hC
   simp[hx] at hE
   simp[go_sem,Act.eval,iw,hE,k1,k2,ite_l4]
   try rfl
 refine pA ?_
 iterate 1
  apply nd_det (hg:=rfl) (hal:=rfl)
  ·intro a W' hC hE
   obtain⟨_,⟨-,-,k1,-⟩,⟨-,-,k2,-⟩,-⟩:=hC
   first
    |(simp at hE;simp[go_sem,Act.eval,iw,hE,k1,k2,ite_l4];try rfl)
    |(clear hE;simp[go_sem,Act.eval,iw,k1,k2,ite_l4];try rfl)
 iterate 4
  apply nd_detg (p:=true) (hg:=rfl) (hd:=rfl) (hal:=rfl)
  ·intro v W' h
   simp[envOf,Det,GDet] at h
   simp
   exact h
  ·intro hp hx a W' hC hE
   obtain⟨_,⟨-,-,k1,-⟩,⟨-,-,k2,-⟩,-⟩:=hC
   simp[hx] at hE
   simp[go_sem,Act.eval,iw,hE,k1,k2,ite_l4]
   try rfl
 apply nd_callvg2 (p:=true) (hg:=rfl) (hd:=rfl) (hal:=rfl)
 ·intro v W' h
  simp at h
  simp
  exact h
 ·intro hp hx W' hC
  exact H_c1.out W' (hW.trans (hC.1.of_priv hW.size))
 ·intro hp hx a W' hC hE
  obtain⟨_,⟨-,-,k1,-⟩,⟨-,-,k2,-⟩,-⟩:=hC
  first
   |(simp[hx] at hE;simp[go_sem,Act.eval,iw,hE,k1,k2,ite_l4];try rfl)
   |(clear hE;simp[go_sem,Act.eval,iw,k1,k2,ite_l4];try rfl)
 refine pA ?_
 iterate 1
  apply nd_det (hg:=rfl) (hal:=rfl)
  ·intro a W' hC hE
   obtain⟨_,⟨-,-,k1,-⟩,⟨-,-,k2,-⟩,-⟩:=hC
   first
    |(simp at hE;simp[go_sem,Act.eval,iw,hE,k1,k2,ite_l4];try rfl)
    |(clear hE;simp[go_sem,Act.eval,iw,k1,k2,ite_l4];try rfl)
 iterate 4
  apply nd_detg (p:=true) (hg:=rfl) (hd:=rfl) (hal:=rfl)
  ·intro v W' h
   simp[envOf,Det,GDet] at h
   simp
   exact h
  ·intro hp hx a W' hC hE
   obtain⟨_,⟨-,-,k1,-⟩,⟨-,-,k2,-⟩,-⟩:=hC
   simp[hx] at hE
   simp[go_sem,Act.eval,iw,hE,k1,k2,ite_l4]
   try rfl
 apply nd_callvg2 (p:=true) (hg:=rfl) (hd:=rfl) (hal:=rfl)
 ·intro v W' h
  simp at h
  simp
  exact h
 ·intro hp hx W' hC
  exact H_c2.out W' (hW.trans (hC.1.of_priv hW.size))
 ·intro hp hx a W' hC hE
  obtain⟨_,⟨-,-,k1,-⟩,⟨-,-,k2,-⟩,-⟩:=hC
  first
   |(simp[hx] at hE;simp[go_sem,Act.eval,iw,hE,k1,k2,ite_l4];try rfl)
   |(clear hE;simp[go_sem,Act.eval,iw,k1,k2,ite_l4];try rfl)
 refine pA ?_
 clear hW hL
 rintro W3 hW z4 hL
 simp only[ndR]
 intros
 repeat (rename GDet _ _ _ _=>hgd;clear hgd)
 simp only[ndS]
 obtain⟨⟨b1,yb1,k1,f1⟩,⟨b2,yb2,k2,f2⟩,-⟩:=hL
 go_wp2
 refine bodyPost_ret (v:= .bool ((K==K')&&(decide (A=A')&&decide (R=R')&&decide (n=n')&&decide (d=d'))&&(E==E')&&r1&&r2)) (by simp[results,Tryz.results80,go_sem,k1,f1,k2,f2,yb1,yb2]) rfl ⟨rfl,hW⟩
theorem ite_n4 {a b c d e f g h:Int} {w:World}:((if a=b then (if c=d then (if e=f then (if g=h then Result.ok (Go.Next.value (Value.bool false)) w else Result.ok (Go.Next.value (Value.bool true)) w) else Result.ok (Go.Next.value (Value.bool true)) w) else Result.ok (Go.Next.value (Value.bool true)) w) else Result.ok (Go.Next.value (Value.bool true)) w):Result Go.Next)=Result.ok (Go.Next.value (Value.bool (!(decide (a=b)&&decide (c=d)&&decide (e=f)&&decide (g=h))))) w:=by
 by_cases h1:a=b<;>by_cases h2:c=d<;>by_cases h3:e=f<;>by_cases h4:g=h<;>simp[h1,h2,h3,h4]
theorem rsame_no (K A R n d E:Int) (p q:Option Addr) (len cap vc:Nat) (V:List Int) (w:World) (K' A' R' n' d' E':Int) (p' q':Option Addr) (len' cap' m' vc':Nat) (r1:Bool)
  (hF:Hid ((K !=K'||(!decide (A=A')|| !decide (R=R')|| !decide (n=n')|| !decide (d=d'))||E !=E'|| !r1||(V.length:Int) !=(m':Int))=true))
  (c1:∀W,Below w.heap.size w W->Cb 113 #[.slice p len cap,.slice p' len' cap'] W (.bool r1)):
  Cb 83 #[.agg #[.int .i64 K,.slice p len cap,.int .i64 A,.int .i64 R,.int .i64 n,.int .i64 d,.slice q V.length vc,.int .i64 E],.agg #[.int .i64 K',.slice p' len' cap',.int .i64 A',.int .i64 R',.int .i64 n',.int .i64 d',.slice q' m' vc',.int .i64 E']] w (.bool false):=by
 have H_c1:=Hd c1
 clear c1
 go_enter Tryz.func83,Tryz.ntmps83
 go_upto_region 1 with(fail)
 refine wp_cutB w (Bc w.heap.size #[.int .i64 K,.slice p len cap,.int .i64 A,.int .i64 R,.int .i64 n,.int .i64 d,.slice q V.length vc,.int .i64 E] 49<|Bc (w.heap.size+1) #[.int .i64 K',.slice p' len' cap',.int .i64 A',.int .i64 R',.int .i64 n',.int .i64 d',.slice q' m' vc',.int .i64 E'] 49<|Bz) ?_
 rintro W1 hW z2 hL
 refine wp_regS 36 60 hW hL ?_
 iterate 6
  apply nd_det (hg:=rfl) (hal:=rfl)
  ·intro a W' hC hE
   obtain⟨_,⟨-,-,k1,-⟩,⟨-,-,k2,-⟩,-⟩:=hC
   first
    |(simp at hE;simp[go_sem,Act.eval,iw,hE,k1,k2,ite_n4];try rfl)
    |(clear hE;simp[go_sem,Act.eval,iw,k1,k2,ite_n4];try rfl)
 iterate 5
  apply nd_detg (p:=true) (hg:=rfl) (hd:=rfl) (hal:=rfl)
  ·intro v W' h
   simp[envOf,Det,GDet] at h
   simp
   exact h
  ·intro hp hx a W' hC hE
   obtain⟨_,⟨-,-,k1,-⟩,⟨-,-,k2,-⟩,-⟩:=hC
   simp[hx] at hE
   simp[go_sem,Act.eval,iw,hE,k1,k2,ite_n4]
   try rfl
 refine pO ?_
 iterate 1
  apply nd_det (hg:=rfl) (hal:=rfl)
  ·intro a W' hC hE
   obtain⟨_,⟨-,-,k1,-⟩,⟨-,-,k2,-⟩,-⟩:=hC
   first
    |(simp at hE;simp[go_sem,Act.eval,iw,hE,k1,k2,ite_n4];try rfl)
    |(clear hE;simp[go_sem,Act.eval,iw,k1,k2,ite_n4];try rfl)
 iterate 5
  apply nd_detg (p:=true) (hg:=rfl) (hd:=rfl) (hal:=rfl)
  ·intro v W' h
   simp[envOf,Det,GDet] at h
   simp
   exact h
  ·intro hp hx a W' hC hE
   obtain⟨_,⟨-,-,k1,-⟩,⟨-,-,k2,-⟩,-⟩:=hC
   simp[hx] at hE
   simp[go_sem,Act.eval,iw,hE,k1,k2,ite_n4]
   try rfl
 refine pO ?_
 iterate 1
  apply nd_det (hg:=rfl) (hal:=rfl)
  ·intro a W' hC hE
   obtain⟨_,⟨-,-,k1,-⟩,⟨-,-,k2,-⟩,-⟩:=hC
   first
    |(simp at hE;simp[go_sem,Act.eval,iw,hE,k1,k2,ite_n4];try rfl)
    |(clear hE;simp[go_sem,Act.eval,iw,k1,k2,ite_n4];try rfl)
 iterate 4
  apply nd_detg (p:=true) (hg:=rfl) (hd:=rfl) (hal:=rfl)
  ·intro v W' h
   simp[envOf,Det,GDet] at h
   simp
   exact h
  ·intro hp hx a W' hC hE
   obtain⟨_,⟨-,-,k1,-⟩,⟨-,-,k2,-⟩,-⟩:=hC
   simp[hx] at hE
   simp[go_sem,Act.eval,iw,hE,k1,k2,ite_n4]
   try rfl
 apply nd_callvg2 (p:=true) (hg:=rfl) (hd:=rfl) (hal:=rfl)
 ·intro v W' h
  simp at h
  simp
  exact h
 ·intro hp hx W' hC
  exact H_c1.out W' (hW.trans (hC.1.of_priv hW.size))
 ·intro hp hx a W' hC hE
  obtain⟨_,⟨-,-,k1,-⟩,⟨-,-,k2,-⟩,-⟩:=hC
  first
   |(simp[hx] at hE;simp[go_sem,Act.eval,iw,hE,k1,k2,ite_n4];try rfl)
   |(clear hE;simp[go_sem,Act.eval,iw,k1,k2,ite_n4];try rfl)
 iterate 1
  apply nd_detg (p:=true) (hg:=rfl) (hd:=rfl) (hal:=rfl)
  ·intro v W' h
   simp[envOf,Det,GDet] at h
   simp
   exact h
  ·intro hp hx a W' hC hE
   obtain⟨_,⟨-,-,k1,-⟩,⟨-,-,k2,-⟩,-⟩:=hC
   simp[hx] at hE
   simp[go_sem,Act.eval,iw,hE,k1,k2,ite_n4]
   try rfl
 refine pO ?_
 iterate 1
  apply nd_det (hg:=rfl) (hal:=rfl)
  ·intro a W' hC hE
   obtain⟨_,⟨-,-,k1,-⟩,⟨-,-,k2,-⟩,-⟩:=hC
   first
    |(simp at hE;simp[go_sem,Act.eval,iw,hE,k1,k2,ite_n4];try rfl)
    |(clear hE;simp[go_sem,Act.eval,iw,k1,k2,ite_n4];try rfl)
 iterate 7
  apply nd_detg (p:=true) (hg:=rfl) (hd:=rfl) (hal:=rfl)
  ·intro v W' h
   simp[envOf,Det,GDet] at h
   simp
   exact h
  ·intro hp hx a W' hC hE
   obtain⟨_,⟨-,-,k1,-⟩,⟨-,-,k2,-⟩,-⟩:=hC
   simp[hx] at hE
   simp[go_sem,Act.eval,iw,hE,k1,k2,ite_n4]
   try rfl
 refine pO ?_
 clear hW hL
 rintro W3 hW z4 hL
 simp only[ndR]
 intros
 repeat (rename GDet _ _ _ _=>hgd;clear hgd)
 simp only[ndS]
 refine wpList_nil ?_
 obtain⟨⟨b1,yb1,k1,f1⟩,⟨b2,yb2,k2,f2⟩,-⟩:=hL
 have z51:=hW.size
 have z52:=b1.lt
 have z53:=b2.lt
 rw[hF.out]
 go_wp2
 refine bodyPost_ret (v:= .bool false) (by simp[results,Tryz.results83,go_sem,k1,f1,k2,f2,yb1,yb2]) rfl ⟨rfl,hW⟩
def rsRel (w:World) (K A R n d E:Int) (p q:Option Addr) (len cap vc:Nat) (K' A' R' n' d' E':Int) (p' q':Option Addr) (len' cap' vc':Nat) (V V':List Int) (a':Act) (W:World):Prop:=
 Below w.heap.size w W/\Blk W w.heap.size #[.int .i64 K,.slice p len cap,.int .i64 A,.int .i64 R,.int .i64 n,.int .i64 d,.slice q V.length vc,.int .i64 E] 49/\Blk W (w.heap.size+1) #[.int .i64 K',.slice p' len' cap',.int .i64 A',.int .i64 R',.int .i64 n',.int .i64 d',.slice q' V.length vc',.int .i64 E'] 49/\∃(i:Nat),(∃u:Nat->Value,a'= {tmps:= #[u 0,u 1,.pointer (some ⟨w.heap.size,0,none⟩),.pointer (some ⟨w.heap.size+1,0,none⟩),.bool false,.int .i64 (i:Int),u 6,u 7,u 8,u 9,u 10,u 11,u 12,u 13,u 14,u 15,u 16,u 17,u 18,u 19,u 20,u 21,u 22,u 23,u 24,u 25,u 26,u 27,u 28,u 29,u 30,u 31,u 32,u 33,u 34,u 35,u 36,u 37,u 38,u 39,u 40,u 41,u 42,u 43,u 44,u 45,u 46,u 47,u 48,u 49,u 50,u 51,u 52,u 53,u 54,u 55,u 56,u 57,u 58,u 59],defers:= []})/\i<=V.length/\∀k,k<i->V[k]? =V'[k]?
theorem rsame_yes (K A R n d E:Int) (p q:Option Addr) (len cap vc:Nat) (V V':List Int) (w:World) (K' A' R' n' d' E':Int) (p' q':Option Addr) (len' cap' vc':Nat) (r1:Bool) (hl:V.length=V'.length) (hlen:V.length<=1000000) (hA0:IntsIn w q V) (hB0:IntsIn w q' V')
  (hF:Hid ((K !=K'||(!decide (A=A')|| !decide (R=R')|| !decide (n=n')|| !decide (d=d'))||E !=E'|| !r1||false)=false))
  (c1:∀W,Below w.heap.size w W->Cb 113 #[.slice p len cap,.slice p' len' cap'] W (.bool r1)):
  Cb 83 #[.agg #[.int .i64 K,.slice p len cap,.int .i64 A,.int .i64 R,.int .i64 n,.int .i64 d,.slice q V.length vc,.int .i64 E],.agg #[.int .i64 K',.slice p' len' cap',.int .i64 A',.int .i64 R',.int .i64 n',.int .i64 d',.slice q' V.length vc',.int .i64 E']] w (.bool (decide (V=V'))):=by
 replace hl:=Hd hl
 have H_c1:=Hd c1
 clear c1
 go_enter Tryz.func83,Tryz.ntmps83
 go_upto_region 1 with(fail)
 refine wp_cutB w (Bc w.heap.size #[.int .i64 K,.slice p len cap,.int .i64 A,.int .i64 R,.int .i64 n,.int .i64 d,.slice q V.length vc,.int .i64 E] 49<|Bc (w.heap.size+1) #[.int .i64 K',.slice p' len' cap',.int .i64 A',.int .i64 R',.int .i64 n',.int .i64 d',.slice q' V.length vc',.int .i64 E'] 49<|Bz) ?_
 rintro W1 hW z2 hL
 refine wp_regS 36 60 hW hL ?_
 iterate 6
  apply nd_det (hg:=rfl) (hal:=rfl)
  ·intro a W' hC hE
   obtain⟨_,⟨-,-,k1,-⟩,⟨-,-,k2,-⟩,-⟩:=hC
   first
    |(simp at hE;simp[go_sem,Act.eval,iw,hE,k1,k2,ite_n4];try rfl)
    |(clear hE;simp[go_sem,Act.eval,iw,k1,k2,ite_n4];try rfl)
 iterate 5
  apply nd_detg (p:=true) (hg:=rfl) (hd:=rfl) (hal:=rfl)
  ·intro v W' h
   simp[envOf,Det,GDet] at h
   simp
   exact h
  ·intro hp hx a W' hC hE
   obtain⟨_,⟨-,-,k1,-⟩,⟨-,-,k2,-⟩,-⟩:=hC
   simp[hx] at hE
   simp[go_sem,Act.eval,iw,hE,k1,k2,ite_n4]
   try rfl
 refine pO ?_
 iterate 1
  apply nd_det (hg:=rfl) (hal:=rfl)
  ·intro a W' hC hE
   obtain⟨_,⟨-,-,k1,-⟩,⟨-,-,k2,-⟩,-⟩:=hC
   first
    |(simp at hE;simp[go_sem,Act.eval,iw,hE,k1,k2,ite_n4];try rfl)
    |(clear hE;simp[go_sem,Act.eval,iw,k1,k2,ite_n4];try rfl)
 iterate 5
  apply nd_detg (p:=true) (hg:=rfl) (hd:=rfl) (hal:=rfl)
  ·intro v W' h
   simp[envOf,Det,GDet] at h
   simp
   exact h
  ·intro hp hx a W' hC hE
   obtain⟨_,⟨-,-,k1,-⟩,⟨-,-,k2,-⟩,-⟩:=hC
   simp[hx] at hE
   simp[go_sem,Act.eval,iw,hE,k1,k2,ite_n4]
   try rfl
 refine pO ?_
 iterate 1
  apply nd_det (hg:=rfl) (hal:=rfl)
  ·intro a W' hC hE
   obtain⟨_,⟨-,-,k1,-⟩,⟨-,-,k2,-⟩,-⟩:=hC
   first
    |(simp at hE;simp[go_sem,Act.eval,iw,hE,k1,k2,ite_n4];try rfl)
    |(clear hE;simp[go_sem,Act.eval,iw,k1,k2,ite_n4];try rfl)
 iterate 4
  apply nd_detg (p:=true) (hg:=rfl) (hd:=rfl) (hal:=rfl)
  ·intro v W' h
   simp[envOf,Det,GDet] at h
   simp
   exact h
  ·intro hp hx a W' hC hE
   obtain⟨_,⟨-,-,k1,-⟩,⟨-,-,k2,-⟩,-⟩:=hC
   simp[hx] at hE
   simp[go_sem,Act.eval,iw,hE,k1,k2,ite_n4]
   try rfl
 apply nd_callvg2 (p:=true) (hg:=rfl) (hd:=rfl) (hal:=rfl)
 ·intro v W' h
  simp at h
  simp
  exact h
 ·intro hp hx W' hC
  exact H_c1.out W' (hW.trans (hC.1.of_priv hW.size))
 ·intro hp hx a W' hC hE
  obtain⟨_,⟨-,-,k1,-⟩,⟨-,-,k2,-⟩,-⟩:=hC
  first
   |(simp[hx] at hE;simp[go_sem,Act.eval,iw,hE,k1,k2,ite_n4];try rfl)
   |(clear hE;simp[go_sem,Act.eval,iw,k1,k2,ite_n4];try rfl)
 iterate 1
  apply nd_detg (p:=true) (hg:=rfl) (hd:=rfl) (hal:=rfl)
  ·intro v W' h
   simp[envOf,Det,GDet] at h
   simp
   exact h
  ·intro hp hx a W' hC hE
   obtain⟨_,⟨-,-,k1,-⟩,⟨-,-,k2,-⟩,-⟩:=hC
   simp[hx] at hE
   simp[go_sem,Act.eval,iw,hE,k1,k2,ite_n4]
   try rfl
 refine pO ?_
 iterate 1
  apply nd_det (hg:=rfl) (hal:=rfl)
  ·intro a W' hC hE
   obtain⟨_,⟨-,-,k1,-⟩,⟨-,-,k2,-⟩,-⟩:=hC
   first
    |(simp at hE;simp[go_sem,Act.eval,iw,hE,k1,k2,ite_n4];try rfl)
    |(clear hE;simp[go_sem,Act.eval,iw,k1,k2,ite_n4];try rfl)
 iterate 7
  apply nd_detg (p:=true) (hg:=rfl) (hd:=rfl) (hal:=rfl)
  ·intro v W' h
   simp[envOf,Det,GDet] at h
   simp
   exact h
  ·intro hp hx a W' hC hE
   obtain⟨_,⟨-,-,k1,-⟩,⟨-,-,k2,-⟩,-⟩:=hC
   simp[hx] at hE
   simp[go_sem,Act.eval,iw,hE,k1,k2,ite_n4]
   try rfl
 refine pO ?_
 clear hW hL
 rintro W3 hW z4 hL
 simp only[ndR]
 intros
 repeat (rename GDet _ _ _ _=>hgd;clear hgd)
 simp only[ndS]
 refine wpList_nil ?_
 obtain⟨⟨b1,yb1,k1,f1⟩,⟨b2,yb2,k2,f2⟩,-⟩:=hL
 have z51:=hW.size
 have z52:=b1.lt
 have z53:=b2.lt
 rw[hF.out]
 go_wp2
 refine wp_loop (rsRel w K A R n d E p q len cap vc K' A' R' n' d' E' p' q' len' cap' vc' V V') (fun a' _=>V.length-(intAt (a'.tmps.getD 5 undef)).toNat) ?_ ?_
 ·unfold rsRel
  exact⟨hW,b1,b2,0,frame_ex rfl,by omega,fun k hk=>by omega⟩
 ·clear b1 b2 hW k1 f1 k2 f2
  rintro a' W ⟨hW0,b1,b2,i,⟨u,rfl⟩,hi',hall⟩
  have hz:=hW0.size
  have z61:=b1.lt
  have z62:=b2.lt
  replace hall:=Hd hall
  rcases Nat.lt_or_ge i V.length with hlt|hge
  ·obtain⟨r,tr⟩:∃r,V[i]? =some r:=⟨V[i]'(by omega),List.getElem?_eq_getElem (by omega)⟩
   obtain⟨t,tq⟩:∃q,V'[i]? =some q:=⟨V'[i]'(by have:=hl.out;omega),List.getElem?_eq_getElem (by have:=hl.out;omega)⟩
   obtain⟨b,o,rfl,-⟩:=hA0.at' i r tr
   obtain⟨b',o',rfl,-⟩:=hB0.at' i t tq
   have hA:IntsP W b o V:=⟨hA0.below hW0⟩
   have hB:IntsP W b' o' V':=⟨hB0.below hW0⟩
   replace tr:=Hd tr
   replace tq:=Hd tq
   have l1:=hlt
   have l2:i<V'.length:=by have:=hl.out;omega
   have k1:=b1.cell
   have f1:=b1.frozen
   have k2:=b2.cell
   have f2:=b2.frozen
   go_upto_region 6 with(fail)
   clear k1 f1 k2 f2
   refine wp_cutB W (Bc w.heap.size #[.int .i64 K,.slice p len cap,.int .i64 A,.int .i64 R,.int .i64 n,.int .i64 d,.slice (some ⟨b,o,none⟩) V.length vc,.int .i64 E] 49<|Bc (w.heap.size+1) #[.int .i64 K',.slice p' len' cap',.int .i64 A',.int .i64 R',.int .i64 n',.int .i64 d',.slice (some ⟨b',o',none⟩) V.length vc',.int .i64 E'] 49<|Rc (fun W'=>IntsP W' b o V)<|Rc (fun W'=>IntsP W' b' o' V')<|Bz) ?_ (hI:=by exact belowAny) (hR:=(Bc.mk (by exact blkAny2)<|Bc.mk (by exact blkAny2)<|Rc.mk (by exact hA.below belowAny)<|Rc.mk (by exact hB.below belowAny)<|trivial))
   clear b1 b2
   rintro W61 hW z62 hL
   obtain⟨⟨b1,yb1,k1,f1⟩,⟨b2,yb2,k2,f2⟩,b3,b4,-⟩:=id hL
   clear k1 f1 k2 f2
   refine wp_regQ 11 60 hW hL ?_
   iterate 11 refine dE (fun W' hC=>aI (hC.2.2.2.1.cellAt tr.out) (aI (hC.2.2.2.2.1.cellAt tq.out) (aI l1 l2))) ?_
   clear hW hL b1 b2 b3 b4
   rintro W63 hW z64 hL
   simp only[ndR]
   intros
   simp only[ndS]
   refine wpList_nil ?_
   obtain⟨⟨b1,yb1,k1,f1⟩,⟨b2,yb2,k2,f2⟩,b3,b4,-⟩:=hL
   by_cases hrq:r=t
   ·have hall':=Hd (show∀k,k<i+1->V[k]? =V'[k]? from fun k hk=>by
     rcases Nat.lt_or_ge k i with h|h
     ·exact hall.out k h
     ·obtain rfl:k=i:=by omega
      rw[tr.out,tq.out,hrq])
    rw[show (r !=t)=false by subst hrq;simp]
    clear hrq
    go_wp2
    rw[show (i:Int)+1=((i+1:Nat):Int) by omega]
    refine⟨?_,by simp[intAt];omega⟩
    unfold rsRel
    exact⟨hW0.trans (hW.mono hz),b1,b2,i+1,frame_ex rfl,by omega,hall'.out⟩
   ·have hne:=Hd (show decide (V=V')=false by
     rw[decide_eq_false_iff_not]
     rintro rfl
     rw[tr.out] at tq
     exact hrq (Option.some.inj tq.out))
    rw[show (r !=t)=true by simp[hrq]]
    clear hrq
    go_wp2
    go_ret
    exact⟨by rw[hne.out];rfl,hW0.trans (hW.mono hz)⟩
  ·obtain rfl:i=V.length:=by omega
   have heq:=Hd (show decide (V=V')=true by
    rw[decide_eq_true_eq]
    apply List.ext_getElem?
    intro k
    rcases Nat.lt_or_ge k V.length with h|h
    ·exact hall.out k h
    ·rw[List.getElem?_eq_none h,List.getElem?_eq_none (by have:=hl.out;omega)])
   have k1:=b1.cell
   have f1:=b1.frozen
   go_wp2
   go_ret
   exact⟨by rw[heq.out];rfl,hW0⟩
def sameT (s t:SegT):Bool:=(s.K==t.K)&&(decide (s.A=t.A)&&decide (s.R=t.R)&&decide (s.n=t.n)&&decide (s.d=t.d))&&(s.E==t.E)&&decide (s.runs=t.runs)&&decide (s.raw=t.raw)
theorem sameT_refl (s:SegT):sameT s s=true:=by simp[sameT]
theorem c_segSame (s t:SegT) (p q p' q':Option Addr) (cap vc cap' vc':Nat) (w:World) (h:SegIn w s p q) (h':SegIn w t p' q'):
  Cb 80 #[.agg (segA s p q cap vc),.agg (segA t p' q' cap' vc')] w (.bool (sameT s t)):=by
 have a:=h.fewR;have b:=h.fewV
 exact same_w _ _ _ _ _ _ p q _ cap _ vc w _ _ _ _ _ _ p' q' _ cap' _ vc' _ _ (fun W hW=>c_eqRun p cap p' cap' s.runs t.runs W (by omega) (h.runs.below hW) (h'.runs.below hW)) (fun W hW=>c_eqInt q vc q' vc' s.raw t.raw W (by omega) (h.raw.below hW) (h'.raw.below hW))
theorem c_refSame (s t:SegT) (p q p' q':Option Addr) (cap vc cap' vc':Nat) (w:World) (h:SegIn w s p q) (h':SegIn w t p' q'):
  Cb 83 #[.agg (segA s p q cap vc),.agg (segA t p' q' cap' vc')] w (.bool (sameT s t)):=by
 have a:=h.fewR;have b:=h.fewV
 have c1:=fun(W:World) (hW:Below w.heap.size w W)=>c_refsame p cap p' cap' s.runs t.runs W (by omega) (h.runs.below hW) (h'.runs.below hW)
 cases hF:(s.K !=t.K||(!decide (s.A=t.A)|| !decide (s.R=t.R)|| !decide (s.n=t.n)|| !decide (s.d=t.d))||s.E !=t.E|| !decide (s.runs=t.runs)||(s.raw.length:Int) !=(t.raw.length:Int)) with
 |true=>
  rw[show sameT s t=false by
   cases hs:sameT s t with
   |false=>rfl
   |true=>
    unfold sameT at hs
    simp only[Bool.and_eq_true,decide_eq_true_eq,beq_iff_eq] at hs
    obtain⟨⟨⟨⟨h1,⟨⟨h2,h3⟩,h4⟩,h5⟩,h6⟩,h7⟩,h8⟩:=hs
    rw[h1,h2,h3,h4,h5,h6,h7,h8] at hF
    simp at hF]
  exact rsame_no _ _ _ _ _ _ p q _ cap vc s.raw w _ _ _ _ _ _ p' q' _ cap' _ vc' _ (Hd hF) c1
 |false=>
  have hF':=hF
  simp only[Bool.or_eq_false_iff,Bool.not_eq_false',bne_eq_false_iff_eq,Bool.and_eq_true,decide_eq_true_eq] at hF
  obtain⟨⟨⟨⟨h1,⟨⟨h2,h3⟩,h4⟩,h5⟩,h6⟩,h7⟩,h8⟩:=hF
  have hl:s.raw.length=t.raw.length:=by omega
  rw[<-hl,show ((s.raw.length:Int) !=(s.raw.length:Int))=false by simp] at hF'
  rw[show sameT s t=decide (s.raw=t.raw) by simp[sameT,h1,h2,h3,h4,h5,h6,h7]]
  have:=rsame_yes _ _ _ _ _ _ p q _ cap vc s.raw t.raw w _ _ _ _ _ _ p' q' _ cap' vc' _ hl (by omega) h.raw h'.raw (Hd hF') c1
  unfold segA
  rw[<-hl]
  exact this
end Go.Proofs.YtpdhdjlhicceoaaGreatDoor
namespace Go.Proofs.YtpdhdjlhicceoaaGreatDoor
open Go.RowKit
def s13Rel (w:World) (p p':Option Addr) (cap cap':Nat) (l:List SegT) (a':Act) (W:World):Prop:=
 Below w.heap.size w W/\∃i:Nat,(∃u:Nat->Value,a'= {tmps:= #[.slice p l.length cap,.slice p' l.length cap',u 2,u 3,u 4,.int .i64 (i:Int),u 6,u 7,u 8,u 9,u 10,u 11,u 12,u 13,u 14,u 15,u 16,u 17,u 18,u 19,u 20,u 21,u 22,u 23,u 24,u 25,u 26],defers:= []})/\i<=l.length
def s24Rel (w:World) (s:SerT) (ps1 ps2:Option Addr) (cs1 cs2:Nat) (po1 po2:Option Addr) (co1 co2:Nat) (a':Act) (W:World):Prop:=
 Below w.heap.size w W/\Blk W w.heap.size #[.string s.name,.int .i64 s.eps,.int .i64 s.floor,.int .i64 s.last,.int .i64 s.scale,.slice ps1 s.segs.length cs1,.slice po1 s.opn.length co1] 26/\Blk W (w.heap.size+1) #[.string s.name,.int .i64 s.eps,.int .i64 s.floor,.int .i64 s.last,.int .i64 s.scale,.slice ps2 s.segs.length cs2,.slice po2 s.opn.length co2] 26/\∃i:Nat,(∃u:Nat->Value,a'= {tmps:= #[u 0,u 1,.pointer (some ⟨w.heap.size,0,none⟩),.pointer (some ⟨w.heap.size+1,0,none⟩),u 4,u 5,u 6,u 7,u 8,u 9,u 10,u 11,u 12,u 13,u 14,u 15,u 16,u 17,u 18,u 19,u 20,u 21,u 22,u 23,u 24,u 25,u 26,u 27,u 28,u 29,u 30,u 31,u 32,u 33,u 34,u 35,u 36,u 37,u 38,u 39,u 40,u 41,u 42,u 43,u 44,u 45,u 46,u 47,u 48,u 49,u 50,u 51,u 52,u 53,u 54,u 55,u 56,u 57,.int .i64 (s.opn.length:Int),.int .i64 (i:Int),u 60,u 61,u 62,u 63,u 64,u 65,u 66,u 67,u 68,u 69,u 70,u 71,u 72,u 73],defers:= []})/\i<=s.opn.length
end Go.Proofs.YtpdhdjlhicceoaaGreatDoor
