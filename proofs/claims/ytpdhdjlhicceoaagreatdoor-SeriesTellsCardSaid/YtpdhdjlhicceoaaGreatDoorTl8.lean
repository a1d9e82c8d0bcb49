/- Parts of the proof that follows. No condition. -/
import Derived.Test.YtpdhdjlhicceoaaGreatDoorTl7
set_option maxRecDepth 100000
set_option maxHeartbeats 8000000
set_option linter.unusedSimpArgs false
set_option linter.unusedVariables false
namespace Go.Proofs.YtpdhdjlhicceoaaGreatDoor
open Go.RowKit
attribute [local simp] Oper.looksAt Op.operands Call.operands envOf Det GDet
structure SegsIn (w:World) (p:Option Addr) (l:List SegT):Prop where
 at':∀(i:Nat) (s:SegT),l[i]? =some s->∃b o p' q' cap vc,p=some ⟨b,o,none⟩/\(∀j v,(segA s p' q' cap vc)[j]? =some v->w.cell? ⟨b,o+i*8+j,none⟩=some v)/\SegIn w s p' q'/\s.raw.length<=vc
theorem SegsIn.below {w w':World} {p:Option Addr} {l:List SegT} (h:SegsIn w p l) (hb:Below w.heap.size w w'):SegsIn w' p l:=⟨fun i s hs=>by
 obtain⟨b,o,p',q',cap,vc,e,h1,h2,h3⟩:=h.at' i s hs
 exact⟨b,o,p',q',cap,vc,e,fun j v hv=>(hb.cell (p:=⟨b,_,none⟩) (cell_lt (h1 j v hv))).trans (h1 j v hv),h2.below hb,h3⟩⟩
theorem SegsIn.one {w:World} {p:Option Addr} {l:List SegT} (h:SegsIn w p l) {i:Nat} {s:SegT} (hs:l[i]? =some s):∃b o p' q' cap vc,p=some ⟨b,o,none⟩/\SegIn w s p' q'/\s.raw.length<=vc/\
  w.cell? ⟨b,o+i*8,none⟩=some (.int .i64 s.K)/\w.cell? ⟨b,o+i*8+1,none⟩=some (.slice p' s.runs.length cap)/\w.cell? ⟨b,o+i*8+2,none⟩=some (.int .i64 s.A)/\w.cell? ⟨b,o+i*8+3,none⟩=some (.int .i64 s.R)/\w.cell? ⟨b,o+i*8+4,none⟩=some (.int .i64 s.n)/\w.cell? ⟨b,o+i*8+5,none⟩=some (.int .i64 s.d)/\w.cell? ⟨b,o+i*8+6,none⟩=some (.slice q' s.raw.length vc)/\w.cell? ⟨b,o+i*8+7,none⟩=some (.int .i64 s.E):=by
 obtain⟨b,o,p',q',cap,vc,e,h1,h2,h3⟩:=h.at' i s hs
 exact⟨b,o,p',q',cap,vc,e,h2,h3,h1 0 _ rfl,h1 1 _ rfl,h1 2 _ rfl,h1 3 _ rfl,h1 4 _ rfl,h1 5 _ rfl,h1 6 _ rfl,h1 7 _ rfl⟩
structure SerIn (w:World) (s:SerT) (ps po:Option Addr):Prop where
 segs:SegsIn w ps s.segs
 opn:PtsIn w po s.opn
 fewS:s.segs.length<=100
 fewO:s.opn.length<=100
theorem SerIn.below {w w':World} {s:SerT} {ps po:Option Addr} (h:SerIn w s ps po) (hb:Below w.heap.size w w'):SerIn w' s ps po:=⟨h.segs.below hb,h.opn.below hb,h.fewS,h.fewO⟩
def serA (s:SerT) (ps:Option Addr) (cs:Nat) (po:Option Addr) (co:Nat):Array Value:= #[.string s.name,.int .i64 s.eps,.int .i64 s.floor,.int .i64 s.last,.int .i64 s.scale,.slice ps s.segs.length cs,.slice po s.opn.length co]
theorem firstT_is {r:RunT} {l:List RunT} (h:RunsOk (r::l)):firstT (r::l)=r.f:=by
 have h1:=(h.each r (by simp)).c0
 unfold firstT
 apply atV_some
 have:=atL_eq (r::l) 0 (fun r hr=>by have:=(h.each r hr).c0;omega)
 rw[show ((0:Nat):Int)=0 from rfl] at this
 rw[this]
 show (timesR r++timesL l)[0]? =_
 have hn:(timesR r).length=r.c.toNat:=length_timesR r
 rw[List.getElem?_append_left (by omega),timesR_at r 0 (by omega)]
 simp
theorem lastT_is {r:RunT} {l:List RunT} (h:RunsOk (l++ [r])):lastT (l++ [r])=r.f+(r.c-1)*r.s:=by
 have h1:=(h.each r (by simp)).c0
 have hc:∀q,q∈l++ [r]->0<=q.c:=fun q hq=>by have:=(h.each q hq).c0;omega
 have hl:=length_timesL (l++ [r]) hc
 have hl2:=length_timesL l fun q hq=>hc q (by simp[hq])
 unfold lastT
 rw[cnt_append] at hl⊢
 simp only[cnt] at hl⊢
 apply atV_some
 have:=atL_eq (l++ [r]) ((cnt l+(r.c+0))-1).toNat hc
 rw[Int.toNat_of_nonneg (by omega)] at this
 rw[this,timesL_append]
 have e:timesL [r]=timesR r:=by simp[timesL]
 rw[e,List.getElem?_append_right (by omega),timesR_at r _ (by omega),show ((((cnt l+(r.c+0))-1).toNat-(timesL l).length:Nat):Int)=r.c-1 by omega,Int.mul_comm]
theorem mgEnds_wrap {r:RunT} (hr:RunOk r):wrap64 (r.c-1)=r.c-1/\wrap64 ((r.c-1)*r.s)=(r.c-1)*r.s/\wrap64 (r.f+(r.c-1)*r.s)=r.f+(r.c-1)*r.s:=by
 have r1:=hr.f0;have r2:=hr.f1;have r3:=hr.s0;have r4:=hr.s1;have r5:=hr.c0;have r6:=hr.c1
 obtain⟨M,hM⟩:∃M,(r.c-1)*r.s=M:=⟨_,rfl⟩
 have m0:0<=M:=hM▸Int.mul_nonneg (by omega) (by omega)
 have m1:M<=256*281474976710656:=hM▸Int.mul_le_mul (by omega) (by omega) (by omega) (by omega)
 rw[hM,wrap64_eq,wrap64_eq,wrap64_eq]
 omega
theorem mgEnds_w (K A R n d E:Int) (q:Option Addr) (b o cap m vc:Nat) (l:List RunT) (r0 r1:RunT) (w:World) (h:RunsIn w (some ⟨b,o,none⟩) l) (H0:Hid (l[0]? =some r0)) (H1:l[l.length-1]? =some r1) (hlen:l.length<=300) (hpos:0<l.length) (hr:RunOk r1):
  Cb 109 #[.agg #[.int .i64 K,.slice (some ⟨b,o,none⟩) l.length cap,.int .i64 A,.int .i64 R,.int .i64 n,.int .i64 d,.slice q m vc,.int .i64 E]] w (.tuple #[.int .i64 r0.f,.int .i64 (r1.f+(r1.c-1)*r1.s)]):=by
 obtain⟨b',o',e9,q0,q1,q2⟩:=h.at' _ _ H1
 obtain⟨rfl,rfl⟩:b=b'/\o=o':=by(injection e9 with e9;injection e9 with e1 e2;exact⟨e1,e2⟩)
 clear e9 H1
 have zv:=cell_lt q0
 try simp only at zv
 obtain⟨E2,E3,E4⟩:=mgEnds_wrap hr
 replace E2:=Hd E2
 replace E3:=Hd E3
 replace E4:=Hd E4
 go_enter Tryz.func109,Tryz.ntmps109
 have E1:=Hd (show wrap64 ((l.length:Int)-1)=((l.length-1:Nat):Int) by rw[wrap64_eq];omega)
 go_upto_region 2 with(fail)
 refine wp_cutB w (Bc w.heap.size #[.int .i64 K,.slice (some ⟨b,o,none⟩) l.length cap,.int .i64 A,.int .i64 R,.int .i64 n,.int .i64 d,.slice q m vc,.int .i64 E] 49<|Bc (w.heap.size+1) #[.int .i64 r1.f,.int .i64 r1.s,.int .i64 r1.c] 69<|Rc (fun W'=>RunsIn W' (some ⟨b,o,none⟩) l)<|Bz) ?_ (hI:=by exact belowAny) (hR:=(Bc.mk (by exact blkAny2)<|Bc.mk (by exact blkAny2)<|Rc.mk (by exact(h.below belowAny))<|trivial))
 rintro W1 hW z2 hL
 obtain⟨⟨b1,yb1,k1,f1⟩,⟨b2,yb2,k2,f2⟩,b3,-⟩:=id hL
 clear k1 f1 k2 f2
 refine wp_regD 16 27 hW hL ?_
 iterate 16
  apply nd_det (hg:=rfl) (hal:=rfl)
  ·intro a W' hC hE
   obtain⟨_,⟨-,-,k1,-⟩,⟨-,-,k2,-⟩,k3,-⟩:=hC
   obtain⟨b',o',e9,q0,q1,q2⟩:=k3.at' 0 _ H0.out;obtain⟨rfl,rfl⟩:b=b'/\o=o':=(by injection e9 with e9;injection e9 with e1 e2;exact⟨e1,e2⟩);rw[Nat.zero_mul,Nat.add_zero] at q0
   first
    |(simp at hE;simp[go_sem,Act.eval,iw,hE,k1,k2,k3,q0,q1,q2,hpos,E2.out,E3.out,E4.out];try rfl)
    |(clear hE;simp[go_sem,Act.eval,iw,k1,k2,k3,q0,q1,q2,hpos,E2.out,E3.out,E4.out];try rfl)
 clear hW hL b1 b2 b3
 rintro W3 hW z4 hL
 simp only[ndR]
 intros
 simp only[ndS]
 refine wpList_nil ?_
 obtain⟨⟨b1,yb1,k1,f1⟩,⟨b2,yb2,k2,f2⟩,b3,-⟩:=hL
 go_wp2
 refine bodyPost_ret (by simp[results,Tryz.results109,go_sem,k1,f1,k2,f2,yb1,yb2]) rfl ⟨rfl,by exact belowAny⟩
theorem srLast_w (K A R n d E:Int) (p q:Option Addr) (len cap m vc:Nat) (w:World) (c t:Int) (hc:1<=c/\c<=256)
  (c1:∀W,Below w.heap.size w W->Cb 101 #[.slice p len cap] W (.int .i64 c))
  (c2:∀W,Below w.heap.size w W->Cb 100 #[.slice p len cap,.int .i64 (c-1)] W (.tuple #[.int .i64 t,.int .i64 0])):
  Cb 64 #[.agg #[.int .i64 K,.slice p len cap,.int .i64 A,.int .i64 R,.int .i64 n,.int .i64 d,.slice q m vc,.int .i64 E]] w (.int .i64 t):=by
 have E1:=Hd (show wrap64 (c-1)=c-1 by rw[wrap64_eq];omega)
 have H_c1:=Hd c1
 clear c1
 have H_c2:=Hd c2
 clear c2
 go_enter Tryz.func64,Tryz.ntmps64
 go_upto_region 1 with(fail)
 refine wp_cutB w (Bc w.heap.size #[.int .i64 K,.slice p len cap,.int .i64 A,.int .i64 R,.int .i64 n,.int .i64 d,.slice q m vc,.int .i64 E] 49<|Bz) ?_
 rintro W1 hW z2 hL
 refine wp_regD 12 16 hW hL ?_
 iterate 4 refine dE (fun W' hC=>E1.out) ?_
 refine cE (fun W' hC=>E1.out) (fun W' hC=>H_c1.out W' (hW.trans (hC.1.of_priv hW.size))) ?_
 refine dE (fun W' hC=>E1.out) ?_
 refine cE (fun W' hC=>E1.out) (fun W' hC=>H_c2.out W' (hW.trans (hC.1.of_priv hW.size))) ?_
 iterate 5 refine dE (fun W' hC=>E1.out) ?_
 clear hW hL
 rintro W3 hW z4 hL
 simp only[ndR]
 intros
 simp only[ndS]
 refine wpList_nil ?_
 obtain⟨⟨b1,yb1,k1,f1⟩,-⟩:=hL
 try clear H_c1 H_c2
 go_wp2
 refine bodyPost_ret (by simp[results,Tryz.results64,go_sem,k1,f1,yb1]) rfl ⟨rfl,by exact belowAny⟩
theorem c_mgEnds (s:SegT) (p q:Option Addr) (cap vc:Nat) (w:World) (h:SegIn w s p q) (hs:segB s=true):
  Cb 109 #[.agg (segA s p q cap vc)] w (.tuple #[.int .i64 (firstT s.runs),.int .i64 (lastT s.runs)]):=by
 have hl:=segB_runs hs
 have hpos:=hl.some'
 have hne:s.runs≠ []:=List.length_pos_iff.1 hpos
 obtain⟨r0,l0,e0⟩:∃r l,s.runs=r::l:=List.exists_cons_of_ne_nil hne
 obtain⟨l1,r1,e1⟩:∃l r,s.runs=l++ [r]:=⟨s.runs.dropLast,s.runs.getLast hne,(List.dropLast_concat_getLast hne).symm⟩
 have h0:s.runs[0]? =some r0:=by rw[e0];rfl
 have h1:s.runs[s.runs.length-1]? =some r1:=by rw[e1];simp
 have f0:firstT s.runs=r0.f:=by rw[e0] at hl⊢;exact firstT_is hl
 have f1:lastT s.runs=r1.f+(r1.c-1)*r1.s:=by rw[e1] at hl⊢;exact lastT_is hl
 obtain⟨b,o,rfl,-⟩:=h.runs.at' 0 r0 h0
 rw[f0,f1]
 exact mgEnds_w _ _ _ _ _ _ q b o cap _ vc s.runs r0 r1 w h.runs (Hd h0) h1 h.fewR hpos (hl.each r1 (List.mem_of_getElem? h1))
theorem c_srLast (s:SegT) (p q:Option Addr) (cap vc:Nat) (w:World) (h:SegIn w s p q) (hs:segB s=true):
  Cb 64 #[.agg (segA s p q cap vc)] w (.int .i64 (lastT s.runs)):=by
 have hl:=segB_runs hs
 obtain⟨n0,n1⟩:=cnt_pos hl
 exact srLast_w _ _ _ _ _ _ p q _ cap _ vc w (cnt s.runs) (lastT s.runs) ⟨n0,n1⟩ (fun W hW=>c_rcount_ok p cap s.runs W hl (h.runs.below hW)) (fun W hW=>c_at p cap s.runs (cnt s.runs-1) W hl (h.runs.below hW) (by omega) (by omega))
def mcRel (w:World) (p:Option Addr) (cap:Nat) (l:List SegT) (a':Act) (W:World):Prop:=
 Below w.heap.size w W/\∃(i:Nat) (bh:Int),(∃u:Nat->Value,a'= {tmps:= #[.slice p l.length cap,u 1,u 2,.int .i64 bh,u 4,u 5,u 6,u 7,.slice p l.length cap,.int .i64 (l.length:Int),.int .i64 (i:Int),u 11,u 12,u 13,u 14,u 15,u 16,u 17,u 18,u 19,u 20,u 21,u 22,u 23,u 24,u 25,u 26],defers:= []})/\i<=l.length/\rowB (-1) l=rowB bh (l.drop i)
theorem c_mgCheck (p:Option Addr) (cap:Nat) (l:List SegT) (w:World) (hlen:l.length<=1000000) (h:SegsIn w p l):
  Cb 76 #[.slice p l.length cap] w (.int .i64 (if rowB (-1) l=true then 0 else 240)):=by
 obtain⟨RES,hRES⟩:∃z:Int,(if rowB (-1) l=true then 0 else 240)=z:=⟨_,rfl⟩
 rw[hRES]
 go_enter Tryz.func76,Tryz.ntmps76
 go_wp2
 refine wp_loop (mcRel w p cap l) (fun a' _=>l.length-(intAt (a'.tmps.getD 10 undef)).toNat) ?_ ?_
 ·unfold mcRel
  exact⟨Below.refl _ _,0,-1,frame_ex rfl,Nat.zero_le _,rfl⟩
 ·rintro a' W ⟨hW0,i,bh,⟨u,rfl⟩,hi',hrow⟩
  have hz:=hW0.size
  rcases Nat.lt_or_ge i l.length with hlt|hge
  ·obtain⟨s,tr⟩:∃r,l[i]? =some r:=⟨l[i]'(by omega),List.getElem?_eq_getElem (by omega)⟩
   have hin:=h.below hW0
   obtain⟨b,o,p',q',cp,vc,rfl,hs,hvc,q0,q1,q2,q3,q4,q5,q6,q7⟩:=hin.one tr
   have hd:l.drop i=s::l.drop (i+1):=by
    rw[List.drop_eq_getElem_cons hlt]
    rw[List.getElem?_eq_getElem hlt] at tr
    injection tr with tr
    rw[tr]
   rw[hd] at hrow
   simp only[rowB] at hrow
   clear hd tr hin
   cases hb:segB s with
   |false=>
    have c1:=fun W' (hW':Below W.heap.size W W')=>c_segCheckNo s p' q' cp vc W' (hs.below hW') hb
    unfold segA at c1
    replace c1:=Hd c1
    rw[hb,Bool.false_and] at hrow
    rw[hrow] at hRES
    replace hRES:=Hd hRES
    clear hb hrow hs
    go_wp2_with fail
    refine(c1.out _ belowAny).mono ?_
    rintro e w21 ⟨rfl,hb21⟩
    have z22:=hb21.size
    try simp at z22
    refine haveB W w21 (Bc W.heap.size #[.int .i64 s.K,.slice p' s.runs.length cp,.int .i64 s.A,.int .i64 s.R,.int .i64 s.n,.int .i64 s.d,.slice q' s.raw.length vc,.int .i64 s.E] 49<|Bz) ?_
    rintro hW z23 ⟨⟨b1,yb1,k1,f1⟩,-⟩
    clear hb21
    go_wp2
    go_ret
    exact⟨by rw[<-hRES.out];rfl,hW0.trans (hW.mono hz)⟩
   |true=>
    have c1:=fun W' (hW':Below W.heap.size W W')=>c_segCheckYes s p' q' cp vc W' (hs.below hW') hb
    have c2:=fun W' (hW':Below W.heap.size W W')=>c_mgEnds s p' q' cp vc W' (hs.below hW') hb
    unfold segA at c1 c2
    replace c1:=Hd c1
    replace c2:=Hd c2
    rw[hb,Bool.true_and] at hrow
    clear hb hs
    obtain⟨F,hF⟩:∃F,firstT s.runs=F:=⟨_,rfl⟩
    obtain⟨L,hL⟩:∃L,lastT s.runs=L:=⟨_,rfl⟩
    rw[hF,hL] at c2 hrow
    clear hF hL
    by_cases hlt2:bh<F
    ·rw[decide_eq_true hlt2,Bool.true_and] at hrow
     replace hrow:=Hd hrow
     replace hRES:=Hd hRES
     go_wp2_with fail
     refine(c1.out _ belowAny).mono ?_
     rintro e w21 ⟨rfl,hb21⟩
     have z22:=hb21.size
     try simp at z22
     refine haveB W w21 (Bc W.heap.size #[.int .i64 s.K,.slice p' s.runs.length cp,.int .i64 s.A,.int .i64 s.R,.int .i64 s.n,.int .i64 s.d,.slice q' s.raw.length vc,.int .i64 s.E] 49<|Bz) ?_
     rintro hW z23 ⟨⟨b1,yb1,k1,f1⟩,-⟩
     clear hb21
     go_wp2_with fail
     refine(c2.out _ belowAny).mono ?_
     rintro e w24 ⟨rfl,hb24⟩
     have z25:=hb24.size
     try simp at z25
     clear k1 f1
     refine haveB W w24 (Bc W.heap.size #[.int .i64 s.K,.slice p' s.runs.length cp,.int .i64 s.A,.int .i64 s.R,.int .i64 s.n,.int .i64 s.d,.slice q' s.raw.length vc,.int .i64 s.E] 49<|Bz) ?_
     clear b1 hW
     rintro hW z26 ⟨⟨b1,yb1,k1,f1⟩,-⟩
     clear hb24
     go_wp2
     rw[show (i:Int)+1=((i+1:Nat):Int) by omega]
     refine⟨?_,by simp[intAt];omega⟩
     unfold mcRel
     exact⟨hW0.trans (hW.mono hz),i+1,L,frame_ex rfl,by omega,hrow.out⟩
    ·rw[decide_eq_false hlt2,Bool.false_and] at hrow
     rw[hrow] at hRES
     replace hRES:=Hd hRES
     clear hrow
     have hle:F<=bh:=by omega
     clear hlt2
     go_wp2_with fail
     refine(c1.out _ belowAny).mono ?_
     rintro e w21 ⟨rfl,hb21⟩
     have z22:=hb21.size
     try simp at z22
     refine haveB W w21 (Bc W.heap.size #[.int .i64 s.K,.slice p' s.runs.length cp,.int .i64 s.A,.int .i64 s.R,.int .i64 s.n,.int .i64 s.d,.slice q' s.raw.length vc,.int .i64 s.E] 49<|Bz) ?_
     rintro hW z23 ⟨⟨b1,yb1,k1,f1⟩,-⟩
     clear hb21
     go_wp2_with fail
     refine(c2.out _ belowAny).mono ?_
     rintro e w24 ⟨rfl,hb24⟩
     have z25:=hb24.size
     try simp at z25
     clear k1 f1
     refine haveB W w24 (Bc W.heap.size #[.int .i64 s.K,.slice p' s.runs.length cp,.int .i64 s.A,.int .i64 s.R,.int .i64 s.n,.int .i64 s.d,.slice q' s.raw.length vc,.int .i64 s.E] 49<|Bz) ?_
     clear b1 hW
     rintro hW z26 ⟨⟨b1,yb1,k1,f1⟩,-⟩
     clear hb24
     go_wp2
     go_ret
     exact⟨by rw[<-hRES.out];rfl,hW0.trans (hW.mono hz)⟩
  ·obtain rfl:i=l.length:=by omega
   rw[List.drop_length] at hrow
   simp only[rowB] at hrow
   rw[hrow] at hRES
   replace hRES:=Hd hRES
   go_wp2
   go_ret
   exact⟨by rw[<-hRES.out];rfl,hW0⟩
end Go.Proofs.YtpdhdjlhicceoaaGreatDoor
namespace Go.Proofs.YtpdhdjlhicceoaaGreatDoor
open Go.RowKit Go.Shelf
attribute [local go_sem] Oper.semAt_some
theorem flat_step {α β:Type} {l:List α} {k:Nat} {x:α} (f:α->List β) (h:l[k]? =some x):(l.take (k+1)).flatMap f=(l.take k).flatMap f++f x:=by
 rw[List.take_add_one,h];simp
theorem flat_room {α β:Type} {l:List α} {k m:Nat} {x:α} (f:α->List β) (h:l[k]? =some x) (hm:m<(f x).length) (r:List β):((l.take k).flatMap f++(f x).take m).length<(l.flatMap f++r).length:=by
 have e:l.flatMap f=(l.take (k+1)).flatMap f++(l.drop (k+1)).flatMap f:=by rw[<-List.flatMap_append,List.take_append_drop]
 rw[e,flat_step f h]
 simp only[List.length_append,List.length_take]
 omega
theorem flat_pre {α β:Type} {l:List α} {k m:Nat} {x:α} (f:α->List β) (h:l[k]? =some x) (r:List β):(l.take k).flatMap f++(f x).take m<+:l.flatMap f++r:=by
 have e:l.flatMap f=(l.take (k+1)).flatMap f++(l.drop (k+1)).flatMap f:=by rw[<-List.flatMap_append,List.take_append_drop]
 rw[e,flat_step f h]
 exact⟨(f x).drop m++((l.drop (k+1)).flatMap f++r),by simp only[List.append_assoc];rw[<-List.append_assoc ((f x).take m),List.take_append_drop]⟩
theorem take_step {β:Type} {l:List β} {m:Nat} {t:β} (h:l[m]? =some t):l.take (m+1)=l.take m++ [t]:=by rw[List.take_add_one,h];rfl
theorem KF.blk {B0 n₀:Nat} {A B:World} (h:KF B0 n₀ A B) {b:Nat} {cs:Array Value} {t:TypeId} (hn:n₀<=b) (hb:Blk A b cs t):Blk B b cs t:=h.rest b cs t (0,0) hn hb
theorem ownsRow_pos {w:World} {B n sz:Nat} {e:TypeId} {v:Value} {xs:List Value} (h:w.ownsRow B e sz v n xs) (hn:0<n):∃g cap cur,v= .slice (some ⟨g,0,none⟩) n cap/\B<=g/\Blk w g cur e/\cur.toList.take (n*sz)=xs:=by
 obtain⟨_,⟨_,h0⟩|⟨g,cap,cur,rfl,hg,hb,_,_,_,ht⟩⟩:=h
 ·omega
 ·exact⟨g,cap,cur,rfl,hg,hb,ht⟩
theorem srTimes1_in (n:Nat) (hn:1<=n) (lr Bs n₀:Nat) (s:SerT) (ps po:Option Addr) (cs co:Nat) (w₁:World) (hin:SerIn w₁ s ps po) (hv:∀x,x∈s.segs->segB x=true) (h1:w₁.heap.size<=n₀) (hb0:n₀<=Bs)
  (J Jx:List Int->World->Prop) (B0:Nat) (hJ:AbidesFrom B0 J)
  (hY:∀pre x W,J pre W->pre.length<(timesS s).length->YieldAt Fence.wide (n-1) Tryz.prog lr #[.int .i64 x] W fun e W'=>(e= .returned (.bool true)/\J (pre++ [x]) W'/\KF w₁.heap.size n₀ W W')∨(e= .returned (.bool false)/\Jx (pre++ [x]) W'))
  (W:World) (hW:Below w₁.heap.size w₁ W) (hBs:Blk W Bs (serA s ps cs po co) 26) (h0:J [] W):
  CallsIn Fence.wide n Tryz.prog 110 #[.func (.yield lr) #[] #[],.pointer (some ⟨Bs,0,none⟩)] W fun e W'=>(∃v,e= .returned v)/\((∃ys,ys=timesS s/\J ys W')∨(∃pre,pre<+:timesS s/\Jx pre W')):=by
 have hfS:=hin.fewS
 have hfO:=hin.fewO
 have k:=hBs.cell
 unfold serA at k
 refine callsIn_of_wp Tryz.func110 rfl trivial ?_ rfl
 simp only[Tryz.ntmps110,List.size_toArray,List.length_cons,List.length_nil,Nat.reduceAdd,Nat.reduceSub,Array.replicate_succ,Array.replicate_zero,List.push_toArray,List.append_toArray,List.nil_append,List.cons_append]
 gi_wp2
 clear k
 gi_loopw [14] (fun i wr=>∃k:Nat,k<=s.segs.length/\i= .int .i64 k/\J ((s.segs.take k).flatMap fun x=>timesL x.runs) wr/\Below w₁.heap.size w₁ wr/\Blk wr Bs (serA s ps cs po co) 26) (fun i _=>s.segs.length-(intOf i).toNat)
 case atStart=>exact⟨0,Nat.zero_le _,rfl,h0,hW,hBs⟩
 case round=>
  obtain⟨k,hk,rfl,hJk,hbw,hbk⟩:=hrel
  have hlb:=hbk.lt
  rcases Nat.lt_or_ge k s.segs.length with hlk|hge
  ·obtain⟨x,tr⟩:∃r,s.segs[k]? =some r:=⟨s.segs[k]'(by omega),List.getElem?_eq_getElem (by omega)⟩
   have hsx:=hv x (List.mem_of_getElem? tr)
   have hl:=segB_runs hsx
   obtain⟨b,o,p',q',cp,vc,rfl,hs,hvc,q0,q1,q2,q3,q4,q5,q6,q7⟩:=(hin.below hbw).segs.one tr
   have ct:=Hd (fun W' (hW':Below wr.heap.size wr W')=>c_Times p' cp x.runs W' hl (hs.runs.below hW'))
   have hlen:=length_times hl
   have hcnt:=cnt_pos hl
   have htr:=Hd tr
   have zb:=cell_lt q0
   try simp only at zb
   obtain⟨N,hN⟩:∃N,(timesL x.runs).length=N+1:=⟨(timesL x.runs).length-1,by omega⟩
   have HN:=Hd hN
   have hN6:N+1<=256:=by omega
   clear tr hs hl hlen hcnt
   unfold TimesOut at ct
   rw[hN] at ct
   clear hN
   gi_wp2_with (refine⟨trivial,?_⟩;gi_at_call 107;refine(callsIn_wide.2 (ct.out _ (belowAny))).mono ?_;rintro e w2 ⟨v,rfl,hv2,hB⟩;obtain⟨g,cap',cur,rfl,hg,hb,htk⟩:=ownsRow_pos hv2 (Nat.succ_pos _);clear hv2;replace htk:=Hd htk;have hg':wr.heap.size<g:=by(simp at hg;omega))
   clear ct q0 q1 q2 q3 q4 q5 q6 q7
   have hAB:=((Below.refl wr.heap.size wr).alloc (Nat.le_refl _) (Obj.cells (segA x p' q' cp vc) 49)).trans (hB.mono (by simp))
   have htk':cur.toList.take (N+1)=(timesL x.runs).map (Value.int .i64):=by rw[<-htk.out,Nat.mul_one]
   have hJ1:=abides_below hJ hJk hAB
   have hb2:=hbk.below hAB
   have hw2:=hbw.trans (hAB.mono hbw.size)
   have hg2:Blk w2 g cur 2:=hb
   clear htk hg hB hJk hbk hbw hAB hb zb
   gi_loopw [26] (fun i w3=>∃m:Nat,m<=N+1/\i= .int .i64 m/\J (((s.segs.take k).flatMap fun x=>timesL x.runs)++(timesL x.runs).take m) w3/\Below w₁.heap.size w₁ w3/\Blk w3 Bs (serA s (some ⟨b,o,none⟩) cs po co) 26/\Blk w3 g cur 2) (fun i _=>N+1-(intOf i).toNat)
   case atStart=>exact⟨0,Nat.zero_le _,rfl,by simpa using hJ1,hw2,hb2,hg2⟩
   case round=>
    obtain⟨m,hm,rfl,hJm,hbw3,hb3,hg3⟩:=hrel
    rcases Nat.lt_or_ge m (N+1) with hlm|hgem
    ·obtain⟨t,ht⟩:∃t,(timesL x.runs)[m]? =some t:=⟨(timesL x.runs)[m]'(by have:=HN.out;omega),List.getElem?_eq_getElem _⟩
     have hcell:wr.cell? ⟨g,m,none⟩=some (.int .i64 t):=by rw[cell_of_row wr g m cur _ (0,0) hg3];exact row_take htk' (by simp[ht])
     obtain⟨fn,tmps,assign,body,hy,hR⟩:=hY _ t wr hJm (flat_room (fun x=>timesL x.runs) htr.out (by have:=HN.out;omega) _)
     have hst:=Hd (take_step ht)
     clear ht
     gi_wp2
     refine hR.mono ?_
     rintro e W3 (⟨rfl,hJ3,hk3⟩|⟨rfl,hJx3⟩)
     ·gi_wp2
      go_roundw
      case rel=>exact⟨m+1,by omega,by simp,by rw[hst.out,<-List.append_assoc];exact hJ3,hbw3.trans hk3.below,hk3.blk hb0 hb3,hk3.blk (by omega) hg3⟩
      case measure=>simp[intOf];omega
     ·gi_wp2
      refine bodyPost_ret (results_none rfl _ _ _) rfl ?_
      exact⟨⟨_,rfl⟩,.inr ⟨_,by rw[List.append_assoc,<-hst.out];exact flat_pre (fun x=>timesL x.runs) htr.out _,hJx3⟩⟩
    ·obtain rfl:m=N+1:=by omega
     have et:(timesL x.runs).take (N+1)=timesL x.runs:=List.take_of_length_le (by have:=HN.out;omega)
     rw[et,<-flat_step (fun x=>timesL x.runs) htr.out] at hJm
     gi_wp2
     go_roundw
     case rel=>exact⟨k+1,by omega,by simp,hJm,hbw3,hb3⟩
     case measure=>simp[intOf];omega
  ·obtain rfl:k=s.segs.length:=by omega
   rw[List.take_length] at hJk
   have k:=hbk.cell
   unfold serA at k
   gi_wp2
   clear k
   gi_loopw [39] (fun i w3=>∃m:Nat,m<=s.opn.length/\i= .int .i64 m/\J ((s.segs.flatMap fun x=>timesL x.runs)++(s.opn.map (·.1)).take m) w3/\Below w₁.heap.size w₁ w3/\Blk w3 Bs (serA s ps cs po co) 26) (fun i _=>s.opn.length-(intOf i).toNat)
   case atStart=>exact⟨0,Nat.zero_le _,rfl,by simpa using hJk,hbw,hbk⟩
   case round=>
    obtain⟨m,hm,rfl,hJm,hbw3,hb3⟩:=hrel
    rcases Nat.lt_or_ge m s.opn.length with hlm|hgem
    ·obtain⟨⟨t,v⟩,ht⟩:∃t,s.opn[m]? =some t:=⟨s.opn[m]'hlm,List.getElem?_eq_getElem _⟩
     obtain⟨b,o,rfl,q0,q1⟩:=(hin.below hbw3).opn.at' m _ ht
     simp only at q0 q1
     have ht':(s.opn.map (·.1))[m]? =some t:=by rw[List.getElem?_map,ht];rfl
     have hst:=Hd (take_step ht')
     have zb:=cell_lt q0
     try simp only at zb
     obtain⟨fn,tmps,assign,body,hy,hR⟩:=hY _ t (wr.alloc (.cells #[.int .i64 t,.int .i64 v] 53)) (abides_below hJ hJm ((Below.refl _ _).alloc (Nat.le_refl _) _)) (by unfold timesS;simp;omega)
     clear ht ht'
     gi_wp2
     refine hR.mono ?_
     rintro e W3 (⟨rfl,hJ3,hk3⟩|⟨rfl,hJx3⟩)
     ·gi_wp2
      go_roundw
      case rel=>exact⟨m+1,by omega,by simp,by rw[hst.out,<-List.append_assoc];exact hJ3,(hbw3.alloc hbw3.size _).trans hk3.below,hk3.blk hb0 (hb3.alloc _)⟩
      case measure=>simp[intOf];omega
     ·gi_wp2
      refine bodyPost_ret (results_none rfl _ _ _) rfl ?_
      exact⟨⟨_,rfl⟩,.inr ⟨_,by rw[List.append_assoc,<-hst.out];exact(List.prefix_append_right_inj _).2 (List.take_prefix _ _),hJx3⟩⟩
    ·obtain rfl:m=s.opn.length:=by omega
     rw[List.take_of_length_le (by simp)] at hJm
     gi_wp2
     refine bodyPost_end (results_none rfl _ _ _) rfl ?_
     exact⟨⟨_,rfl⟩,.inl ⟨_,rfl,hJm⟩⟩
theorem c_srTimes (nm:ByteArray) (ep fl la sc:Int) (ps po:Option Addr) (ns cs no co:Nat) (w:World):
  Calls Tryz.prog 77 #[.agg #[.string nm,.int .i64 ep,.int .i64 fl,.int .i64 la,.int .i64 sc,.slice ps ns cs,.slice po no co]] w fun e w'=>e= .returned (.func (.func 110) #[] #[.pointer (some ⟨w.heap.size,0,none⟩)])/\w'=w.alloc (.cells #[.string nm,.int .i64 ep,.int .i64 fl,.int .i64 la,.int .i64 sc,.slice ps ns cs,.slice po no co] 26):=by
 have hmf:∀(fn:Fn) (first cap:Array Value) (w:World),(Instr.makeFunc fn first cap).run Tryz.prog w= .ok (.func fn first cap) w:=fun _ _ _ _=>rfl
 go_enter Tryz.func77,Tryz.ntmps77
 go_wp2
 go_ret
 exact⟨rfl,rfl⟩
theorem flat_few {α β:Type} (f:α->List β) (K:Nat):∀l:List α,(∀x,x∈l->(f x).length<=K)->(l.flatMap f).length<=l.length*K
 | [],_=>by simp
 |x::l,h=>by
  have:=flat_few f K l fun y hy=>h y (by simp[hy])
  have:=h x (by simp)
  simp only[List.flatMap_cons,List.length_append,List.length_cons,Nat.add_mul]
  omega
theorem times_few {w:World} {s:SerT} {ps po:Option Addr} (hin:SerIn w s ps po) (hv:∀x,x∈s.segs->segB x=true):(timesS s).length<=25700:=by
 have h1:=flat_few (fun x:SegT=>timesL x.runs) 256 s.segs fun x hx=>by
  have:=segB_runs (hv x hx)
  have h2:=length_times this
  have:=(cnt_pos this).2
  try simp only
  omega
 have:=hin.fewS
 have:=hin.fewO
 unfold timesS
 simp only[List.length_append,List.length_map]
 omega
def keptL (fl:Int) (l:List Int):Nat:=(l.filter fun t=>decide (fl<=t)).length
theorem keptL_in {fl:Int} (l:List Int) {t:Int} (h:fl<=t):keptL fl (l++ [t])=keptL fl l+1:=by simp[keptL,h]
theorem keptL_out {fl:Int} (l:List Int) {t:Int} (h:¬fl<=t):keptL fl (l++ [t])=keptL fl l:=by simp[keptL,h]
theorem keptL_le (fl:Int) (l:List Int):keptL fl l<=l.length:=List.length_filter_le _ _
theorem kept_in (s:SerT) (ps po:Option Addr) (cs co:Nat) (w:World) (hin:SerIn w s ps po) (hv:∀x,x∈s.segs->segB x=true):
  CallsIn Fence.wide 4 Tryz.prog 78 #[.agg (serA s ps cs po co)] w fun e w'=>e= .returned (.int .i64 (keptN s))/\Below w.heap.size w w':=by
 have hN:=times_few hin hv
 have hfew:=Hd hN
 unfold serA
 refine callsIn_of_wp_marks Tryz.func78 rfl trivial ?_ rfl
 simp only[Tryz.ntmps78,List.size_toArray,List.length_cons,List.length_nil,Nat.reduceAdd,Nat.reduceSub,Array.replicate_succ,Array.replicate_zero,List.push_toArray,List.append_toArray,List.nil_append,List.cons_append]
 gi_wp2_with (refine⟨trivial,?_⟩;gi_at_call 77;refine(callsIn_wide.2 (c_srTimes _ _ _ _ _ _ _ _ _ _ _ _)).mono ?_;rintro e w' ⟨rfl,rfl⟩)
 have hW0:Below w.heap.size w (((w.alloc (.cells #[.string s.name,.int .i64 s.eps,.int .i64 s.floor,.int .i64 s.last,.int .i64 s.scale,.slice ps s.segs.length cs,.slice po s.opn.length co] 26)).alloc (.cells #[.int .i64 0] 3)).alloc (.cells #[.string s.name,.int .i64 s.eps,.int .i64 s.floor,.int .i64 s.last,.int .i64 s.scale,.slice ps s.segs.length cs,.slice po s.opn.length co] 26)):=belowAny
 have b1:Blk (((w.alloc (.cells #[.string s.name,.int .i64 s.eps,.int .i64 s.floor,.int .i64 s.last,.int .i64 s.scale,.slice ps s.segs.length cs,.slice po s.opn.length co] 26)).alloc (.cells #[.int .i64 0] 3)).alloc (.cells #[.string s.name,.int .i64 s.eps,.int .i64 s.floor,.int .i64 s.last,.int .i64 s.scale,.slice ps s.segs.length cs,.slice po s.opn.length co] 26)) w.heap.size #[.string s.name,.int .i64 s.eps,.int .i64 s.floor,.int .i64 s.last,.int .i64 s.scale,.slice ps s.segs.length cs,.slice po s.opn.length co] 26:=blkAny2
 have b2:Blk (((w.alloc (.cells #[.string s.name,.int .i64 s.eps,.int .i64 s.floor,.int .i64 s.last,.int .i64 s.scale,.slice ps s.segs.length cs,.slice po s.opn.length co] 26)).alloc (.cells #[.int .i64 0] 3)).alloc (.cells #[.string s.name,.int .i64 s.eps,.int .i64 s.floor,.int .i64 s.last,.int .i64 s.scale,.slice ps s.segs.length cs,.slice po s.opn.length co] 26)) (w.heap.size+1) #[.int .i64 0] 3:=blkAny2
 have b3:Blk (((w.alloc (.cells #[.string s.name,.int .i64 s.eps,.int .i64 s.floor,.int .i64 s.last,.int .i64 s.scale,.slice ps s.segs.length cs,.slice po s.opn.length co] 26)).alloc (.cells #[.int .i64 0] 3)).alloc (.cells #[.string s.name,.int .i64 s.eps,.int .i64 s.floor,.int .i64 s.last,.int .i64 s.scale,.slice ps s.segs.length cs,.slice po s.opn.length co] 26)) (w.heap.size+1+1) #[.string s.name,.int .i64 s.eps,.int .i64 s.floor,.int .i64 s.last,.int .i64 s.scale,.slice ps s.segs.length cs,.slice po s.opn.length co] 26:=Blk.new' (by simp)
 have hsz:(((w.alloc (.cells #[.string s.name,.int .i64 s.eps,.int .i64 s.floor,.int .i64 s.last,.int .i64 s.scale,.slice ps s.segs.length cs,.slice po s.opn.length co] 26)).alloc (.cells #[.int .i64 0] 3)).alloc (.cells #[.string s.name,.int .i64 s.eps,.int .i64 s.floor,.int .i64 s.last,.int .i64 s.scale,.slice ps s.segs.length cs,.slice po s.opn.length co] 26)).heap.size=w.heap.size+1+1+1:=by simp
 obtain⟨W0,hWe⟩:∃W0,W0=(((w.alloc (.cells #[.string s.name,.int .i64 s.eps,.int .i64 s.floor,.int .i64 s.last,.int .i64 s.scale,.slice ps s.segs.length cs,.slice po s.opn.length co] 26)).alloc (.cells #[.int .i64 0] 3)).alloc (.cells #[.string s.name,.int .i64 s.eps,.int .i64 s.floor,.int .i64 s.last,.int .i64 s.scale,.slice ps s.segs.length cs,.slice po s.opn.length co] 26)):=⟨_,rfl⟩
 rw[<-hWe] at hW0 b1 b2 b3 hsz⊢
 clear hWe hN
 refine wpIn_rangeFunc_ownG rfl (by omega) (gf:=110) (lb:= #[.pointer (some ⟨w.heap.size+1+1,0,none⟩)]) rfl trivial (enters_of Tryz.func110 (by kernel_rfl) rfl)
  (encs:=fun x:Int=> #[Value.int .i64 x]) (Kp:=KF w.heap.size (w.heap.size+1+1)) (S:=fun ys=>ys=timesS s) (Sp:=fun pre=>pre<+:timesS s) (N:=(timesS s).length) (w0:=W0)
  (fun lr J Jx W hWW hJ _ hY h0=>srTimes1_in 3 (by omega) lr (w.heap.size+1+1) (w.heap.size+1+1) s ps po cs co w hin hv (by omega) (Nat.le_refl _) J Jx _ hJ hY W (hW0.trans (hWW.mono hW0.size)) (b3.below hWW) h0)
  (fun h k=>h.trans k) (KF.putObj (by omega)) (Below.refl _ _) (fun _=>rfl)
  (fun pre W=>(Blk W w.heap.size #[.string s.name,.int .i64 s.eps,.int .i64 s.floor,.int .i64 s.last,.int .i64 s.scale,.slice ps s.segs.length cs,.slice po s.opn.length co] 26/\Blk W (w.heap.size+1) #[.int .i64 (keptL s.floor pre)] 3)/\Below w.heap.size w W)
  (fun _ _ _=>False)
  (OwnFrom.and (OwnFrom.and (Own.from (blk_own _ _ _) _) (Own.from (blk_own _ _ _) _)) (ownFrom_below (Nat.le_refl _) (by omega)))
  (fun _ _ _ _ _ hs _ _=>hs)
  ⟨⟨b1,b2⟩,hW0⟩
  (fun x=> {tmps:= #[.agg #[.string s.name,.int .i64 s.eps,.int .i64 s.floor,.int .i64 s.last,.int .i64 s.scale,.slice ps s.segs.length cs,.slice po s.opn.length co],.pointer (some ⟨w.heap.size,0,none⟩),.int .i64 0,.pointer (some ⟨w.heap.size+1,0,none⟩),.int .i64 x,.agg #[.string s.name,.int .i64 s.eps,.int .i64 s.floor,.int .i64 s.last,.int .i64 s.scale,.slice ps s.segs.length cs,.slice po s.opn.length co],.func (.func 110) #[] #[.pointer (some ⟨w.heap.size+1+1,0,none⟩)],.int .i64 x,undef,undef,undef,undef,undef,undef,undef],defers:= []}) ?assign ?body ?done ?stop
 case assign=>
  intro l x W K hK
  gi_wp2
  exact hK
 case body=>
  rintro l pre x W ⟨⟨i1,i2⟩,i3⟩ hlt
  have hz:=i3.size
  have y1:=i1.lt
  have y2:=i2.lt
  have k1:=i1.cell
  have f1:=i1.frozen
  have k2:=i2.cell
  have f2:=i2.frozen
  have hb:=keptL_le s.floor pre
  have h9:pre.length<25700:=by have:=hfew.out;omega
  by_cases hx:s.floor<=x
  ·have e:=Hd (keptL_in pre hx)
   gi_wp2
   exact⟨KeepsOthers.from (keepsAny) _,kfAny,⟨⟨blkAny2,by rw[e.out];exact blkAny2⟩,belowAny⟩⟩
  ·have e:=Hd (keptL_out pre hx)
   have hx':x<s.floor:=by omega
   gi_wp2
   exact⟨KeepsOthers.from (keepsAny) _,kfAny,⟨⟨blkAny2,by rw[e.out];exact blkAny2⟩,belowAny⟩⟩
 case done=>
  rintro D ys W hD rfl ⟨⟨i1,i2⟩,i3⟩ hK
  have k2:=i2.cell
  gi_wp2
  refine⟨by simp,.inl ⟨_,_,rfl,run_takeDeferred hK,?_⟩⟩
  exact⟨_,results_tmp rfl _ _ _,rfl,i3.trans (belowK_b (w:=w) (Nat.le_refl _) W D _ _ (by omega) hK rfl rfl)⟩
 case stop=>
  rintro D c pre W _ _ h _
  exact h.elim
theorem c_srKept (s:SerT) (ps po:Option Addr) (cs co:Nat) (w:World) (hin:SerIn w s ps po) (hv:∀x,x∈s.segs->segB x=true):
  Cb 78 #[.agg (serA s ps cs po co)] w (.int .i64 (keptN s)):=callsIn_wide.1 (kept_in s ps po cs co w hin hv)
attribute [local simp] Oper.looksAt Op.operands Call.operands envOf Det GDet
def ck1Rel (w:World) (s:SerT) (ps po:Option Addr) (cs co:Nat) (a':Act) (W:World):Prop:=
 Below w.heap.size w W/\Blk W w.heap.size #[.string s.name,.int .i64 s.eps,.int .i64 s.floor,.int .i64 s.last,.int .i64 s.scale,.slice ps s.segs.length cs,.slice po s.opn.length co] 26/\Blk W (w.heap.size+1) #[.int .i64 0] 27/\∃i:Nat,(∃u:Nat->Value,a'= {tmps:= #[.agg #[.string s.name,.int .i64 s.eps,.int .i64 s.floor,.int .i64 s.last,.int .i64 s.scale,.slice ps s.segs.length cs,.slice po s.opn.length co],.pointer (some ⟨w.heap.size,0,none⟩),.pointer (some ⟨w.heap.size+1,0,none⟩),u 3,u 4,u 5,u 6,u 7,u 8,u 9,u 10,u 11,u 12,u 13,u 14,u 15,u 16,u 17,u 18,u 19,u 20,u 21,u 22,u 23,u 24,.slice ps s.segs.length cs,.int .i64 (s.segs.length:Int),.int .i64 (i:Int),u 28,u 29,u 30,u 31,u 32,u 33,u 34,u 35,u 36,u 37,u 38,u 39,u 40,u 41,u 42,u 43,u 44,u 45,u 46,u 47,u 48,u 49,u 50,u 51,u 52,u 53,u 54,u 55,u 56,u 57,u 58,u 59,u 60,u 61,u 62,u 63,u 64,u 65,u 66,u 67,u 68,u 69,u 70,u 71,u 72,u 73,u 74,u 75,u 76,u 77,u 78,u 79,u 80,u 81,u 82,u 83],defers:= []})/\i<=s.segs.length/\(∀j x,j<i->s.segs[j]? =some x->inSegB s.eps s.floor x=true)
def ck2Rel (w:World) (s:SerT) (ps po:Option Addr) (cs co:Nat) (a':Act) (W:World):Prop:=
 Below w.heap.size w W/\Blk W w.heap.size #[.string s.name,.int .i64 s.eps,.int .i64 s.floor,.int .i64 s.last,.int .i64 s.scale,.slice ps s.segs.length cs,.slice po s.opn.length co] 26/\Blk W (w.heap.size+1) #[.int .i64 0] 27/\∃i:Nat,(∃u:Nat->Value,a'= {tmps:= #[.agg #[.string s.name,.int .i64 s.eps,.int .i64 s.floor,.int .i64 s.last,.int .i64 s.scale,.slice ps s.segs.length cs,.slice po s.opn.length co],.pointer (some ⟨w.heap.size,0,none⟩),.pointer (some ⟨w.heap.size+1,0,none⟩),u 3,u 4,u 5,u 6,u 7,u 8,u 9,u 10,u 11,u 12,u 13,u 14,u 15,u 16,u 17,u 18,u 19,u 20,u 21,u 22,u 23,u 24,u 25,u 26,u 27,u 28,u 29,u 30,u 31,u 32,u 33,u 34,u 35,u 36,u 37,u 38,u 39,u 40,u 41,u 42,u 43,u 44,.slice po s.opn.length co,.int .i64 (s.opn.length:Int),.int .i64 (i:Int),u 48,u 49,u 50,u 51,u 52,u 53,u 54,u 55,u 56,u 57,u 58,u 59,u 60,u 61,u 62,u 63,u 64,u 65,u 66,u 67,u 68,u 69,u 70,u 71,u 72,u 73,u 74,u 75,u 76,u 77,u 78,u 79,u 80,u 81,u 82,u 83],defers:= []})/\i<=s.opn.length/\(∀j x,j<i->s.opn[j]? =some x->inOpnB s.floor x=true)
theorem check_in (s:SerT) (ps po:Option Addr) (cs co:Nat) (w:World) (hin:SerIn w s ps po):
  CallsIn Fence.wide 4 Tryz.prog 32 #[.agg (serA s ps cs po co)] w fun e w'=>e= .returned (.int .i64 (checkE s))/\Below w.heap.size w w':=by
 have hfS:=hin.fewS
 have hfO:=hin.fewO
 unfold serA
 refine callsIn_of_wp_marks Tryz.func32 rfl trivial ?_ rfl
 simp only[Tryz.ntmps32,List.size_toArray,List.length_cons,List.length_nil,Nat.reduceAdd,Nat.reduceSub,Array.replicate_succ,Array.replicate_zero,List.push_toArray,List.append_toArray,List.nil_append,List.cons_append]
 refine wpIn_wide.2 ?_
 have hNS:numsB s=(nameB s.name&&btw s.eps 0 1099511627776&&btw s.scale (-40) 40&&btw s.floor 0 281474976710656&&btw s.last (-1) 281474976710656):=by unfold numsB;simp[Bool.and_assoc]
 have c1:=fun W=>c_srNums s.name s.eps s.floor s.last s.scale ps po s.segs.length cs s.opn.length co W
 rw[<-hNS] at c1
 clear hNS
 obtain⟨N,hN⟩:∃N,numsB s=N:=⟨_,rfl⟩
 rw[hN] at c1
 have c2:=fun W (h:SerIn W s ps po)=>c_mgCheck ps cs s.segs W (by omega) h.segs
 obtain⟨E,hE⟩:∃E:Int,(if rowB (-1) s.segs=true then 0 else 240)=E:=⟨_,rfl⟩
 rw[hE] at c2
 obtain⟨RES,hRES⟩:∃z,checkE s=z:=⟨_,rfl⟩
 rw[hRES]
 replace hN:=Hd hN
 replace hE:=Hd hE
 replace c1:=Hd c1
 replace c2:=Hd c2
 replace hRES:=Hd hRES
 go_upto_region 1 with(fail)
 refine wp_facts (fun W'=>Below w.heap.size w W'/\Blk W' w.heap.size #[.string s.name,.int .i64 s.eps,.int .i64 s.floor,.int .i64 s.last,.int .i64 s.scale,.slice ps s.segs.length cs,.slice po s.opn.length co] 26/\Blk W' (w.heap.size+1) #[.int .i64 0] 27) ⟨by exact belowAny,by exact blkAny2,by exact blkAny2⟩ ?_
 rintro W1 ⟨hW,b1,b2⟩
 have z2:=hW.size
 have z3:=b1.lt
 have z4:=b2.lt
 refine wp_region_sq 15 84 [] (fun W'=>Rex [] W1 W'/\Blk W' w.heap.size #[.string s.name,.int .i64 s.eps,.int .i64 s.floor,.int .i64 s.last,.int .i64 s.scale,.slice ps s.segs.length cs,.slice po s.opn.length co] 26/\Blk W' (w.heap.size+1) #[.int .i64 0] 27) (by kernel_rfl) rfl ⟨(Rex.refl _ _),b1,b2⟩ (fun w w' ⟨h0,h1,h2⟩ hr=>⟨h0.trans hr,h1.rex hr (by simp<;>omega),h2.rex hr (by simp<;>omega)⟩) ?_
 iterate 1
  apply nd_det (hg:=rfl) (hal:=rfl)
  ·intro a W' hC hE
   obtain⟨_,k1,k2⟩:=hC
   have k1:=k1.cell
   first
    |(simp at hE;simp[go_sem,Act.eval,iw,hE,k1,k2];try rfl)
    |(clear hE;simp[go_sem,Act.eval,iw,k1,k2];try rfl)
 refine nd_callv2 rfl rfl (fun W' hC=>c1.out W') (fun a W' hC hE=> ?_) ?_
 ·obtain⟨_,k1,k2⟩:=hC
  have k1:=k1.cell
  first
   |(simp at hE;simp[go_sem,Act.eval,iw,hE,k1,k2];try rfl)
   |(clear hE;simp[go_sem,Act.eval,iw,k1,k2];try rfl)
 iterate 2
  apply nd_det (hg:=rfl) (hal:=rfl)
  ·intro a W' hC hE
   obtain⟨_,k1,k2⟩:=hC
   have k1:=k1.cell
   first
    |(simp at hE;simp[go_sem,Act.eval,iw,hE,k1,k2];try rfl)
    |(clear hE;simp[go_sem,Act.eval,iw,k1,k2];try rfl)
 iterate 2
  apply nd_detg (p:=true) (hg:=rfl) (hd:=rfl) (hal:=rfl)
  ·intro v W' h
   simp[envOf,Det,GDet] at h
   simp
   exact h
  ·intro hp hx a W' hC hE
   obtain⟨_,k1,k2⟩:=hC
   have k1:=k1.cell
   simp[hx] at hE
   simp[go_sem,Act.eval,iw,hE,k1,k2]
   try rfl
 apply nd_callvg2 (p:=true) (hg:=rfl) (hd:=rfl) (hal:=rfl)
 ·intro v W' h
  simp at h
  simp
  exact h
 ·intro hp hx W' hC
  exact c2.out W' (hin.below (hW.trans (hC.1.of_priv hW.size)))
 ·intro hp hx a W' hC hE
  obtain⟨_,k1,k2⟩:=hC
  have k1:=k1.cell
  first
   |(simp[hx] at hE;simp[go_sem,Act.eval,iw,hE,k1,k2];try rfl)
   |(clear hE;simp[go_sem,Act.eval,iw,k1,k2];try rfl)
 iterate 8
  first
  |(
   apply nd_detg (p:=true) (hg:=rfl) (hd:=rfl) (hal:=rfl)
   ·intro v W' h
    simp[envOf,Det,GDet] at h
    simp
    exact h
   ·intro hp hx a W' hC hE
    obtain⟨_,k1,k2⟩:=hC
    have k1:=k1.cell
    simp[hx] at hE
    simp[go_sem,Act.eval,iw,hE,k1,k2]
    try rfl)
  |(
   apply nd_pick_or (ho:=rfl) (hg:=rfl)
   ·intro v W' h
    simp at h
    exact h
   ·intro v W' h hx
    simp[hx] at h
    exact h)
  |(
   apply nd_det (hg:=rfl) (hal:=rfl)
   ·intro a W' hC hE
    obtain⟨_,k1,k2⟩:=hC
    have k1:=k1.cell
    first
     |(simp at hE;simp[go_sem,Act.eval,iw,hE,k1,k2];try rfl)
     |(clear hE;simp[go_sem,Act.eval,iw,k1,k2];try rfl))
 rintro W5 ⟨hR,d1,d2⟩
 simp only[ndFinR,Det,forall_eq]
 intros
 repeat (rename GDet _ _ _ _=>hgd;clear hgd)
 simp only[nS]
 refine wpList_nil ?_
 replace hW:=hW.trans (hR.of_priv hW.size)
 clear hR
 try clear b1 b2
 have b1:=d1
 clear d1
 have b2:=d2
 clear d2
 have k1:=b1.cell
 have f1:=b1.frozen
 have k2:=b2.cell
 have f2:=b2.frozen
 clear c1 c2
 have y1:=b1.lt
 have y2:=b2.lt
 obtain⟨F,hF⟩:∃F,(!N||E !=0||decide (32<=(s.opn.length:Int)))=F:=⟨_,rfl⟩
 rw[hF]
 simp only[Exit.then]
 cases F with
 |true=>
  replace hRES:=Hd (show RES=340 by
   rw[<-hRES.out];unfold checkE;rw[if_neg];intro hh
   unfold checkB at hh
   simp only[Bool.and_eq_true,decide_eq_true_eq] at hh
   have h1:=hN.out;have h2:=hE.out
   rw[hh.1] at h1
   rw[if_pos hh.2.1] at h2
   subst h1;subst h2
   simp at hF
   omega)
  clear hF
  go_wp2
  simp only[bodyPostM]
  have b9:Blk (W5.setCell ⟨w.heap.size+1,0,none⟩ (.int .i64 340)) (w.heap.size+1) #[.int .i64 340] 27:=blkAny2
  have k9:=b9.cell
  refine⟨.int .i64 340,by simp[results,Tryz.f32,go_sem,k9],by rw[hRES.out],belowAny⟩
 |false=>
  have hN1:N=true:=by cases N with|true=>rfl|false=>simp at hF
  have hE1:E=0:=by subst hN1;simp at hF;exact hF.1
  have hO1:s.opn.length<32:=by subst hN1;simp at hF;omega
  have hrow:rowB (-1) s.segs=true:=by
   have:=hE.out
   rw[hE1] at this
   cases h:rowB (-1) s.segs with
   |true=>rfl
   |false=>rw[h] at this;simp at this
  have hnum:numsB s=true:=by rw[hN.out,hN1]
  have hv:=Hd (rowB_seg hrow)
  replace hrow:=Hd hrow
  replace hnum:=Hd hnum
  clear hF hN hE hN1 hE1
  go_wp2
  refine wp_loop (ck1Rel w s ps po cs co) (fun a' _=>s.segs.length-(intAt (a'.tmps.getD 27 undef)).toNat) ?_ ?_
  ·unfold ck1Rel
   exact⟨hW,b1,b2,0,frame_ex rfl,Nat.zero_le _,fun j x hj=>by omega⟩
  ·clear b1 b2 k1 f1 k2 f2 y1 y2 hW
   rintro a' W ⟨hW0,b1,b2,i,⟨u,rfl⟩,hi',hall⟩
   have hz:=hW0.size
   have zb1:=b1.lt
   have zb2:=b2.lt
   replace hall:=Hd hall
   rcases Nat.lt_or_ge i s.segs.length with hlt|hge
   ·obtain⟨x,tr⟩:∃r,s.segs[i]? =some r:=⟨s.segs[i]'(by omega),List.getElem?_eq_getElem (by omega)⟩
    have hsx:=hv.out x (List.mem_of_getElem? tr)
    obtain⟨b,o,p',q',cp,vc,rfl,hs,hvc,q0,q1,q2,q3,q4,q5,q6,q7⟩:=(hin.below hW0).segs.one tr
    have c3:=fun W' (hW':Below W.heap.size W W')=>c_srLast x p' q' cp vc W' (hs.below hW') hsx
    unfold segA at c3
    obtain⟨L,hL⟩:∃L,lastT x.runs=L:=⟨_,rfl⟩
    rw[hL] at c3
    replace c3:=Hd c3
    replace hL:=Hd hL
    replace tr:=Hd tr
    clear hs hsx
    have k1:=b1.cell
    have f1:=b1.frozen
    have k2:=b2.cell
    have f2:=b2.frozen
    go_upto_region 6 with(fail)
    clear k1 f1 k2 f2
    refine wp_facts (fun W'=>Below W.heap.size W W'/\Blk W' w.heap.size #[.string s.name,.int .i64 s.eps,.int .i64 s.floor,.int .i64 s.last,.int .i64 s.scale,.slice (some ⟨b,o,none⟩) s.segs.length cs,.slice po s.opn.length co] 26/\Blk W' (w.heap.size+1) #[.int .i64 0] 27/\Blk W' W.heap.size #[.int .i64 x.K,.slice p' x.runs.length cp,.int .i64 x.A,.int .i64 x.R,.int .i64 x.n,.int .i64 x.d,.slice q' x.raw.length vc,.int .i64 x.E] 49) ⟨by exact belowAny,by exact blkAny2,by exact blkAny2,by exact blkAny2⟩ ?_
    clear b1 b2
    rintro W21 ⟨hW,b1,b2,b3⟩
    have z22:=hW.size
    have z23:=b1.lt
    have z24:=b2.lt
    have z25:=b3.lt
    refine wp_region_ndQ 12 84 [] (fun W'=>Rex [] W21 W'/\Blk W' w.heap.size #[.string s.name,.int .i64 s.eps,.int .i64 s.floor,.int .i64 s.last,.int .i64 s.scale,.slice (some ⟨b,o,none⟩) s.segs.length cs,.slice po s.opn.length co] 26/\Blk W' (w.heap.size+1) #[.int .i64 0] 27/\Blk W' W.heap.size #[.int .i64 x.K,.slice p' x.runs.length cp,.int .i64 x.A,.int .i64 x.R,.int .i64 x.n,.int .i64 x.d,.slice q' x.raw.length vc,.int .i64 x.E] 49) mixed (by kernel_rfl) rfl ⟨(Rex.refl _ _).drew,b1,b2,b3⟩ (fun w w' ⟨h0,h1,h2,h3⟩ hr=>⟨h0.trans hr,h1.rex hr (by simp<;>omega),h2.rex hr (by simp<;>omega),h3.rex hr (by simp<;>omega)⟩) rfl ?_
    iterate 6
     apply nd_det (hg:=rfl) (hal:=rfl)
     ·intro a W' hC hE
      obtain⟨_,k1,k2,k3⟩:=hC
      have k1:=k1.cell
      have k3:=k3.cell
      first
       |(simp at hE;simp[go_sem,Act.eval,iw,hE,k1,k2,k3];try rfl)
       |(clear hE;simp[go_sem,Act.eval,iw,k1,k2,k3];try rfl)
    iterate 1
     apply nd_detg (p:=true) (hg:=rfl) (hd:=rfl) (hal:=rfl)
     ·intro v W' h
      simp[envOf,Det,GDet] at h
      simp
      exact h
     ·intro hp hx a W' hC hE
      obtain⟨_,k1,k2,k3⟩:=hC
      have k1:=k1.cell
      have k3:=k3.cell
      simp[hx] at hE
      simp[go_sem,Act.eval,iw,hE,k1,k2,k3]
      try rfl
    apply nd_callvg2 (p:=true) (hg:=rfl) (hd:=rfl) (hal:=rfl)
    ·intro v W' h
     simp at h
     simp
     exact h
    ·intro hp hx W' hC
     exact c3.out W' (hW.trans (hC.1.of_priv hW.size))
    ·intro hp hx a W' hC hE
     obtain⟨_,k1,k2,k3⟩:=hC
     have k1:=k1.cell
     have k3:=k3.cell
     first
      |(simp[hx] at hE;simp[go_sem,Act.eval,iw,hE,k1,k2,k3];try rfl)
      |(clear hE;simp[go_sem,Act.eval,iw,k1,k2,k3];try rfl)
    iterate 3
     apply nd_detg (p:=true) (hg:=rfl) (hd:=rfl) (hal:=rfl)
     ·intro v W' h
      simp[envOf,Det,GDet] at h
      simp
      exact h
     ·intro hp hx a W' hC hE
      obtain⟨_,k1,k2,k3⟩:=hC
      have k1:=k1.cell
      have k3:=k3.cell
      simp[hx] at hE
      simp[go_sem,Act.eval,iw,hE,k1,k2,k3]
      try rfl
    apply nd_pick_or (ho:=rfl) (hg:=rfl)
    ·intro v W' h
     simp at h
     exact h
    ·intro v W' h hx
     simp[hx] at h
     exact h
    rintro W26 ⟨hR,d1,d2,d3⟩
    simp only[ndFinR,Det,forall_eq]
    intros
    repeat (rename GDet _ _ _ _=>hgd;clear hgd)
    simp only[nS]
    refine wpList_nil ?_
    replace hW:=hW.trans (hR.of_priv hW.size)
    clear hR
    try clear b1 b2 b3
    have b1:=d1
    clear d1
    have b2:=d2
    clear d2
    have b3:=d3
    clear d3
    have k1:=b1.cell
    have f1:=b1.frozen
    have k2:=b2.cell
    have f2:=b2.frozen
    have k3:=b3.cell
    have f3:=b3.frozen
    have y1:=b1.lt
    have y2:=b2.lt
    obtain⟨F,hF⟩:∃F,(decide (s.eps<x.E)||decide (L<s.floor))=F:=⟨_,rfl⟩
    rw[hF]
    simp only[Exit.then]
    have hin2:inSegB s.eps s.floor x= !F:=by
     rw[<-hF];unfold inSegB;rw[hL.out,Bool.eq_iff_iff];simp
    clear hF
    cases F with
    |true=>
     replace hRES:=Hd (show RES=340 by
      rw[<-hRES.out];unfold checkE;rw[if_neg];intro hh
      unfold checkB at hh
      simp only[Bool.and_eq_true,decide_eq_true_eq] at hh
      have:=List.all_eq_true.1 hh.2.2.2.1 x (List.mem_of_getElem? tr.out)
      rw[hin2] at this;cases this)
     clear hin2
     go_wp2
     simp only[bodyPostM]
     have b9:Blk (W26.setCell ⟨w.heap.size+1,0,none⟩ (.int .i64 340)) (w.heap.size+1) #[.int .i64 340] 27:=blkAny2
     have k9:=b9.cell
     refine⟨.int .i64 340,by simp[results,Tryz.f32,go_sem,k9],by rw[hRES.out],(hW0.trans (hW.mono hz)).setCell (by simp) _⟩
    |false=>
     replace hin2:=Hd hin2
     go_wp2
     rw[show (i:Int)+1=((i+1:Nat):Int) by omega]
     refine⟨?_,by simp[intAt];omega⟩
     unfold ck1Rel
     exact⟨hW0.trans (hW.mono hz),b1,b2,i+1,frame_ex rfl,by omega,fun j z hj hz=>by
      rcases Nat.lt_or_ge j i with h|h
      ·exact hall.out j z h hz
      ·obtain rfl:j=i:=by omega
       rw[tr.out] at hz
       injection hz with hz
       rw[<-hz];exact hin2.out⟩
   ·obtain rfl:i=s.segs.length:=by omega
    have hseg:=Hd (show s.segs.all (inSegB s.eps s.floor)=true by
     rw[List.all_eq_true]
     intro x hx
     obtain⟨k,hk⟩:=List.getElem?_of_mem hx
     exact hall.out k x (List.getElem?_eq_some_iff.1 hk).1 hk)
    clear hall
    have k1:=b1.cell
    go_wp2
    clear k1
    refine wp_loop (ck2Rel w s ps po cs co) (fun a' _=>s.opn.length-(intAt (a'.tmps.getD 47 undef)).toNat) ?_ ?_
    ·unfold ck2Rel
     exact⟨hW0,b1,b2,0,frame_ex rfl,Nat.zero_le _,fun j x hj=>by omega⟩
    ·clear b1 b2 zb1 zb2 hz hW0
     rintro a' W ⟨hW0,b1,b2,i,⟨u,rfl⟩,hi',hall⟩
     have hz:=hW0.size
     have zb1:=b1.lt
     have zb2:=b2.lt
     replace hall:=Hd hall
     rcases Nat.lt_or_ge i s.opn.length with hlt|hge
     ·obtain⟨⟨t,v⟩,tr⟩:∃r,s.opn[i]? =some r:=⟨s.opn[i]'(by omega),List.getElem?_eq_getElem (by omega)⟩
      obtain⟨b,o,rfl,q0,q1⟩:=(hin.below hW0).opn.at' i _ tr
      simp only at q0 q1
      obtain⟨B5,hB5⟩:∃B,btw t s.floor 281474976710656=B:=⟨_,rfl⟩
      obtain⟨B6,hB6⟩:∃B,btw v (-2305843009213693952) 2305843009213693952=B:=⟨_,rfl⟩
      have c5:=fun W=>c_srBtw t s.floor 281474976710656 W
      have c6:=fun W=>c_srBtw v (-2305843009213693952) 2305843009213693952 W
      rw[hB5] at c5
      rw[hB6] at c6
      have hin2:inOpnB s.floor (t,v)=(B5&&B6):=by rw[<-hB5,<-hB6];rfl
      replace c5:=Hd c5
      replace c6:=Hd c6
      replace tr:=Hd tr
      clear hB5 hB6
      have k1:=b1.cell
      have f1:=b1.frozen
      have k2:=b2.cell
      have f2:=b2.frozen
      go_upto_region 12 with(fail)
      clear k1 f1 k2 f2
      refine wp_facts (fun W'=>Below W.heap.size W W'/\Blk W' w.heap.size #[.string s.name,.int .i64 s.eps,.int .i64 s.floor,.int .i64 s.last,.int .i64 s.scale,.slice ps s.segs.length cs,.slice (some ⟨b,o,none⟩) s.opn.length co] 26/\Blk W' (w.heap.size+1) #[.int .i64 0] 27/\Blk W' W.heap.size #[.int .i64 t,.int .i64 v] 53) ⟨by exact belowAny,by exact blkAny2,by exact blkAny2,by exact blkAny2⟩ ?_
      clear b1 b2
      rintro W21 ⟨hW,b1,b2,b3⟩
      have z22:=hW.size
      have z23:=b1.lt
      have z24:=b2.lt
      have z25:=b3.lt
      refine wp_region_sq 12 84 [] (fun W'=>Rex [] W21 W'/\Blk W' w.heap.size #[.string s.name,.int .i64 s.eps,.int .i64 s.floor,.int .i64 s.last,.int .i64 s.scale,.slice ps s.segs.length cs,.slice (some ⟨b,o,none⟩) s.opn.length co] 26/\Blk W' (w.heap.size+1) #[.int .i64 0] 27/\Blk W' W.heap.size #[.int .i64 t,.int .i64 v] 53) (by kernel_rfl) rfl ⟨(Rex.refl _ _),b1,b2,b3⟩ (fun w w' ⟨h0,h1,h2,h3⟩ hr=>⟨h0.trans hr,h1.rex hr (by simp<;>omega),h2.rex hr (by simp<;>omega),h3.rex hr (by simp<;>omega)⟩) ?_
      iterate 4
       apply nd_det (hg:=rfl) (hal:=rfl)
       ·intro a W' hC hE
        obtain⟨_,k1,k2,k3⟩:=hC
        have k1:=k1.cell
        have k3:=k3.cell
        first
         |(simp at hE;simp[go_sem,Act.eval,iw,hE,k1,k2,k3];try rfl)
         |(clear hE;simp[go_sem,Act.eval,iw,k1,k2,k3];try rfl)
      refine nd_callv2 rfl rfl (fun W' hC=>c5.out W') (fun a W' hC hE=> ?_) ?_
      ·obtain⟨_,k1,k2,k3⟩:=hC
       have k1:=k1.cell
       have k3:=k3.cell
       first
        |(simp at hE;simp[go_sem,Act.eval,iw,hE,k1,k2,k3];try rfl)
        |(clear hE;simp[go_sem,Act.eval,iw,k1,k2,k3];try rfl)
      iterate 2
       apply nd_det (hg:=rfl) (hal:=rfl)
       ·intro a W' hC hE
        obtain⟨_,k1,k2,k3⟩:=hC
        have k1:=k1.cell
        have k3:=k3.cell
        first
         |(simp at hE;simp[go_sem,Act.eval,iw,hE,k1,k2,k3];try rfl)
         |(clear hE;simp[go_sem,Act.eval,iw,k1,k2,k3];try rfl)
      iterate 2
       apply nd_detg (p:=true) (hg:=rfl) (hd:=rfl) (hal:=rfl)
       ·intro v W' h
        simp[envOf,Det,GDet] at h
        simp
        exact h
       ·intro hp hx a W' hC hE
        obtain⟨_,k1,k2,k3⟩:=hC
        have k1:=k1.cell
        have k3:=k3.cell
        simp[hx] at hE
        simp[go_sem,Act.eval,iw,hE,k1,k2,k3]
        try rfl
      apply nd_callvg2 (p:=true) (hg:=rfl) (hd:=rfl) (hal:=rfl)
      ·intro v W' h
       simp at h
       simp
       exact h
      ·intro hp hx W' hC
       exact c6.out W'
      ·intro hp hx a W' hC hE
       obtain⟨_,k1,k2,k3⟩:=hC
       have k1:=k1.cell
       have k3:=k3.cell
       first
        |(simp[hx] at hE;simp[go_sem,Act.eval,iw,hE,k1,k2,k3];try rfl)
        |(clear hE;simp[go_sem,Act.eval,iw,k1,k2,k3];try rfl)
      iterate 1
       apply nd_detg (p:=true) (hg:=rfl) (hd:=rfl) (hal:=rfl)
       ·intro v W' h
        simp[envOf,Det,GDet] at h
        simp
        exact h
       ·intro hp hx a W' hC hE
        obtain⟨_,k1,k2,k3⟩:=hC
        have k1:=k1.cell
        have k3:=k3.cell
        simp[hx] at hE
        simp[go_sem,Act.eval,iw,hE,k1,k2,k3]
        try rfl
      apply nd_pick_or (ho:=rfl) (hg:=rfl)
      ·intro v W' h
       simp at h
       exact h
      ·intro v W' h hx
       simp[hx] at h
       exact h
      rintro W26 ⟨hR,d1,d2,d3⟩
      simp only[ndFinR,Det,forall_eq]
      intros
      repeat (rename GDet _ _ _ _=>hgd;clear hgd)
      simp only[nS]
      refine wpList_nil ?_
      replace hW:=hW.trans (hR.of_priv hW.size)
      clear hR
      try clear b1 b2 b3
      have b1:=d1
      clear d1
      have b2:=d2
      clear d2
      have b3:=d3
      clear d3
      have k1:=b1.cell
      have f1:=b1.frozen
      have k2:=b2.cell
      have f2:=b2.frozen
      have k3:=b3.cell
      have f3:=b3.frozen
      have y1:=b1.lt
      have y2:=b2.lt
      obtain⟨F,hF⟩:∃F,(!B5|| !B6)=F:=⟨_,rfl⟩
      rw[hF]
      simp only[Exit.then]
      cases F with
      |true=>
       replace hRES:=Hd (show RES=340 by
        rw[<-hRES.out];unfold checkE;rw[if_neg];intro hh
        unfold checkB at hh
        simp only[Bool.and_eq_true,decide_eq_true_eq] at hh
        have:=List.all_eq_true.1 hh.2.2.2.2.1 (t,v) (List.mem_of_getElem? tr.out)
        rw[hin2] at this
        cases B5<;>cases B6<;>simp at hF this)
       clear hin2 hF
       go_wp2
       simp only[bodyPostM]
       have b9:Blk (W26.setCell ⟨w.heap.size+1,0,none⟩ (.int .i64 340)) (w.heap.size+1) #[.int .i64 340] 27:=blkAny2
       have k9:=b9.cell
       refine⟨.int .i64 340,by simp[results,Tryz.f32,go_sem,k9],by rw[hRES.out],(hW0.trans (hW.mono hz)).setCell (by simp) _⟩
      |false=>
       replace hin2:=Hd (show inOpnB s.floor (t,v)=true by rw[hin2];cases B5<;>cases B6<;>simp at hF⊢)
       clear hF
       go_wp2
       rw[show (i:Int)+1=((i+1:Nat):Int) by omega]
       refine⟨?_,by simp[intAt];omega⟩
       unfold ck2Rel
       exact⟨hW0.trans (hW.mono hz),b1,b2,i+1,frame_ex rfl,by omega,fun j z hj hz=>by
        rcases Nat.lt_or_ge j i with h|h
        ·exact hall.out j z h hz
        ·obtain rfl:j=i:=by omega
         rw[tr.out] at hz
         injection hz with hz
         rw[<-hz];exact hin2.out⟩
     ·obtain rfl:i=s.opn.length:=by omega
      have hopn:=Hd (show s.opn.all (inOpnB s.floor)=true by
       rw[List.all_eq_true]
       intro x hx
       obtain⟨k,hk⟩:=List.getElem?_of_mem hx
       exact hall.out k x (List.getElem?_eq_some_iff.1 hk).1 hk)
      clear hall
      have k1:=b1.cell
      go_wp2_with fail
      refine(c_srTimes _ _ _ _ _ _ _ _ _ _ _ _).mono ?_
      rintro e w' ⟨rfl,rfl⟩
      clear k1
      have c1:Below w.heap.size w ((W.alloc (.cells #[.int .i64 (-1)] 2)).alloc (.cells #[.string s.name,.int .i64 s.eps,.int .i64 s.floor,.int .i64 s.last,.int .i64 s.scale,.slice ps s.segs.length cs,.slice po s.opn.length co] 26)):=belowAny
      have d1:Blk ((W.alloc (.cells #[.int .i64 (-1)] 2)).alloc (.cells #[.string s.name,.int .i64 s.eps,.int .i64 s.floor,.int .i64 s.last,.int .i64 s.scale,.slice ps s.segs.length cs,.slice po s.opn.length co] 26)) w.heap.size #[.string s.name,.int .i64 s.eps,.int .i64 s.floor,.int .i64 s.last,.int .i64 s.scale,.slice ps s.segs.length cs,.slice po s.opn.length co] 26:=blkAny2
      have d2:Blk ((W.alloc (.cells #[.int .i64 (-1)] 2)).alloc (.cells #[.string s.name,.int .i64 s.eps,.int .i64 s.floor,.int .i64 s.last,.int .i64 s.scale,.slice ps s.segs.length cs,.slice po s.opn.length co] 26)) (w.heap.size+1) #[.int .i64 0] 27:=blkAny2
      have d3:Blk ((W.alloc (.cells #[.int .i64 (-1)] 2)).alloc (.cells #[.string s.name,.int .i64 s.eps,.int .i64 s.floor,.int .i64 s.last,.int .i64 s.scale,.slice ps s.segs.length cs,.slice po s.opn.length co] 26)) W.heap.size #[.int .i64 (-1)] 2:=blkAny2
      have d4:Blk ((W.alloc (.cells #[.int .i64 (-1)] 2)).alloc (.cells #[.string s.name,.int .i64 s.eps,.int .i64 s.floor,.int .i64 s.last,.int .i64 s.scale,.slice ps s.segs.length cs,.slice po s.opn.length co] 26)) (W.heap.size+1) #[.string s.name,.int .i64 s.eps,.int .i64 s.floor,.int .i64 s.last,.int .i64 s.scale,.slice ps s.segs.length cs,.slice po s.opn.length co] 26:=Blk.new' (by simp)
      have hsz:((W.alloc (.cells #[.int .i64 (-1)] 2)).alloc (.cells #[.string s.name,.int .i64 s.eps,.int .i64 s.floor,.int .i64 s.last,.int .i64 s.scale,.slice ps s.segs.length cs,.slice po s.opn.length co] 26)).heap.size=W.heap.size+1+1:=by simp
      simp only[World.size_alloc]
      obtain⟨W0,hWe⟩:∃W0,W0=((W.alloc (.cells #[.int .i64 (-1)] 2)).alloc (.cells #[.string s.name,.int .i64 s.eps,.int .i64 s.floor,.int .i64 s.last,.int .i64 s.scale,.slice ps s.segs.length cs,.slice po s.opn.length co] 26)):=⟨_,rfl⟩
      rw[<-hWe] at c1 d1 d2 d3 d4 hsz⊢
      clear hWe hW0
      go_wp2
      refine(wpIn_wide (n:=4)).1 ?_
      refine wpIn_rangeFunc_ownG rfl (by omega) (gf:=110) (lb:= #[.pointer (some ⟨W.heap.size+1,0,none⟩)]) rfl trivial (enters_of Tryz.func110 (by kernel_rfl) rfl)
       (encs:=fun x:Int=> #[Value.int .i64 x]) (Kp:=KF w.heap.size (W.heap.size+1)) (S:=fun ys=>ys=timesS s) (Sp:=fun pre=>pre<+:timesS s) (N:=(timesS s).length) (w0:=W0)
       (fun lr J Jx Wx hWW hJ _ hY h0=>srTimes1_in 3 (by omega) lr (W.heap.size+1) (W.heap.size+1) s ps po cs co w hin hv.out (by omega) (Nat.le_refl _) J Jx _ hJ hY Wx (c1.trans (hWW.mono c1.size)) (d4.below hWW) h0)
       (fun h k=>h.trans k) (KF.putObj (by omega)) (Below.refl _ _) (fun _=>rfl)
       (fun pre Wx=>((Blk Wx w.heap.size #[.string s.name,.int .i64 s.eps,.int .i64 s.floor,.int .i64 s.last,.int .i64 s.scale,.slice ps s.segs.length cs,.slice po s.opn.length co] 26/\Blk Wx (w.heap.size+1) #[.int .i64 0] 27)/\Blk Wx W.heap.size #[.int .i64 (lastOr (-1) pre)] 2)/\(riseB (-1) pre=true)/\Below w.heap.size w Wx)
       (fun c pre Wx=>Blk Wx (w.heap.size+1) #[.int .i64 340] 27/\(c= .ret/\riseB (-1) pre=false)/\Below w.heap.size w Wx)
       (OwnFrom.and (OwnFrom.and (OwnFrom.and (Own.from (blk_own _ _ _) _) (Own.from (blk_own _ _ _) _)) (Own.from (blk_own _ _ _) _)) (OwnFrom.and (ownFrom_pure _ _) (ownFrom_below (Nat.le_refl _) (by omega))))
       (fun c=>OwnFrom.and (Own.from (blk_own _ _ _) _) (OwnFrom.and (ownFrom_pure _ _) (ownFrom_below (Nat.le_refl _) (by omega))))
       ⟨⟨⟨d1,d2⟩,d3⟩,rfl,c1⟩
       ?a1 ?assign ?body ?done ?stop
      case assign=>
       intro l x Wx K hK
       gi_wp2
       exact hK
      case body=>
       rintro l pre x Wx ⟨⟨⟨i1,i2⟩,i3⟩,i4,i5⟩ hlt
       have hz5:=i5.size
       have y1:=i1.lt
       have y2:=i2.lt
       have y3:=i3.lt
       have k2:=i2.cell
       have f2:=i2.frozen
       have k3:=i3.cell
       have f3:=i3.frozen
       obtain⟨A,hA⟩:∃A,lastOr (-1) pre=A:=⟨_,rfl⟩
       have hr:=Hd (riseB_snoc pre (-1) x)
       have hl:=Hd (lastOr_snoc pre (-1) x)
       rw[hA] at i3 k3
       by_cases hlt2:A<x
       ·have hr2:=Hd (show riseB (-1) (pre++ [x])=true by rw[hr.out,i4,hA];simp[hlt2])
        clear hA i4
        gi_wp2
        exact⟨KeepsOthers.from (keepsAny) _,kfAny,⟨⟨⟨blkAny2,blkAny2⟩,by rw[hl.out];exact blkAny2⟩,hr2.out,belowAny⟩⟩
       ·have hr2:=Hd (show riseB (-1) (pre++ [x])=false by rw[hr.out,hA];simp[hlt2])
        have hle:x<=A:=by omega
        clear hA i4 hlt2
        gi_wp2
        exact⟨KeepsOthers.from (keepsAny) _,⟨blkAny2,⟨rfl,hr2.out⟩,belowAny⟩⟩
      case done=>
       rintro D ys Wx hD rfl ⟨⟨⟨i1,i2⟩,i3⟩,i4,i5⟩ hK
       have hz5:=i5.size
       have y1:=i1.lt
       have y2:=i2.lt
       have y3:=i3.lt
       have k1:=i1.cell
       have k2:=i2.cell
       have f2:=i2.frozen
       have k3:=i3.cell
       have hrise:=Hd i4
       clear i4
       obtain⟨A,hA⟩:∃A,lastOr (-1) (timesS s)=A:=⟨_,rfl⟩
       rw[hA] at i3 k3
       replace hA:=Hd hA
       have hck:=Hd (show checkB s=(lastB s&&decide (keptN s<=1024)) by
        unfold checkB
        rw[hnum.out,hrow.out,hseg.out,hopn.out,hrise.out,decide_eq_true hO1]
        simp)
       simp only[Exit.inBlock,Exit.then]
       by_cases hlast:0<=A/\s.last≠A
       ·replace hRES:=Hd (show RES=340 by
         rw[<-hRES.out];unfold checkE;rw[if_neg];rw[hck.out];intro hh
         rw[Bool.and_eq_true] at hh
         have:=hh.1
         unfold lastB at this
         rw[hA.out] at this
         simp at this
         omega)
        obtain⟨h0,h1⟩:=hlast
        have h1:(s.last !=A)=true:=by simpa using h1
        go_wp2
        have b9:Blk (Wx.setCell ⟨w.heap.size+1,0,none⟩ (.int .i64 340)) (w.heap.size+1) #[.int .i64 340] 27:=blkAny2
        have hK9:(Wx.setCell ⟨w.heap.size+1,0,none⟩ (.int .i64 340)).heap[D]? =some (.deferred (some [])):=(keepsAny:KeepsOthers _ (Wx.setCell ⟨w.heap.size+1,0,none⟩ (.int .i64 340))).same D _ hK rfl
        have hB9:Below w.heap.size w (Wx.setCell ⟨w.heap.size+1,0,none⟩ (.int .i64 340)):=belowAny
        simp only[bodyPostM]
        refine⟨by simp,.inl ⟨_,_,rfl,run_takeDeferred hK9,?_⟩⟩
        have hc9:=cell_kept (by simpa using b9.cell 0) (grownBy_putObj' (Wx.setCell ⟨w.heap.size+1,0,none⟩ (.int .i64 340)) D (.deferred none)) (fun r e=>by cases e;exact⟨_,hK9,rfl⟩)
        refine⟨.int .i64 340,by simp[results,Tryz.f32,go_sem,hc9],by rw[hRES.out],hB9.trans (belowK_b (w:=w) (Nat.le_refl _) (Wx.setCell ⟨w.heap.size+1,0,none⟩ (.int .i64 340)) D _ _ (by omega) hK9 rfl rfl)⟩
       ·have hlb:=Hd (show lastB s=true by
         unfold lastB
         rw[hA.out]
         simp
         omega)
        have ckk:=fun W (hW:Below Wx.heap.size Wx W)=>c_srKept s ps po cs co W (hin.below (i5.trans (hW.mono hz5))) hv.out
        unfold serA at ckk
        have hkn:keptN s<=25700:=Nat.le_trans (List.length_filter_le _ _) (times_few hin hv.out)
        obtain⟨KN,hKN⟩:∃z,keptN s=z:=⟨_,rfl⟩
        rw[hKN] at ckk hkn
        replace hKN:=Hd hKN
        replace ckk:=Hd ckk
        by_cases h0:0<=A
        ·have h1:(s.last !=A)=false:=by simp;omega
         clear hlast
         go_wp2_with fail
         refine(ckk.out _ belowAny).mono ?_
         rintro e w3 ⟨rfl,hb3⟩
         have j1:=i1.below hb3
         have j2:=i2.below hb3
         have hK3:w3.heap[D]? =some (.deferred (some [])):=(hb3.block D (lt_of_heap hK)).trans hK
         have hB3:=i5.trans (hb3.mono hz5)
         have z3':=hB3.size
         have y2':=j2.lt
         have k2':=j2.cell
         have f2':=j2.frozen
         clear i1 i2 i3 i5 hK ckk k1 k2 f2 k3 y1 y2 y3
         have hK:=hK3
         clear hK3 hb3
         by_cases hkn2:KN<=1024
         ·replace hRES:=Hd (show RES=0 by
           rw[<-hRES.out];unfold checkE;rw[if_pos];rw[hck.out,hlb.out,hKN.out];simp[hkn2])
          go_wp2
          have b9:Blk (w3.setCell ⟨w.heap.size+1,0,none⟩ (.int .i64 0)) (w.heap.size+1) #[.int .i64 0] 27:=blkAny2
          have hK9:(w3.setCell ⟨w.heap.size+1,0,none⟩ (.int .i64 0)).heap[D]? =some (.deferred (some [])):=(keepsAny:KeepsOthers _ (w3.setCell ⟨w.heap.size+1,0,none⟩ (.int .i64 0))).same D _ hK rfl
          have hB9:Below w.heap.size w (w3.setCell ⟨w.heap.size+1,0,none⟩ (.int .i64 0)):=belowAny
          simp only[bodyPostM]
          refine⟨by simp,.inl ⟨_,_,rfl,run_takeDeferred hK9,?_⟩⟩
          have hc9:=cell_kept (by simpa using b9.cell 0) (grownBy_putObj' (w3.setCell ⟨w.heap.size+1,0,none⟩ (.int .i64 0)) D (.deferred none)) (fun r e=>by cases e;exact⟨_,hK9,rfl⟩)
          refine⟨.int .i64 0,by simp[results,Tryz.f32,go_sem,hc9],by rw[hRES.out],hB9.trans (belowK_b (w:=w) (Nat.le_refl _) (w3.setCell ⟨w.heap.size+1,0,none⟩ (.int .i64 0)) D _ _ (by omega) hK9 rfl rfl)⟩
         ·replace hRES:=Hd (show RES=340 by
           rw[<-hRES.out];unfold checkE;rw[if_neg];rw[hck.out,hlb.out,hKN.out];simp[hkn2])
          have hkn3:1024<KN:=by omega
          clear hkn2
          go_wp2
          have b9:Blk (w3.setCell ⟨w.heap.size+1,0,none⟩ (.int .i64 340)) (w.heap.size+1) #[.int .i64 340] 27:=blkAny2
          have hK9:(w3.setCell ⟨w.heap.size+1,0,none⟩ (.int .i64 340)).heap[D]? =some (.deferred (some [])):=(keepsAny:KeepsOthers _ (w3.setCell ⟨w.heap.size+1,0,none⟩ (.int .i64 340))).same D _ hK rfl
          have hB9:Below w.heap.size w (w3.setCell ⟨w.heap.size+1,0,none⟩ (.int .i64 340)):=belowAny
          simp only[bodyPostM]
          refine⟨by simp,.inl ⟨_,_,rfl,run_takeDeferred hK9,?_⟩⟩
          have hc9:=cell_kept (by simpa using b9.cell 0) (grownBy_putObj' (w3.setCell ⟨w.heap.size+1,0,none⟩ (.int .i64 340)) D (.deferred none)) (fun r e=>by cases e;exact⟨_,hK9,rfl⟩)
          refine⟨.int .i64 340,by simp[results,Tryz.f32,go_sem,hc9],by rw[hRES.out],hB9.trans (belowK_b (w:=w) (Nat.le_refl _) (w3.setCell ⟨w.heap.size+1,0,none⟩ (.int .i64 340)) D _ _ (by omega) hK9 rfl rfl)⟩
        ·have h0':A<0:=by omega
         clear hlast h0
         go_wp2_with fail
         refine(ckk.out _ belowAny).mono ?_
         rintro e w3 ⟨rfl,hb3⟩
         have j1:=i1.below hb3
         have j2:=i2.below hb3
         have hK3:w3.heap[D]? =some (.deferred (some [])):=(hb3.block D (lt_of_heap hK)).trans hK
         have hB3:=i5.trans (hb3.mono hz5)
         have z3':=hB3.size
         have y2':=j2.lt
         have k2':=j2.cell
         have f2':=j2.frozen
         clear i1 i2 i3 i5 hK ckk k1 k2 f2 k3 y1 y2 y3
         have hK:=hK3
         clear hK3 hb3
         by_cases hkn2:KN<=1024
         ·replace hRES:=Hd (show RES=0 by
           rw[<-hRES.out];unfold checkE;rw[if_pos];rw[hck.out,hlb.out,hKN.out];simp[hkn2])
          go_wp2
          have b9:Blk (w3.setCell ⟨w.heap.size+1,0,none⟩ (.int .i64 0)) (w.heap.size+1) #[.int .i64 0] 27:=blkAny2
          have hK9:(w3.setCell ⟨w.heap.size+1,0,none⟩ (.int .i64 0)).heap[D]? =some (.deferred (some [])):=(keepsAny:KeepsOthers _ (w3.setCell ⟨w.heap.size+1,0,none⟩ (.int .i64 0))).same D _ hK rfl
          have hB9:Below w.heap.size w (w3.setCell ⟨w.heap.size+1,0,none⟩ (.int .i64 0)):=belowAny
          simp only[bodyPostM]
          refine⟨by simp,.inl ⟨_,_,rfl,run_takeDeferred hK9,?_⟩⟩
          have hc9:=cell_kept (by simpa using b9.cell 0) (grownBy_putObj' (w3.setCell ⟨w.heap.size+1,0,none⟩ (.int .i64 0)) D (.deferred none)) (fun r e=>by cases e;exact⟨_,hK9,rfl⟩)
          refine⟨.int .i64 0,by simp[results,Tryz.f32,go_sem,hc9],by rw[hRES.out],hB9.trans (belowK_b (w:=w) (Nat.le_refl _) (w3.setCell ⟨w.heap.size+1,0,none⟩ (.int .i64 0)) D _ _ (by omega) hK9 rfl rfl)⟩
         ·replace hRES:=Hd (show RES=340 by
           rw[<-hRES.out];unfold checkE;rw[if_neg];rw[hck.out,hlb.out,hKN.out];simp[hkn2])
          have hkn3:1024<KN:=by omega
          clear hkn2
          go_wp2
          have b9:Blk (w3.setCell ⟨w.heap.size+1,0,none⟩ (.int .i64 340)) (w.heap.size+1) #[.int .i64 340] 27:=blkAny2
          have hK9:(w3.setCell ⟨w.heap.size+1,0,none⟩ (.int .i64 340)).heap[D]? =some (.deferred (some [])):=(keepsAny:KeepsOthers _ (w3.setCell ⟨w.heap.size+1,0,none⟩ (.int .i64 340))).same D _ hK rfl
          have hB9:Below w.heap.size w (w3.setCell ⟨w.heap.size+1,0,none⟩ (.int .i64 340)):=belowAny
          simp only[bodyPostM]
          refine⟨by simp,.inl ⟨_,_,rfl,run_takeDeferred hK9,?_⟩⟩
          have hc9:=cell_kept (by simpa using b9.cell 0) (grownBy_putObj' (w3.setCell ⟨w.heap.size+1,0,none⟩ (.int .i64 340)) D (.deferred none)) (fun r e=>by cases e;exact⟨_,hK9,rfl⟩)
          refine⟨.int .i64 340,by simp[results,Tryz.f32,go_sem,hc9],by rw[hRES.out],hB9.trans (belowK_b (w:=w) (Nat.le_refl _) (w3.setCell ⟨w.heap.size+1,0,none⟩ (.int .i64 340)) D _ _ (by omega) hK9 rfl rfl)⟩
      case stop=>
       rintro D c pre Wx hD hpre ⟨i2,⟨rfl,i4⟩,i5⟩ hK
       have hz5:=i5.size
       have y2:=i2.lt
       replace hRES:=Hd (show RES=340 by
        rw[<-hRES.out];unfold checkE;rw[if_neg];intro hh
        unfold checkB at hh
        simp only[Bool.and_eq_true,decide_eq_true_eq] at hh
        have:=hh.2.2.2.2.2.1
        rw[riseB_prefix hpre _ i4] at this
        cases this)
       clear i4
       gi_wp2
       have b9:=i2
       have hK9:=hK
       have hB9:Below w.heap.size w Wx:=belowAny
       simp only[bodyPostM]
       refine⟨by simp,.inl ⟨_,_,rfl,run_takeDeferred hK9,?_⟩⟩
       have hc9:=cell_kept (by simpa using b9.cell 0) (grownBy_putObj' Wx D (.deferred none)) (fun r e=>by cases e;exact⟨_,hK9,rfl⟩)
       refine⟨.int .i64 340,by simp[results,Tryz.f32,go_sem,hc9],by rw[hRES.out],hB9.trans (belowK_b (w:=w) (Nat.le_refl _) Wx D _ _ (by omega) hK9 rfl rfl)⟩
theorem c_srCheck (s:SerT) (ps po:Option Addr) (cs co:Nat) (w:World) (hin:SerIn w s ps po):
  Cb 32 #[.agg (serA s ps cs po co)] w (.int .i64 (checkE s)):=callsIn_wide.1 (check_in s ps po cs co w hin)
end Go.Proofs.YtpdhdjlhicceoaaGreatDoor
namespace Go.Proofs.YtpdhdjlhicceoaaGreatDoor
open Go.RowKit
theorem pow_lt2 (j k:Nat) (h:j<k):(2:Nat)^j<2^k:=Nat.pow_lt_pow_right (by omega) h
theorem lt_pow2 {a:Nat} (j k:Nat) (h:a<2^j) (hjk:j<=k):a<2^k:=Nat.lt_of_lt_of_le h (Nat.pow_le_pow_right (by omega) hjk)
theorem twice_pow {a:Nat} (j k:Nat) (h:a<2^j) (hjk:j+1<=k):2*a<2^k:=
 Nat.lt_of_lt_of_le (Nat.mul_lt_mul_of_pos_left h (by omega)) (by rw[<-Nat.pow_succ'];exact Nat.pow_le_pow_right (by omega) hjk)
def valD:List Int->Nat
 | []=>0
 |d::l=>d.toNat+2*valD l
def Dig (l:List Int):Prop:=∀d,d∈l->d=0∨d=1
def Canon (l:List Int):Prop:=l= []∨2^(l.length-1)<=valD l
theorem Dig.nil :Dig []:=fun d h=>by simp at h
theorem Dig.snoc {l:List Int} {d:Int} (h:Dig l) (hd:d=0∨d=1):Dig (l++ [d]):=fun x hx=>by
 rcases List.mem_append.1 hx with h1|h1
 ·exact h x h1
 ·simp at h1;subst h1;exact hd
theorem Dig.cons {l:List Int} {d:Int} (h:Dig l) (hd:d=0∨d=1):Dig (d::l):=fun x hx=>by
 rcases List.mem_cons.1 hx with h1|h1
 ·subst h1;exact hd
 ·exact h x h1
theorem Dig.take {l:List Int} (h:Dig l) (k:Nat):Dig (l.take k):=fun x hx=>h x (List.mem_of_mem_take hx)
theorem Dig.drop {l:List Int} (h:Dig l) (k:Nat):Dig (l.drop k):=fun x hx=>h x (List.mem_of_mem_drop hx)
theorem Dig.at {l:List Int} (h:Dig l) {k:Nat} {d:Int} (hk:l[k]? =some d):d=0∨d=1:=h d (List.mem_of_getElem? hk)
theorem valD_append :∀(a b:List Int),valD (a++b)=valD a+2^a.length*valD b
 | [],b=>by simp[valD]
 |d::a,b=>by
  simp only[List.cons_append,valD,List.length_cons,valD_append a b]
  rw[Nat.pow_succ,Nat.mul_add,Nat.mul_comm (2^a.length) 2,Nat.mul_assoc]
  omega
theorem valD_snoc (a:List Int) (d:Int):valD (a++ [d])=valD a+2^a.length*d.toNat:=by rw[valD_append];simp[valD]
theorem valD_take {l:List Int} {k:Nat} {d:Int} (hk:l[k]? =some d):valD (l.take (k+1))=valD (l.take k)+2^k*d.toNat:=by
 have hlt:=(List.getElem?_eq_some_iff.1 hk).1
 rw[List.take_add_one,hk]
 show valD (l.take k++ [d])=_
 rw[valD_snoc,List.length_take,Nat.min_eq_left (by omega)]
theorem valD_lt :∀(l:List Int),Dig l->valD l<2^l.length
 | [],_=>by simp[valD]
 |d::l,h=>by
  have ih:=valD_lt l fun x hx=>h x (by simp[hx])
  have hd:=h d (by simp)
  simp only[valD,List.length_cons,Nat.pow_succ]
  rcases hd with rfl|rfl<;>simp<;>omega
theorem valD_all (l:List Int) {k:Nat} (h:l.length<=k):valD (l.take k)=valD l:=by rw[List.take_of_length_le h]
theorem Canon.nil :Canon []:= .inl rfl
theorem canon_snoc_one (l:List Int):Canon (l++ [1]):= .inr (by rw[valD_snoc];simp)
theorem canon_pos {l:List Int} (h:Canon l) (hl:l≠ []):2^(l.length-1)<=valD l:=by
 rcases h with h|h
 ·exact absurd h hl
 ·exact h
theorem less_len {a b:List Int} (ha:Dig a) (hb:Canon b) (h:a.length<b.length):valD a<valD b:=by
 have h1:=valD_lt a ha
 have h2:=canon_pos hb (by rintro rfl;simp at h)
 have h3:2^a.length<=2^(b.length-1):=Nat.pow_le_pow_right (by omega) (by omega)
 omega
theorem valD_split {l:List Int} {k:Nat} (hk:k<=l.length):valD l=valD (l.take k)+2^k*valD (l.drop k):=by
 conv=>lhs;rw[<-List.take_append_drop k l]
 rw[valD_append,List.length_take,Nat.min_eq_left hk]
theorem less_at {a b:List Int} (ha:Dig a) (hb:Dig b) (hl:a.length=b.length) {k:Nat} {x y:Int} (hx:a[k]? =some x) (hy:b[k]? =some y) (hd:a.drop (k+1)=b.drop (k+1)) (h:x<y):valD a<valD b:=by
 have hk:=(List.getElem?_eq_some_iff.1 hx).1
 have e1:=valD_split (l:=a) (k:=k+1) (by omega)
 have e2:=valD_split (l:=b) (k:=k+1) (by omega)
 rw[hd] at e1
 have t1:=valD_take hx
 have t2:=valD_take hy
 have b1:=valD_lt (a.take k) (ha.take k)
 rw[List.length_take,Nat.min_eq_left (by omega)] at b1
 have dx:=ha.at hx
 have dy:=hb.at hy
 have x0:x=0:=by omega
 have y1:y=1:=by omega
 subst x0;subst y1
 simp at t1 t2
 omega
structure DigsIn (w:World) (p:Option Addr) (l:List Int):Prop where
 at':∀(i:Nat) (x:Int),l[i]? =some x->∃b o,p=some ⟨b,o,none⟩/\w.cell? ⟨b,o+i,none⟩=some (.int .i64 x)
 typ:∀a,p=some a->∃cur fz,w.heap[a.block]? =some (.cells cur 3 fz)
theorem DigsIn.below {w w':World} {p:Option Addr} {l:List Int} (h:DigsIn w p l) (hb:Below w.heap.size w w'):DigsIn w' p l:=
 ⟨((⟨h.at'⟩:IntsIn w p l).below hb).at',fun a e=>by
  obtain⟨cur,fz,hh⟩:=h.typ a e
  exact⟨cur,fz,(hb.block a.block (Array.getElem?_eq_some_iff.1 hh).1).trans hh⟩⟩
theorem DigsIn.take {w:World} {p:Option Addr} {l:List Int} (h:DigsIn w p l) (k:Nat):DigsIn w p (l.take k):=⟨fun i r hr=>h.at' i r (by
 rw[List.getElem?_take] at hr
 split at hr
 ·exact hr
 ·cases hr),h.typ⟩
theorem clone_digs {w:World} {g k:Nat} {cur:Array Value} {l:List Int} (hb:w.heap[g]? =some (.cells cur 3 (0,0))) (ht:cur.toList.take k=l.map (Value.int .i64)):DigsIn w (some ⟨g,0,none⟩) l:=
 ⟨(cloneInt_in hb ht).at',fun a e=>by cases e;exact⟨cur,(0,0),hb⟩⟩
def Bits (w:World) (v:Value) (n:Nat):Prop:=∃p l cap,v= .slice p l.length cap/\l.length<=cap/\l.length<=1000/\(p=none->l= []/\cap=0)/\DigsIn w p l/\Dig l/\Canon l/\valD l=n
theorem Bits.below {w w':World} {v:Value} {n:Nat} (h:Bits w v n) (hb:Below w.heap.size w w'):Bits w' v n:=by
 obtain⟨p,l,cap,h1,h2,h3,h4,h5,h6⟩:=h
 exact⟨p,l,cap,h1,h2,h3,h4,h5.below hb,h6⟩
theorem Bits.rex {L:List Nat} {w w':World} {v:Value} {n:Nat} (h:Bits w v n) (hr:Rex L w w') (hL:L= []):Bits w' v n:=by subst hL;exact h.below hr.below
theorem Bits.drew {w:World} {v:Value} {n:Nat} (h:Bits w v n):Bits w.drew v n:=by
 obtain⟨p,l,cap,h1,h2,h3,h4,h5,h6⟩:=h
 exact⟨p,l,cap,h1,h2,h3,h4,⟨h5.at',h5.typ⟩,h6⟩
theorem Bits.zero (w:World):Bits w (.slice none 0 0) 0:=⟨none,[],0,rfl,by simp,by simp,fun _=>⟨rfl,rfl⟩,⟨fun i x h=>by simp at h,fun a e=>by cases e⟩,Dig.nil,Canon.nil,rfl⟩
theorem bits_own {w:World} {base n:Nat} {v:Value} {l:List Int} (h:w.ownsRow base 3 1 v n (l.map (Value.int .i64))) (hn:n=l.length) (hl:l.length<=1000) (h1:Dig l) (h2:Canon l):Bits w v (valD l):=by
 subst hn
 obtain⟨_,h2'|⟨g,cap',cur,rfl,hg,hb,hn,_,hc,ht⟩⟩:=h
 ·obtain⟨rfl,h0⟩:=h2'
  have:l= []:=List.length_eq_zero_iff.1 h0
  subst this
  exact Bits.zero w
 ·exact⟨some ⟨g,0,none⟩,l,cap',rfl,by simpa using hn,hl,(fun e=>by cases e),clone_digs hb (by simpa using ht),h1,h2,rfl⟩
theorem Tryz.infoI :(Tryz.prog.info? 3).map (fun i=>(i.zero,i.size,i.bytes))=some (some (.int .i64 0),1,8):=by kernel_rfl
theorem below_append {w0 W w1:World} {B:Nat} {e:TypeId} {s k:Nat} {v:Value} {xs:List Value} {tmp:Obj} (hW:Below B w0 W) (hB:B<=W.heap.size) (hrow:W.ownsRow B e s v k xs) (hgr:(W.alloc tmp).grownBy w1 v.ownBlock):Below B w0 w1:=by
 refine(hW.alloc hB tmp).grown hgr (by simp;omega) fun j ej=> ?_
 rcases hrow.2 with⟨rfl,_⟩|⟨g,cap,cur,rfl,hb,_,_⟩
 ·simp[Value.ownBlock] at ej
 ·obtain rfl:g=j:=by simpa [Value.ownBlock] using ej
  exact hb
def sizeRel (u0:Nat) (w:World) (a':Act) (W:World):Prop:=
 Below w.heap.size w W/\∃(l:List Int) (u:Nat) (v:Value),(∃x:Nat->Value,a'= {tmps:= #[.int .u64 (u:Int),x 1,x 2,v,x 4,x 5,x 6,x 7,x 8,x 9,x 10,x 11,x 12,x 13,x 14],defers:= []})/\
  W.ownsRow w.heap.size 3 1 v l.length (l.map (Value.int .i64))/\Dig l/\valD l+2^l.length*u=u0/\l.length<=64/\u<2^(64-l.length)/\(u=0->Canon l)
theorem c_Size (u0:Nat) (w:World) (h0:u0<18446744073709551616):
  Calls Tryz.prog 240 #[.int .u64 (u0:Int)] w fun e w'=>∃v,e= .returned v/\Bits w' v u0/\Below w.heap.size w w':=by
 obtain⟨i0,hi,hz0,hz1,hz2⟩:=info_parts Tryz.infoI
 go_enter Tryz.func240,Tryz.ntmps240
 go_wp2
 refine wp_loop (sizeRel u0 w) (fun a' _=>(intAt (a'.tmps.getD 0 undef)).toNat) ?_ ?_
 ·unfold sizeRel
  exact⟨Below.refl _ _,[],u0,_,frame_ex rfl,World.ownsRow_nil _ _ _ _,Dig.nil,by simp[valD],by simp,by simpa using h0,fun _=>Canon.nil⟩
 ·rintro a' W ⟨hW,l,u,v,⟨x,rfl⟩,hown,hd,hv,hl,hu,hcn⟩
  have hz:=hW.size
  replace hv:=Hd hv
  replace hu:=Hd hu
  replace hcn:=Hd hcn
  by_cases h:u=0
  ·subst h
   have hC:=Hd (hcn.out rfl)
   have hn:=Hd (show valD l=u0 by have:=hv.out;omega)
   clear hcn hv hu
   go_wp2
   go_ret
   exact⟨v,rfl,hn.out▸bits_own hown rfl (by omega) hd hC.out,hW⟩
  ·have hpos:0<u:=by omega
   have hp:0<(u:Int):=by omega
   have hlt:l.length<64:=by
    have:=hu.out
    rcases Nat.lt_or_ge l.length 64 with h1|h1
    ·exact h1
    ·have:64-l.length=0:=by omega
     rw[this] at hu
     have:=hu.out
     simp at this
     omega
   have hu64:u<18446744073709551616:=by have:=hu.out;have:=Nat.pow_le_pow_right (n:=2) (by omega) (show 64-l.length<=64 by omega);omega
   go_wp2_with (at_builtin;refine wpList_append_own _ rfl (.tmp 6) (.tmp 10) 204 rfl w.heap.size 3 i0 (.int .i64 0) 1 8 (by kernel_rfl) hi hz0 hz1 hz2 rfl (by decide) _ _ _ rfl (hown.alloc _) ⟨W.heap.size,0,none⟩ 1 1 [.int .i64 (u%2:Int)] rfl rfl (cell_one_new _ _ _) (by simp[Value.oneCell']) (by simp[maxLen];omega) (by omega) (by simp;omega) ?_)
   intro v' w1 hown' hgr _
   have hB:=Hd (below_append hW hz hown hgr)
   replace hown':=Hd hown'
   clear hgr hown
   go_wp2
   rw[show (u:Int)/2=((u/2:Nat):Int) by omega]
   refine⟨?_,by simp[intAt];omega⟩
   unfold sizeRel
   have e2:((u:Int)%2).toNat=u%2:=by omega
   refine⟨hB.out,l++ [(u:Int)%2],u/2,v',frame_ex rfl,by simpa using hown'.out,hd.snoc (by omega),?_,by simp;omega,?_,fun h2=> ?_⟩
   ·have:=hv.out
    rw[valD_snoc,e2,List.length_append,List.length_singleton,Nat.pow_succ,Nat.mul_assoc,Nat.add_assoc,<-Nat.mul_add,show u%2+2*(u/2)=u by omega]
    exact this
   ·have:=hu.out
    rw[List.length_append,List.length_singleton]
    have e:2^(64-l.length)=2*2^(64-(l.length+1)):=by rw[show 64-l.length=(64-(l.length+1))+1 by omega,Nat.pow_succ];omega
    omega
   ·have:u=1:=by omega
    subst this
    exact canon_snoc_one l
theorem valD_noughts :∀n:Nat,valD (List.replicate n 0)=0
 |0=>rfl
 |n+1=>by simp[List.replicate_succ,valD,valD_noughts n]
theorem dig_noughts (n:Nat):Dig (List.replicate n 0):=fun d h=> .inl (List.eq_of_mem_replicate h)
def powRel (n:Nat) (w:World) (a':Act) (W:World):Prop:=
 Below w.heap.size w W/\∃(k:Nat) (v:Value),(∃x:Nat->Value,a'= {tmps:= #[.int .i64 (n:Int),x 1,x 2,v,.int .i64 (k:Int),x 5,x 6,x 7,x 8,x 9,x 10,x 11,x 12,x 13,x 14,x 15],defers:= []})/\
  W.ownsRow w.heap.size 3 1 v k ((List.replicate k (0:Int)).map (Value.int .i64))/\k<=n
theorem c_power (n:Nat) (w:World) (hn:n<=900):
  Calls Tryz.prog 242 #[.int .i64 (n:Int)] w fun e w'=>∃v,e= .returned v/\Bits w' v (2^n)/\Below w.heap.size w w':=by
 obtain⟨i0,hi,hz0,hz1,hz2⟩:=info_parts Tryz.infoI
 go_enter Tryz.func242,Tryz.ntmps242
 go_wp2
 refine wp_loop (powRel n w) (fun a' _=>n-(intAt (a'.tmps.getD 4 undef)).toNat) ?_ ?_
 ·unfold powRel
  exact⟨Below.refl _ _,0,_,frame_ex rfl,World.ownsRow_nil _ _ _ _,Nat.zero_le _⟩
 ·rintro a' W ⟨hW,k,v,⟨x,rfl⟩,hown,hk⟩
  have hz:=hW.size
  rcases Nat.lt_or_ge k n with hlt|hge
  ·go_wp2_with (at_builtin;refine wpList_append_own _ rfl (.tmp 10) (.tmp 11) 204 rfl w.heap.size 3 i0 (.int .i64 0) 1 8 (by kernel_rfl) hi hz0 hz1 hz2 rfl (by decide) _ _ _ rfl (hown.alloc _) ⟨W.heap.size,0,none⟩ 1 1 [.int .i64 0] rfl rfl (cell_one_new _ _ _) (by simp[Value.oneCell']) (by simp[maxLen];omega) (by omega) (by simp;omega) ?_)
   intro v' w1 hown' hgr _
   have hB:=Hd (below_append hW hz hown hgr)
   replace hown':=Hd hown'
   clear hgr hown
   go_wp2
   rw[show (k:Int)+1=((k+1:Nat):Int) by omega]
   refine⟨?_,by simp[intAt];omega⟩
   unfold powRel
   exact⟨hB.out,k+1,v',frame_ex rfl,by rw[List.replicate_succ',List.map_append,List.map_replicate];exact hown'.out,hlt⟩
  ·obtain rfl:k=n:=by omega
   go_wp2_with (at_builtin;refine wpList_append_own _ rfl (.tmp 13) (.tmp 14) 204 rfl w.heap.size 3 i0 (.int .i64 0) 1 8 (by kernel_rfl) hi hz0 hz1 hz2 rfl (by decide) _ _ _ rfl (hown.alloc _) ⟨W.heap.size,0,none⟩ 1 1 [.int .i64 1] rfl rfl (cell_one_new _ _ _) (by simp[Value.oneCell']) (by simp[maxLen];omega) (by omega) (by simp;omega) ?_)
   intro v' w1 hown' hgr _
   have hB:=Hd (below_append hW hz hown hgr)
   have hv:valD (List.replicate k (0:Int)++ [1])=2^k:=by rw[valD_snoc,valD_noughts];simp
   have hb:Bits w1 v' (valD (List.replicate k (0:Int)++ [1])):=bits_own (n:=k+1) (by rw[List.map_append,List.map_replicate];exact hown') (by simp) (by simp;omega) ((dig_noughts k).snoc (.inr rfl)) (canon_snoc_one _)
   rw[hv] at hb
   replace hb:=Hd hb
   clear hgr hown hown' hv
   go_wp2
   go_ret
   exact⟨v',rfl,hb.out,hB.out⟩
theorem DigsIn.taken {w:World} {p:Option Addr} {l:List Int} (h:DigsIn w p l) (k:Nat):DigsIn w p (l.take k):=h.take k
def trimRel (w:World) (b o cap:Nat) (l:List Int) (a':Act) (W:World):Prop:=
 Below w.heap.size w W/\∃k:Nat,(∃u:Nat->Value,a'= {tmps:= #[.slice (some ⟨b,o,none⟩) l.length cap,u 1,u 2,.int .i64 (k:Int),u 4,u 5,u 6,u 7,u 8,u 9,u 10,u 11,u 12,u 13,u 14,u 15,u 16,u 17,u 18,u 19,u 20],defers:= []})/\k<=l.length/\valD (l.take k)=valD l
theorem trim_some (b o cap:Nat) (l:List Int) (w:World) (h:DigsIn w (some ⟨b,o,none⟩) l) (hc:l.length<=cap) (hcm:cap<=9223372036854775807) (hl:l.length<=1000) (hd:Dig l):
  Calls Tryz.prog 293 #[.slice (some ⟨b,o,none⟩) l.length cap] w fun e w'=>∃v,e= .returned v/\Bits w' v (valD l)/\Below w.heap.size w w':=by
 go_enter Tryz.func293,Tryz.ntmps293
 go_wp2
 refine wp_loop (trimRel w b o cap l) (fun a' _=>(intAt (a'.tmps.getD 3 undef)).toNat) ?_ ?_
 ·unfold trimRel
  exact⟨Below.refl _ _,l.length,frame_ex rfl,Nat.le_refl _,by rw[List.take_length]⟩
 ·rintro a' W ⟨hW,k,⟨u,rfl⟩,hk,hv⟩
  replace hv:=Hd hv
  rcases Nat.eq_zero_or_pos k with rfl|hpos
  ·go_wp2
   go_ret
   refine⟨_,rfl,⟨some ⟨b,o,none⟩,l.take 0,cap,by simp,by simp,by simp,(fun e=>by cases e),(h.below hW).taken 0,by simpa using Dig.nil,by simpa using Canon.nil,hv.out⟩,hW⟩
  ·obtain⟨j,rfl⟩:∃j,k=j+1:=⟨k-1,by omega⟩
   obtain⟨d,hdj⟩:∃d,l[j]? =some d:=⟨l[j],List.getElem?_eq_getElem (by omega)⟩
   obtain⟨b',o',e,q0⟩:=(h.below hW).at' j d hdj
   cases e
   have e1:((j+1:Nat):Int)-1=(j:Int):=by omega
   have ht:=Hd (valD_take hdj)
   have hdd:=hd.at hdj
   have hcan:=Hd (show d=1->Canon (l.take (j+1)) from fun e=>by rw[List.take_add_one,hdj,e];exact canon_snoc_one _)
   clear hdj
   replace e1:=Hd e1
   rcases hdd with rfl|rfl
   ·go_wp2
    refine⟨?_,by simp[intAt]⟩
    unfold trimRel
    exact⟨hW,j,frame_ex rfl,by omega,by have:=ht.out;have:=hv.out;simp at*;omega⟩
   ·go_wp2
    go_ret
    exact⟨_,rfl,⟨some ⟨b,o,none⟩,l.take (j+1),cap,by rw[List.length_take,Nat.min_eq_left hk];rfl,by rw[List.length_take];omega,by rw[List.length_take];omega,(fun e=>by cases e),(h.below hW).taken _,hd.take _,hcan.out trivial,hv.out⟩,hW⟩
theorem trim_nil (p:Option Addr) (cap:Nat) (w:World) (hd:DigsIn w p []) (hn:p=none->cap=0) (hcm:cap<=9223372036854775807):
  Calls Tryz.prog 293 #[.slice p 0 cap] w fun e w'=>∃v,e= .returned v/\Bits w' v 0/\Below w.heap.size w w':=by
 cases p with
 |none=>
  obtain rfl:=hn rfl
  go_enter Tryz.func293,Tryz.ntmps293
  go_wp2
  refine wp_loop (fun a' W=>W=w/\∃u:Nat->Value,a'= {tmps:= #[.slice none 0 0,u 1,u 2,.int .i64 0,u 4,u 5,u 6,u 7,u 8,u 9,u 10,u 11,u 12,u 13,u 14,u 15,u 16,u 17,u 18,u 19,u 20],defers:= []}) (fun _ _=>0) ⟨rfl,frame_ex rfl⟩ ?_
  rintro a' W ⟨rfl,u,rfl⟩
  go_wp2
  go_ret
  exact⟨_,rfl,Bits.zero _,Below.refl _ _⟩
 |some a=>
  go_enter Tryz.func293,Tryz.ntmps293
  go_wp2
  refine wp_loop (fun a' W=>W=w/\∃u:Nat->Value,a'= {tmps:= #[.slice (some a) 0 cap,u 1,u 2,.int .i64 0,u 4,u 5,u 6,u 7,u 8,u 9,u 10,u 11,u 12,u 13,u 14,u 15,u 16,u 17,u 18,u 19,u 20],defers:= []}) (fun _ _=>0) ⟨rfl,frame_ex rfl⟩ ?_
  rintro a' W ⟨rfl,u,rfl⟩
  go_wp2
  go_ret
  exact⟨_,rfl,⟨_,[],cap,rfl,by simp,by simp,(fun e=>by cases e),hd,Dig.nil,Canon.nil,rfl⟩,Below.refl _ _⟩
theorem c_trim (p:Option Addr) (cap:Nat) (l:List Int) (w:World) (h:DigsIn w p l) (hn:p=none->l= []/\cap=0) (hc:l.length<=cap) (hcm:cap<=9223372036854775807) (hl:l.length<=1000) (hd:Dig l):
  Calls Tryz.prog 293 #[.slice p l.length cap] w fun e w'=>∃v,e= .returned v/\Bits w' v (valD l)/\Below w.heap.size w w':=by
 cases l with
 |nil=>exact trim_nil p cap w h (fun e=>(hn e).2) hcm
 |cons d l=>
  obtain⟨b,o,rfl,_⟩:=h.at' 0 d rfl
  exact trim_some b o cap (d::l) w h hc hcm hl hd
end Go.Proofs.YtpdhdjlhicceoaaGreatDoor
