/- Parts of the proof that follows. No condition. -/
import Derived.RegionTactic
import Derived.ChangeAlike
import Derived.Laws.AppendOwnNone
import Derived.Test.YtdeghcgakkhbmaaGreatSd7
set_option maxRecDepth 100000
set_option maxHeartbeats 8000000
set_option linter.unusedSimpArgs false
set_option linter.unusedVariables false
namespace Go.Proofs.YtdeghcgakkhbmaaGreat
open Go.RowKit
attribute [local simp] Oper.looksAt Op.operands Call.operands Af Det Am
structure Kn (w:World) (p:Option Addr) (l:List Aw):Prop where
 at':∀(i:Nat) (s:Aw),l[i]? =some s->∃b o p' q' cap vc,p=some ⟨b,o,none⟩/\(∀j v,(C9 s p' q' cap vc)[j]? =some v->w.cell? ⟨b,o+i*8+j,none⟩=some v)/\C0 w s p' q'/\s.raw.length<=vc
theorem Kn.below {w w':World} {p:Option Addr} {l:List Aw} (h:Kn w p l) (hb:Below w.heap.size w w'):Kn w' p l:=⟨fun i s hs=>by
 obtain⟨b,o,p',q',cap,vc,e,h1,h2,h3⟩:=h.at' i s hs
 exact⟨b,o,p',q',cap,vc,e,fun j v hv=>(hb.cell (p:=⟨b,_,none⟩) (Ap (h1 j v hv))).trans (h1 j v hv),h2.below hb,h3⟩⟩
theorem Kn.one {w:World} {p:Option Addr} {l:List Aw} (h:Kn w p l) {i:Nat} {s:Aw} (hs:l[i]? =some s):∃b o p' q' cap vc,p=some ⟨b,o,none⟩/\C0 w s p' q'/\s.raw.length<=vc/\
  w.cell? ⟨b,o+i*8,none⟩=some (s.K)/\w.cell? ⟨b,o+i*8+1,none⟩=some (.slice p' s.runs.length cap)/\w.cell? ⟨b,o+i*8+2,none⟩=some (s.A)/\w.cell? ⟨b,o+i*8+3,none⟩=some (s.R)/\w.cell? ⟨b,o+i*8+4,none⟩=some (s.n)/\w.cell? ⟨b,o+i*8+5,none⟩=some (s.d)/\w.cell? ⟨b,o+i*8+6,none⟩=some (.slice q' s.raw.length vc)/\w.cell? ⟨b,o+i*8+7,none⟩=some (s.E):=by
 obtain⟨b,o,p',q',cap,vc,e,h1,h2,h3⟩:=h.at' i s hs
 exact⟨b,o,p',q',cap,vc,e,h2,h3,h1 0 _ rfl,h1 1 _ rfl,h1 2 _ rfl,h1 3 _ rfl,h1 4 _ rfl,h1 5 _ rfl,h1 6 _ rfl,h1 7 _ rfl⟩
structure Dj (w:World) (s:A8) (ps po:Option Addr):Prop where
 segs:Kn w ps s.segs
 opn:Ar w po s.opn
 fewS:s.segs.length<=100
 fewO:s.opn.length<=100
theorem Dj.below {w w':World} {s:A8} {ps po:Option Addr} (h:Dj w s ps po) (hb:Below w.heap.size w w'):Dj w' s ps po:=⟨h.segs.below hb,h.opn.below hb,h.fewS,h.fewO⟩
def Dy (s:A8) (ps:Option Addr) (cs:Nat) (po:Option Addr) (co:Nat):Array Value:= #[.string s.name,s.eps,s.floor,s.last,s.scale,.slice ps s.segs.length cs,.slice po s.opn.length co]
theorem U5 {r:Ah} {l:List Ah} (h:Cf (r::l)):Bv (r::l)=r.f:=by
 have h1:=(h.each r (by simp)).c0
 unfold Bv
 apply J1
 have:=Ng (r::l) 0 (fun r hr=>by have:=(h.each r hr).c0;omega)
 rw[show ((0:Nat):Int)=0 from rfl] at this
 rw[this]
 show (Ce r++Ae l)[0]? =_
 have hn:(Ce r).length=r.c.toNat:=Dt r
 rw[List.getElem?_append_left (by omega),Lv r 0 (by omega)]
 simp
theorem lastT_is {r:Ah} {l:List Ah} (h:Cf (l++ [r])):C8 (l++ [r])=r.f+(r.c-1)*r.s:=by
 have h1:=(h.each r (by simp)).c0
 have hc:∀q,q∈l++ [r]->0<=q.c:=fun q hq=>by have:=(h.each q hq).c0;omega
 have hl:=C2 (l++ [r]) hc
 have hl2:=C2 l fun q hq=>hc q (by simp[hq])
 unfold C8
 rw[Kg] at hl⊢
 simp only[cnt] at hl⊢
 apply J1
 have:=Ng (l++ [r]) ((cnt l+(r.c+0))-1).toNat hc
 rw[Int.toNat_of_nonneg (by omega)] at this
 rw[this,E9]
 have e:Ae [r]=Ce r:=by simp[Ae]
 rw[e,List.getElem?_append_right (by omega),Lv r _ (by omega),show ((((cnt l+(r.c+0))-1).toNat-(Ae l).length:Nat):Int)=r.c-1 by omega,Int.mul_comm]
theorem Yz {r:Ah} (hr:Gz r):wrap64 (r.c-1)=r.c-1/\wrap64 ((r.c-1)*r.s)=(r.c-1)*r.s/\wrap64 (r.f+(r.c-1)*r.s)=r.f+(r.c-1)*r.s:=by
 have r1:=hr.f0;have r2:=hr.f1;have r3:=hr.s0;have r4:=hr.s1;have r5:=hr.c0;have r6:=hr.c1
 obtain⟨M,hM⟩:∃M,(r.c-1)*r.s=M:=⟨_,rfl⟩
 have m0:0<=M:=hM▸Int.mul_nonneg (by omega) (by omega)
 have m1:M<=256*281474976710656:=hM▸Int.mul_le_mul (by omega) (by omega) (by omega) (by omega)
 rw[hM,Ak,Ak,Ak]
 omega
theorem mgEnds_w (K A R n d E:Int) (q:Option Addr) (b o cap m vc:Nat) (l:List Ah) (r0 r1:Ah) (w:World) (h:Al w (some ⟨b,o,none⟩) l) (H0:Hid (l[0]? =some r0)) (H1:l[l.length-1]? =some r1) (hlen:l.length<=300) (hpos:0<l.length) (hr:Gz r1):
  Cb 153 #[.agg #[K,.slice (some ⟨b,o,none⟩) l.length cap,A,R,n,d,.slice q m vc,E]] w (.tuple #[r0.f,.int .i64 (r1.f+(r1.c-1)*r1.s)]):=by
 obtain⟨b',o',e9,q0,q1,q2⟩:=h.at' _ _ H1
 obtain⟨rfl,rfl⟩:b=b'/\o=o':=by(injection e9 with e9;injection e9 with e1 e2;exact⟨e1,e2⟩)
 clear e9 H1
 have zv:=Ap q0
 try simp only at zv
 obtain⟨E2,E3,E4⟩:=Yz hr
 replace E2:=Hd E2
 replace E3:=Hd E3
 replace E4:=Hd E4
 go_enter Tryz.func153,Tryz.ntmps153
 have E1:=Hd (show wrap64 ((l.length:Int)-1)=((l.length-1:Nat):Int) by rw[Ak];omega)
 go_upto_region 2 with(fail)
 refine Ab w (Bc w.heap.size #[K,.slice (some ⟨b,o,none⟩) l.length cap,A,R,n,d,.slice q m vc,E] 135<|Bc (w.heap.size+1) #[r1.f,r1.s,r1.c] 141<|Rc (fun W'=>Al W' (some ⟨b,o,none⟩) l)<|Bz) ?_ (hI:=by exact Aa) (hR:=(Bc.mk (by exact Ad)<|Bc.mk (by exact Ad)<|Rc.mk (by exact(h.below Aa))<|trivial))
 rintro W1 hW z2 hL
 obtain⟨⟨b1,yb1,k1,f1⟩,⟨b2,yb2,k2,f2⟩,b3,-⟩:=id hL
 clear k1 f1 k2 f2
 refine Bw 16 27 hW hL ?_
 iterate 16
  apply An (hg:=rfl) (hal:=rfl)
  ·intro a W' hC hE
   obtain⟨_,⟨-,-,k1,-⟩,⟨-,-,k2,-⟩,k3,-⟩:=hC
   obtain⟨b',o',e9,q0,q1,q2⟩:=k3.at' 0 _ H0.out;obtain⟨rfl,rfl⟩:b=b'/\o=o':=(by injection e9 with e9;injection e9 with e1 e2;exact⟨e1,e2⟩);rw[Nat.zero_mul,Nat.add_zero] at q0
   first
    |(simp at hE;simp[go_sem,Act.eval,iw,hE,k1,k2,k3,q0,q1,q2,hpos,E2.out,E3.out,E4.out];try rfl)
    |(clear hE;simp[go_sem,Act.eval,iw,k1,k2,k3,q0,q1,q2,hpos,E2.out,E3.out,E4.out];try rfl)
 clear hW hL b1 b2 b3
 rintro W3 hW z4 hL
 simp only[ndR]
 intros
 simp only[ndS]
 refine wpList_nil ?_
 obtain⟨⟨b1,yb1,k1,f1⟩,⟨b2,yb2,k2,f2⟩,b3,-⟩:=hL
 go_wp2
 refine bodyPost_ret (by simp[results,Tryz.results153,go_sem,k1,f1,k2,f2,yb1,yb2]) rfl ⟨rfl,by exact Aa⟩
theorem srLast_w (K A R n d E:Int) (p q:Option Addr) (len cap m vc:Nat) (w:World) (c t:Int) (hc:1<=c/\c<=256)
  (c1:∀W,Below w.heap.size w W->Cb 155 #[.slice p len cap] W (c))
  (c2:∀W,Below w.heap.size w W->Cb 154 #[.slice p len cap,.int .i64 (c-1)] W (.tuple #[t,.int .i64 0])):
  Cb 123 #[.agg #[K,.slice p len cap,A,R,n,d,.slice q m vc,E]] w (t):=by
 have E1:=Hd (show wrap64 (c-1)=c-1 by rw[Ak];omega)
 have H_c1:=Hd c1
 clear c1
 have H_c2:=Hd c2
 clear c2
 go_enter Tryz.func123,Tryz.ntmps123
 go_upto_region 1 with(fail)
 refine Ab w (Bc w.heap.size #[K,.slice p len cap,A,R,n,d,.slice q m vc,E] 135<|Bz) ?_
 rintro W1 hW z2 hL
 refine Bw 12 16 hW hL ?_
 iterate 4 refine dE (fun W' hC=>E1.out) ?_
 refine cE (fun W' hC=>E1.out) (fun W' hC=>H_c1.out W' (hW.trans (hC.1.of_priv hW.size))) ?_
 refine dE (fun W' hC=>E1.out) ?_
 refine cE (fun W' hC=>E1.out) (fun W' hC=>H_c2.out W' (hW.trans (hC.1.of_priv hW.size))) ?_
 iterate 5 refine dE (fun W' hC=>E1.out) ?_
 clear hW hL
 rintro W3 hW z4 hL
 simp only[ndR]
 intros
 simp only[ndS]
 refine wpList_nil ?_
 obtain⟨⟨b1,yb1,k1,f1⟩,-⟩:=hL
 try clear H_c1 H_c2
 go_wp2
 refine bodyPost_ret (by simp[results,Tryz.results123,go_sem,k1,f1,yb1]) rfl ⟨rfl,by exact Aa⟩
theorem c_mgEnds (s:Aw) (p q:Option Addr) (cap vc:Nat) (w:World) (h:C0 w s p q) (hs:Cr s=true):
  Cb 153 #[.agg (C9 s p q cap vc)] w (.tuple #[.int .i64 (Bv s.runs),.int .i64 (C8 s.runs)]):=by
 have hl:=Bp hs
 have hpos:=hl.some'
 have hne:s.runs≠ []:=List.length_pos_iff.1 hpos
 obtain⟨r0,l0,e0⟩:∃r l,s.runs=r::l:=List.exists_cons_of_ne_nil hne
 obtain⟨l1,r1,e1⟩:∃l r,s.runs=l++ [r]:=⟨s.runs.dropLast,s.runs.getLast hne,(List.dropLast_concat_getLast hne).symm⟩
 have h0:s.runs[0]? =some r0:=by rw[e0];rfl
 have h1:s.runs[s.runs.length-1]? =some r1:=by rw[e1];simp
 have f0:Bv s.runs=r0.f:=by rw[e0] at hl⊢;exact U5 hl
 have f1:C8 s.runs=r1.f+(r1.c-1)*r1.s:=by rw[e1] at hl⊢;exact lastT_is hl
 obtain⟨b,o,rfl,-⟩:=h.runs.at' 0 r0 h0
 rw[f0,f1]
 exact mgEnds_w _ _ _ _ _ _ q b o cap _ vc s.runs r0 r1 w h.runs (Hd h0) h1 h.fewR hpos (hl.each r1 (List.mem_of_getElem? h1))
theorem c_srLast (s:Aw) (p q:Option Addr) (cap vc:Nat) (w:World) (h:C0 w s p q) (hs:Cr s=true):
  Cb 123 #[.agg (C9 s p q cap vc)] w (.int .i64 (C8 s.runs)):=by
 have hl:=Bp hs
 obtain⟨n0,n1⟩:=D0 hl
 exact srLast_w _ _ _ _ _ _ p q _ cap _ vc w (cnt s.runs) (C8 s.runs) ⟨n0,n1⟩ (fun W hW=>Lq p cap s.runs W hl (h.runs.below hW)) (fun W hW=>c_at p cap s.runs (cnt s.runs-1) W hl (h.runs.below hW) (by omega) (by omega))
def mcRel (w:World) (p:Option Addr) (cap:Nat) (l:List Aw) (a':Act) (W:World):Prop:=
 Below w.heap.size w W/\∃(i:Nat) (bh:Int),(∃u:Nat->Value,a'= {tmps:= #[.slice p l.length cap,u 1,u 2,bh,u 4,u 5,u 6,u 7,.slice p l.length cap,.int .i64 (l.length:Int),.int .i64 (i:Int),u 11,u 12,u 13,u 14,u 15,u 16,u 17,u 18,u 19,u 20,u 21,u 22,u 23,u 24,u 25,u 26],defers:= []})/\i<=l.length/\Es (-1) l=Es bh (l.drop i)
theorem c_mgCheck (p:Option Addr) (cap:Nat) (l:List Aw) (w:World) (hlen:l.length<=1000000) (h:Kn w p l):
  Cb 122 #[.slice p l.length cap] w (.int .i64 (if Es (-1) l=true then 0 else 240)):=by
 obtain⟨RES,hRES⟩:∃z:Int,(if Es (-1) l=true then 0 else 240)=z:=⟨_,rfl⟩
 rw[hRES]
 go_enter Tryz.func122,Tryz.ntmps122
 go_wp2
 refine wp_loop (mcRel w p cap l) (fun a' _=>l.length-(Ag (a'.tmps.getD 10 undef)).toNat) ?_ ?_
 ·unfold mcRel
  exact⟨Below.refl _ _,0,-1,Ac rfl,Nat.zero_le _,rfl⟩
 ·rintro a' W ⟨hW0,i,bh,⟨u,rfl⟩,hi',hrow⟩
  have hz:=hW0.size
  rcases Nat.lt_or_ge i l.length with hlt|hge
  ·obtain⟨s,tr⟩:∃r,l[i]? =some r:=⟨l[i]'(by omega),List.getElem?_eq_getElem (by omega)⟩
   have hin:=h.below hW0
   obtain⟨b,o,p',q',cp,vc,rfl,hs,hvc,q0,q1,q2,q3,q4,q5,q6,q7⟩:=hin.one tr
   have hd:l.drop i=s::l.drop (i+1):=by
    rw[List.drop_eq_getElem_cons hlt]
    rw[List.getElem?_eq_getElem hlt] at tr
    injection tr with tr
    rw[tr]
   rw[hd] at hrow
   simp only[Es] at hrow
   clear hd tr hin
   cases hb:Cr s with
   |false=>
    have c1:=fun W' (hW':Below W.heap.size W W')=>Xc s p' q' cp vc W' (hs.below hW') hb
    unfold C9 at c1
    replace c1:=Hd c1
    rw[hb,Bool.false_and] at hrow
    rw[hrow] at hRES
    replace hRES:=Hd hRES
    clear hb hrow hs
    go_wp2_with fail
    refine(c1.out _ Aa).mono ?_
    rintro e w21 ⟨rfl,hb21⟩
    have z22:=hb21.size
    try simp at z22
    refine Aj W w21 (Bc W.heap.size #[s.K,.slice p' s.runs.length cp,s.A,s.R,s.n,s.d,.slice q' s.raw.length vc,s.E] 135<|Bz) ?_
    rintro hW z23 ⟨⟨b1,yb1,k1,f1⟩,-⟩
    clear hb21
    go_wp2
    go_ret
    exact⟨by rw[<-hRES.out];rfl,hW0.trans (hW.mono hz)⟩
   |true=>
    have c1:=fun W' (hW':Below W.heap.size W W')=>Tm s p' q' cp vc W' (hs.below hW') hb
    have c2:=fun W' (hW':Below W.heap.size W W')=>c_mgEnds s p' q' cp vc W' (hs.below hW') hb
    unfold C9 at c1 c2
    replace c1:=Hd c1
    replace c2:=Hd c2
    rw[hb,Bool.true_and] at hrow
    clear hb hs
    obtain⟨F,hF⟩:∃F,Bv s.runs=F:=⟨_,rfl⟩
    obtain⟨L,hL⟩:∃L,C8 s.runs=L:=⟨_,rfl⟩
    rw[hF,hL] at c2 hrow
    clear hF hL
    by_cases hlt2:bh<F
    ·rw[decide_eq_true hlt2,Bool.true_and] at hrow
     replace hrow:=Hd hrow
     replace hRES:=Hd hRES
     go_wp2_with fail
     refine(c1.out _ Aa).mono ?_
     rintro e w21 ⟨rfl,hb21⟩
     have z22:=hb21.size
     try simp at z22
     refine Aj W w21 (Bc W.heap.size #[s.K,.slice p' s.runs.length cp,s.A,s.R,s.n,s.d,.slice q' s.raw.length vc,s.E] 135<|Bz) ?_
     rintro hW z23 ⟨⟨b1,yb1,k1,f1⟩,-⟩
     clear hb21
     go_wp2_with fail
     refine(c2.out _ Aa).mono ?_
     rintro e w24 ⟨rfl,hb24⟩
     have z25:=hb24.size
     try simp at z25
     clear k1 f1
     refine Aj W w24 (Bc W.heap.size #[s.K,.slice p' s.runs.length cp,s.A,s.R,s.n,s.d,.slice q' s.raw.length vc,s.E] 135<|Bz) ?_
     clear b1 hW
     rintro hW z26 ⟨⟨b1,yb1,k1,f1⟩,-⟩
     clear hb24
     go_wp2
     rw[show (i:Int)+1=((i+1:Nat):Int) by omega]
     refine⟨?_,by simp[Ag];omega⟩
     unfold mcRel
     exact⟨hW0.trans (hW.mono hz),i+1,L,Ac rfl,by omega,hrow.out⟩
    ·rw[decide_eq_false hlt2,Bool.false_and] at hrow
     rw[hrow] at hRES
     replace hRES:=Hd hRES
     clear hrow
     have hle:F<=bh:=by omega
     clear hlt2
     go_wp2_with fail
     refine(c1.out _ Aa).mono ?_
     rintro e w21 ⟨rfl,hb21⟩
     have z22:=hb21.size
     try simp at z22
     refine Aj W w21 (Bc W.heap.size #[s.K,.slice p' s.runs.length cp,s.A,s.R,s.n,s.d,.slice q' s.raw.length vc,s.E] 135<|Bz) ?_
     rintro hW z23 ⟨⟨b1,yb1,k1,f1⟩,-⟩
     clear hb21
     go_wp2_with fail
     refine(c2.out _ Aa).mono ?_
     rintro e w24 ⟨rfl,hb24⟩
     have z25:=hb24.size
     try simp at z25
     clear k1 f1
     refine Aj W w24 (Bc W.heap.size #[s.K,.slice p' s.runs.length cp,s.A,s.R,s.n,s.d,.slice q' s.raw.length vc,s.E] 135<|Bz) ?_
     clear b1 hW
     rintro hW z26 ⟨⟨b1,yb1,k1,f1⟩,-⟩
     clear hb24
     go_wp2
     go_ret
     exact⟨by rw[<-hRES.out];rfl,hW0.trans (hW.mono hz)⟩
  ·obtain rfl:i=l.length:=by omega
   rw[List.drop_length] at hrow
   simp only[Es] at hrow
   rw[hrow] at hRES
   replace hRES:=Hd hRES
   go_wp2
   go_ret
   exact⟨by rw[<-hRES.out];rfl,hW0⟩
end Go.Proofs.YtdeghcgakkhbmaaGreat
namespace Go.Proofs.YtdeghcgakkhbmaaGreat
open Go.RowKit Go.Shelf
attribute [local go_sem] Oper.semAt_some
theorem Hl {α β:Type} {l:List α} {k:Nat} {x:α} (f:α->List β) (h:l[k]? =some x):(l.take (k+1)).flatMap f=(l.take k).flatMap f++f x:=by
 rw[List.take_add_one,h];simp
theorem flat_room {α β:Type} {l:List α} {k m:Nat} {x:α} (f:α->List β) (h:l[k]? =some x) (hm:m<(f x).length) (r:List β):((l.take k).flatMap f++(f x).take m).length<(l.flatMap f++r).length:=by
 have e:l.flatMap f=(l.take (k+1)).flatMap f++(l.drop (k+1)).flatMap f:=by rw[<-List.flatMap_append,List.take_append_drop]
 rw[e,Hl f h]
 simp only[List.length_append,List.length_take]
 omega
theorem flat_pre {α β:Type} {l:List α} {k m:Nat} {x:α} (f:α->List β) (h:l[k]? =some x) (r:List β):(l.take k).flatMap f++(f x).take m<+:l.flatMap f++r:=by
 have e:l.flatMap f=(l.take (k+1)).flatMap f++(l.drop (k+1)).flatMap f:=by rw[<-List.flatMap_append,List.take_append_drop]
 rw[e,Hl f h]
 exact⟨(f x).drop m++((l.drop (k+1)).flatMap f++r),by simp only[List.append_assoc];rw[<-List.append_assoc ((f x).take m),List.take_append_drop]⟩
theorem T3 {β:Type} {l:List β} {m:Nat} {t:β} (h:l[m]? =some t):l.take (m+1)=l.take m++ [t]:=by rw[List.take_add_one,h];rfl
theorem KF.blk {B0 n₀:Nat} {A B:World} (h:KF B0 n₀ A B) {b:Nat} {cs:Array Value} {t:TypeId} (hn:n₀<=b) (hb:Blk A b cs t):Blk B b cs t:=h.rest b cs t (0,0) hn hb
theorem Yl {w:World} {B n sz:Nat} {e:TypeId} {v:Value} {xs:List Value} (h:w.ownsRow B e sz v n xs) (hn:0<n):∃g cap cur,v= .slice (some ⟨g,0,none⟩) n cap/\B<=g/\Blk w g cur e/\cur.toList.take (n*sz)=xs:=by
 obtain⟨_,⟨_,h0⟩|⟨g,cap,cur,rfl,hg,hb,_,_,_,ht⟩⟩:=h
 ·omega
 ·exact⟨g,cap,cur,rfl,hg,hb,ht⟩
theorem Pu (n:Nat) (hn:1<=n) (lr Bs n₀:Nat) (s:A8) (ps po:Option Addr) (cs co:Nat) (w₁:World) (hin:Dj w₁ s ps po) (hv:∀x,x∈s.segs->Cr x=true) (h1:w₁.heap.size<=n₀) (hb0:n₀<=Bs)
  (J Jx:List Int->World->Prop) (B0:Nat) (hJ:AbidesFrom B0 J)
  (hY:∀pre x W,J pre W->pre.length<(Cd s).length->YieldAt Fence.wide (n-1) Tryz.prog lr #[.int .i64 x] W fun e W'=>(e= .returned (.bool true)/\J (pre++ [x]) W'/\KF w₁.heap.size n₀ W W')∨(e= .returned (.bool false)/\Jx (pre++ [x]) W'))
  (W:World) (hW:Below w₁.heap.size w₁ W) (hBs:Blk W Bs (Dy s ps cs po co) 79) (h0:J [] W):
  CallsIn Fence.wide n Tryz.prog 156 #[.func (.yield lr) #[] #[],.pointer (some ⟨Bs,0,none⟩)] W fun e W'=>(∃v,e= .returned v)/\((∃ys,ys=Cd s/\J ys W')∨(∃pre,pre<+:Cd s/\Jx pre W')):=by
 have hfS:=hin.fewS
 have hfO:=hin.fewO
 have k:=hBs.cell
 unfold Dy at k
 refine callsIn_of_wp Tryz.func156 rfl trivial ?_ rfl
 simp only[Tryz.ntmps156,List.size_toArray,List.length_cons,List.length_nil,Nat.reduceAdd,Nat.reduceSub,Array.replicate_succ,Array.replicate_zero,List.push_toArray,List.append_toArray,List.nil_append,List.cons_append]
 gi_wp2
 clear k
 gi_loopw [14] (fun i wr=>∃k:Nat,k<=s.segs.length/\i= .int .i64 k/\J ((s.segs.take k).flatMap fun x=>Ae x.runs) wr/\Below w₁.heap.size w₁ wr/\Blk wr Bs (Dy s ps cs po co) 79) (fun i _=>s.segs.length-(intOf i).toNat)
 case atStart=>exact⟨0,Nat.zero_le _,rfl,h0,hW,hBs⟩
 case round=>
  obtain⟨k,hk,rfl,hJk,hbw,hbk⟩:=hrel
  have hlb:=hbk.lt
  rcases Nat.lt_or_ge k s.segs.length with hlk|hge
  ·obtain⟨x,tr⟩:∃r,s.segs[k]? =some r:=⟨s.segs[k]'(by omega),List.getElem?_eq_getElem (by omega)⟩
   have hsx:=hv x (List.mem_of_getElem? tr)
   have hl:=Bp hsx
   obtain⟨b,o,p',q',cp,vc,rfl,hs,hvc,q0,q1,q2,q3,q4,q5,q6,q7⟩:=(hin.below hbw).segs.one tr
   have ct:=Hd (fun W' (hW':Below wr.heap.size wr W')=>c_Times p' cp x.runs W' hl (hs.runs.below hW'))
   have hlen:=Bk hl
   have hcnt:=D0 hl
   have htr:=Hd tr
   have zb:=Ap q0
   try simp only at zb
   obtain⟨N,hN⟩:∃N,(Ae x.runs).length=N+1:=⟨(Ae x.runs).length-1,by omega⟩
   have HN:=Hd hN
   have hN6:N+1<=256:=by omega
   clear tr hs hl hlen hcnt
   unfold TimesOut at ct
   rw[hN] at ct
   clear hN
   gi_wp2_with (refine⟨trivial,?_⟩;gi_at_call 157;refine(callsIn_wide.2 (ct.out _ (Aa))).mono ?_;rintro e w2 ⟨v,rfl,hv2,hB⟩;obtain⟨g,cap',cur,rfl,hg,hb,htk⟩:=Yl hv2 (Nat.succ_pos _);clear hv2;replace htk:=Hd htk;have hg':wr.heap.size<g:=by(simp at hg;omega))
   clear ct q0 q1 q2 q3 q4 q5 q6 q7
   have hAB:=((Below.refl wr.heap.size wr).alloc (Nat.le_refl _) (Obj.cells (C9 x p' q' cp vc) 135)).trans (hB.mono (by simp))
   have htk':cur.toList.take (N+1)=(Ae x.runs).map (Value.int .i64):=by rw[<-htk.out,Nat.mul_one]
   have hJ1:=Hj hJ hJk hAB
   have hb2:=hbk.below hAB
   have hw2:=hbw.trans (hAB.mono hbw.size)
   have hg2:Blk w2 g cur 2:=hb
   clear htk hg hB hJk hbk hbw hAB hb zb
   gi_loopw [26] (fun i w3=>∃m:Nat,m<=N+1/\i= .int .i64 m/\J (((s.segs.take k).flatMap fun x=>Ae x.runs)++(Ae x.runs).take m) w3/\Below w₁.heap.size w₁ w3/\Blk w3 Bs (Dy s (some ⟨b,o,none⟩) cs po co) 79/\Blk w3 g cur 2) (fun i _=>N+1-(intOf i).toNat)
   case atStart=>exact⟨0,Nat.zero_le _,rfl,by simpa using hJ1,hw2,hb2,hg2⟩
   case round=>
    obtain⟨m,hm,rfl,hJm,hbw3,hb3,hg3⟩:=hrel
    rcases Nat.lt_or_ge m (N+1) with hlm|hgem
    ·obtain⟨t,ht⟩:∃t,(Ae x.runs)[m]? =some t:=⟨(Ae x.runs)[m]'(by have:=HN.out;omega),List.getElem?_eq_getElem _⟩
     have hcell:wr.cell? ⟨g,m,none⟩=some (.int .i64 t):=by rw[cell_of_row wr g m cur _ (0,0) hg3];exact Eh htk' (by simp[ht])
     obtain⟨fn,tmps,assign,body,hy,hR⟩:=hY _ t wr hJm (flat_room (fun x=>Ae x.runs) htr.out (by have:=HN.out;omega) _)
     have hst:=Hd (T3 ht)
     clear ht
     gi_wp2
     refine hR.mono ?_
     rintro e W3 (⟨rfl,hJ3,hk3⟩|⟨rfl,hJx3⟩)
     ·gi_wp2
      go_roundw
      case rel=>exact⟨m+1,by omega,by simp,by rw[hst.out,<-List.append_assoc];exact hJ3,hbw3.trans hk3.below,hk3.blk hb0 hb3,hk3.blk (by omega) hg3⟩
      case measure=>simp[intOf];omega
     ·gi_wp2
      refine bodyPost_ret (results_none rfl _ _ _) rfl ?_
      exact⟨⟨_,rfl⟩,.inr ⟨_,by rw[List.append_assoc,<-hst.out];exact flat_pre (fun x=>Ae x.runs) htr.out _,hJx3⟩⟩
    ·obtain rfl:m=N+1:=by omega
     have et:(Ae x.runs).take (N+1)=Ae x.runs:=List.take_of_length_le (by have:=HN.out;omega)
     rw[et,<-Hl (fun x=>Ae x.runs) htr.out] at hJm
     gi_wp2
     go_roundw
     case rel=>exact⟨k+1,by omega,by simp,hJm,hbw3,hb3⟩
     case measure=>simp[intOf];omega
  ·obtain rfl:k=s.segs.length:=by omega
   rw[List.take_length] at hJk
   have k:=hbk.cell
   unfold Dy at k
   gi_wp2
   clear k
   gi_loopw [39] (fun i w3=>∃m:Nat,m<=s.opn.length/\i= .int .i64 m/\J ((s.segs.flatMap fun x=>Ae x.runs)++(s.opn.map (·.1)).take m) w3/\Below w₁.heap.size w₁ w3/\Blk w3 Bs (Dy s ps cs po co) 79) (fun i _=>s.opn.length-(intOf i).toNat)
   case atStart=>exact⟨0,Nat.zero_le _,rfl,by simpa using hJk,hbw,hbk⟩
   case round=>
    obtain⟨m,hm,rfl,hJm,hbw3,hb3⟩:=hrel
    rcases Nat.lt_or_ge m s.opn.length with hlm|hgem
    ·obtain⟨⟨t,v⟩,ht⟩:∃t,s.opn[m]? =some t:=⟨s.opn[m]'hlm,List.getElem?_eq_getElem _⟩
     obtain⟨b,o,rfl,q0,q1⟩:=(hin.below hbw3).opn.at' m _ ht
     simp only at q0 q1
     have ht':(s.opn.map (·.1))[m]? =some t:=by rw[List.getElem?_map,ht];rfl
     have hst:=Hd (T3 ht')
     have zb:=Ap q0
     try simp only at zb
     obtain⟨fn,tmps,assign,body,hy,hR⟩:=hY _ t (wr.alloc (.cells #[.int .i64 t,.int .i64 v] 58)) (Hj hJ hJm ((Below.refl _ _).alloc (Nat.le_refl _) _)) (by unfold Cd;simp;omega)
     clear ht ht'
     gi_wp2
     refine hR.mono ?_
     rintro e W3 (⟨rfl,hJ3,hk3⟩|⟨rfl,hJx3⟩)
     ·gi_wp2
      go_roundw
      case rel=>exact⟨m+1,by omega,by simp,by rw[hst.out,<-List.append_assoc];exact hJ3,(hbw3.alloc hbw3.size _).trans hk3.below,hk3.blk hb0 (hb3.alloc _)⟩
      case measure=>simp[intOf];omega
     ·gi_wp2
      refine bodyPost_ret (results_none rfl _ _ _) rfl ?_
      exact⟨⟨_,rfl⟩,.inr ⟨_,by rw[List.append_assoc,<-hst.out];exact(List.prefix_append_right_inj _).2 (List.take_prefix _ _),hJx3⟩⟩
    ·obtain rfl:m=s.opn.length:=by omega
     rw[List.take_of_length_le (by simp)] at hJm
     gi_wp2
     refine bodyPost_end (results_none rfl _ _ _) rfl ?_
     exact⟨⟨_,rfl⟩,.inl ⟨_,rfl,hJm⟩⟩
theorem Va (nm:ByteArray) (ep fl la sc:Int) (ps po:Option Addr) (ns cs no co:Nat) (w:World):
  Calls Tryz.prog 125 #[.agg #[.string nm,ep,fl,la,sc,.slice ps ns cs,.slice po no co]] w fun e w'=>e= .returned (.func (.func 156) #[] #[.pointer (some ⟨w.heap.size,0,none⟩)])/\w'=w.alloc (.cells #[.string nm,ep,fl,la,sc,.slice ps ns cs,.slice po no co] 79):=by
 have hmf:∀(fn:Fn) (first cap:Array Value) (w:World),(Instr.makeFunc fn first cap).run Tryz.prog w= .ok (.func fn first cap) w:=fun _ _ _ _=>rfl
 go_enter Tryz.func125,Tryz.ntmps125
 go_wp2
 go_ret
 exact⟨rfl,rfl⟩
theorem Lj {α β:Type} (f:α->List β) (K:Nat):∀l:List α,(∀x,x∈l->(f x).length<=K)->(l.flatMap f).length<=l.length*K
 | [],_=>by simp
 |x::l,h=>by
  have:=Lj f K l fun y hy=>h y (by simp[hy])
  have:=h x (by simp)
  simp only[List.flatMap_cons,List.length_append,List.length_cons,Nat.add_mul]
  omega
theorem Lu {w:World} {s:A8} {ps po:Option Addr} (hin:Dj w s ps po) (hv:∀x,x∈s.segs->Cr x=true):(Cd s).length<=25700:=by
 have h1:=Lj (fun x:Aw=>Ae x.runs) 256 s.segs fun x hx=>by
  have:=Bp (hv x hx)
  have h2:=Bk this
  have:=(D0 this).2
  try simp only
  omega
 have:=hin.fewS
 have:=hin.fewO
 unfold Cd
 simp only[List.length_append,List.length_map]
 omega
def Hu (fl:Int) (l:List Int):Nat:=(l.filter fun t=>decide (fl<=t)).length
theorem Za {fl:Int} (l:List Int) {t:Int} (h:fl<=t):Hu fl (l++ [t])=Hu fl l+1:=by simp[Hu,h]
theorem Uz {fl:Int} (l:List Int) {t:Int} (h:¬fl<=t):Hu fl (l++ [t])=Hu fl l:=by simp[Hu,h]
theorem Y9 (fl:Int) (l:List Int):Hu fl l<=l.length:=List.length_filter_le _ _
theorem kept_in (s:A8) (ps po:Option Addr) (cs co:Nat) (w:World) (hin:Dj w s ps po) (hv:∀x,x∈s.segs->Cr x=true):
  CallsIn Fence.wide 4 Tryz.prog 126 #[.agg (Dy s ps cs po co)] w fun e w'=>e= .returned (.int .i64 (Ht s))/\Below w.heap.size w w':=by
 have hN:=Lu hin hv
 have hfew:=Hd hN
 unfold Dy
 refine callsIn_of_wp_marks Tryz.func126 rfl trivial ?_ rfl
 simp only[Tryz.ntmps126,List.size_toArray,List.length_cons,List.length_nil,Nat.reduceAdd,Nat.reduceSub,Array.replicate_succ,Array.replicate_zero,List.push_toArray,List.append_toArray,List.nil_append,List.cons_append]
 gi_wp2_with (refine⟨trivial,?_⟩;gi_at_call 125;refine(callsIn_wide.2 (Va _ _ _ _ _ _ _ _ _ _ _ _)).mono ?_;rintro e w' ⟨rfl,rfl⟩)
 have hW0:Below w.heap.size w (((w.alloc (.cells #[.string s.name,s.eps,s.floor,s.last,s.scale,.slice ps s.segs.length cs,.slice po s.opn.length co] 79)).alloc (.cells #[.int .i64 0] 3)).alloc (.cells #[.string s.name,s.eps,s.floor,s.last,s.scale,.slice ps s.segs.length cs,.slice po s.opn.length co] 79)):=Aa
 have b1:Blk (((w.alloc (.cells #[.string s.name,s.eps,s.floor,s.last,s.scale,.slice ps s.segs.length cs,.slice po s.opn.length co] 79)).alloc (.cells #[.int .i64 0] 3)).alloc (.cells #[.string s.name,s.eps,s.floor,s.last,s.scale,.slice ps s.segs.length cs,.slice po s.opn.length co] 79)) w.heap.size #[.string s.name,s.eps,s.floor,s.last,s.scale,.slice ps s.segs.length cs,.slice po s.opn.length co] 79:=Ad
 have b2:Blk (((w.alloc (.cells #[.string s.name,s.eps,s.floor,s.last,s.scale,.slice ps s.segs.length cs,.slice po s.opn.length co] 79)).alloc (.cells #[.int .i64 0] 3)).alloc (.cells #[.string s.name,s.eps,s.floor,s.last,s.scale,.slice ps s.segs.length cs,.slice po s.opn.length co] 79)) (w.heap.size+1) #[.int .i64 0] 3:=Ad
 have b3:Blk (((w.alloc (.cells #[.string s.name,s.eps,s.floor,s.last,s.scale,.slice ps s.segs.length cs,.slice po s.opn.length co] 79)).alloc (.cells #[.int .i64 0] 3)).alloc (.cells #[.string s.name,s.eps,s.floor,s.last,s.scale,.slice ps s.segs.length cs,.slice po s.opn.length co] 79)) (w.heap.size+1+1) #[.string s.name,s.eps,s.floor,s.last,s.scale,.slice ps s.segs.length cs,.slice po s.opn.length co] 79:=Blk.new' (by simp)
 have hsz:(((w.alloc (.cells #[.string s.name,s.eps,s.floor,s.last,s.scale,.slice ps s.segs.length cs,.slice po s.opn.length co] 79)).alloc (.cells #[.int .i64 0] 3)).alloc (.cells #[.string s.name,s.eps,s.floor,s.last,s.scale,.slice ps s.segs.length cs,.slice po s.opn.length co] 79)).heap.size=w.heap.size+1+1+1:=by simp
 obtain⟨W0,hWe⟩:∃W0,W0=(((w.alloc (.cells #[.string s.name,s.eps,s.floor,s.last,s.scale,.slice ps s.segs.length cs,.slice po s.opn.length co] 79)).alloc (.cells #[.int .i64 0] 3)).alloc (.cells #[.string s.name,s.eps,s.floor,s.last,s.scale,.slice ps s.segs.length cs,.slice po s.opn.length co] 79)):=⟨_,rfl⟩
 rw[<-hWe] at hW0 b1 b2 b3 hsz⊢
 clear hWe hN
 refine wpIn_rangeFunc_ownG rfl (by omega) (gf:=156) (lb:= #[.pointer (some ⟨w.heap.size+1+1,0,none⟩)]) rfl trivial (enters_of Tryz.func156 (by kernel_rfl) rfl)
  (encs:=fun x:Int=> #[Value.int .i64 x]) (Kp:=KF w.heap.size (w.heap.size+1+1)) (S:=fun ys=>ys=Cd s) (Sp:=fun pre=>pre<+:Cd s) (N:=(Cd s).length) (w0:=W0)
  (fun lr J Jx W hWW hJ _ hY h0=>Pu 3 (by omega) lr (w.heap.size+1+1) (w.heap.size+1+1) s ps po cs co w hin hv (by omega) (Nat.le_refl _) J Jx _ hJ hY W (hW0.trans (hWW.mono hW0.size)) (b3.below hWW) h0)
  (fun h k=>h.trans k) (KF.putObj (by omega)) (Below.refl _ _) (fun _=>rfl)
  (fun pre W=>(Blk W w.heap.size #[.string s.name,s.eps,s.floor,s.last,s.scale,.slice ps s.segs.length cs,.slice po s.opn.length co] 79/\Blk W (w.heap.size+1) #[.int .i64 (Hu s.floor pre)] 3)/\Below w.heap.size w W)
  (fun _ _ _=>False)
  (OwnFrom.and (OwnFrom.and (Own.from (Dr _ _ _) _) (Own.from (Dr _ _ _) _)) (ownFrom_below (Nat.le_refl _) (by omega)))
  (fun _ _ _ _ _ hs _ _=>hs)
  ⟨⟨b1,b2⟩,hW0⟩
  (fun x=> {tmps:= #[.agg #[.string s.name,s.eps,s.floor,s.last,s.scale,.slice ps s.segs.length cs,.slice po s.opn.length co],.pointer (some ⟨w.heap.size,0,none⟩),.int .i64 0,.pointer (some ⟨w.heap.size+1,0,none⟩),x,.agg #[.string s.name,s.eps,s.floor,s.last,s.scale,.slice ps s.segs.length cs,.slice po s.opn.length co],.func (.func 156) #[] #[.pointer (some ⟨w.heap.size+1+1,0,none⟩)],x,undef,undef,undef,undef,undef,undef,undef],defers:= []}) ?assign ?body ?done ?stop
 case assign=>
  intro l x W K hK
  gi_wp2
  exact hK
 case body=>
  rintro l pre x W ⟨⟨i1,i2⟩,i3⟩ hlt
  have hz:=i3.size
  have y1:=i1.lt
  have y2:=i2.lt
  have k1:=i1.cell
  have f1:=i1.frozen
  have k2:=i2.cell
  have f2:=i2.frozen
  have hb:=Y9 s.floor pre
  have h9:pre.length<25700:=by have:=hfew.out;omega
  by_cases hx:s.floor<=x
  ·have e:=Hd (Za pre hx)
   gi_wp2
   exact⟨KeepsOthers.from (Cw) _,Y8,⟨⟨Ad,by rw[e.out];exact Ad⟩,Aa⟩⟩
  ·have e:=Hd (Uz pre hx)
   have hx':x<s.floor:=by omega
   gi_wp2
   exact⟨KeepsOthers.from (Cw) _,Y8,⟨⟨Ad,by rw[e.out];exact Ad⟩,Aa⟩⟩
 case done=>
  rintro D ys W hD rfl ⟨⟨i1,i2⟩,i3⟩ hK
  have k2:=i2.cell
  gi_wp2
  refine⟨by simp,.inl ⟨_,_,rfl,run_takeDeferred hK,?_⟩⟩
  exact⟨_,results_tmp rfl _ _ _,rfl,i3.trans (belowK_b (w:=w) (Nat.le_refl _) W D _ _ (by omega) hK rfl rfl)⟩
 case stop=>
  rintro D c pre W _ _ h _
  exact h.elim
theorem c_srKept (s:A8) (ps po:Option Addr) (cs co:Nat) (w:World) (hin:Dj w s ps po) (hv:∀x,x∈s.segs->Cr x=true):
  Cb 126 #[.agg (Dy s ps cs po co)] w (.int .i64 (Ht s)):=callsIn_wide.1 (kept_in s ps po cs co w hin hv)
attribute [local simp] Oper.looksAt Op.operands Call.operands Af Det Am
def ck1Rel (w:World) (s:A8) (ps po:Option Addr) (cs co:Nat) (a':Act) (W:World):Prop:=
 Below w.heap.size w W/\Blk W w.heap.size #[.string s.name,s.eps,s.floor,s.last,s.scale,.slice ps s.segs.length cs,.slice po s.opn.length co] 79/\Blk W (w.heap.size+1) #[.int .i64 0] 36/\∃i:Nat,(∃u:Nat->Value,a'= {tmps:= #[.agg #[.string s.name,s.eps,s.floor,s.last,s.scale,.slice ps s.segs.length cs,.slice po s.opn.length co],.pointer (some ⟨w.heap.size,0,none⟩),.pointer (some ⟨w.heap.size+1,0,none⟩),u 3,u 4,u 5,u 6,u 7,u 8,u 9,u 10,u 11,u 12,u 13,u 14,u 15,u 16,u 17,u 18,u 19,u 20,u 21,u 22,u 23,u 24,.slice ps s.segs.length cs,.int .i64 (s.segs.length:Int),.int .i64 (i:Int),u 28,u 29,u 30,u 31,u 32,u 33,u 34,u 35,u 36,u 37,u 38,u 39,u 40,u 41,u 42,u 43,u 44,u 45,u 46,u 47,u 48,u 49,u 50,u 51,u 52,u 53,u 54,u 55,u 56,u 57,u 58,u 59,u 60,u 61,u 62,u 63,u 64,u 65,u 66,u 67,u 68,u 69,u 70,u 71,u 72,u 73,u 74,u 75,u 76,u 77,u 78,u 79,u 80,u 81,u 82,u 83],defers:= []})/\i<=s.segs.length/\(∀j x,j<i->s.segs[j]? =some x->Jl s.eps s.floor x=true)
def ck2Rel (w:World) (s:A8) (ps po:Option Addr) (cs co:Nat) (a':Act) (W:World):Prop:=
 Below w.heap.size w W/\Blk W w.heap.size #[.string s.name,s.eps,s.floor,s.last,s.scale,.slice ps s.segs.length cs,.slice po s.opn.length co] 79/\Blk W (w.heap.size+1) #[.int .i64 0] 36/\∃i:Nat,(∃u:Nat->Value,a'= {tmps:= #[.agg #[.string s.name,s.eps,s.floor,s.last,s.scale,.slice ps s.segs.length cs,.slice po s.opn.length co],.pointer (some ⟨w.heap.size,0,none⟩),.pointer (some ⟨w.heap.size+1,0,none⟩),u 3,u 4,u 5,u 6,u 7,u 8,u 9,u 10,u 11,u 12,u 13,u 14,u 15,u 16,u 17,u 18,u 19,u 20,u 21,u 22,u 23,u 24,u 25,u 26,u 27,u 28,u 29,u 30,u 31,u 32,u 33,u 34,u 35,u 36,u 37,u 38,u 39,u 40,u 41,u 42,u 43,u 44,.slice po s.opn.length co,.int .i64 (s.opn.length:Int),.int .i64 (i:Int),u 48,u 49,u 50,u 51,u 52,u 53,u 54,u 55,u 56,u 57,u 58,u 59,u 60,u 61,u 62,u 63,u 64,u 65,u 66,u 67,u 68,u 69,u 70,u 71,u 72,u 73,u 74,u 75,u 76,u 77,u 78,u 79,u 80,u 81,u 82,u 83],defers:= []})/\i<=s.opn.length/\(∀j x,j<i->s.opn[j]? =some x->Gl s.floor x=true)
theorem check_in (s:A8) (ps po:Option Addr) (cs co:Nat) (w:World) (hin:Dj w s ps po):
  CallsIn Fence.wide 4 Tryz.prog 76 #[.agg (Dy s ps cs po co)] w fun e w'=>e= .returned (.int .i64 (F6 s))/\Below w.heap.size w w':=by
 have hfS:=hin.fewS
 have hfO:=hin.fewO
 unfold Dy
 refine callsIn_of_wp_marks Tryz.func76 rfl trivial ?_ rfl
 simp only[Tryz.ntmps76,List.size_toArray,List.length_cons,List.length_nil,Nat.reduceAdd,Nat.reduceSub,Array.replicate_succ,Array.replicate_zero,List.push_toArray,List.append_toArray,List.nil_append,List.cons_append]
 refine wpIn_wide.2 ?_
 have hNS:Le s=(Fq s.name&&btw s.eps 0 1099511627776&&btw s.scale (-40) 40&&btw s.floor 0 281474976710656&&btw s.last (-1) 281474976710656):=by unfold Le;simp[Bool.and_assoc]
 have c1:=fun W=>c_srNums s.name s.eps s.floor s.last s.scale ps po s.segs.length cs s.opn.length co W
 rw[<-hNS] at c1
 clear hNS
 obtain⟨N,hN⟩:∃N,Le s=N:=⟨_,rfl⟩
 rw[hN] at c1
 have c2:=fun W (h:Dj W s ps po)=>c_mgCheck ps cs s.segs W (by omega) h.segs
 obtain⟨E,hE⟩:∃E:Int,(if Es (-1) s.segs=true then 0 else 240)=E:=⟨_,rfl⟩
 rw[hE] at c2
 obtain⟨RES,hRES⟩:∃z,F6 s=z:=⟨_,rfl⟩
 rw[hRES]
 replace hN:=Hd hN
 replace hE:=Hd hE
 replace c1:=Hd c1
 replace c2:=Hd c2
 replace hRES:=Hd hRES
 go_upto_region 1 with(fail)
 refine Bd (fun W'=>Below w.heap.size w W'/\Blk W' w.heap.size #[.string s.name,s.eps,s.floor,s.last,s.scale,.slice ps s.segs.length cs,.slice po s.opn.length co] 79/\Blk W' (w.heap.size+1) #[.int .i64 0] 36) ⟨by exact Aa,by exact Ad,by exact Ad⟩ ?_
 rintro W1 ⟨hW,b1,b2⟩
 have z2:=hW.size
 have z3:=b1.lt
 have z4:=b2.lt
 refine Dm 15 84 [] (fun W'=>Rex [] W1 W'/\Blk W' w.heap.size #[.string s.name,s.eps,s.floor,s.last,s.scale,.slice ps s.segs.length cs,.slice po s.opn.length co] 79/\Blk W' (w.heap.size+1) #[.int .i64 0] 36) (by kernel_rfl) rfl ⟨(Rex.refl _ _),b1,b2⟩ (fun w w' ⟨h0,h1,h2⟩ hr=>⟨h0.trans hr,h1.rex hr (by simp<;>omega),h2.rex hr (by simp<;>omega)⟩) ?_
 iterate 1
  apply An (hg:=rfl) (hal:=rfl)
  ·intro a W' hC hE
   obtain⟨_,k1,k2⟩:=hC
   have k1:=k1.cell
   first
    |(simp at hE;simp[go_sem,Act.eval,iw,hE,k1,k2];try rfl)
    |(clear hE;simp[go_sem,Act.eval,iw,k1,k2];try rfl)
 refine Cx rfl rfl (fun W' hC=>c1.out W') (fun a W' hC hE=> ?_) ?_
 ·obtain⟨_,k1,k2⟩:=hC
  have k1:=k1.cell
  first
   |(simp at hE;simp[go_sem,Act.eval,iw,hE,k1,k2];try rfl)
   |(clear hE;simp[go_sem,Act.eval,iw,k1,k2];try rfl)
 iterate 2
  apply An (hg:=rfl) (hal:=rfl)
  ·intro a W' hC hE
   obtain⟨_,k1,k2⟩:=hC
   have k1:=k1.cell
   first
    |(simp at hE;simp[go_sem,Act.eval,iw,hE,k1,k2];try rfl)
    |(clear hE;simp[go_sem,Act.eval,iw,k1,k2];try rfl)
 iterate 2
  apply Ai (p:=true) (hg:=rfl) (hd:=rfl) (hal:=rfl)
  ·intro v W' h
   simp[Af,Det,Am] at h
   simp
   exact h
  ·intro hp hx a W' hC hE
   obtain⟨_,k1,k2⟩:=hC
   have k1:=k1.cell
   simp[hx] at hE
   simp[go_sem,Act.eval,iw,hE,k1,k2]
   try rfl
 apply Bu (p:=true) (hg:=rfl) (hd:=rfl) (hal:=rfl)
 ·intro v W' h
  simp at h
  simp
  exact h
 ·intro hp hx W' hC
  exact c2.out W' (hin.below (hW.trans (hC.1.of_priv hW.size)))
 ·intro hp hx a W' hC hE
  obtain⟨_,k1,k2⟩:=hC
  have k1:=k1.cell
  first
   |(simp[hx] at hE;simp[go_sem,Act.eval,iw,hE,k1,k2];try rfl)
   |(clear hE;simp[go_sem,Act.eval,iw,k1,k2];try rfl)
 iterate 8
  first
  |(
   apply Ai (p:=true) (hg:=rfl) (hd:=rfl) (hal:=rfl)
   ·intro v W' h
    simp[Af,Det,Am] at h
    simp
    exact h
   ·intro hp hx a W' hC hE
    obtain⟨_,k1,k2⟩:=hC
    have k1:=k1.cell
    simp[hx] at hE
    simp[go_sem,Act.eval,iw,hE,k1,k2]
    try rfl)
  |(
   apply Ek (ho:=rfl) (hg:=rfl)
   ·intro v W' h
    simp at h
    exact h
   ·intro v W' h hx
    simp[hx] at h
    exact h)
  |(
   apply An (hg:=rfl) (hal:=rfl)
   ·intro a W' hC hE
    obtain⟨_,k1,k2⟩:=hC
    have k1:=k1.cell
    first
     |(simp at hE;simp[go_sem,Act.eval,iw,hE,k1,k2];try rfl)
     |(clear hE;simp[go_sem,Act.eval,iw,k1,k2];try rfl))
 rintro W5 ⟨hR,d1,d2⟩
 simp only[A6,Det,forall_eq]
 intros
 repeat (rename Am _ _ _ _=>hgd;clear hgd)
 simp only[nS]
 refine wpList_nil ?_
 replace hW:=hW.trans (hR.of_priv hW.size)
 clear hR
 try clear b1 b2
 have b1:=d1
 clear d1
 have b2:=d2
 clear d2
 have k1:=b1.cell
 have f1:=b1.frozen
 have k2:=b2.cell
 have f2:=b2.frozen
 clear c1 c2
 have y1:=b1.lt
 have y2:=b2.lt
 obtain⟨F,hF⟩:∃F,(!N||E !=0||decide (32<=(s.opn.length:Int)))=F:=⟨_,rfl⟩
 rw[hF]
 simp only[Exit.then]
 cases F with
 |true=>
  replace hRES:=Hd (show RES=340 by
   rw[<-hRES.out];unfold F6;rw[if_neg];intro hh
   unfold B8 at hh
   simp only[Bool.and_eq_true,decide_eq_true_eq] at hh
   have h1:=hN.out;have h2:=hE.out
   rw[hh.1] at h1
   rw[if_pos hh.2.1] at h2
   subst h1;subst h2
   simp at hF
   omega)
  clear hF
  go_wp2
  simp only[bodyPostM]
  have b9:Blk (W5.setCell ⟨w.heap.size+1,0,none⟩ (.int .i64 340)) (w.heap.size+1) #[.int .i64 340] 36:=Ad
  have k9:=b9.cell
  refine⟨.int .i64 340,by simp[results,Tryz.f76,go_sem,k9],by rw[hRES.out],Aa⟩
 |false=>
  have hN1:N=true:=by cases N with|true=>rfl|false=>simp at hF
  have hE1:E=0:=by subst hN1;simp at hF;exact hF.1
  have hO1:s.opn.length<32:=by subst hN1;simp at hF;omega
  have hrow:Es (-1) s.segs=true:=by
   have:=hE.out
   rw[hE1] at this
   cases h:Es (-1) s.segs with
   |true=>rfl
   |false=>rw[h] at this;simp at this
  have hnum:Le s=true:=by rw[hN.out,hN1]
  have hv:=Hd (K9 hrow)
  replace hrow:=Hd hrow
  replace hnum:=Hd hnum
  clear hF hN hE hN1 hE1
  go_wp2
  refine wp_loop (ck1Rel w s ps po cs co) (fun a' _=>s.segs.length-(Ag (a'.tmps.getD 27 undef)).toNat) ?_ ?_
  ·unfold ck1Rel
   exact⟨hW,b1,b2,0,Ac rfl,Nat.zero_le _,fun j x hj=>by omega⟩
  ·clear b1 b2 k1 f1 k2 f2 y1 y2 hW
   rintro a' W ⟨hW0,b1,b2,i,⟨u,rfl⟩,hi',hall⟩
   have hz:=hW0.size
   have zb1:=b1.lt
   have zb2:=b2.lt
   replace hall:=Hd hall
   rcases Nat.lt_or_ge i s.segs.length with hlt|hge
   ·obtain⟨x,tr⟩:∃r,s.segs[i]? =some r:=⟨s.segs[i]'(by omega),List.getElem?_eq_getElem (by omega)⟩
    have hsx:=hv.out x (List.mem_of_getElem? tr)
    obtain⟨b,o,p',q',cp,vc,rfl,hs,hvc,q0,q1,q2,q3,q4,q5,q6,q7⟩:=(hin.below hW0).segs.one tr
    have c3:=fun W' (hW':Below W.heap.size W W')=>c_srLast x p' q' cp vc W' (hs.below hW') hsx
    unfold C9 at c3
    obtain⟨L,hL⟩:∃L,C8 x.runs=L:=⟨_,rfl⟩
    rw[hL] at c3
    replace c3:=Hd c3
    replace hL:=Hd hL
    replace tr:=Hd tr
    clear hs hsx
    have k1:=b1.cell
    have f1:=b1.frozen
    have k2:=b2.cell
    have f2:=b2.frozen
    go_upto_region 6 with(fail)
    clear k1 f1 k2 f2
    refine Bd (fun W'=>Below W.heap.size W W'/\Blk W' w.heap.size #[.string s.name,s.eps,s.floor,s.last,s.scale,.slice (some ⟨b,o,none⟩) s.segs.length cs,.slice po s.opn.length co] 79/\Blk W' (w.heap.size+1) #[.int .i64 0] 36/\Blk W' W.heap.size #[x.K,.slice p' x.runs.length cp,x.A,x.R,x.n,x.d,.slice q' x.raw.length vc,x.E] 135) ⟨by exact Aa,by exact Ad,by exact Ad,by exact Ad⟩ ?_
    clear b1 b2
    rintro W21 ⟨hW,b1,b2,b3⟩
    have z22:=hW.size
    have z23:=b1.lt
    have z24:=b2.lt
    have z25:=b3.lt
    refine D7 12 84 [] (fun W'=>Rex [] W21 W'/\Blk W' w.heap.size #[.string s.name,s.eps,s.floor,s.last,s.scale,.slice (some ⟨b,o,none⟩) s.segs.length cs,.slice po s.opn.length co] 79/\Blk W' (w.heap.size+1) #[.int .i64 0] 36/\Blk W' W.heap.size #[x.K,.slice p' x.runs.length cp,x.A,x.R,x.n,x.d,.slice q' x.raw.length vc,x.E] 135) Cu (by kernel_rfl) rfl ⟨(Rex.refl _ _).drew,b1,b2,b3⟩ (fun w w' ⟨h0,h1,h2,h3⟩ hr=>⟨h0.trans hr,h1.rex hr (by simp<;>omega),h2.rex hr (by simp<;>omega),h3.rex hr (by simp<;>omega)⟩) rfl ?_
    iterate 6
     apply An (hg:=rfl) (hal:=rfl)
     ·intro a W' hC hE
      obtain⟨_,k1,k2,k3⟩:=hC
      have k1:=k1.cell
      have k3:=k3.cell
      first
       |(simp at hE;simp[go_sem,Act.eval,iw,hE,k1,k2,k3];try rfl)
       |(clear hE;simp[go_sem,Act.eval,iw,k1,k2,k3];try rfl)
    iterate 1
     apply Ai (p:=true) (hg:=rfl) (hd:=rfl) (hal:=rfl)
     ·intro v W' h
      simp[Af,Det,Am] at h
      simp
      exact h
     ·intro hp hx a W' hC hE
      obtain⟨_,k1,k2,k3⟩:=hC
      have k1:=k1.cell
      have k3:=k3.cell
      simp[hx] at hE
      simp[go_sem,Act.eval,iw,hE,k1,k2,k3]
      try rfl
    apply Bu (p:=true) (hg:=rfl) (hd:=rfl) (hal:=rfl)
    ·intro v W' h
     simp at h
     simp
     exact h
    ·intro hp hx W' hC
     exact c3.out W' (hW.trans (hC.1.of_priv hW.size))
    ·intro hp hx a W' hC hE
     obtain⟨_,k1,k2,k3⟩:=hC
     have k1:=k1.cell
     have k3:=k3.cell
     first
      |(simp[hx] at hE;simp[go_sem,Act.eval,iw,hE,k1,k2,k3];try rfl)
      |(clear hE;simp[go_sem,Act.eval,iw,k1,k2,k3];try rfl)
    iterate 3
     apply Ai (p:=true) (hg:=rfl) (hd:=rfl) (hal:=rfl)
     ·intro v W' h
      simp[Af,Det,Am] at h
      simp
      exact h
     ·intro hp hx a W' hC hE
      obtain⟨_,k1,k2,k3⟩:=hC
      have k1:=k1.cell
      have k3:=k3.cell
      simp[hx] at hE
      simp[go_sem,Act.eval,iw,hE,k1,k2,k3]
      try rfl
    apply Ek (ho:=rfl) (hg:=rfl)
    ·intro v W' h
     simp at h
     exact h
    ·intro v W' h hx
     simp[hx] at h
     exact h
    rintro W26 ⟨hR,d1,d2,d3⟩
    simp only[A6,Det,forall_eq]
    intros
    repeat (rename Am _ _ _ _=>hgd;clear hgd)
    simp only[nS]
    refine wpList_nil ?_
    replace hW:=hW.trans (hR.of_priv hW.size)
    clear hR
    try clear b1 b2 b3
    have b1:=d1
    clear d1
    have b2:=d2
    clear d2
    have b3:=d3
    clear d3
    have k1:=b1.cell
    have f1:=b1.frozen
    have k2:=b2.cell
    have f2:=b2.frozen
    have k3:=b3.cell
    have f3:=b3.frozen
    have y1:=b1.lt
    have y2:=b2.lt
    obtain⟨F,hF⟩:∃F,(decide (s.eps<x.E)||decide (L<s.floor))=F:=⟨_,rfl⟩
    rw[hF]
    simp only[Exit.then]
    have hin2:Jl s.eps s.floor x= !F:=by
     rw[<-hF];unfold Jl;rw[hL.out,Bool.eq_iff_iff];simp
    clear hF
    cases F with
    |true=>
     replace hRES:=Hd (show RES=340 by
      rw[<-hRES.out];unfold F6;rw[if_neg];intro hh
      unfold B8 at hh
      simp only[Bool.and_eq_true,decide_eq_true_eq] at hh
      have:=List.all_eq_true.1 hh.2.2.2.1 x (List.mem_of_getElem? tr.out)
      rw[hin2] at this;cases this)
     clear hin2
     go_wp2
     simp only[bodyPostM]
     have b9:Blk (W26.setCell ⟨w.heap.size+1,0,none⟩ (.int .i64 340)) (w.heap.size+1) #[.int .i64 340] 36:=Ad
     have k9:=b9.cell
     refine⟨.int .i64 340,by simp[results,Tryz.f76,go_sem,k9],by rw[hRES.out],(hW0.trans (hW.mono hz)).setCell (by simp) _⟩
    |false=>
     replace hin2:=Hd hin2
     go_wp2
     rw[show (i:Int)+1=((i+1:Nat):Int) by omega]
     refine⟨?_,by simp[Ag];omega⟩
     unfold ck1Rel
     exact⟨hW0.trans (hW.mono hz),b1,b2,i+1,Ac rfl,by omega,fun j z hj hz=>by
      rcases Nat.lt_or_ge j i with h|h
      ·exact hall.out j z h hz
      ·obtain rfl:j=i:=by omega
       rw[tr.out] at hz
       injection hz with hz
       rw[<-hz];exact hin2.out⟩
   ·obtain rfl:i=s.segs.length:=by omega
    have hseg:=Hd (show s.segs.all (Jl s.eps s.floor)=true by
     rw[List.all_eq_true]
     intro x hx
     obtain⟨k,hk⟩:=List.getElem?_of_mem hx
     exact hall.out k x (List.getElem?_eq_some_iff.1 hk).1 hk)
    clear hall
    have k1:=b1.cell
    go_wp2
    clear k1
    refine wp_loop (ck2Rel w s ps po cs co) (fun a' _=>s.opn.length-(Ag (a'.tmps.getD 47 undef)).toNat) ?_ ?_
    ·unfold ck2Rel
     exact⟨hW0,b1,b2,0,Ac rfl,Nat.zero_le _,fun j x hj=>by omega⟩
    ·clear b1 b2 zb1 zb2 hz hW0
     rintro a' W ⟨hW0,b1,b2,i,⟨u,rfl⟩,hi',hall⟩
     have hz:=hW0.size
     have zb1:=b1.lt
     have zb2:=b2.lt
     replace hall:=Hd hall
     rcases Nat.lt_or_ge i s.opn.length with hlt|hge
     ·obtain⟨⟨t,v⟩,tr⟩:∃r,s.opn[i]? =some r:=⟨s.opn[i]'(by omega),List.getElem?_eq_getElem (by omega)⟩
      obtain⟨b,o,rfl,q0,q1⟩:=(hin.below hW0).opn.at' i _ tr
      simp only at q0 q1
      obtain⟨B5,hB5⟩:∃B,btw t s.floor 281474976710656=B:=⟨_,rfl⟩
      obtain⟨B6,hB6⟩:∃B,btw v (-2305843009213693952) 2305843009213693952=B:=⟨_,rfl⟩
      have c5:=fun W=>Ol t s.floor 281474976710656 W
      have c6:=fun W=>Ol v (-2305843009213693952) 2305843009213693952 W
      rw[hB5] at c5
      rw[hB6] at c6
      have hin2:Gl s.floor (t,v)=(B5&&B6):=by rw[<-hB5,<-hB6];rfl
      replace c5:=Hd c5
      replace c6:=Hd c6
      replace tr:=Hd tr
      clear hB5 hB6
      have k1:=b1.cell
      have f1:=b1.frozen
      have k2:=b2.cell
      have f2:=b2.frozen
      go_upto_region 12 with(fail)
      clear k1 f1 k2 f2
      refine Bd (fun W'=>Below W.heap.size W W'/\Blk W' w.heap.size #[.string s.name,s.eps,s.floor,s.last,s.scale,.slice ps s.segs.length cs,.slice (some ⟨b,o,none⟩) s.opn.length co] 79/\Blk W' (w.heap.size+1) #[.int .i64 0] 36/\Blk W' W.heap.size #[t,v] 58) ⟨by exact Aa,by exact Ad,by exact Ad,by exact Ad⟩ ?_
      clear b1 b2
      rintro W21 ⟨hW,b1,b2,b3⟩
      have z22:=hW.size
      have z23:=b1.lt
      have z24:=b2.lt
      have z25:=b3.lt
      refine Dm 12 84 [] (fun W'=>Rex [] W21 W'/\Blk W' w.heap.size #[.string s.name,s.eps,s.floor,s.last,s.scale,.slice ps s.segs.length cs,.slice (some ⟨b,o,none⟩) s.opn.length co] 79/\Blk W' (w.heap.size+1) #[.int .i64 0] 36/\Blk W' W.heap.size #[t,v] 58) (by kernel_rfl) rfl ⟨(Rex.refl _ _),b1,b2,b3⟩ (fun w w' ⟨h0,h1,h2,h3⟩ hr=>⟨h0.trans hr,h1.rex hr (by simp<;>omega),h2.rex hr (by simp<;>omega),h3.rex hr (by simp<;>omega)⟩) ?_
      iterate 4
       apply An (hg:=rfl) (hal:=rfl)
       ·intro a W' hC hE
        obtain⟨_,k1,k2,k3⟩:=hC
        have k1:=k1.cell
        have k3:=k3.cell
        first
         |(simp at hE;simp[go_sem,Act.eval,iw,hE,k1,k2,k3];try rfl)
         |(clear hE;simp[go_sem,Act.eval,iw,k1,k2,k3];try rfl)
      refine Cx rfl rfl (fun W' hC=>c5.out W') (fun a W' hC hE=> ?_) ?_
      ·obtain⟨_,k1,k2,k3⟩:=hC
       have k1:=k1.cell
       have k3:=k3.cell
       first
        |(simp at hE;simp[go_sem,Act.eval,iw,hE,k1,k2,k3];try rfl)
        |(clear hE;simp[go_sem,Act.eval,iw,k1,k2,k3];try rfl)
      iterate 2
       apply An (hg:=rfl) (hal:=rfl)
       ·intro a W' hC hE
        obtain⟨_,k1,k2,k3⟩:=hC
        have k1:=k1.cell
        have k3:=k3.cell
        first
         |(simp at hE;simp[go_sem,Act.eval,iw,hE,k1,k2,k3];try rfl)
         |(clear hE;simp[go_sem,Act.eval,iw,k1,k2,k3];try rfl)
      iterate 2
       apply Ai (p:=true) (hg:=rfl) (hd:=rfl) (hal:=rfl)
       ·intro v W' h
        simp[Af,Det,Am] at h
        simp
        exact h
       ·intro hp hx a W' hC hE
        obtain⟨_,k1,k2,k3⟩:=hC
        have k1:=k1.cell
        have k3:=k3.cell
        simp[hx] at hE
        simp[go_sem,Act.eval,iw,hE,k1,k2,k3]
        try rfl
      apply Bu (p:=true) (hg:=rfl) (hd:=rfl) (hal:=rfl)
      ·intro v W' h
       simp at h
       simp
       exact h
      ·intro hp hx W' hC
       exact c6.out W'
      ·intro hp hx a W' hC hE
       obtain⟨_,k1,k2,k3⟩:=hC
       have k1:=k1.cell
       have k3:=k3.cell
       first
        |(simp[hx] at hE;simp[go_sem,Act.eval,iw,hE,k1,k2,k3];try rfl)
        |(clear hE;simp[go_sem,Act.eval,iw,k1,k2,k3];try rfl)
      iterate 1
       apply Ai (p:=true) (hg:=rfl) (hd:=rfl) (hal:=rfl)
       ·intro v W' h
        simp[Af,Det,Am] at h
        simp
        exact h
       ·intro hp hx a W' hC hE
        obtain⟨_,k1,k2,k3⟩:=hC
        have k1:=k1.cell
        have k3:=k3.cell
        simp[hx] at hE
        simp[go_sem,Act.eval,iw,hE,k1,k2,k3]
        try rfl
      apply Ek (ho:=rfl) (hg:=rfl)
      ·intro v W' h
       simp at h
       exact h
      ·intro v W' h hx
       simp[hx] at h
       exact h
      rintro W26 ⟨hR,d1,d2,d3⟩
      simp only[A6,Det,forall_eq]
      intros
      repeat (rename Am _ _ _ _=>hgd;clear hgd)
      simp only[nS]
      refine wpList_nil ?_
      replace hW:=hW.trans (hR.of_priv hW.size)
      clear hR
      try clear b1 b2 b3
      have b1:=d1
      clear d1
      have b2:=d2
      clear d2
      have b3:=d3
      clear d3
      have k1:=b1.cell
      have f1:=b1.frozen
      have k2:=b2.cell
      have f2:=b2.frozen
      have k3:=b3.cell
      have f3:=b3.frozen
      have y1:=b1.lt
      have y2:=b2.lt
      obtain⟨F,hF⟩:∃F,(!B5|| !B6)=F:=⟨_,rfl⟩
      rw[hF]
      simp only[Exit.then]
      cases F with
      |true=>
       replace hRES:=Hd (show RES=340 by
        rw[<-hRES.out];unfold F6;rw[if_neg];intro hh
        unfold B8 at hh
        simp only[Bool.and_eq_true,decide_eq_true_eq] at hh
        have:=List.all_eq_true.1 hh.2.2.2.2.1 (t,v) (List.mem_of_getElem? tr.out)
        rw[hin2] at this
        cases B5<;>cases B6<;>simp at hF this)
       clear hin2 hF
       go_wp2
       simp only[bodyPostM]
       have b9:Blk (W26.setCell ⟨w.heap.size+1,0,none⟩ (.int .i64 340)) (w.heap.size+1) #[.int .i64 340] 36:=Ad
       have k9:=b9.cell
       refine⟨.int .i64 340,by simp[results,Tryz.f76,go_sem,k9],by rw[hRES.out],(hW0.trans (hW.mono hz)).setCell (by simp) _⟩
      |false=>
       replace hin2:=Hd (show Gl s.floor (t,v)=true by rw[hin2];cases B5<;>cases B6<;>simp at hF⊢)
       clear hF
       go_wp2
       rw[show (i:Int)+1=((i+1:Nat):Int) by omega]
       refine⟨?_,by simp[Ag];omega⟩
       unfold ck2Rel
       exact⟨hW0.trans (hW.mono hz),b1,b2,i+1,Ac rfl,by omega,fun j z hj hz=>by
        rcases Nat.lt_or_ge j i with h|h
        ·exact hall.out j z h hz
        ·obtain rfl:j=i:=by omega
         rw[tr.out] at hz
         injection hz with hz
         rw[<-hz];exact hin2.out⟩
     ·obtain rfl:i=s.opn.length:=by omega
      have hopn:=Hd (show s.opn.all (Gl s.floor)=true by
       rw[List.all_eq_true]
       intro x hx
       obtain⟨k,hk⟩:=List.getElem?_of_mem hx
       exact hall.out k x (List.getElem?_eq_some_iff.1 hk).1 hk)
      clear hall
      have k1:=b1.cell
      go_wp2_with fail
      refine(Va _ _ _ _ _ _ _ _ _ _ _ _).mono ?_
      rintro e w' ⟨rfl,rfl⟩
      clear k1
      have c1:Below w.heap.size w ((W.alloc (.cells #[.int .i64 (-1)] 2)).alloc (.cells #[.string s.name,s.eps,s.floor,s.last,s.scale,.slice ps s.segs.length cs,.slice po s.opn.length co] 79)):=Aa
      have d1:Blk ((W.alloc (.cells #[.int .i64 (-1)] 2)).alloc (.cells #[.string s.name,s.eps,s.floor,s.last,s.scale,.slice ps s.segs.length cs,.slice po s.opn.length co] 79)) w.heap.size #[.string s.name,s.eps,s.floor,s.last,s.scale,.slice ps s.segs.length cs,.slice po s.opn.length co] 79:=Ad
      have d2:Blk ((W.alloc (.cells #[.int .i64 (-1)] 2)).alloc (.cells #[.string s.name,s.eps,s.floor,s.last,s.scale,.slice ps s.segs.length cs,.slice po s.opn.length co] 79)) (w.heap.size+1) #[.int .i64 0] 36:=Ad
      have d3:Blk ((W.alloc (.cells #[.int .i64 (-1)] 2)).alloc (.cells #[.string s.name,s.eps,s.floor,s.last,s.scale,.slice ps s.segs.length cs,.slice po s.opn.length co] 79)) W.heap.size #[.int .i64 (-1)] 2:=Ad
      have d4:Blk ((W.alloc (.cells #[.int .i64 (-1)] 2)).alloc (.cells #[.string s.name,s.eps,s.floor,s.last,s.scale,.slice ps s.segs.length cs,.slice po s.opn.length co] 79)) (W.heap.size+1) #[.string s.name,s.eps,s.floor,s.last,s.scale,.slice ps s.segs.length cs,.slice po s.opn.length co] 79:=Blk.new' (by simp)
      have hsz:((W.alloc (.cells #[.int .i64 (-1)] 2)).alloc (.cells #[.string s.name,s.eps,s.floor,s.last,s.scale,.slice ps s.segs.length cs,.slice po s.opn.length co] 79)).heap.size=W.heap.size+1+1:=by simp
      simp only[World.size_alloc]
      obtain⟨W0,hWe⟩:∃W0,W0=((W.alloc (.cells #[.int .i64 (-1)] 2)).alloc (.cells #[.string s.name,s.eps,s.floor,s.last,s.scale,.slice ps s.segs.length cs,.slice po s.opn.length co] 79)):=⟨_,rfl⟩
      rw[<-hWe] at c1 d1 d2 d3 d4 hsz⊢
      clear hWe hW0
      go_wp2
      refine(wpIn_wide (n:=4)).1 ?_
      refine wpIn_rangeFunc_ownG rfl (by omega) (gf:=156) (lb:= #[.pointer (some ⟨W.heap.size+1,0,none⟩)]) rfl trivial (enters_of Tryz.func156 (by kernel_rfl) rfl)
       (encs:=fun x:Int=> #[Value.int .i64 x]) (Kp:=KF w.heap.size (W.heap.size+1)) (S:=fun ys=>ys=Cd s) (Sp:=fun pre=>pre<+:Cd s) (N:=(Cd s).length) (w0:=W0)
       (fun lr J Jx Wx hWW hJ _ hY h0=>Pu 3 (by omega) lr (W.heap.size+1) (W.heap.size+1) s ps po cs co w hin hv.out (by omega) (Nat.le_refl _) J Jx _ hJ hY Wx (c1.trans (hWW.mono c1.size)) (d4.below hWW) h0)
       (fun h k=>h.trans k) (KF.putObj (by omega)) (Below.refl _ _) (fun _=>rfl)
       (fun pre Wx=>((Blk Wx w.heap.size #[.string s.name,s.eps,s.floor,s.last,s.scale,.slice ps s.segs.length cs,.slice po s.opn.length co] 79/\Blk Wx (w.heap.size+1) #[.int .i64 0] 36)/\Blk Wx W.heap.size #[.int .i64 (Cs (-1) pre)] 2)/\(Er (-1) pre=true)/\Below w.heap.size w Wx)
       (fun c pre Wx=>Blk Wx (w.heap.size+1) #[.int .i64 340] 36/\(c= .ret/\Er (-1) pre=false)/\Below w.heap.size w Wx)
       (OwnFrom.and (OwnFrom.and (OwnFrom.and (Own.from (Dr _ _ _) _) (Own.from (Dr _ _ _) _)) (Own.from (Dr _ _ _) _)) (OwnFrom.and (ownFrom_pure _ _) (ownFrom_below (Nat.le_refl _) (by omega))))
       (fun c=>OwnFrom.and (Own.from (Dr _ _ _) _) (OwnFrom.and (ownFrom_pure _ _) (ownFrom_below (Nat.le_refl _) (by omega))))
       ⟨⟨⟨d1,d2⟩,d3⟩,rfl,c1⟩
       ?a1 ?assign ?body ?done ?stop
      case assign=>
       intro l x Wx K hK
       gi_wp2
       exact hK
      case body=>
       rintro l pre x Wx ⟨⟨⟨i1,i2⟩,i3⟩,i4,i5⟩ hlt
       have hz5:=i5.size
       have y1:=i1.lt
       have y2:=i2.lt
       have y3:=i3.lt
       have k2:=i2.cell
       have f2:=i2.frozen
       have k3:=i3.cell
       have f3:=i3.frozen
       obtain⟨A,hA⟩:∃A,Cs (-1) pre=A:=⟨_,rfl⟩
       have hr:=Hd (Mz pre (-1) x)
       have hl:=Hd (El pre (-1) x)
       rw[hA] at i3 k3
       by_cases hlt2:A<x
       ·have hr2:=Hd (show Er (-1) (pre++ [x])=true by rw[hr.out,i4,hA];simp[hlt2])
        clear hA i4
        gi_wp2
        exact⟨KeepsOthers.from (Cw) _,Y8,⟨⟨⟨Ad,Ad⟩,by rw[hl.out];exact Ad⟩,hr2.out,Aa⟩⟩
       ·have hr2:=Hd (show Er (-1) (pre++ [x])=false by rw[hr.out,hA];simp[hlt2])
        have hle:x<=A:=by omega
        clear hA i4 hlt2
        gi_wp2
        exact⟨KeepsOthers.from (Cw) _,⟨Ad,⟨rfl,hr2.out⟩,Aa⟩⟩
      case done=>
       rintro D ys Wx hD rfl ⟨⟨⟨i1,i2⟩,i3⟩,i4,i5⟩ hK
       have hz5:=i5.size
       have y1:=i1.lt
       have y2:=i2.lt
       have y3:=i3.lt
       have k1:=i1.cell
       have k2:=i2.cell
       have f2:=i2.frozen
       have k3:=i3.cell
       have hrise:=Hd i4
       clear i4
       obtain⟨A,hA⟩:∃A,Cs (-1) (Cd s)=A:=⟨_,rfl⟩
       rw[hA] at i3 k3
       replace hA:=Hd hA
       have hck:=Hd (show B8 s=(Ob s&&decide (Ht s<=1024)) by
        unfold B8
        rw[hnum.out,hrow.out,hseg.out,hopn.out,hrise.out,decide_eq_true hO1]
        simp)
       simp only[Exit.inBlock,Exit.then]
       by_cases hlast:0<=A/\s.last≠A
       ·replace hRES:=Hd (show RES=340 by
         rw[<-hRES.out];unfold F6;rw[if_neg];rw[hck.out];intro hh
         rw[Bool.and_eq_true] at hh
         have:=hh.1
         unfold Ob at this
         rw[hA.out] at this
         simp at this
         omega)
        obtain⟨h0,h1⟩:=hlast
        have h1:(s.last !=A)=true:=by simpa using h1
        go_wp2
        have b9:Blk (Wx.setCell ⟨w.heap.size+1,0,none⟩ (.int .i64 340)) (w.heap.size+1) #[.int .i64 340] 36:=Ad
        have hK9:(Wx.setCell ⟨w.heap.size+1,0,none⟩ (.int .i64 340)).heap[D]? =some (.deferred (some [])):=(Cw:KeepsOthers _ (Wx.setCell ⟨w.heap.size+1,0,none⟩ (.int .i64 340))).same D _ hK rfl
        have hB9:Below w.heap.size w (Wx.setCell ⟨w.heap.size+1,0,none⟩ (.int .i64 340)):=Aa
        simp only[bodyPostM]
        refine⟨by simp,.inl ⟨_,_,rfl,run_takeDeferred hK9,?_⟩⟩
        have hc9:=cell_kept (by simpa using b9.cell 0) (grownBy_putObj' (Wx.setCell ⟨w.heap.size+1,0,none⟩ (.int .i64 340)) D (.deferred none)) (fun r e=>by cases e;exact⟨_,hK9,rfl⟩)
        refine⟨.int .i64 340,by simp[results,Tryz.f76,go_sem,hc9],by rw[hRES.out],hB9.trans (belowK_b (w:=w) (Nat.le_refl _) (Wx.setCell ⟨w.heap.size+1,0,none⟩ (.int .i64 340)) D _ _ (by omega) hK9 rfl rfl)⟩
       ·have hlb:=Hd (show Ob s=true by
         unfold Ob
         rw[hA.out]
         simp
         omega)
        have ckk:=fun W (hW:Below Wx.heap.size Wx W)=>c_srKept s ps po cs co W (hin.below (i5.trans (hW.mono hz5))) hv.out
        unfold Dy at ckk
        have hkn:Ht s<=25700:=Nat.le_trans (List.length_filter_le _ _) (Lu hin hv.out)
        obtain⟨KN,hKN⟩:∃z,Ht s=z:=⟨_,rfl⟩
        rw[hKN] at ckk hkn
        replace hKN:=Hd hKN
        replace ckk:=Hd ckk
        by_cases h0:0<=A
        ·have h1:(s.last !=A)=false:=by simp;omega
         clear hlast
         go_wp2_with fail
         refine(ckk.out _ Aa).mono ?_
         rintro e w3 ⟨rfl,hb3⟩
         have j1:=i1.below hb3
         have j2:=i2.below hb3
         have hK3:w3.heap[D]? =some (.deferred (some [])):=(hb3.block D (Di hK)).trans hK
         have hB3:=i5.trans (hb3.mono hz5)
         have z3':=hB3.size
         have y2':=j2.lt
         have k2':=j2.cell
         have f2':=j2.frozen
         clear i1 i2 i3 i5 hK ckk k1 k2 f2 k3 y1 y2 y3
         have hK:=hK3
         clear hK3 hb3
         by_cases hkn2:KN<=1024
         ·replace hRES:=Hd (show RES=0 by
           rw[<-hRES.out];unfold F6;rw[if_pos];rw[hck.out,hlb.out,hKN.out];simp[hkn2])
          go_wp2
          have b9:Blk (w3.setCell ⟨w.heap.size+1,0,none⟩ (.int .i64 0)) (w.heap.size+1) #[.int .i64 0] 36:=Ad
          have hK9:(w3.setCell ⟨w.heap.size+1,0,none⟩ (.int .i64 0)).heap[D]? =some (.deferred (some [])):=(Cw:KeepsOthers _ (w3.setCell ⟨w.heap.size+1,0,none⟩ (.int .i64 0))).same D _ hK rfl
          have hB9:Below w.heap.size w (w3.setCell ⟨w.heap.size+1,0,none⟩ (.int .i64 0)):=Aa
          simp only[bodyPostM]
          refine⟨by simp,.inl ⟨_,_,rfl,run_takeDeferred hK9,?_⟩⟩
          have hc9:=cell_kept (by simpa using b9.cell 0) (grownBy_putObj' (w3.setCell ⟨w.heap.size+1,0,none⟩ (.int .i64 0)) D (.deferred none)) (fun r e=>by cases e;exact⟨_,hK9,rfl⟩)
          refine⟨.int .i64 0,by simp[results,Tryz.f76,go_sem,hc9],by rw[hRES.out],hB9.trans (belowK_b (w:=w) (Nat.le_refl _) (w3.setCell ⟨w.heap.size+1,0,none⟩ (.int .i64 0)) D _ _ (by omega) hK9 rfl rfl)⟩
         ·replace hRES:=Hd (show RES=340 by
           rw[<-hRES.out];unfold F6;rw[if_neg];rw[hck.out,hlb.out,hKN.out];simp[hkn2])
          have hkn3:1024<KN:=by omega
          clear hkn2
          go_wp2
          have b9:Blk (w3.setCell ⟨w.heap.size+1,0,none⟩ (.int .i64 340)) (w.heap.size+1) #[.int .i64 340] 36:=Ad
          have hK9:(w3.setCell ⟨w.heap.size+1,0,none⟩ (.int .i64 340)).heap[D]? =some (.deferred (some [])):=(Cw:KeepsOthers _ (w3.setCell ⟨w.heap.size+1,0,none⟩ (.int .i64 340))).same D _ hK rfl
          have hB9:Below w.heap.size w (w3.setCell ⟨w.heap.size+1,0,none⟩ (.int .i64 340)):=Aa
          simp only[bodyPostM]
          refine⟨by simp,.inl ⟨_,_,rfl,run_takeDeferred hK9,?_⟩⟩
          have hc9:=cell_kept (by simpa using b9.cell 0) (grownBy_putObj' (w3.setCell ⟨w.heap.size+1,0,none⟩ (.int .i64 340)) D (.deferred none)) (fun r e=>by cases e;exact⟨_,hK9,rfl⟩)
          refine⟨.int .i64 340,by simp[results,Tryz.f76,go_sem,hc9],by rw[hRES.out],hB9.trans (belowK_b (w:=w) (Nat.le_refl _) (w3.setCell ⟨w.heap.size+1,0,none⟩ (.int .i64 340)) D _ _ (by omega) hK9 rfl rfl)⟩
        ·have h0':A<0:=by omega
         clear hlast h0
         go_wp2_with fail
         refine(ckk.out _ Aa).mono ?_
         rintro e w3 ⟨rfl,hb3⟩
         have j1:=i1.below hb3
         have j2:=i2.below hb3
         have hK3:w3.heap[D]? =some (.deferred (some [])):=(hb3.block D (Di hK)).trans hK
         have hB3:=i5.trans (hb3.mono hz5)
         have z3':=hB3.size
         have y2':=j2.lt
         have k2':=j2.cell
         have f2':=j2.frozen
         clear i1 i2 i3 i5 hK ckk k1 k2 f2 k3 y1 y2 y3
         have hK:=hK3
         clear hK3 hb3
         by_cases hkn2:KN<=1024
         ·replace hRES:=Hd (show RES=0 by
           rw[<-hRES.out];unfold F6;rw[if_pos];rw[hck.out,hlb.out,hKN.out];simp[hkn2])
          go_wp2
          have b9:Blk (w3.setCell ⟨w.heap.size+1,0,none⟩ (.int .i64 0)) (w.heap.size+1) #[.int .i64 0] 36:=Ad
          have hK9:(w3.setCell ⟨w.heap.size+1,0,none⟩ (.int .i64 0)).heap[D]? =some (.deferred (some [])):=(Cw:KeepsOthers _ (w3.setCell ⟨w.heap.size+1,0,none⟩ (.int .i64 0))).same D _ hK rfl
          have hB9:Below w.heap.size w (w3.setCell ⟨w.heap.size+1,0,none⟩ (.int .i64 0)):=Aa
          simp only[bodyPostM]
          refine⟨by simp,.inl ⟨_,_,rfl,run_takeDeferred hK9,?_⟩⟩
          have hc9:=cell_kept (by simpa using b9.cell 0) (grownBy_putObj' (w3.setCell ⟨w.heap.size+1,0,none⟩ (.int .i64 0)) D (.deferred none)) (fun r e=>by cases e;exact⟨_,hK9,rfl⟩)
          refine⟨.int .i64 0,by simp[results,Tryz.f76,go_sem,hc9],by rw[hRES.out],hB9.trans (belowK_b (w:=w) (Nat.le_refl _) (w3.setCell ⟨w.heap.size+1,0,none⟩ (.int .i64 0)) D _ _ (by omega) hK9 rfl rfl)⟩
         ·replace hRES:=Hd (show RES=340 by
           rw[<-hRES.out];unfold F6;rw[if_neg];rw[hck.out,hlb.out,hKN.out];simp[hkn2])
          have hkn3:1024<KN:=by omega
          clear hkn2
          go_wp2
          have b9:Blk (w3.setCell ⟨w.heap.size+1,0,none⟩ (.int .i64 340)) (w.heap.size+1) #[.int .i64 340] 36:=Ad
          have hK9:(w3.setCell ⟨w.heap.size+1,0,none⟩ (.int .i64 340)).heap[D]? =some (.deferred (some [])):=(Cw:KeepsOthers _ (w3.setCell ⟨w.heap.size+1,0,none⟩ (.int .i64 340))).same D _ hK rfl
          have hB9:Below w.heap.size w (w3.setCell ⟨w.heap.size+1,0,none⟩ (.int .i64 340)):=Aa
          simp only[bodyPostM]
          refine⟨by simp,.inl ⟨_,_,rfl,run_takeDeferred hK9,?_⟩⟩
          have hc9:=cell_kept (by simpa using b9.cell 0) (grownBy_putObj' (w3.setCell ⟨w.heap.size+1,0,none⟩ (.int .i64 340)) D (.deferred none)) (fun r e=>by cases e;exact⟨_,hK9,rfl⟩)
          refine⟨.int .i64 340,by simp[results,Tryz.f76,go_sem,hc9],by rw[hRES.out],hB9.trans (belowK_b (w:=w) (Nat.le_refl _) (w3.setCell ⟨w.heap.size+1,0,none⟩ (.int .i64 340)) D _ _ (by omega) hK9 rfl rfl)⟩
      case stop=>
       rintro D c pre Wx hD hpre ⟨i2,⟨rfl,i4⟩,i5⟩ hK
       have hz5:=i5.size
       have y2:=i2.lt
       replace hRES:=Hd (show RES=340 by
        rw[<-hRES.out];unfold F6;rw[if_neg];intro hh
        unfold B8 at hh
        simp only[Bool.and_eq_true,decide_eq_true_eq] at hh
        have:=hh.2.2.2.2.2.1
        rw[Nx hpre _ i4] at this
        cases this)
       clear i4
       gi_wp2
       have b9:=i2
       have hK9:=hK
       have hB9:Below w.heap.size w Wx:=Aa
       simp only[bodyPostM]
       refine⟨by simp,.inl ⟨_,_,rfl,run_takeDeferred hK9,?_⟩⟩
       have hc9:=cell_kept (by simpa using b9.cell 0) (grownBy_putObj' Wx D (.deferred none)) (fun r e=>by cases e;exact⟨_,hK9,rfl⟩)
       refine⟨.int .i64 340,by simp[results,Tryz.f76,go_sem,hc9],by rw[hRES.out],hB9.trans (belowK_b (w:=w) (Nat.le_refl _) Wx D _ _ (by omega) hK9 rfl rfl)⟩
theorem Vb (s:A8) (ps po:Option Addr) (cs co:Nat) (w:World) (hin:Dj w s ps po):
  Cb 76 #[.agg (Dy s ps cs po co)] w (.int .i64 (F6 s)):=callsIn_wide.1 (check_in s ps po cs co w hin)
end Go.Proofs.YtdeghcgakkhbmaaGreat
namespace Go.Proofs.YtdeghcgakkhbmaaGreat
open Go.RowKit
theorem c_Sub (a b:Int) (w:World) (ha:Ch a) (hb:Ch b):
  Cb 90 #[B7 a,B7 b] w (.tuple #[B7 (wv (inW (a-b)) (Bl (a-b))),.int .i64 (we (inW (a-b)))]):=by
 have c1:=fun w=>Hi a b w ha hb
 have c2:=fun f w=>c_told (Bl (a-b)) f w
 clear ha hb
 unfold B7 at*
 generalize inW (a-b)=f at*
 go_enter Tryz.func90,Tryz.ntmps90
 go_wp2_with fail
 refine(c1 _).mono ?_
 rintro e w1 ⟨rfl,hb1⟩
 obtain⟨hc1,hf1⟩:=Dc hb1
 have hz1:=hb1.size
 simp at hz1
 go_wp2_with fail
 refine(c2 _ _).mono ?_
 rintro e w2 ⟨rfl,hb2⟩
 obtain⟨hc2,hf2⟩:=Dc hb2
 have hz2:=hb2.size
 clear c1 c2
 have z0:w.heap.size<w2.heap.size:=by omega
 have z1:w.heap.size+1<w2.heap.size:=by omega
 have z2:w.heap.size+1+1<w2.heap.size:=by omega
 have y0:w.heap.size<w1.heap.size:=by omega
 have y1:w.heap.size+1<w1.heap.size:=by omega
 have y2:w.heap.size+1+1<w1.heap.size:=by omega
 go_wp2
 refine bodyPost_ret (v:= .tuple #[.agg #[.int .i64 (hiW (wv f (Bl (a-b)))),.int .u64 (loW (wv f (Bl (a-b))))],.int .i64 (we f)]) (by simp[results,Tryz.results90,go_sem,hc1,hc2,y0,y1,y2]) rfl ⟨rfl,?_⟩
 have h0:Below w.heap.size w w1:=((((Below.refl _ _).alloc (Nat.le_refl _) _).alloc (by simp) _).alloc (by simp;omega) _).trans (hb1.mono (by simp;omega))
 exact(((h0.trans (hb2.mono (by omega))).setCell (by simp;omega) _).setCell (by simp;omega) _)
section
variable {P:Program} {ops:Array Oper} {C:World->Prop} {X:List (Nat×Nat)} {a0:Act} {Fin:List (Option Tmp×Bi)->Prop} {i:Nat} {o:Oper} {rest:List Oper} {acc:List (Option Tmp×Bi)}
theorem Rs (Φ:Bi) (hcl:A9 (Bn X i) Φ) (hg:o.guard=none) (hal:Au o=false)
  (h:∀(a:Act) (w:World),C w->(∀s∈o.looksAt ops,Af a0 acc s (a.tmps.getD s undef) w)->∃v w',(execOp a.eval o).run P w= .ok (.value v) w'/\Below w.heap.size w w'/\Φ v w')
  (hr:Ao P ops C X a0 Fin (i+1) rest ((o.dst,Φ)::acc)):Ao P ops C X a0 Fin i (o::rest) acc:=
 ⟨Φ,hcl,fun a w hC hE=>⟨fun _=>by
  obtain⟨v,w',h1,h2,h3⟩:=h a w hC hE
  rw[h1];exact⟨Rex.of_below h2,h3,fun e=>by rw[hal] at e;cases e⟩,fun e=>by rw[Ee hg] at e;cases e⟩,hr⟩
end
def SPV (l:List (Int×Int)):Bi:=fun v w=>∃k,v= .slice (some ⟨k,0,none⟩) 2 2/\Ar w (some ⟨k,0,none⟩) l
theorem SPV.closed (l:List (Int×Int)):A9 [] (SPV l):=fun _ _ _ hr ⟨k,e,h⟩=>⟨k,e,h.rex hr rfl⟩
def pcA (vs:List Int) (far:Int):Array Value:= #[.int .i64 vs.length,.int .i64 (Yy vs),.int .i64 (Y0 vs),.int .i64 (hiW (He vs)),.int .u64 (loW (He vs)),.int .i64 far]
end Go.Proofs.YtdeghcgakkhbmaaGreat
namespace Go.Proofs.YtdeghcgakkhbmaaGreat
open Go.RowKit Go.Shelf
attribute [local go_sem] Oper.semAt_some
def SeqWr {α:Type} (F:Fence) (n:Nat) (P:Program) (g:Nat) (lb:Array Value) (encs:α->Array Value) (Kp:World->World->Prop) (xs:List α) (Ba:Nat) (w:World):Prop:=
 ∀(l:Nat) (J:List α->World->Prop) (W:World),Below w.heap.size w W->AbidesFrom W.heap.size J->(∀pre W1 v,J pre W1->J pre (W1.setCell ⟨Ba,0,none⟩ v))->
  (∀pre x W1,J pre W1->pre++ [x]<+:xs->YieldAt F (n-1) P l (encs x) W1 fun e W'=>e= .returned (.bool true)/\J (pre++ [x]) W'/\Kp W1 W')->
  J [] W->CallsIn F n P g (#[.func (.yield l) #[] #[]]++lb) W fun e W'=>(∃v,e= .returned v)/\J xs W'
def goesOn {α:Type} (B:Nat) (Kp:World->World->Prop) (I:List α->World->Prop) (pre:List α) (W:World):Exit->Act->World->Prop
 | .normal,_,W'=>KeepsFrom B W W'/\Kp W W'/\I pre W'
 |_,_,_=>False
end Go.Proofs.YtdeghcgakkhbmaaGreat
namespace Go.Proofs.YtdeghcgakkhbmaaGreat
open Go.RowKit
attribute [local go_sem] Oper.semAt_some
section
variable {P:Program} {ops:Array Oper} {C:World->Prop} {X:List (Nat×Nat)} {a0:Act} {n nn:Nat} {Q:Exit->Act->World->Prop}
def allFirstB (ops:Array Oper) (n:Nat):Bool:=(List.range n).all fun i=>(List.range ops.size).all fun t=>decide (t<n)||Z8 ops 8 t i
end
end Go.Proofs.YtdeghcgakkhbmaaGreat
namespace Go.Proofs.YtdeghcgakkhbmaaGreat
open Go.RowKit Go.Shelf
attribute [local go_sem] Oper.semAt_some

def PcOk (x:List Int×Int):Prop:=x.1≠ []/\x.1.length<=256/\0<=x.2/\x.2<=1099511627776/\∀v,v∈x.1-> -2305844108725321728<=v/\v<=2305844108725321728
theorem segB_err {s:Aw} (h:Cr s=true):0<=s.E/\s.E<=1099511627776:=by
 unfold Cr at h
 simp only[Bool.and_eq_true,decide_eq_true_eq,<-and_assoc] at h
 exact⟨h.1.1.2,h.1.2⟩
 --,h.2.1.2⟩
theorem pcs_ok {s:A8} (hv:∀x,x∈s.segs->Cr x=true) (ho:∀x,x∈s.opn-> -2305844108725321728<=x.2/\x.2<=2305844108725321728) (a b:Int):∀x,x∈Wb s a b->PcOk x:=by
 intro x hx
 unfold Wb at hx
 rcases List.mem_append.1 hx with hx|hx
 ·obtain⟨y,hy,hxy⟩:=List.mem_flatMap.1 hx
  have hs:=hv y hy
  have he:=segB_err hs
  unfold Ue at hxy
  split at hxy
  ·cases hxy
  ·rename_i hne
   rw[List.mem_singleton.1 hxy]
   refine⟨hne,?_,he.1,he.2,?_⟩
   ·have h1:(selL (mx a s.floor) b (B9 y)).length<=(B9 y).length:=by unfold selL;rw[List.length_map];exact List.length_filter_le _ _
    have h2:=Gj hs
    have h3:=(D0 (Bp hs)).2
    simp only
    omega
   ·intro v hv'
    unfold selL at hv'
    obtain⟨p,hp,rfl⟩:=List.mem_map.1 hv'
    exact vals_back hs (by rw[<-map_pts hs];exact List.mem_map_of_mem ((List.mem_filter.1 hp).1))
 ·unfold Up at hx
  obtain⟨p,hp,rfl⟩:=List.mem_map.1 hx
  have:=ho p ((List.mem_filter.1 hp).1)
  refine⟨by simp,by simp,by omega,by omega,fun v hv'=> ?_⟩
  obtain rfl:v=p.2:=by simpa using hv'
  exact this
theorem pairs_mem {x:List Int×Int} (h:PcOk x):∀y,y∈pairs x-> -2305844108725321728<=y.1/\y.1<=2305844108725321728/\0<=y.2/\y.2<=1099511627776:=by
 intro y hy
 unfold pairs at hy
 obtain⟨v,hv,rfl⟩:=List.mem_map.1 hy
 have:=h.2.2.2.2 v hv
 exact⟨this.1,this.2,h.2.2.1,h.2.2.2.1⟩
theorem pcs_few {s:A8} (h1:s.segs.length<=100) (h2:s.opn.length<=100) (a b:Int):(Wb s a b).length<=200:=by
 have:=Lj (Ue (mx a s.floor) b) 1 s.segs fun x _=>by unfold Ue;split<;>simp
 have h3:(Up (mx a s.floor) b s.opn).length<=s.opn.length:=by unfold Up;rw[List.length_map];exact List.length_filter_le _ _
 unfold Wb
 rw[List.length_append]
 omega
def WholeOut (s:A8) (a b:Int) (e:Ending):Prop:=e= .returned (.tuple #[.agg (shA ((Wb s a b).flatMap pairs)),.int .i64 (if (Wb s a b).flatMap pairs= [] then 9 else 0)])
end Go.Proofs.YtdeghcgakkhbmaaGreat
namespace Go.Proofs.YtdeghcgakkhbmaaGreat
open Go.RowKit



theorem Oj {s:A8} (h:B8 s=true):∀x,x∈s.segs->Cr x=true:=by
 unfold B8 at h
 simp only[Bool.and_eq_true] at h
 exact K9 h.2.1
theorem chk_opn {s:A8} (h:B8 s=true):∀x,x∈s.opn-> -2305844108725321728<=x.2/\x.2<=2305844108725321728:=by
 intro x hx
 unfold B8 at h
 simp only[Bool.and_eq_true] at h
 have:=List.all_eq_true.1 h.2.2.2.2.1 x hx
 unfold Gl btw at this
 simp only[Bool.and_eq_true,decide_eq_true_eq] at this
 omega
def TellOk (l:List (Int×Int)):Prop:=(∀x,x∈l-> -2305844108725321728<=x.1/\x.1<=2305844108725321728/\0<=x.2/\x.2<=1099511627776)/\l.length<=100000
theorem tell_ok (s:A8) (h1:s.segs.length<=100) (h2:s.opn.length<=100) (a b:Int):TellOk (wholeV s a b):=by
 unfold wholeV
 split
 ·rename_i hc
  have hp:=pcs_ok (Oj hc) (chk_opn hc) a b
  have hf:=pcs_few h1 h2 a b
  unfold wholeL
  rw[<-pcs_told]
  refine⟨fun y hy=>by obtain⟨g,hg,hyg⟩:=List.mem_flatMap.1 hy;exact pairs_mem (hp g hg) y hyg,?_⟩
  have:=Lj pairs 256 (Wb s a b) fun y hy=>by unfold pairs;rw[List.length_map];exact(hp y hy).2.1
  omega
 ·exact⟨fun x hx=>(by cases hx),by simp⟩
def sumV (l:List (Int×Int)):Array Value:=if inI (He (loL l))&&inI (He (hiL l)) then #[.int .i64 (He (loL l)),.int .i64 (He (hiL l))] else #[.int .i64 0,.int .i64 0]
def sumE (l:List (Int×Int)) (e:Int):Int:=if e=0 then (if inI (He (loL l))&&inI (He (hiL l)) then 0 else 5) else e
def meanV (l:List (Int×Int)):Array Value:= #[.int .i64 l.length,.int .i64 (He (loL l)/l.length),.int .i64 (He (loL l)%l.length),.int .i64 (He (hiL l)/l.length),.int .i64 (He (hiL l)%l.length)]
def minA (l:List (Int×Int)):Array Value:= #[.int .i64 (Yy (loL l)),.int .i64 (Yy (hiL l))]
def maxA (l:List (Int×Int)):Array Value:= #[.int .i64 (Y0 (loL l)),.int .i64 (Y0 (hiL l))]
def some0:A8:=⟨⟨#[97]⟩,2,3,12,0,[⟨1,[⟨0,2,4⟩],10,0,0,1,[],1⟩],[(9,20),(12,5)]⟩
theorem Dj.alloc {w:World} {s:A8} {ps po:Option Addr} (h:Dj w s ps po) (o:Obj):Dj (w.alloc o) s ps po:=h.below ((Below.refl _ _).alloc (Nat.le_refl _) o)
def S3 (B:Nat) (e:TypeId):Bi:=fun v w=>∃g,v= .slice (some ⟨g,0,none⟩) 0 0/\B<=g/\Blk w g #[] e
theorem S3.closed (B:Nat) (e:TypeId):A9 [] (S3 B e):=fun _ _ _ hr ⟨g,e1,h1,h⟩=>⟨g,e1,h1,h.rex hr (by simp)⟩
def AppV (B:Nat) (e:TypeId) (n k:Nat) (news:List Value):Bi:=fun v w=>∃g cap cur,v= .slice (some ⟨g,0,none⟩) n cap/\B<=g/\Blk w g cur e/\n<=cap/\k<=cur.size/\cur.toList.take k=news
theorem AppV.closed (B:Nat) (e:TypeId) (n k:Nat) (news:List Value):A9 [] (AppV B e n k news):=fun _ _ _ hr ⟨g,c,cur,e1,h1,h,h2,h3,h4⟩=>⟨g,c,cur,e1,h1,h.rex hr (by simp),h2,h3,h4⟩
structure Cn where
 s:Aw
 p:Option Addr
 q:Option Addr
 cap:Nat
 vc:Nat
def Fm (r:Cn):Array Value:=C9 r.s r.p r.q r.cap r.vc
def Ca (l:List Cn):List Value:=l.flatMap fun r=>(Fm r).toList
theorem Lz (r:Cn):(Fm r).toList.length=8:=rfl
theorem Wp {α:Type} (f:α->List Value) (K:Nat) (hK:0<K) (hf:∀x,(f x).length=K):∀(l:List α) (j:Nat) (u:Value),(l.flatMap f)[j]? =some u->∃i x k,l[i]? =some x/\k<K/\j=i*K+k/\(f x)[k]? =some u
 | [],j,u,h=>by simp at h
 |x::l,j,u,h=>by
  rw[List.flatMap_cons] at h
  rcases Nat.lt_or_ge j K with hlt|hge
  ·rw[List.getElem?_append_left (by rw[hf];exact hlt)] at h
   exact⟨0,x,j,rfl,hlt,by omega,h⟩
  ·rw[List.getElem?_append_right (by rw[hf];exact hge),hf] at h
   obtain⟨i,y,k,h1,h2,h3,h4⟩:=Wp f K hK hf l (j-K) u h
   exact⟨i+1,y,k,h1,h2,by rw[Nat.add_mul];omega,h4⟩
theorem Wo {α:Type} (f:α->List Value) (K:Nat) (hf:∀x,(f x).length=K):∀(l:List α) (i:Nat) (x:α) (k:Nat) (u:Value),l[i]? =some x->(f x)[k]? =some u->(l.flatMap f)[i*K+k]? =some u
 | [],i,x,k,u,h,_=>by simp at h
 |y::l,i,x,k,u,h,hu=>by
  have hk:k<K:=by have:=(List.getElem?_eq_some_iff.1 hu).1;rw[hf] at this;exact this
  rw[List.flatMap_cons]
  cases i with
  |zero=>
   obtain rfl:y=x:=by simpa using h
   rw[List.getElem?_append_left (by rw[hf];omega)]
   simpa using hu
  |succ i=>
   rw[List.getElem?_append_right (by rw[hf,Nat.add_mul];omega),hf,show (i+1)*K+k-K=i*K+k by rw[Nat.add_mul];omega]
   exact Wo f K hf l i x k u (by simpa using h) hu
def D5 (w:World) (p:Option Addr) (l:List Cn):Prop:=∀(i:Nat) (r:Cn),l[i]? =some r->∃b o,p=some ⟨b,o,none⟩/\(∀j v,(Fm r)[j]? =some v->w.cell? ⟨b,o+i*8+j,none⟩=some v)/\Came w r.s r.p r.q r.cap r.vc
theorem Came.below {w w':World} {s:Aw} {p q:Option Addr} {cap vc:Nat} (h:Came w s p q cap vc) (hb:Below w.heap.size w w'):Came w' s p q cap vc:=⟨h.runs.below hb,h.raw.below hb,h.nilR,h.nilV,h.capR,h.capV,h.maxR,h.maxV⟩
theorem D5.below {w w':World} {p:Option Addr} {l:List Cn} (h:D5 w p l) (hb:Below w.heap.size w w'):D5 w' p l:=fun i r hr=>by
 obtain⟨b,o,e,h1,h2⟩:=h i r hr
 exact⟨b,o,e,fun j v hv=>(hb.cell (p:=⟨b,_,none⟩) (Ap (h1 j v hv))).trans (h1 j v hv),h2.below hb⟩
theorem D5.take {w:World} {p:Option Addr} {l:List Cn} (h:D5 w p l) (k:Nat):D5 w p (l.take k):=fun i r hr=>h i r (by
 rw[List.getElem?_take] at hr
 split at hr
 ·exact hr
 ·cases hr)
theorem D5.flat {w:World} {p:Option Addr} {l:List Cn} (h:D5 w p l) (a:Addr) (ha:p=some a) (j:Nat) (u:Value) (hu:(Ca l)[j]? =some u):w.cell? (a.add j)=some u:=by
 obtain⟨i,r,k,h1,h2,rfl,h3⟩:=Wp _ 8 (by omega) Lz l j u hu
 obtain⟨b,o,e,h4,_⟩:=h i r h1
 rw[ha] at e
 injection e with e
 subst e
 have:=h4 k u (by simpa using h3)
 rw[show (⟨b,o,none⟩:Addr).add (i*8+k)=⟨b,o+i*8+k,none⟩ by unfold Addr.add;split<;>simp_all<;>omega]
 exact this
def Ga (cur:Array Value) (l:List Cn):Prop:=∀(i:Nat) (r:Cn),l[i]? =some r->∀k v,(Fm r)[k]? =some v->cur[i*8+k]? =some v
theorem Ya {cur:Array Value} {l:List Cn} {n:Nat} (h:cur.toList.take (n*8)=Ca l) (hn:l.length=n):Ga cur l:=fun i r hr k v hv=>by
 have:=Wo _ 8 Lz l i r k v hr (by simpa using hv)
 unfold Ca at h
 rw[<-h,List.getElem?_take] at this
 split at this
 ·simpa using this
 ·cases this
theorem Ga.set {cur:Array Value} {l:List Cn} (h:Ga cur l) {i k:Nat} {r r':Cn} (hr:l[i]? =some r) (hk:k<8) {v:Value} (he:Fm r'=(Fm r).setIfInBounds k v):Ga (cur.setIfInBounds (i*8+k) v) (l.set i r'):=fun i2 r2 hr2 k2 v2 hv2=>by
 have hk2:k2<8:=by have:=(Array.getElem?_eq_some_iff.1 hv2).1;rw[show (Fm r2).size=8 from rfl] at this;exact this
 rw[List.getElem?_set] at hr2
 split at hr2
 ·rename_i e
  subst e
  split at hr2
  ·injection hr2 with hr2
   subst hr2
   rw[he,Array.getElem?_setIfInBounds] at hv2
   split at hv2
   ·rename_i ek
    subst ek
    split at hv2
    ·have hb:i*8+k<cur.size:=by
      have h0:=h i r hr k ((Fm r)[k]'(by rw[show (Fm r).size=8 from rfl];exact hk)) (Array.getElem?_eq_getElem _)
      exact(Array.getElem?_eq_some_iff.1 h0).1
     rw[Array.getElem?_setIfInBounds,if_pos rfl,if_pos hb]
     exact hv2
    ·cases hv2
   ·rename_i ek
    rw[Array.getElem?_setIfInBounds,if_neg (by omega)]
    exact h i r hr k2 v2 hv2
  ·cases hr2
 ·rename_i e
  rw[Array.getElem?_setIfInBounds,if_neg (by omega)]
  exact h i2 r2 hr2 k2 v2 hv2
theorem Tryz.infoSeg :(Tryz.prog.info? 135).map (fun i=>(i.zero,i.size,i.bytes))=some (some (.agg #[.int .i64 0,.slice none 0 0,.int .i64 0,.int .i64 0,.int .i64 0,.int .i64 0,.slice none 0 0,.int .i64 0]),8,96):=by kernel_rfl
theorem Kk (p:Option Addr):(Option.map (fun x:Addr=>x) p)=p:=by cases p<;>rfl
theorem Ws (l:List Cn):(Ca l).length=l.length*8:=by
 unfold Ca
 induction l with
 |nil=>rfl
 |cons x l ih=>rw[List.flatMap_cons,List.length_append,ih,Lz,List.length_cons];omega
theorem Wr {l:List Cn} (u:Value) (h:u∈Ca l):u.oneCell'=true:=by
 unfold Ca at h
 obtain⟨r,_,hu⟩:=List.mem_flatMap.1 h
 unfold Fm C9 at hu
 simp at hu
 rcases hu with rfl|rfl|rfl|rfl|rfl|rfl|rfl|rfl<;>rfl
def ownG (s:Aw):Aw:=⟨s.K,s.runs.take 300,s.A,s.R,s.n,s.d,s.raw.take 300,s.E⟩
theorem Al.rex1 {w w':World} {p:Option Addr} {l:List Ah} {g:Nat} {L:List Nat} (h:Al w p l) (hL:∀x,x∈L->x<=g) (hg:∀a,p=some a->g<a.block) (hr:Rex L w w'):Al w' p l:=⟨fun i r hi=>by
 obtain⟨b,o,e,h1,h2,h3⟩:=h.at' i r hi
 have hb:=hg _ e
 have key:∀z v,w.cell? ⟨b,z,none⟩=some v->w'.cell? ⟨b,z,none⟩=some v:=fun z v hv=>(World.cell?_of_block (hr.block b (Ap hv) (fun hx=>by have:=hL _ hx;simp at hb;omega))).trans hv
 exact⟨b,o,e,key _ _ h1,key _ _ h2,key _ _ h3⟩⟩
theorem A3.rex1 {w w':World} {p:Option Addr} {l:List Int} {g:Nat} {L:List Nat} (h:A3 w p l) (hL:∀x,x∈L->x<=g) (hg:∀a,p=some a->g<a.block) (hr:Rex L w w'):A3 w' p l:=⟨fun i r hi=>by
 obtain⟨b,o,e,h1⟩:=h.at' i r hi
 have hb:=hg _ e
 exact⟨b,o,e,(World.cell?_of_block (hr.block b (Ap h1) (fun hx=>by have:=hL _ hx;simp at hb;omega))).trans h1⟩⟩
structure Sz (W:World) (g:Nat) (r0 r:Cn):Prop where
 says:r.s=ownG r0.s
 runs:Al W r.p r.s.runs
 raw:A3 W r.q r.s.raw
 capV:r.s.raw.length<=r.vc
 farR:∀a,r.p=some a->g<a.block
 farV:∀a,r.q=some a->g<a.block
theorem Sz.rex {W W':World} {g:Nat} {r0 r:Cn} {L:List Nat} (h:Sz W g r0 r) (hL:∀x,x∈L->x<=g) (hr:Rex L W W'):Sz W' g r0 r:=⟨h.says,h.runs.rex1 hL h.farR hr,h.raw.rex1 hL h.farV hr,h.capV,h.farR,h.farV⟩
structure Ox (W:World) (g:Nat) (rows R:List Cn) (i:Nat):Prop where
 len:R.length=rows.length
 rest:∀k,i<=k->R[k]? =rows[k]?
 own:∀k,k<i->∀r,R[k]? =some r->∃r0,rows[k]? =some r0/\Sz W g r0 r
theorem Ox.start (W:World) (g:Nat) (rows:List Cn):Ox W g rows rows 0:=⟨rfl,fun _ _=>rfl,fun k h=>by omega⟩
theorem Ox.rex {W W':World} {g i:Nat} {rows R:List Cn} {L:List Nat} (h:Ox W g rows R i) (hL:∀x,x∈L->x<=g) (hr:Rex L W W'):Ox W' g rows R i:=⟨h.len,h.rest,fun k hk r hR=>by
 obtain⟨r0,h1,h2⟩:=h.own k hk r hR
 exact⟨r0,h1,h2.rex hL hr⟩⟩
theorem Ox.step {W:World} {g i:Nat} {rows R:List Cn} {r0 r1:Cn} (h:Ox W g rows R i) (h0:rows[i]? =some r0) (h1:Sz W g r0 r1):Ox W g rows (R.set i r1) (i+1):=⟨by rw[List.length_set];exact h.len,fun k hk=>by rw[List.getElem?_set_ne (by omega)];exact h.rest k (by omega),fun k hk r hR=>by
 rw[List.getElem?_set] at hR
 split at hR
 ·rename_i e
  subst e
  split at hR
  ·injection hR with hR
   subst hR
   exact⟨r0,h0,h1⟩
  ·cases hR
 ·exact h.own k (by omega) r hR⟩
theorem segRA_runs (r:Cn) (l:List Ah) (p:Option Addr) (c:Nat):Fm ⟨⟨r.s.K,l,r.s.A,r.s.R,r.s.n,r.s.d,r.s.raw,r.s.E⟩,p,r.q,c,r.vc⟩=(Fm r).setIfInBounds 1 (.slice p l.length c):=rfl
theorem segRA_raw (r:Cn) (l:List Int) (q:Option Addr) (c:Nat):Fm ⟨⟨r.s.K,r.s.runs,r.s.A,r.s.R,r.s.n,r.s.d,l,r.s.E⟩,r.p,q,r.cap,c⟩=(Fm r).setIfInBounds 6 (.slice q l.length c):=rfl
theorem Tryz.infoPt :(Tryz.prog.info? 58).map (fun i=>(i.zero,i.size,i.bytes))=some (some (.agg #[.int .i64 0,.int .i64 0]),2,16):=by kernel_rfl
theorem Hg :∀l:List (Int×Int),(Ax l).length=l.length*2
 | []=>rfl
 |x::l=>by
  rw[show Ax (x::l)= [.int .i64 x.1,.int .i64 x.2]++Ax l from rfl,List.length_append,Hg l]
  simp only[List.length_cons,List.length_nil]
  omega
theorem Kf :∀(l:List (Int×Int)) (u:Value),u∈Ax l->u.oneCell'=true
 | [],u,h=>by simp[Ax] at h
 |x::l,u,h=>by
  rw[show Ax (x::l)= [.int .i64 x.1,.int .i64 x.2]++Ax l from rfl] at h
  simp only[List.mem_append,List.mem_cons,List.not_mem_nil,or_false] at h
  rcases h with(rfl|rfl)|h
  ·rfl
  ·rfl
  ·exact Kf l u h
theorem Of :∀l:List (Int×Int),Ax l=l.flatMap fun x=> [.int .i64 x.1,.int .i64 x.2]
 | []=>rfl
 |x::l=>by rw[List.flatMap_cons,<-Of l];rfl
theorem Ul {w:World} {a:Addr} {l:List (Int×Int)} (h:Ar w (some a) l) (j:Nat) (u:Value) (hu:(Ax l)[j]? =some u):w.cell? (a.add j)=some u:=by
 rw[Of] at hu
 obtain⟨i,x,k,h1,h2,rfl,h3⟩:=Wp _ 2 (by omega) (fun _=>rfl) l j u hu
 obtain⟨b,o,e,c0,c1⟩:=h.at' i x h1
 injection e with e
 subst e
 rw[show (⟨b,o,none⟩:Addr).add (i*2+k)=⟨b,o+i*2+k,none⟩ by unfold Addr.add;split<;>simp_all<;>omega]
 match k,h2,h3 with
 |0,_,h3=>simp at h3;subst h3;exact c0
 |1,_,h3=>simp at h3;subst h3;exact c1
theorem Ar.take9 {w:World} {p:Option Addr} {l:List (Int×Int)} (h:Ar w p l) (k:Nat):Ar w p (l.take k):=⟨fun i r hr=>h.at' i r (by
 rw[List.getElem?_take] at hr
 split at hr
 ·exact hr
 ·cases hr)⟩
def ownRel (w:World) (nm:ByteArray) (ep fl la sc:Int) (po:Option Addr) (co np:Nat) (rows:List Cn) (M gS capS:Nat) (a':Act) (W:World):Prop:=
 Below w.heap.size w W/\Blk W w.heap.size #[.string nm,.int .i64 ep,.int .i64 fl,.int .i64 la,.int .i64 sc,.slice (some ⟨gS,0,none⟩) M capS,.slice po np co] 79/\Blk W (w.heap.size+1) #[.string .empty,.int .i64 0,.int .i64 0,.int .i64 0,.int .i64 0,.slice none 0 0,.slice none 0 0] 79/\∃(i:Nat) (cur:Array Value) (R:List Cn),Blk W gS cur 135/\Ga cur R/\Ox W gS rows R i/\(∃u:Nat->Value,a'= {tmps:= #[u 0,.pointer (some ⟨w.heap.size,0,none⟩),.pointer (some ⟨w.heap.size+1,0,none⟩),u 3,u 4,u 5,u 6,u 7,u 8,u 9,u 10,u 11,u 12,u 13,u 14,u 15,.slice (some ⟨gS,0,none⟩) M capS,.int .i64 (M:Int),.int .i64 (i:Int),u 19,u 20,u 21,u 22,u 23,u 24,u 25,u 26,u 27,u 28,u 29,u 30,u 31,u 32,u 33,u 34,u 35,u 36,u 37,u 38,u 39,u 40,u 41,u 42,u 43,u 44,u 45,u 46,u 47,u 48,u 49,u 50,u 51,u 52,u 53,u 54,u 55,u 56,u 57,u 58,u 59,u 60,u 61,u 62],defers:= []})/\i<=M
def RowOwn (w:World) (e:TypeId) (n k:Nat) (news:List Value) (v:Value) (w':World):Prop:=∃g cap' cur,v= .slice (some ⟨g,0,none⟩) n cap'/\w.heap.size<=g/\Blk w' g cur e/\n<=cap'/\cur.toList.take k=news
theorem Zm (w:World):Cb 41 #[.slice none 0 0] w (.slice none 0 0):=by
 go_enter Tryz.func41,Tryz.ntmps41
 have hnil:∀W,(binOp .eql 33 (.slice none 0 0) (.slice none 0 0)).run Tryz.prog W= .ok (.bool true) W:=fun W=>by kernel_rfl
 go_wp2
 go_ret
 exact⟨rfl,Aa⟩
end Go.Proofs.YtdeghcgakkhbmaaGreat
